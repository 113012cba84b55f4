/-
  A region whose order is left open, once more, with pure operations on rows that wait: whatever the order, it comes to what the text's order comes to, where the operations that change something stand in a chain, and the others give the same wherever they may stand.
-/
import Derived.Test.YtebheelmgcggmaaGreatAb17
namespace Go.Ab.Nx
open Go.Ab
set_option linter.unusedSimpArgs false
set_option linter.unusedVariables false
noncomputable def EdgesIn (ops : Array Oper) (X : Nat → Bool) (j : Nat) : Prop := ∀ o, ops[j]? = some o → ∀ e ∈ o.after, Region.binds .any e = true → X e.on = true
noncomputable def Closed (ops : Array Oper) (X : Nat → Bool) : Prop := ∀ j, X j = true → EdgesIn ops X j
noncomputable def Known (ops : Array Oper) (p j : Nat) : Prop := ∀ X, Closed ops X → EdgesIn ops X j → X p = true
inductive Kind where
  | skip
  | quiet
  | change (s : Nat)
  | late (s : Nat)
  | pure (l : Nat)
noncomputable def Kind.lv : Kind → Nat
  | .late s => s + 1
  | .pure l => l
  | _ => 0
noncomputable def Kind.no : Kind → Option Nat
  | .change s => some s
  | .late s => some s
  | _ => none
noncomputable def May (ops : Array Oper) (K : Nat → Nat → Prop) (kd : Nat → Kind) (j t : Nat) : Prop :=
  (∀ i s, i < ops.size → (kd i).no = some s → K i j → s < t) ∧ (∀ i s, i < ops.size → (kd i).no = some s → K j i → t ≤ s)
noncomputable def NewV (rv : Nat → Value) : Prop :=
  (∃ off, ∀ n, rv n = .pointer (some ⟨n, off, none⟩)) ∨ (∃ off len cap, ∀ n, rv n = .slice (some ⟨n, off, none⟩) len cap) ∨ (∀ n, rv n = .map (some n))
theorem NewV.move {rv : Nat → Value} (hn : NewV rv) {μ μ2 : Emb} {n' m' n : Nat} {e : Ent} {v' : Value} (hv : VRel μ m' (rv n') v') (he : μ n' = some e) : VRel (μ2.upd n e) (n + 1) (rv n) v' := by
  rcases hn with ⟨off, hr⟩ | ⟨off, len, cap, hr⟩ | hr
  · rw [hr] at hv ⊢
    cases hv with
    | ptr hlt hm => rw [he] at hm; cases hm; exact .ptr (by omega) (Emb.upd_same _ _ _)
  · rw [hr] at hv ⊢
    cases hv with
    | sliceK hlt hm => rw [he] at hm; cases hm; exact .sliceK (by omega) (Emb.upd_same _ _ _)
    | sliceU hlt hm hl hc => rw [he] at hm; cases hm; exact .sliceU (by omega) (Emb.upd_same _ _ _) hl hc
    | sliceZ hlt hm => rw [he] at hm; cases hm; exact .sliceZ (by omega) (Emb.upd_same _ _ _)
    | sliceKZ hlt hm => rw [he] at hm; cases hm; exact .sliceKZ (by omega) (Emb.upd_same _ _ _)
  · rw [hr] at hv ⊢
    cases hv with
    | map hlt hm => rw [he] at hm; cases hm; exact .map (by omega) (Emb.upd_same _ _ _)
noncomputable def PureOp (P : Program) (o : Oper) (ρ : Operand → Option Value) (v : Value) : Prop :=
  ∀ (μ : Emb) (n : Nat) (ρ' : Operand → Value) (w : World), OpRel μ n ρ ρ' → ∃ u', (execOp ρ' o).run P w = .ok (.value u') w ∧ ∀ (μ2 : Emb) (n2 : Nat), OpRel μ2 n2 ρ ρ' → VRel μ2 n2 v u'
structure DRun (P : Program) (cx : Cx) (ops : Array Oper) (K : Nat → Nat → Prop) (a : Tr Value) (v : Nat → Value) (kd : Nat → Kind) (H : Nat → AHeap) (m : Nat) : Prop where
  kno : ∀ i j, K i j → Known ops i j
  back : ∀ (j : Nat) (o : Oper), ops[j]? = some o → ∀ e ∈ o.after, Region.binds .any e = true → e.on < j
  inj : ∀ (i j : Nat) (o p : Oper) (d : Tmp), ops[i]? = some o → ops[j]? = some p → o.dst = some d → p.dst = some d → i = j
  dlt : ∀ (i : Nat) (o : Oper) (d : Tmp), ops[i]? = some o → o.dst = some d → d < cx.nt
  all : ∀ s, s < m → ∃ i, i < ops.size ∧ (kd i).no = some s
  uniq : ∀ i j s, i < ops.size → j < ops.size → (kd i).no = some s → (kd j).no = some s → i = j
  lts : ∀ i s, i < ops.size → (kd i).no = some s → s < m
  prev : ∀ j s, j < ops.size → kd j = .change s → ∀ i s', i < ops.size → (kd i).no = some s' → s' < s → Known ops i j
  below : ∀ j i, j < ops.size → i < ops.size → (∀ l, kd j ≠ .pure l) → K i j → ∀ i' s', i' < ops.size → (kd i').no = some s' → s' < (kd i).lv → K i' j
  belowP : ∀ j i l, j < ops.size → i < ops.size → kd j = .pure l → K i j → (kd i).lv ≤ l
  mono : ∀ s, s < m → (H s).next ≤ (H (s + 1)).next
  lev : ∀ j, j < ops.size → (kd j).lv ≤ m
  one : ∀ (j : Nat) (o : Oper), ops[j]? = some o → ∃ pa : Tr Value,
    (∀ d u, pa.get d = some u → (∃ i p, ops[i]? = some p ∧ p.dst = some d ∧ K i j ∧ u = v i) ∨ (a.get d = some u ∧ ∀ (i : Nat) (p : Oper), ops[i]? = some p → p.dst = some d → i = j ∨ Known ops j i)) ∧
    isDefer o.op = false ∧
    match kd j with
    | .skip => aguard ops pa o = some false ∧ v j = .tuple #[]
    | .quiet => aguard ops pa o = some true ∧ (∀ t, t ≤ m → May ops K kd j t → OpWp P o (aopnd pa) (H t) fun u h' => u = v j ∧ h' = H t)
    | .change s => aguard ops pa o = some true ∧ OpWp P o (aopnd pa) (H s) (fun u h' => u = v j ∧ h' = H (s + 1))
    | .pure _ => aguard ops pa o = some true ∧ PureOp P o (aopnd pa) (v j)
    | .late s => aguard ops pa o = some true ∧ ∃ rv ob, NewV rv ∧ v j = rv (H s).next ∧ H (s + 1) = (H s).new ob ∧ ob.own = true ∧ (∀ (μ : Emb) (n : Nat) (ρ' : Operand → Value), OpRel μ n (aopnd pa) ρ' → BO n ob) ∧ ∀ h, OpWp P o (aopnd pa) h fun u h' => u = rv h.next ∧ h' = h.new ob
structure Pend (H : Nat → AHeap) (μ0 : Emb) (w0 : World) (t : Nat) (μ : Emb) (w : World) (s : Nat) (e : Ent) : Prop where
  blk : ∃ c ob, w.heap[e.b]? = some c ∧ H (s + 1) = (H s).new ob ∧ ORel μ (H t).next e c ob
  free : ∀ r p f, (H t).get r = some p → μ r = some f → f.b ≠ e.b
  f1 : ∀ b, b < w0.heap.size → (∀ r o f, (H 0).get r = some o → o.own = true → μ0 r = some f → f.b ≠ b) → e.b ≠ b
  f2 : ∀ b, b < w0.heap.size → (∀ r o f, (H 0).get r = some o → μ0 r = some f → f.b ≠ b) → e.b ≠ b
noncomputable def Full (ops : Array Oper) (kd : Nat → Kind) (H : Nat → AHeap) (X : Nat → Bool) (pe : Nat → Ent) (t : Nat) (μ μ2 : Emb) (l : Nat) : Prop :=
  Agree (H t).next μ μ2 ∧ ∀ i s, i < ops.size → kd i = .late s → X i = true → s < l → μ2 (H s).next = some (pe i)
structure DInv (ops : Array Oper) (a : Tr Value) (v : Nat → Value) (kd : Nat → Kind) (H : Nat → AHeap) (m : Nat) (μ0 : Emb) (w0 : World) (X : Nat → Bool) (t : Nat) (μ : Emb) (w : World) (tmps : Array Value) (pe : Nat → Ent) : Prop where
  closed : Closed ops X
  le : t ≤ m
  cnt : ∀ i s, i < ops.size → kd i = .change s → (X i = true ↔ s < t)
  lat : ∀ i s, i < ops.size → kd i = .late s → s < t → X i = true
  has : ∀ i s, i < ops.size → kd i = .late s → X i = true → s < t → μ (H s).next = some (pe i)
  done : ∀ (i : Nat) (o : Oper) (d : Tmp), ops[i]? = some o → o.dst = some d → X i = true → ∃ v', tmps[d]? = some v' ∧ ∀ μ2 N, (H t).next ≤ N → (H (kd i).lv).next ≤ N → Full ops kd H X pe t μ μ2 (kd i).lv → VRel μ2 N (v i) v'
  old : ∀ d u, a.get d = some u → (∀ (i : Nat) (o : Oper), ops[i]? = some o → o.dst = some d → X i = false) → ∃ v', tmps[d]? = some v' ∧ VRel μ (H t).next u v'
  ext : Ext μ0 (H 0) w0 μ (H t) w
  pend : ∀ i o s, ops[i]? = some o → kd i = .late s → X i = true → t ≤ s → Pend H μ0 w0 t μ w s (pe i)
  apart : ∀ i i' s s', i < ops.size → i' < ops.size → kd i = .late s → kd i' = .late s' → X i = true → X i' = true → t ≤ s → t ≤ s' → i ≠ i' → (pe i).b ≠ (pe i').b
noncomputable def Sat (ops : Array Oper) (kd : Nat → Kind) (X : Nat → Bool) (t : Nat) : Prop := ∀ i, i < ops.size → kd i = .late t → X i = false
section
variable {P : Program} {cx : Cx} {ops : Array Oper} {K : Nat → Nat → Prop} {a : Tr Value} {v : Nat → Value} {kd : Nat → Kind} {H : Nat → AHeap} {m : Nat} {μ0 : Emb} {w0 : World}
noncomputable def upd (X : Nat → Bool) (j : Nat) : Nat → Bool := fun i => if i = j then true else X i
theorem closed_upd {X : Nat → Bool} {j : Nat} (hX : Closed ops X) (he : EdgesIn ops X j) : Closed ops (upd X j) := by
  intro i hi o ho e hem hb
  unfold upd
  split
  · rfl
  · by_cases hij : i = j
    · subst hij; exact he o ho e hem hb
    · have : X i = true := by simpa [upd, hij] using hi
      exact hX i this o ho e hem hb
theorem Full.back {X X' : Nat → Bool} {pe pe' : Nat → Ent} {t t' l : Nat} {μ μ' μ2 : Emb} (f : Full ops kd H X' pe' t' μ' μ2 l) (hag : Agree (H t).next μ μ') (hn : (H t).next ≤ (H t').next) (hx : ∀ i s, i < ops.size → kd i = .late s → X i = true → X' i = true ∧ pe' i = pe i) : Full ops kd H X pe t μ μ2 l :=
  ⟨hag.trans f.1 hn, fun i s hi hk hxi hs => by rw [← (hx i s hi hk hxi).2]; exact f.2 i s hi hk (hx i s hi hk hxi).1 hs⟩
theorem DRun.nexts (D : DRun P cx ops K a v kd H m) : ∀ {x y : Nat}, x ≤ y → y ≤ m → (H x).next ≤ (H y).next := by
  intro x y hxy
  induction hxy with
  | refl => intro _; exact Nat.le_refl _
  | step h ih => intro hm; exact Nat.le_trans (ih (by omega)) (D.mono _ (by omega))
theorem DRun.late_next (D : DRun P cx ops K a v kd H m) {i s : Nat} (hi : i < ops.size) (hk : kd i = .late s) : (H (s + 1)).next = (H s).next + 1 ∧ s < m := by
  obtain ⟨pa, _, _, h⟩ := D.one i _ (Array.getElem?_eq_getElem hi)
  rw [hk] at h
  obtain ⟨_, rv, ob, _, _, h2, _⟩ := h
  exact ⟨by rw [h2]; rfl, D.lts i s hi (by rw [hk]; rfl)⟩
theorem DInv.at_ (D : DRun P cx ops K a v kd H m) {X : Nat → Bool} {t : Nat} {μ : Emb} {w : World} {tmps : Array Value} {pe : Nat → Ent} (I : DInv ops a v kd H m μ0 w0 X t μ w tmps pe) {i : Nat} {o : Oper} {d : Tmp} (ho : ops[i]? = some o) (hd : o.dst = some d) (hx : X i = true) (hl : (kd i).lv ≤ t) :
    ∃ v', tmps[d]? = some v' ∧ VRel μ (H t).next (v i) v' := by
  obtain ⟨v', g1, g2⟩ := I.done i o d ho hd hx
  exact ⟨v', g1, g2 μ _ (Nat.le_refl _) (D.nexts hl I.le) ⟨Agree.refl _ _, fun i s hi hk hx hs => I.has i s hi hk hx (by omega)⟩⟩
theorem adopt_one (D : DRun P cx ops K a v kd H m) {X : Nat → Bool} {t : Nat} {μ : Emb} {w : World} {tmps : Array Value} {pe : Nat → Ent} (I : DInv ops a v kd H m μ0 w0 X t μ w tmps pe) {i : Nat} (hi : i < ops.size) (hk : kd i = .late t) (hx : X i = true) :
    DInv ops a v kd H m μ0 w0 X (t + 1) (μ.upd (H t).next (pe i)) w tmps pe := by
  obtain ⟨o, ho⟩ : ∃ o, ops[i]? = some o := ⟨_, Array.getElem?_eq_getElem hi⟩
  have hno : (kd i).no = some t := by rw [hk]; rfl
  have hP := I.pend i o t ho hk hx (Nat.le_refl _)
  obtain ⟨c, ob, b1, b2, b3⟩ := hP.blk
  have hag : Agree (H t).next μ (μ.upd (H t).next (pe i)) := Agree.upd μ _ (Nat.le_refl _)
  have hn1 : (H (t + 1)).next = (H t).next + 1 := by rw [b2]; rfl
  have ob3 : ORel (μ.upd (H t).next (pe i)) ((H t).next + 1) (pe i) c ob := b3.mono hag (by omega)
  refine ⟨I.closed, D.lts i t hi hno, fun i' s hi' hk' => ?_, fun i' s hi' hk' hs => ?_, fun i' s hi' hk' hx' hs => ?_, fun i' o' d ho' hd hx' => ?_, fun d u hu hno' => ?_, ?_, fun i' o' s ho' hk' hx' hs => ?_, fun i1 i2 s1 s2 h1 h2 k1 k2 x1 x2 l1 l2 hne => I.apart i1 i2 s1 s2 h1 h2 k1 k2 x1 x2 (by omega) (by omega) hne⟩
  · rw [I.cnt i' s hi' hk']
    constructor
    · intro h; omega
    · intro h
      rcases Nat.lt_or_ge s t with h' | h'
      · exact h'
      · have : s = t := by omega
        subst this
        have := D.uniq i' i s hi' hi (by rw [hk']; rfl) hno
        subst this; rw [hk] at hk'; cases hk'
  · rcases Nat.lt_or_ge s t with h' | h'
    · exact I.lat i' s hi' hk' h'
    · have : s = t := by omega
      subst this
      have := D.uniq i' i s hi' hi (by rw [hk']; rfl) hno
      subst this; exact hx
  · rcases Nat.lt_or_ge s t with h' | h'
    · have h1 := (D.late_next hi' hk').1
      have h2 := D.nexts (x := s + 1) (y := t) (by omega) I.le
      rw [Emb.upd_ne _ _ (by omega)]; exact I.has i' s hi' hk' hx' h'
    · have : s = t := by omega
      subst this
      have := D.uniq i' i s hi' hi (by rw [hk']; rfl) hno
      subst this; exact Emb.upd_same _ _ _
  · obtain ⟨v', g1, g2⟩ := I.done i' o' d ho' hd hx'
    exact ⟨v', g1, fun μ2 N h1 h2 hF => g2 μ2 N (by omega) h2 (hF.back hag (by omega) fun _ _ _ _ h => ⟨h, rfl⟩)⟩
  · obtain ⟨v', g1, g2⟩ := I.old d u hu hno'
    exact ⟨v', g1, by rw [hn1]; exact g2.mono hag (by omega)⟩
  · rw [b2]
    exact I.ext.adoptE (pe i) ob b1 hP.free hP.f1 hP.f2 ob3
  · have hQ := I.pend i' o' s ho' hk' hx' (by omega)
    have hi' := (Array.getElem?_eq_some_iff.1 ho').1
    have hne : i' ≠ i := fun e => by subst e; rw [hk] at hk'; cases hk'; omega
    obtain ⟨c', ob', d1, d2, d3⟩ := hQ.blk
    refine ⟨⟨c', ob', d1, d2, by rw [hn1]; exact d3.mono hag (by omega)⟩, fun r p f hr hm => ?_, hQ.f1, hQ.f2⟩
    rw [b2, AHeap.get_new] at hr
    split at hr
    · rename_i e; subst e; rw [Emb.upd_same] at hm; cases hm
      exact I.apart i i' t s hi hi' hk hk' hx hx' (Nat.le_refl _) (by omega) (fun e => hne e.symm)
    · rename_i e; rw [Emb.upd_ne _ _ (Ne.symm e)] at hm; exact hQ.free r p f hr hm
theorem saturate (D : DRun P cx ops K a v kd H m) : ∀ (q : Nat) {X : Nat → Bool} {t : Nat} {μ : Emb} {w : World} {tmps : Array Value} {pe : Nat → Ent}, m - t ≤ q → DInv ops a v kd H m μ0 w0 X t μ w tmps pe → ∃ t' μ', DInv ops a v kd H m μ0 w0 X t' μ' w tmps pe ∧ Sat ops kd X t' := by
  intro q
  induction q with
  | zero =>
    intro X t μ w tmps pe hq I
    refine ⟨t, μ, I, fun i hi hk => ?_⟩
    have := D.lts i t hi (by rw [hk]; rfl)
    omega
  | succ q ih =>
    intro X t μ w tmps pe hq I
    by_cases h : ∃ i, i < ops.size ∧ kd i = .late t ∧ X i = true
    · obtain ⟨i, hi, hk, hx⟩ := h
      exact ih (by omega) (adopt_one D I hi hk hx)
    · refine ⟨t, μ, I, fun i hi hk => ?_⟩
      cases hx : X i with
      | false => rfl
      | true => exact (h ⟨i, hi, hk, hx⟩).elim
theorem drawn_step (D : DRun P cx ops K a v kd H m) {X : Nat → Bool} {t : Nat} {μ : Emb} {tmps : Array Value} {defers : List Deferred} {rd : Option Nat} {w : World} {pe : Nat → Ent} {k : List Item} {cs : List Frame} {j : Nat} {rest : List Nat} {o : Oper}
    (I : DInv ops a v kd H m μ0 w0 X t μ w tmps pe) (S : Sat ops kd X t) (hsz : tmps.size = cx.nt) (ho : ops[j]? = some o) (hj : X j = false) (hed : EdgesIn ops X j) :
    ∃ t' μ' tmps' w' pe', DInv ops a v kd H m μ0 w0 (upd X j) t' μ' w' tmps' pe' ∧ Sat ops kd (upd X j) t' ∧ tmps'.size = cx.nt ∧
      Steps P (lone (frame cx.fn rd tmps defers (.inRegion ops (j :: rest) :: k)) cs w) (lone (frame cx.fn rd tmps' defers (.inRegion ops rest :: k)) cs w') := by
  obtain ⟨pa, hpa, hdf, hk⟩ := D.one j o ho
  have hjlt : j < ops.size := (Array.getElem?_eq_some_iff.1 ho).1
  have st := I.ext.st
  -- who stands behind j has not been carried out
  have later : ∀ i, Known ops j i → X i = false := by
    intro i hi
    cases hx : X i with
    | false => rfl
    | true => have := hi X I.closed (I.closed i hx); rw [this] at hj; cases hj
  -- if all up to s have been carried out, they are in the view
  have upto : ∀ s, (∀ i s', i < ops.size → (kd i).no = some s' → s' ≤ s → X i = true) → s < m → s < t := by
    intro s hall hsm
    rcases Nat.lt_or_ge s t with h | h
    · exact h
    · exfalso
      obtain ⟨i, hil, hki⟩ := D.all t (by omega)
      have hx := hall i t hil hki h
      cases hkd : kd i with
      | skip => rw [hkd] at hki; cases hki
      | quiet => rw [hkd] at hki; cases hki
      | pure l => rw [hkd] at hki; cases hki
      | change s' =>
        rw [hkd] at hki; cases hki
        have := (I.cnt i t hil hkd).1 hx; omega
      | late s' =>
        rw [hkd] at hki; cases hki
        have := S i hil hkd; rw [hx] at this; cases this
  -- what j hangs on is in the view
  have lvk : (∀ l, kd j ≠ .pure l) → ∀ i, i < ops.size → K i j → (kd i).lv ≤ t := by
    intro hnp i hil hkn
    rcases Nat.eq_zero_or_pos (kd i).lv with e | e
    · omega
    · have := upto ((kd i).lv - 1) (fun i' s' hi' hs' hle => D.kno _ _ (D.below j i hjlt hil hnp hkn i' s' hi' hs' (by omega)) X I.closed hed) (by have := D.lev i hil; omega)
      omega
  have known : (∀ l, kd j ≠ .pure l) → ∀ i s, i < ops.size → (kd i).no = some s → K i j → s < t := by
    intro hnp i s hil hki hkn
    cases hkd : kd i with
    | skip => rw [hkd] at hki; cases hki
    | quiet => rw [hkd] at hki; cases hki
    | pure l => rw [hkd] at hki; cases hki
    | change s' =>
      rw [hkd] at hki; cases hki
      exact (I.cnt i s hil hkd).1 (D.kno i j hkn X I.closed hed)
    | late s' =>
      rw [hkd] at hki; cases hki
      have h9 := lvk hnp i hil hkn
      rw [hkd] at h9; exact h9
  have act : (∀ l, kd j ≠ .pure l) → ActRel μ (H t).next pa tmps := by
    intro hnp d u hu
    rcases hpa d u hu with ⟨i, p, hp, hd, hkn, rfl⟩ | ⟨hau, hl⟩
    · exact I.at_ D hp hd (D.kno _ _ hkn X I.closed hed) (lvk hnp i (Array.getElem?_eq_some_iff.1 hp).1 hkn)
    · refine I.old d u hau fun i p hp hd => ?_
      rcases hl i p hp hd with rfl | hl
      · exact hj
      · exact later i hl
  have actP : ∀ l, kd j = .pure l → ∀ μ2 N, (H t).next ≤ N → (H l).next ≤ N → Full ops kd H X pe t μ μ2 l → ActRel μ2 N pa tmps := by
    intro l hkj μ2 N h1 h2 hF d u hu
    rcases hpa d u hu with ⟨i, p, hp, hd, hkn, rfl⟩ | ⟨hau, hl⟩
    · have hil := (Array.getElem?_eq_some_iff.1 hp).1
      obtain ⟨v', g1, g2⟩ := I.done i p d hp hd (D.kno _ _ hkn X I.closed hed)
      have hle := D.belowP j i l hjlt hil hkj hkn
      have hlm := D.lev j hjlt
      rw [hkj] at hlm
      exact ⟨v', g1, g2 μ2 N h1 (Nat.le_trans (D.nexts hle hlm) h2) ⟨hF.1, fun i' s hi' hk hx hs => hF.2 i' s hi' hk hx (by omega)⟩⟩
    · obtain ⟨v', g1, g2⟩ := I.old d u hau fun i p hp hd => by
        rcases hl i p hp hd with rfl | hl
        · exact hj
        · exact later i hl
      exact ⟨v', g1, g2.mono hF.1 h1⟩
  have exF : ∃ μ2, Full ops kd H X pe t μ μ2 m := by
    classical
    refine ⟨fun r => if r < (H t).next then μ r else if h : ∃ i s, i < ops.size ∧ kd i = .late s ∧ X i = true ∧ r = (H s).next then some (pe h.choose) else none, fun r hr => ?_, fun i s hi hk hx hs => ?_⟩
    · show (if r < (H t).next then μ r else _) = μ r
      rw [if_pos hr]
    · rcases Nat.lt_or_ge s t with h' | h'
      · have h1 := (D.late_next hi hk).1
        have h2 := D.nexts (x := s + 1) (y := t) (by omega) I.le
        show (if (H s).next < (H t).next then μ (H s).next else _) = _
        rw [if_pos (by omega)]; exact I.has i s hi hk hx h'
      · have h2 := D.nexts (x := t) (y := s) h' (by omega)
        have hex : ∃ i' s', i' < ops.size ∧ kd i' = .late s' ∧ X i' = true ∧ (H s).next = (H s').next := ⟨i, s, hi, hk, hx, rfl⟩
        show (if (H s).next < (H t).next then μ (H s).next else if h : ∃ i' s', i' < ops.size ∧ kd i' = .late s' ∧ X i' = true ∧ (H s).next = (H s').next then some (pe h.choose) else none) = _
        rw [if_neg (by omega), dif_pos hex]
        obtain ⟨s', q1, q2, q3, q4⟩ := hex.choose_spec
        have e : s = s' := by
          have a1 := D.late_next hi hk
          have a2 := D.late_next q1 q2
          rcases Nat.lt_trichotomy s s' with h9 | h9 | h9
          · have := D.nexts (x := s + 1) (y := s') (by omega) (by omega); omega
          · exact h9
          · have := D.nexts (x := s' + 1) (y := s) (by omega) (by omega); omega
        subst e
        rw [D.uniq _ i s q1 hi (by rw [q2]; rfl) (by rw [hk]; rfl)]
  have psz : ∀ u', (put tmps o.dst u').size = cx.nt := fun u' => by cases hod : o.dst <;> simp [put, hsz]
  have keepd : ∀ (u' : Value) (i : Nat) (p : Oper) (d : Tmp), ops[i]? = some p → p.dst = some d → i ≠ j → (put tmps o.dst u')[d]? = tmps[d]? := by
    intro u' i p d hp hd hij
    cases hod : o.dst with
    | none => rfl
    | some d' =>
      have : d' ≠ d := fun e => hij (D.inj i j p o d hp ho hd (by rw [hod, e]))
      simp only [put]; rw [Array.getElem?_setIfInBounds_ne this]
  have keepo : ∀ (u' : Value) (d : Tmp), (∀ (i : Nat) (p : Oper), ops[i]? = some p → p.dst = some d → upd X j i = false) → (put tmps o.dst u')[d]? = tmps[d]? := by
    intro u' d hno
    cases hod : o.dst with
    | none => rfl
    | some d' =>
      have : d' ≠ d := fun e => by
        have := hno j o ho (by rw [hod, e])
        simp [upd] at this
      simp only [put]; rw [Array.getElem?_setIfInBounds_ne this]
  have updX : ∀ i, i ≠ j → upd X j i = X i := fun i hij => by simp [upd, hij]
  -- what waits goes on waiting
  have pend' : ∀ (t' : Nat) (μ' : Emb) (w' : World) (u' : Value), t ≤ t' → Ext μ (H t) w μ' (H t') w' → ∀ i o' s, ops[i]? = some o' → i ≠ j → kd i = .late s → X i = true → t' ≤ s → Pend H μ0 w0 t' μ' w' s (pe i) := by
    intro t' μ' w' u' htt hx i o' s ho' hij hks hxi hs
    have hQ := I.pend i o' s ho' hks hxi (by omega)
    obtain ⟨c', ob', d1, d2, d3⟩ := hQ.blk
    have hfr := hx.frame (pe i).b (lt_of_heap d1) fun r p f hr hp hm => hQ.free r p f hr hm
    exact ⟨⟨c', ob', by rw [hfr.1]; exact d1, d2, d3.mono hx.agree hx.next⟩, hx.free (pe i).b (lt_of_heap d1) hQ.free, hQ.f1, hQ.f2⟩
  -- what is known behind a step that is no late one
  have after : ∀ (t' : Nat) (μ' : Emb) (w' : World) (u' : Value), t ≤ t' → (∀ s, kd j ≠ .late s) → Ext μ (H t) w μ' (H t') w' → (∀ μ2 N, (H t').next ≤ N → (H (kd j).lv).next ≤ N → Full ops kd H (upd X j) pe t' μ' μ2 (kd j).lv → VRel μ2 N (v j) u') → t' ≤ m → (∀ i s, i < ops.size → kd i = .change s → (upd X j i = true ↔ s < t')) → (∀ i s, i < ops.size → kd i = .late s → s < t' → s < t) →
      DInv ops a v kd H m μ0 w0 (upd X j) t' μ' w' (put tmps o.dst u') pe := by
    intro t' μ' w' u' htt hnl hx hv hle hcnt hlt
    refine ⟨closed_upd I.closed hed, hle, hcnt, fun i s hi hks hs => ?_, fun i s hi hks hxi hs => ?_, fun i p d hp hd hi => ?_, fun d u hau hno => ?_, I.ext.trans hx, fun i o' s ho' hks hxi hs => ?_, fun i1 i2 s1 s2 h1 h2 k1 k2 x1 x2 l1 l2 hne => ?_⟩
    · have hij : i ≠ j := fun e => by subst e; exact hnl s hks
      rw [updX i hij]; exact I.lat i s hi hks (hlt i s hi hks hs)
    · have hij : i ≠ j := fun e => by subst e; exact hnl s hks
      rw [updX i hij] at hxi
      have h8 := hlt i s hi hks hs
      have h1 := (D.late_next hi hks).1
      have h2 := D.nexts (x := s + 1) (y := t) (by omega) I.le
      rw [hx.agree _ (by omega)]; exact I.has i s hi hks hxi h8
    · by_cases hij : i = j
      · subst hij
        rw [ho] at hp; cases hp
        have hlt : d < tmps.size := by rw [hsz]; exact D.dlt i o d ho hd
        exact ⟨u', by simp [put, hd, hlt], hv⟩
      · have hxi : X i = true := by simpa [upd, hij] using hi
        obtain ⟨v', h1, h2⟩ := I.done i p d hp hd hxi
        refine ⟨v', by rw [keepd u' i p d hp hd hij]; exact h1, fun μ2 N g1 g2 hF => h2 μ2 N (Nat.le_trans hx.next g1) g2 (hF.back hx.agree hx.next fun i' s' hi' hk' hx' => ⟨?_, rfl⟩)⟩
        have : i' ≠ j := fun e => by subst e; exact hnl s' hk'
        rw [updX i' this]; exact hx'
    · obtain ⟨v', h1, h2⟩ := I.old d u hau fun i p hp hd => by
        have := hno i p hp hd
        unfold upd at this
        split at this
        · cases this
        · exact this
      exact ⟨v', by rw [keepo u' d hno]; exact h1, h2.mono hx.agree hx.next⟩
    · have hij : i ≠ j := fun e => by subst e; exact hnl s hks
      exact pend' t' μ' w' u' htt hx i o' s ho' hij hks (by rw [updX i hij] at hxi; exact hxi) hs
    · have n1 : i1 ≠ j := fun e => by subst e; exact hnl s1 k1
      have n2 : i2 ≠ j := fun e => by subst e; exact hnl s2 k2
      rw [updX i1 n1] at x1; rw [updX i2 n2] at x2
      exact I.apart i1 i2 s1 s2 h1 h2 k1 k2 x1 x2 (by omega) (by omega) hne
  have fin : ∀ {t' : Nat} {μ' : Emb} {w' : World} {tmps' : Array Value} {pe' : Nat → Ent}, DInv ops a v kd H m μ0 w0 (upd X j) t' μ' w' tmps' pe' → tmps'.size = cx.nt → Steps P (lone (frame cx.fn rd tmps defers (.inRegion ops (j :: rest) :: k)) cs w) (lone (frame cx.fn rd tmps' defers (.inRegion ops rest :: k)) cs w') →
      ∃ t' μ' tmps' w' pe', DInv ops a v kd H m μ0 w0 (upd X j) t' μ' w' tmps' pe' ∧ Sat ops kd (upd X j) t' ∧ tmps'.size = cx.nt ∧
        Steps P (lone (frame cx.fn rd tmps defers (.inRegion ops (j :: rest) :: k)) cs w) (lone (frame cx.fn rd tmps' defers (.inRegion ops rest :: k)) cs w') := by
    intro t' μ' w' tmps' pe' I' hs' hst
    obtain ⟨t2, μ2, I2, S2⟩ := saturate D (m - t') (Nat.le_refl _) I'
    exact ⟨t2, μ2, tmps', w', pe', I2, S2, hs', hst⟩
  have same : ∀ i s, i < ops.size → kd i = .change s → (∀ s', kd j ≠ .change s') → (upd X j i = true ↔ s < t) := by
    intro i s hi hks hne
    have : i ≠ j := fun e => by subst e; exact hne s hks
    simp only [upd, this, if_false]
    exact I.cnt i s hi hks
  cases hkd : kd j with
  | skip =>
    rw [hkd] at hk
    obtain ⟨hg, hv⟩ := hk
    have hw := aguard_wanted (act fun l => by rw [hkd]; simp) hg
    refine fin (after t μ w undef (Nat.le_refl _) (fun s => by rw [hkd]; simp) (Ext.refl st) (fun _ _ _ _ _ => by rw [hv]; exact .tuple .nil) I.le (fun i s hi hks => same i s hi hks fun s' e => by rw [hkd] at e; cases e) (fun _ _ _ _ h => h)) (psz _) (.one ?_)
    have := st_op_skip (P := P) (fn := cx.fn) (rd := rd) (tmps := tmps) (defers := defers) (k := k) (cs := cs) (w := w) (ops := ops) (i := j) (rest := rest) (by simp [ho, hw])
    rw [this, ho]; rfl
  | quiet =>
    rw [hkd] at hk
    obtain ⟨hg, hop⟩ := hk
    have hnp : ∀ l, kd j ≠ .pure l := fun l => by rw [hkd]; simp
    have act := act hnp
    have hw := aguard_wanted act hg
    have hmay : May ops K kd j t := by
      refine ⟨known hnp, fun i s hil hks hkn => ?_⟩
      have hx := later i (D.kno _ _ hkn)
      rcases Nat.lt_or_ge s t with h | h
      · exfalso
        cases hki : kd i with
        | skip => rw [hki] at hks; cases hks
        | quiet => rw [hki] at hks; cases hks
        | pure l => rw [hki] at hks; cases hks
        | change s' => rw [hki] at hks; cases hks; have := (I.cnt i s hil hki).2 h; rw [hx] at this; cases this
        | late s' => rw [hki] at hks; cases hks; have := I.lat i s hil hki h; rw [hx] at this; cases this
      · exact h
    obtain ⟨nx, w1, mm, u, u', h', μ', w', e1, e2, e3, ⟨rfl, rfl⟩, e6, e7⟩ := hop t I.le hmay μ (opnd tmps) w (frame cx.fn rd tmps defers (.inRegion ops (j :: rest) :: k)) cs act.opnd st
    refine fin (after t μ' w' u' (Nat.le_refl _) (fun s => by rw [hkd]; simp) e6 (fun μ2 N h1 _ hF => e7.mono hF.1 h1) I.le (fun i s hi hks => same i s hi hks fun s' e => by rw [hkd] at e; cases e) (fun _ _ _ _ h => h)) (psz _) (.head (st_op_push ho hw hdf e1 e2) ?_)
    rw [finish_region, ho] at e3
    exact e3
  | pure l =>
    rw [hkd] at hk
    obtain ⟨hg, hop⟩ := hk
    have hlm := D.lev j hjlt
    rw [hkd] at hlm
    obtain ⟨μ2, hF2⟩ := exF
    have hle2 := D.nexts I.le (Nat.le_refl m)
    have act2 := actP l hkd μ2 (H m).next hle2 (D.nexts hlm (Nat.le_refl m)) ⟨hF2.1, fun i s hi hk hx hs => hF2.2 i s hi hk hx (Nat.lt_of_lt_of_le hs hlm)⟩
    have hw := aguard_wanted act2 hg
    obtain ⟨u', g1, g2⟩ := hop μ2 (H m).next (opnd tmps) w act2.opnd
    refine fin (after t μ w u' (Nat.le_refl _) (fun s => by rw [hkd]; simp) (Ext.refl st) (fun μ3 N h1 h2 hF => ?_) I.le (fun i s hi hks => same i s hi hks fun s' e => by rw [hkd] at e; cases e) (fun _ _ _ _ h => h)) (psz _) (.head (st_op_push ho hw hdf g1 rfl) ?_)
    · rw [hkd] at h2 hF
      refine g2 μ3 N (actP l hkd μ3 N h1 h2 (hF.back (Agree.refl _ _) (Nat.le_refl _) fun i' s' hi' hk' hx' => ⟨?_, rfl⟩)).opnd
      simp only [upd]; split
      · rfl
      · exact hx'
    · rw [finish_region, ho]
      exact .refl _ _
  | change s =>
    rw [hkd] at hk
    obtain ⟨hg, hop⟩ := hk
    have act := act fun l => by rw [hkd]; simp
    have hw := aguard_wanted act hg
    have hsm : s < m := D.lts j s hjlt (by rw [hkd]; rfl)
    have hst : s = t := by
      have hns : ¬ s < t := fun h => by rw [(I.cnt j s hjlt hkd).2 h] at hj; cases hj
      rcases Nat.lt_or_ge t s with h | h
      · have := upto (s - 1) (fun i s' hi hs' hle => (D.prev j s hjlt hkd i s' hi hs' (by omega)) X I.closed hed) (by omega)
        omega
      · omega
    subst hst
    obtain ⟨nx, w1, mm, u, u', h', μ', w', e1, e2, e3, ⟨rfl, rfl⟩, e6, e7⟩ := hop μ (opnd tmps) w (frame cx.fn rd tmps defers (.inRegion ops (j :: rest) :: k)) cs act.opnd st
    refine fin (after (s + 1) μ' w' u' (by omega) (fun s => by rw [hkd]; simp) e6 (fun μ2 N h1 _ hF => e7.mono hF.1 h1) (by omega) (fun i s' hi hks => by
      by_cases hij : i = j
      · subst hij; rw [hkd] at hks; cases hks; simp [upd]
      · simp only [upd, hij, if_false]
        rw [I.cnt i s' hi hks]
        constructor
        · intro h; omega
        · intro h
          rcases Nat.lt_or_ge s' s with h' | h'
          · exact h'
          · exfalso; have : s' = s := by omega
            subst this; exact hij (D.uniq i j s' hi hjlt (by rw [hks]; rfl) (by rw [hkd]; rfl))) (fun i s' hi hks hs => by
      rcases Nat.lt_or_ge s' s with h' | h'
      · exact h'
      · exfalso; have : s' = s := by omega
        subst this
        have := D.uniq i j s' hi hjlt (by rw [hks]; rfl) (by rw [hkd]; rfl)
        subst this; rw [hkd] at hks; cases hks)) (psz _) (.head (st_op_push ho hw hdf e1 e2) ?_)
    rw [finish_region, ho] at e3
    exact e3
  | late s =>
    rw [hkd] at hk
    obtain ⟨hg, rv, ob, hnv, hvj, hH, hown, hbo, hop⟩ := hk
    have act := act fun l => by rw [hkd]; simp
    have hw := aguard_wanted act hg
    have hts : t ≤ s := by
      rcases Nat.lt_or_ge s t with h | h
      · have := I.lat j s hjlt hkd h; rw [hj] at this; cases this
      · exact h
    obtain ⟨nx, w1, mm, u, u', h', μ', w', e1, e2, e3, ⟨rfl, rfl⟩, e6, e7⟩ := hop (H t) μ (opnd tmps) w (frame cx.fn rd tmps defers (.inRegion ops (j :: rest) :: k)) cs act.opnd st
    have hbo' : BO (H t).next ob := hbo μ _ _ act.opnd
    have hgn : ((H t).new ob).get (H t).next = some ob := by rw [AHeap.get_new, if_pos rfl]
    obtain ⟨_, e, c, g1, g2, g3⟩ := e6.st.live (H t).next ob hgn
    have xo : Ext μ (H t) w μ (H t) w' := Ext.old st e6 rfl fun r o hr => ⟨(st.live r o hr).1, by rw [AHeap.get_new, if_neg (by have := (st.live r o hr).1; omega)]; exact hr, .inl hr⟩
    have hor : ORel μ (H t).next e c ob := (g3.narrow hbo').mono (fun q hq => (e6.agree q hq).symm) (Nat.le_refl _)
    have hfree : ∀ r p f, (H t).get r = some p → μ r = some f → f.b ≠ e.b := by
      intro r p f hr hm hb
      have hlt := (st.live r p hr).1
      have := e6.st.apart (H t).next r ob p e f hgn hown (by rw [AHeap.get_new, if_neg (by omega)]; exact hr) g1 (by rw [e6.agree r hlt]; exact hm) hb.symm
      omega
    refine fin (pe' := fun q => if q = j then e else pe q) (t' := t) (μ' := μ) (w' := w') (tmps' := put tmps o.dst u') ?_ (psz _) (.head (st_op_push ho hw hdf e1 e2) ?_)
    · refine ⟨closed_upd I.closed hed, I.le, fun i s' hi hks => same i s' hi hks (fun s' e => by rw [hkd] at e; cases e), fun i s' hi hks hs => ?_, fun i s' hi hks hxi hs => ?_, fun i p d hp hd hi => ?_, fun d u hau hno => ?_, I.ext.trans xo, fun i o' s' ho' hks hxi hs => ?_, fun i1 i2 s1 s2 h1 h2 k1 k2 x1 x2 l1 l2 hne => ?_⟩
      · have hij : i ≠ j := fun e => by subst e; rw [hkd] at hks; cases hks; omega
        rw [updX i hij]; exact I.lat i s' hi hks hs
      · have hij : i ≠ j := fun e => by subst e; rw [hkd] at hks; cases hks; omega
        rw [updX i hij] at hxi
        rw [if_neg hij]; exact I.has i s' hi hks hxi hs
      · by_cases hij : i = j
        · subst hij
          rw [ho] at hp; cases hp
          have hlt : d < tmps.size := by rw [hsz]; exact D.dlt i o d ho hd
          refine ⟨u', by simp [put, hd, hlt], fun μ2 N g1' g2' hF => ?_⟩
          have h5 := hF.2 i s hjlt hkd (by simp [upd]) (by rw [hkd]; exact Nat.lt_succ_self s)
          simp only [if_true] at h5
          have h6 := (D.late_next hjlt hkd).1
          rw [hkd] at g2'
          have h7 : Emb.upd μ2 (H s).next e = μ2 := by
            funext r
            by_cases hr : (H s).next = r
            · subst hr; rw [Emb.upd_same]; exact h5.symm
            · rw [Emb.upd_ne _ _ (Ne.symm hr)]
          have h8 := hnv.move (μ2 := μ2) (n := (H s).next) e7 g1
          rw [h7] at h8
          rw [hvj]
          exact h8.mono (Agree.refl _ _) (by show (H s).next + 1 ≤ N; have : (H (s + 1)).next ≤ N := g2'; omega)
        · obtain ⟨v', h1, h2⟩ := I.done i p d hp hd (by rw [updX i hij] at hi; exact hi)
          refine ⟨v', by rw [keepd u' i p d hp hd hij]; exact h1, fun μ2 N g1' g2' hF => h2 μ2 N g1' g2' (hF.back (Agree.refl _ _) (Nat.le_refl _) fun i' s' hi' hk' hx' => ?_)⟩
          have : i' ≠ j := fun e => by subst e; rw [hj] at hx'; cases hx'
          exact ⟨by rw [updX i' this]; exact hx', if_neg this⟩
      · obtain ⟨v', h1, h2⟩ := I.old d u hau fun i p hp hd => by
          have := hno i p hp hd
          unfold upd at this
          split at this
          · cases this
          · exact this
        exact ⟨v', by rw [keepo u' d hno]; exact h1, h2⟩
      · by_cases hij : i = j
        · subst hij
          rw [ho] at ho'; cases ho'
          rw [hkd] at hks; cases hks
          rw [if_pos rfl]
          refine ⟨⟨c, ob, g2, hH, hor⟩, hfree, fun b hb hf => ?_, fun b hb hf => ?_⟩
          · have y := (I.ext.frame b hb hf).2
            exact (e6.frame b (Nat.lt_of_lt_of_le hb I.ext.size) y).2 (H t).next ob e hgn hown g1
          · exact e6.free b (Nat.lt_of_lt_of_le hb I.ext.size) (I.ext.free b hb hf) (H t).next ob e hgn g1
        · rw [if_neg hij]
          exact pend' t μ w' u' (Nat.le_refl _) xo i o' s' ho' hij hks (by rw [updX i hij] at hxi; exact hxi) hs
      · have key : ∀ i s', i < ops.size → i ≠ j → kd i = .late s' → upd X j i = true → t ≤ s' → (pe i).b ≠ e.b := by
          intro i s' hil hij hks hxi hs
          rw [updX i hij] at hxi
          obtain ⟨o', ho'⟩ : ∃ o', ops[i]? = some o' := ⟨_, Array.getElem?_eq_getElem hil⟩
          have hQ := I.pend i o' s' ho' hks hxi hs
          obtain ⟨c', ob', d1, d2, d3⟩ := hQ.blk
          exact fun h => (e6.free (pe i).b (lt_of_heap d1) hQ.free (H t).next ob e hgn g1) h.symm
        show (if i1 = j then e else pe i1).b ≠ (if i2 = j then e else pe i2).b
        by_cases n1 : i1 = j
        · have n2 : i2 ≠ j := fun e => hne (n1.trans e.symm)
          rw [if_pos n1, if_neg n2]; exact fun h => key i2 s2 h2 n2 k2 x2 l2 h.symm
        · by_cases n2 : i2 = j
          · rw [if_pos n2, if_neg n1]; exact key i1 s1 h1 n1 k1 x1 l1
          · rw [if_neg n1, if_neg n2]
            exact I.apart i1 i2 s1 s2 h1 h2 k1 k2 (by rw [updX i1 n1] at x1; exact x1) (by rw [updX i2 n2] at x2; exact x2) l1 l2 hne
    · rw [finish_region, ho] at e3
      exact e3
theorem ready_eq (listed : Array Bool) : ((List.range ops.size).filter fun i => !listed.getD i true && ((ops[i]?).map (·.after.all fun e => !Region.binds .any e || listed.getD e.on false)).getD false) = Region.ready .any ops listed := rfl
theorem drawn_all (D : DRun P cx ops K a v kd H m) : ∀ (fuel tape : Nat) (listed : Array Bool) (t : Nat) (μ : Emb) (tmps : Array Value) (defers : List Deferred) (rd : Option Nat) (w : World) (pe : Nat → Ent) (k : List Item) (cs : List Frame),
    listed.size = ops.size → (listed.toList.countP (fun b => !b)) = fuel → DInv ops a v kd H m μ0 w0 (fun i => listed.getD i false) t μ w tmps pe → Sat ops kd (fun i => listed.getD i false) t → tmps.size = cx.nt →
    ∃ μ' tmps' w' pe', DInv ops a v kd H m μ0 w0 (fun i => decide (i < ops.size)) m μ' w' tmps' pe' ∧ tmps'.size = cx.nt ∧
      Steps P (lone (frame cx.fn rd tmps defers (.inRegion ops (Region.linearise.go .any ops fuel tape listed []) :: k)) cs w) (lone (frame cx.fn rd tmps' defers k) cs w') := by
  intro fuel
  induction fuel with
  | zero =>
    intro tape listed t μ tmps defers rd w pe k cs hsize hcount I S hsz
    have hall : ∀ i, i < ops.size → listed.getD i false = true := by
      intro i hi
      have h0 : i < listed.size := by omega
      have := List.countP_eq_zero.1 hcount (listed[i]) (by simp)
      simp only [Array.getD_eq_getD_getElem?, Array.getElem?_eq_getElem h0, Option.getD_some]
      simpa using this
    have hX : (fun i => listed.getD i false) = fun i => decide (i < ops.size) := by
      funext i
      by_cases hi : i < ops.size
      · simp [hall i hi, hi]
      · have : ¬ i < listed.size := by omega
        simp [Array.getD_eq_getD_getElem?, Array.getElem?_eq_none (Nat.le_of_not_lt this), hi]
    have htm : t = m := by
      rcases Nat.lt_or_ge t m with h | h
      · obtain ⟨i, hi, hk⟩ := D.all t h
        exfalso
        cases hkd : kd i with
        | skip => rw [hkd] at hk; cases hk
        | quiet => rw [hkd] at hk; cases hk
        | pure l => rw [hkd] at hk; cases hk
        | change s => rw [hkd] at hk; cases hk; have := (I.cnt i t hi hkd).1 (hall i hi); omega
        | late s => rw [hkd] at hk; cases hk; have := S i hi hkd; simp only [hall i hi] at this; cases this
      · have := I.le; omega
    subst htm
    rw [hX] at I
    refine ⟨μ, tmps, w, pe, I, hsz, .one ?_⟩
    simp only [Region.linearise.go, List.reverse_nil]
    exact st_region_end
  | succ fuel ih =>
    intro tape listed t μ tmps defers rd w pe k cs hsize hcount I S hsz
    -- somebody is ready: the first that has not been listed
    have hsome : ∃ i, i ∈ Region.ready .any ops listed := by
      have hex : ∃ i, i < ops.size ∧ listed.getD i true = false := by
        have : 0 < listed.toList.countP (fun b => !b) := by omega
        obtain ⟨b, hb1, hb2⟩ := List.countP_pos_iff.1 this
        obtain ⟨i, hi⟩ := List.getElem?_of_mem hb1
        have hlt := (List.getElem?_eq_some_iff.1 hi).1
        simp only [Array.length_toList] at hlt
        rw [Array.getElem?_toList] at hi
        exact ⟨i, by omega, by simp only [Array.getD_eq_getD_getElem?, hi, Option.getD_some]; simpa using hb2⟩
      have hmin : ∀ q, (∃ i, i < q ∧ i < ops.size ∧ listed.getD i true = false) → ∃ i, i < ops.size ∧ listed.getD i true = false ∧ ∀ i', i' < i → listed.getD i' true = true := by
        intro q
        induction q with
        | zero => rintro ⟨i, hi, _⟩; omega
        | succ q ihq =>
          rintro ⟨i, hi, hio, hil⟩
          by_cases hex2 : ∃ i', i' < q ∧ i' < ops.size ∧ listed.getD i' true = false
          · exact ihq hex2
          · refine ⟨i, hio, hil, fun i' hi' => ?_⟩
            cases hx : listed.getD i' true with
            | true => rfl
            | false => exact (hex2 ⟨i', by omega, by omega, hx⟩).elim
      obtain ⟨i0, hi0, hl0⟩ := hex
      obtain ⟨i, hio, hil, hbelow⟩ := hmin (i0 + 1) ⟨i0, by omega, hi0, hl0⟩
      obtain ⟨o, ho⟩ : ∃ o, ops[i]? = some o := ⟨_, Array.getElem?_eq_getElem hio⟩
      refine ⟨i, mem_ready.2 ⟨hil, o, ho, fun e he hb => ?_⟩⟩
      have hlt := D.back i o ho e he hb
      have := hbelow e.on hlt
      have hls : e.on < listed.size := by omega
      simp only [Array.getD_eq_getD_getElem?, Array.getElem?_eq_getElem hls, Option.getD_some] at this ⊢
      exact this
    -- the one that is taken
    have hgo : ∃ i tape', i ∈ Region.ready .any ops listed ∧ Region.linearise.go .any ops (fuel + 1) tape listed [] = i :: Region.linearise.go .any ops fuel tape' (listed.setIfInBounds i true) [] := by
      simp only [Region.linearise.go, ready_eq]
      have hlen : 0 < (Region.ready .any ops listed).length := by
        obtain ⟨i, hi⟩ := hsome
        exact List.length_pos_of_mem hi
      have hmod : tape % (Region.ready .any ops listed).length < (Region.ready .any ops listed).length := Nat.mod_lt _ hlen
      rw [List.getElem?_eq_getElem hmod]
      refine ⟨_, tape / (Region.ready .any ops listed).length, List.getElem_mem hmod, ?_⟩
      simp only
      rw [linearise_go_acc .any ops fuel _ _ [_]]
      rfl
    obtain ⟨j, tape', hjr, hgo⟩ := hgo
    obtain ⟨hjl, o, ho, hje⟩ := mem_ready.1 hjr
    have hjlt : j < ops.size := (Array.getElem?_eq_some_iff.1 ho).1
    have hjls : j < listed.size := by omega
    have hjf : listed[j] = false := by
      simpa only [Array.getD_eq_getD_getElem?, Array.getElem?_eq_getElem hjls, Option.getD_some] using hjl
    have hj0 : listed.getD j false = false := by simp only [Array.getD_eq_getD_getElem?, Array.getElem?_eq_getElem hjls, Option.getD_some, hjf]
    rw [hgo]
    obtain ⟨t', μ', tmps', w', pe', I', S', s1, s6⟩ := drawn_step D (rest := Region.linearise.go .any ops fuel tape' (listed.setIfInBounds j true) []) (k := k) (cs := cs) (defers := defers) (rd := rd) I S hsz ho hj0
      (fun p hp e he hb => by rw [ho] at hp; cases hp; exact hje e he hb)
    have hX : upd (fun i => listed.getD i false) j = fun i => (listed.setIfInBounds j true).getD i false := by
      funext i
      simp only [upd]
      by_cases hij : i = j
      · subst hij; simp [Array.getD_eq_getD_getElem?, hjls]
      · simp only [hij, if_false, Array.getD_eq_getD_getElem?]
        rw [Array.getElem?_setIfInBounds_ne (Ne.symm hij)]
    rw [hX] at I' S'
    have hcount' : ((listed.setIfInBounds j true).toList.countP fun b => !b) = fuel := by
      rw [Array.toList_setIfInBounds]
      have hjl' : j < listed.toList.length := by simpa using hjls
      rw [List.countP_set hjl']
      have : listed.toList[j] = false := by simpa using hjf
      simp [this, hcount]
    obtain ⟨μ2, tmps2, w2, pe2, I2, r1, r6⟩ := ih tape' (listed.setIfInBounds j true) t' μ' tmps' defers rd w' pe' k cs (by simpa using hsize) hcount' I' S' s1
    exact ⟨μ2, tmps2, w2, pe2, I2, r1, s6.trans r6⟩
theorem CWp.drawn (hmix : P.follows .mixedOrders = true) (D : DRun P cx ops K a v kd H m) {id : Nat} {aF : Tr Value} {Q : AExit → Tr Value → AHeap → Prop}
    (hF : ∀ d u, aF.get d = some u → (∃ i p, ops[i]? = some p ∧ p.dst = some d ∧ u = v i) ∨ (a.get d = some u ∧ ∀ (i : Nat) (p : Oper), ops[i]? = some p → p.dst ≠ some d)) (hQ : Q .normal aF (H m)) : CWp P cx (.region id ops true) a (H 0) Q := by
  intro μ base tmps defers rd w k cs p
  have hsched : ∀ t, Region.schedule (P.follows .mixedOrders) ops t = Region.linearise.go .any ops ops.size t (Array.replicate ops.size false) [] := fun t => by simp [Region.schedule, hmix, Region.linearise]
  have hfalse : (fun i => (Array.replicate ops.size false).getD i false) = fun _ => false := by
    funext i
    simp only [Array.getD_eq_getD_getElem?, Array.getElem?_replicate]
    split <;> rfl
  have x0 := Ext.same (w' := { w with drawn := w.drawn + 1 }) p.st rfl rfl rfl
  have I : DInv ops a v kd H m μ { w with drawn := w.drawn + 1 } (fun i => (Array.replicate ops.size false).getD i false) 0 μ { w with drawn := w.drawn + 1 } tmps (fun _ => ⟨0, 0, 0, 0⟩) := by
    rw [hfalse]
    exact ⟨fun j hj => by simp at hj, Nat.zero_le _, fun i s _ _ => by simp, fun i s _ _ h => by omega, fun i s _ _ hx => by simp at hx, fun i o d _ _ hx => by simp at hx, fun d u hu _ => p.act d u hu, Ext.refl x0.st, fun i o s _ _ hx => by simp at hx, fun i i' s s' _ _ _ _ hx => by simp at hx⟩
  have S : Sat ops kd (fun i => (Array.replicate ops.size false).getD i false) 0 := by rw [hfalse]; exact fun _ _ _ => rfl
  obtain ⟨μ', tmps', w', pe', I', r1, r6⟩ := drawn_all D ops.size (w.tape w.drawn (.order cx.fn id)) (Array.replicate ops.size false) 0 μ tmps defers rd { w with drawn := w.drawn + 1 } _ k cs (by simp) (by simp [List.countP_replicate])
    I S p.size
  have r5 := x0.trans I'.ext
  have p' := p.ext r5
  refine ⟨.normal, aF, H m, μ', tmps', defers, w', hQ, ⟨fun d u hu => ?_, r1, p'.rdr, p'.dok, p.dno, p.dge, p'.bsz, p'.st⟩, r5, .head st_region_draw ?_⟩
  · rcases hF d u hu with ⟨i, o, ho, hd, rfl⟩ | ⟨hau, hno⟩
    · have hi := (Array.getElem?_eq_some_iff.1 ho).1
      exact I'.at_ D ho hd (by simpa using hi) (D.lev i hi)
    · exact I'.old d u hau fun i o ho hd => (hno i o ho hd).elim
  · rw [hsched]; exact r6
end
end Go.Ab.Nx
