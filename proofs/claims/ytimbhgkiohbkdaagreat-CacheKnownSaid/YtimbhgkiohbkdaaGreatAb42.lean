/-
  A region whose order is left open, once more, with pure operations on rows that wait: whatever the order, it comes to what the text's order comes to, where the operations that change something stand in a chain, and the others give the same wherever they may stand. Pure operations; the walk through a region whose order is left open, in an order of its own. The walk in an order of its own is right. The walk in an order of its own is right: one operation more. The walk in an order of its own is right: the whole of it.
-/
import Derived.Test.YtimbhgkiohbkdaaGreatAb17
namespace Go.Ab.Nx
open Go.Ab
set_option linter.unusedSimpArgs false
set_option linter.unusedVariables false
noncomputable def EdgesIn (ops : Array Oper) (X : Nat → Bool) (j : Nat) : Prop := ∀ o, ops[j]? = some o → ∀ e ∈ o.after, Region.binds .any e = true → X e.on = true
noncomputable def Closed (ops : Array Oper) (X : Nat → Bool) : Prop := ∀ j, X j = true → EdgesIn ops X j
noncomputable def Known (ops : Array Oper) (p j : Nat) : Prop := ∀ X, Closed ops X → EdgesIn ops X j → X p = true
inductive Kind where
  | skip
  | quiet
  | change (s : Nat)
  | late (s : Nat)
  | pure (l : Nat)
noncomputable def Kind.lv : Kind → Nat
  | .late s => s + 1
  | .pure l => l
  | _ => 0
noncomputable def Kind.no : Kind → Option Nat
  | .change s => some s
  | .late s => some s
  | _ => none
noncomputable def May (ops : Array Oper) (K : Nat → Nat → Prop) (kd : Nat → Kind) (j t : Nat) : Prop :=
  (∀ i s, i < ops.size → (kd i).no = some s → K i j → s < t) ∧ (∀ i s, i < ops.size → (kd i).no = some s → K j i → t ≤ s)
noncomputable def NewV (rv : Nat → Value) : Prop :=
  (∃ off, ∀ n, rv n = .pointer (some ⟨n, off, none⟩)) ∨ (∃ off len cap, ∀ n, rv n = .slice (some ⟨n, off, none⟩) len cap) ∨ (∀ n, rv n = .map (some n))
theorem NewV.move {rv : Nat → Value} (hn : NewV rv) {μ μ2 : Emb} {n' m' n : Nat} {e : Ent} {v' : Value} (hv : VRel μ m' (rv n') v') (he : μ n' = some e) : VRel (μ2.upd n e) (n + 1) (rv n) v' := by
  rcases hn with ⟨off, hr⟩ | ⟨off, len, cap, hr⟩ | hr
  · rw [hr] at hv ⊢
    cases hv with
    | ptr hlt hm => rw [he] at hm; cases hm; exact .ptr (by omega) (Emb.upd_same _ _ _)
  · rw [hr] at hv ⊢
    cases hv with
    | sliceK hlt hm => rw [he] at hm; cases hm; exact .sliceK (by omega) (Emb.upd_same _ _ _)
    | sliceU hlt hm hl hc => rw [he] at hm; cases hm; exact .sliceU (by omega) (Emb.upd_same _ _ _) hl hc
    | sliceZ hlt hm => rw [he] at hm; cases hm; exact .sliceZ (by omega) (Emb.upd_same _ _ _)
    | sliceKZ hlt hm => rw [he] at hm; cases hm; exact .sliceKZ (by omega) (Emb.upd_same _ _ _)
  · rw [hr] at hv ⊢
    cases hv with
    | map hlt hm => rw [he] at hm; cases hm; exact .map (by omega) (Emb.upd_same _ _ _)
noncomputable def PureOp (P : Program) (o : Oper) (ρ : Operand → Option Value) (v : Value) : Prop :=
  ∀ (μ : Emb) (n : Nat) (ρ' : Operand → Value) (w : World), OpRel μ n ρ ρ' → ∃ u', (execOp ρ' o).run P w = .ok (.value u') w ∧ ∀ (μ2 : Emb) (n2 : Nat), OpRel μ2 n2 ρ ρ' → VRel μ2 n2 v u'
structure DRun (P : Program) (cx : Cx) (ops : Array Oper) (K : Nat → Nat → Prop) (a : Tr Value) (v : Nat → Value) (kd : Nat → Kind) (H : Nat → AHeap) (m : Nat) : Prop where
  kno : ∀ i j, K i j → Known ops i j
  back : ∀ (j : Nat) (o : Oper), ops[j]? = some o → ∀ e ∈ o.after, Region.binds .any e = true → e.on < j
  inj : ∀ (i j : Nat) (o p : Oper) (d : Tmp), ops[i]? = some o → ops[j]? = some p → o.dst = some d → p.dst = some d → i = j
  dlt : ∀ (i : Nat) (o : Oper) (d : Tmp), ops[i]? = some o → o.dst = some d → d < cx.nt
  all : ∀ s, s < m → ∃ i, i < ops.size ∧ (kd i).no = some s
  uniq : ∀ i j s, i < ops.size → j < ops.size → (kd i).no = some s → (kd j).no = some s → i = j
  lts : ∀ i s, i < ops.size → (kd i).no = some s → s < m
  prev : ∀ j s, j < ops.size → kd j = .change s → ∀ i s', i < ops.size → (kd i).no = some s' → s' < s → Known ops i j
  below : ∀ j i, j < ops.size → i < ops.size → (∀ l, kd j ≠ .pure l) → K i j → ∀ i' s', i' < ops.size → (kd i').no = some s' → s' < (kd i).lv → K i' j
  belowP : ∀ j i l, j < ops.size → i < ops.size → kd j = .pure l → K i j → (kd i).lv ≤ l
  mono : ∀ s, s < m → (H s).next ≤ (H (s + 1)).next
  lev : ∀ j, j < ops.size → (kd j).lv ≤ m
  one : ∀ (j : Nat) (o : Oper), ops[j]? = some o → ∃ pa : Tr Value,
    (∀ d u, pa.get d = some u → (∃ i p, ops[i]? = some p ∧ p.dst = some d ∧ K i j ∧ u = v i) ∨ (a.get d = some u ∧ ∀ (i : Nat) (p : Oper), ops[i]? = some p → p.dst = some d → i = j ∨ Known ops j i)) ∧
    isDefer o.op = false ∧
    match kd j with
    | .skip => aguard ops pa o = some false ∧ v j = .tuple #[]
    | .quiet => aguard ops pa o = some true ∧ (∀ t, t ≤ m → May ops K kd j t → OpWp P o (aopnd pa) (H t) fun u h' => u = v j ∧ h' = H t)
    | .change s => aguard ops pa o = some true ∧ OpWp P o (aopnd pa) (H s) (fun u h' => u = v j ∧ h' = H (s + 1))
    | .pure _ => aguard ops pa o = some true ∧ PureOp P o (aopnd pa) (v j)
    | .late s => aguard ops pa o = some true ∧ ∃ rv ob, NewV rv ∧ v j = rv (H s).next ∧ H (s + 1) = (H s).new ob ∧ ob.own = true ∧ (∀ (μ : Emb) (n : Nat) (ρ' : Operand → Value), OpRel μ n (aopnd pa) ρ' → BO n ob) ∧ ∀ h, OpWp P o (aopnd pa) h fun u h' => u = rv h.next ∧ h' = h.new ob
structure Pend (H : Nat → AHeap) (μ0 : Emb) (w0 : World) (t : Nat) (μ : Emb) (w : World) (s : Nat) (e : Ent) : Prop where
  blk : ∃ c ob, w.heap[e.b]? = some c ∧ H (s + 1) = (H s).new ob ∧ ORel μ (H t).next e c ob
  free : ∀ r p f, (H t).get r = some p → μ r = some f → f.b ≠ e.b
  f1 : ∀ b, b < w0.heap.size → (∀ r o f, (H 0).get r = some o → o.own = true → μ0 r = some f → f.b ≠ b) → e.b ≠ b
  f2 : ∀ b, b < w0.heap.size → (∀ r o f, (H 0).get r = some o → μ0 r = some f → f.b ≠ b) → e.b ≠ b
noncomputable def Full (ops : Array Oper) (kd : Nat → Kind) (H : Nat → AHeap) (X : Nat → Bool) (pe : Nat → Ent) (t : Nat) (μ μ2 : Emb) (l : Nat) : Prop :=
  Agree (H t).next μ μ2 ∧ ∀ i s, i < ops.size → kd i = .late s → X i = true → s < l → μ2 (H s).next = some (pe i)
structure DInv (ops : Array Oper) (a : Tr Value) (v : Nat → Value) (kd : Nat → Kind) (H : Nat → AHeap) (m : Nat) (μ0 : Emb) (w0 : World) (X : Nat → Bool) (t : Nat) (μ : Emb) (w : World) (tmps : Array Value) (pe : Nat → Ent) : Prop where
  closed : Closed ops X
  le : t ≤ m
  cnt : ∀ i s, i < ops.size → kd i = .change s → (X i = true ↔ s < t)
  lat : ∀ i s, i < ops.size → kd i = .late s → s < t → X i = true
  has : ∀ i s, i < ops.size → kd i = .late s → X i = true → s < t → μ (H s).next = some (pe i)
  done : ∀ (i : Nat) (o : Oper) (d : Tmp), ops[i]? = some o → o.dst = some d → X i = true → ∃ v', tmps[d]? = some v' ∧ ∀ μ2 N, (H t).next ≤ N → (H (kd i).lv).next ≤ N → Full ops kd H X pe t μ μ2 (kd i).lv → VRel μ2 N (v i) v'
  old : ∀ d u, a.get d = some u → (∀ (i : Nat) (o : Oper), ops[i]? = some o → o.dst = some d → X i = false) → ∃ v', tmps[d]? = some v' ∧ VRel μ (H t).next u v'
  ext : Ext μ0 (H 0) w0 μ (H t) w
  pend : ∀ i o s, ops[i]? = some o → kd i = .late s → X i = true → t ≤ s → Pend H μ0 w0 t μ w s (pe i)
  apart : ∀ i i' s s', i < ops.size → i' < ops.size → kd i = .late s → kd i' = .late s' → X i = true → X i' = true → t ≤ s → t ≤ s' → i ≠ i' → (pe i).b ≠ (pe i').b
noncomputable def Sat (ops : Array Oper) (kd : Nat → Kind) (X : Nat → Bool) (t : Nat) : Prop := ∀ i, i < ops.size → kd i = .late t → X i = false
section
variable {P : Program} {cx : Cx} {ops : Array Oper} {K : Nat → Nat → Prop} {a : Tr Value} {v : Nat → Value} {kd : Nat → Kind} {H : Nat → AHeap} {m : Nat} {μ0 : Emb} {w0 : World}
noncomputable def upd (X : Nat → Bool) (j : Nat) : Nat → Bool := fun i => if i = j then true else X i
theorem closed_upd {X : Nat → Bool} {j : Nat} (hX : Closed ops X) (he : EdgesIn ops X j) : Closed ops (upd X j) := by
  intro i hi o ho e hem hb
  unfold upd
  split
  · rfl
  · by_cases hij : i = j
    · subst hij; exact he o ho e hem hb
    · have : X i = true := by simpa [upd, hij] using hi
      exact hX i this o ho e hem hb
theorem Full.back {X X' : Nat → Bool} {pe pe' : Nat → Ent} {t t' l : Nat} {μ μ' μ2 : Emb} (f : Full ops kd H X' pe' t' μ' μ2 l) (hag : Agree (H t).next μ μ') (hn : (H t).next ≤ (H t').next) (hx : ∀ i s, i < ops.size → kd i = .late s → X i = true → X' i = true ∧ pe' i = pe i) : Full ops kd H X pe t μ μ2 l :=
  ⟨hag.trans f.1 hn, fun i s hi hk hxi hs => by rw [← (hx i s hi hk hxi).2]; exact f.2 i s hi hk (hx i s hi hk hxi).1 hs⟩
theorem DRun.nexts (D : DRun P cx ops K a v kd H m) : ∀ {x y : Nat}, x ≤ y → y ≤ m → (H x).next ≤ (H y).next := by
  intro x y hxy
  induction hxy with
  | refl => intro _; exact Nat.le_refl _
  | step h ih => intro hm; exact Nat.le_trans (ih (by omega)) (D.mono _ (by omega))
theorem DRun.late_next (D : DRun P cx ops K a v kd H m) {i s : Nat} (hi : i < ops.size) (hk : kd i = .late s) : (H (s + 1)).next = (H s).next + 1 ∧ s < m := by
  obtain ⟨pa, _, _, h⟩ := D.one i _ (Array.getElem?_eq_getElem hi)
  rw [hk] at h
  obtain ⟨_, rv, ob, _, _, h2, _⟩ := h
  exact ⟨by rw [h2]; rfl, D.lts i s hi (by rw [hk]; rfl)⟩
theorem DInv.at_ (D : DRun P cx ops K a v kd H m) {X : Nat → Bool} {t : Nat} {μ : Emb} {w : World} {tmps : Array Value} {pe : Nat → Ent} (I : DInv ops a v kd H m μ0 w0 X t μ w tmps pe) {i : Nat} {o : Oper} {d : Tmp} (ho : ops[i]? = some o) (hd : o.dst = some d) (hx : X i = true) (hl : (kd i).lv ≤ t) :
    ∃ v', tmps[d]? = some v' ∧ VRel μ (H t).next (v i) v' := by
  obtain ⟨v', g1, g2⟩ := I.done i o d ho hd hx
  exact ⟨v', g1, g2 μ _ (Nat.le_refl _) (D.nexts hl I.le) ⟨Agree.refl _ _, fun i s hi hk hx hs => I.has i s hi hk hx (by omega)⟩⟩
theorem adopt_one (D : DRun P cx ops K a v kd H m) {X : Nat → Bool} {t : Nat} {μ : Emb} {w : World} {tmps : Array Value} {pe : Nat → Ent} (I : DInv ops a v kd H m μ0 w0 X t μ w tmps pe) {i : Nat} (hi : i < ops.size) (hk : kd i = .late t) (hx : X i = true) :
    DInv ops a v kd H m μ0 w0 X (t + 1) (μ.upd (H t).next (pe i)) w tmps pe := by
  obtain ⟨o, ho⟩ : ∃ o, ops[i]? = some o := ⟨_, Array.getElem?_eq_getElem hi⟩
  have hno : (kd i).no = some t := by rw [hk]; rfl
  have hP := I.pend i o t ho hk hx (Nat.le_refl _)
  obtain ⟨c, ob, b1, b2, b3⟩ := hP.blk
  have hag : Agree (H t).next μ (μ.upd (H t).next (pe i)) := Agree.upd μ _ (Nat.le_refl _)
  have hn1 : (H (t + 1)).next = (H t).next + 1 := by rw [b2]; rfl
  have ob3 : ORel (μ.upd (H t).next (pe i)) ((H t).next + 1) (pe i) c ob := b3.mono hag (by omega)
  refine ⟨I.closed, D.lts i t hi hno, fun i' s hi' hk' => ?_, fun i' s hi' hk' hs => ?_, fun i' s hi' hk' hx' hs => ?_, fun i' o' d ho' hd hx' => ?_, fun d u hu hno' => ?_, ?_, fun i' o' s ho' hk' hx' hs => ?_, fun i1 i2 s1 s2 h1 h2 k1 k2 x1 x2 l1 l2 hne => I.apart i1 i2 s1 s2 h1 h2 k1 k2 x1 x2 (by omega) (by omega) hne⟩
  · rw [I.cnt i' s hi' hk']
    constructor
    · intro h; omega
    · intro h
      rcases Nat.lt_or_ge s t with h' | h'
      · exact h'
      · have : s = t := by omega
        subst this
        have := D.uniq i' i s hi' hi (by rw [hk']; rfl) hno
        subst this; rw [hk] at hk'; cases hk'
  · rcases Nat.lt_or_ge s t with h' | h'
    · exact I.lat i' s hi' hk' h'
    · have : s = t := by omega
      subst this
      have := D.uniq i' i s hi' hi (by rw [hk']; rfl) hno
      subst this; exact hx
  · rcases Nat.lt_or_ge s t with h' | h'
    · have h1 := (D.late_next hi' hk').1
      have h2 := D.nexts (x := s + 1) (y := t) (by omega) I.le
      rw [Emb.upd_ne _ _ (by omega)]; exact I.has i' s hi' hk' hx' h'
    · have : s = t := by omega
      subst this
      have := D.uniq i' i s hi' hi (by rw [hk']; rfl) hno
      subst this; exact Emb.upd_same _ _ _
  · obtain ⟨v', g1, g2⟩ := I.done i' o' d ho' hd hx'
    exact ⟨v', g1, fun μ2 N h1 h2 hF => g2 μ2 N (by omega) h2 (hF.back hag (by omega) fun _ _ _ _ h => ⟨h, rfl⟩)⟩
  · obtain ⟨v', g1, g2⟩ := I.old d u hu hno'
    exact ⟨v', g1, by rw [hn1]; exact g2.mono hag (by omega)⟩
  · rw [b2]
    exact I.ext.adoptE (pe i) ob b1 hP.free hP.f1 hP.f2 ob3
  · have hQ := I.pend i' o' s ho' hk' hx' (by omega)
    have hi' := (Array.getElem?_eq_some_iff.1 ho').1
    have hne : i' ≠ i := fun e => by subst e; rw [hk] at hk'; cases hk'; omega
    obtain ⟨c', ob', d1, d2, d3⟩ := hQ.blk
    refine ⟨⟨c', ob', d1, d2, by rw [hn1]; exact d3.mono hag (by omega)⟩, fun r p f hr hm => ?_, hQ.f1, hQ.f2⟩
    rw [b2, AHeap.get_new] at hr
    split at hr
    · rename_i e; subst e; rw [Emb.upd_same] at hm; cases hm
      exact I.apart i i' t s hi hi' hk hk' hx hx' (Nat.le_refl _) (by omega) (fun e => hne e.symm)
    · rename_i e; rw [Emb.upd_ne _ _ (Ne.symm e)] at hm; exact hQ.free r p f hr hm
theorem saturate (D : DRun P cx ops K a v kd H m) : ∀ (q : Nat) {X : Nat → Bool} {t : Nat} {μ : Emb} {w : World} {tmps : Array Value} {pe : Nat → Ent}, m - t ≤ q → DInv ops a v kd H m μ0 w0 X t μ w tmps pe → ∃ t' μ', DInv ops a v kd H m μ0 w0 X t' μ' w tmps pe ∧ Sat ops kd X t' := by
  intro q
  induction q with
  | zero =>
    intro X t μ w tmps pe hq I
    refine ⟨t, μ, I, fun i hi hk => ?_⟩
    have := D.lts i t hi (by rw [hk]; rfl)
    omega
  | succ q ih =>
    intro X t μ w tmps pe hq I
    by_cases h : ∃ i, i < ops.size ∧ kd i = .late t ∧ X i = true
    · obtain ⟨i, hi, hk, hx⟩ := h
      exact ih (by omega) (adopt_one D I hi hk hx)
    · refine ⟨t, μ, I, fun i hi hk => ?_⟩
      cases hx : X i with
      | false => rfl
      | true => exact (h ⟨i, hi, hk, hx⟩).elim
theorem drawn_step (D : DRun P cx ops K a v kd H m) {X : Nat → Bool} {t : Nat} {μ : Emb} {tmps : Array Value} {defers : List Deferred} {rd : RK} {w : World} {pe : Nat → Ent} {k : List Item} {cs : List Frame} {j : Nat} {rest : List Nat} {o : Oper}
    (I : DInv ops a v kd H m μ0 w0 X t μ w tmps pe) (S : Sat ops kd X t) (hsz : tmps.size = cx.nt) (ho : ops[j]? = some o) (hj : X j = false) (hed : EdgesIn ops X j) :
    ∃ t' μ' tmps' w' pe', DInv ops a v kd H m μ0 w0 (upd X j) t' μ' w' tmps' pe' ∧ Sat ops kd (upd X j) t' ∧ tmps'.size = cx.nt ∧
      Steps P (lone (frame cx.fn rd tmps defers (.inRegion ops (j :: rest) :: k)) cs w) (lone (frame cx.fn rd tmps' defers (.inRegion ops rest :: k)) cs w') := by
  obtain ⟨pa, hpa, hdf, hk⟩ := D.one j o ho
  have hjlt : j < ops.size := (Array.getElem?_eq_some_iff.1 ho).1
  have st := I.ext.st
  -- who stands behind j has not been carried out
  have later : ∀ i, Known ops j i → X i = false := by
    intro i hi
    cases hx : X i with
    | false => rfl
    | true => have := hi X I.closed (I.closed i hx); rw [this] at hj; cases hj
  -- if all up to s have been carried out, they are in the view
  have upto : ∀ s, (∀ i s', i < ops.size → (kd i).no = some s' → s' ≤ s → X i = true) → s < m → s < t := by
    intro s hall hsm
    rcases Nat.lt_or_ge s t with h | h
    · exact h
    · exfalso
      obtain ⟨i, hil, hki⟩ := D.all t (by omega)
      have hx := hall i t hil hki h
      cases hkd : kd i with
      | skip => rw [hkd] at hki; cases hki
      | quiet => rw [hkd] at hki; cases hki
      | pure l => rw [hkd] at hki; cases hki
      | change s' =>
        rw [hkd] at hki; cases hki
        have := (I.cnt i t hil hkd).1 hx; omega
      | late s' =>
        rw [hkd] at hki; cases hki
        have := S i hil hkd; rw [hx] at this; cases this
  -- what j hangs on is in the view
  have lvk : (∀ l, kd j ≠ .pure l) → ∀ i, i < ops.size → K i j → (kd i).lv ≤ t := by
    intro hnp i hil hkn
    rcases Nat.eq_zero_or_pos (kd i).lv with e | e
    · omega
    · have := upto ((kd i).lv - 1) (fun i' s' hi' hs' hle => D.kno _ _ (D.below j i hjlt hil hnp hkn i' s' hi' hs' (by omega)) X I.closed hed) (by have := D.lev i hil; omega)
      omega
  have known : (∀ l, kd j ≠ .pure l) → ∀ i s, i < ops.size → (kd i).no = some s → K i j → s < t := by
    intro hnp i s hil hki hkn
    cases hkd : kd i with
    | skip => rw [hkd] at hki; cases hki
    | quiet => rw [hkd] at hki; cases hki
    | pure l => rw [hkd] at hki; cases hki
    | change s' =>
      rw [hkd] at hki; cases hki
      exact (I.cnt i s hil hkd).1 (D.kno i j hkn X I.closed hed)
    | late s' =>
      rw [hkd] at hki; cases hki
      have h9 := lvk hnp i hil hkn
      rw [hkd] at h9; exact h9
  have act : (∀ l, kd j ≠ .pure l) → ActRel μ (H t).next pa tmps := by
    intro hnp d u hu
    rcases hpa d u hu with ⟨i, p, hp, hd, hkn, rfl⟩ | ⟨hau, hl⟩
    · exact I.at_ D hp hd (D.kno _ _ hkn X I.closed hed) (lvk hnp i (Array.getElem?_eq_some_iff.1 hp).1 hkn)
    · refine I.old d u hau fun i p hp hd => ?_
      rcases hl i p hp hd with rfl | hl
      · exact hj
      · exact later i hl
  have actP : ∀ l, kd j = .pure l → ∀ μ2 N, (H t).next ≤ N → (H l).next ≤ N → Full ops kd H X pe t μ μ2 l → ActRel μ2 N pa tmps := by
    intro l hkj μ2 N h1 h2 hF d u hu
    rcases hpa d u hu with ⟨i, p, hp, hd, hkn, rfl⟩ | ⟨hau, hl⟩
    · have hil := (Array.getElem?_eq_some_iff.1 hp).1
      obtain ⟨v', g1, g2⟩ := I.done i p d hp hd (D.kno _ _ hkn X I.closed hed)
      have hle := D.belowP j i l hjlt hil hkj hkn
      have hlm := D.lev j hjlt
      rw [hkj] at hlm
      exact ⟨v', g1, g2 μ2 N h1 (Nat.le_trans (D.nexts hle hlm) h2) ⟨hF.1, fun i' s hi' hk hx hs => hF.2 i' s hi' hk hx (by omega)⟩⟩
    · obtain ⟨v', g1, g2⟩ := I.old d u hau fun i p hp hd => by
        rcases hl i p hp hd with rfl | hl
        · exact hj
        · exact later i hl
      exact ⟨v', g1, g2.mono hF.1 h1⟩
  have exF : ∃ μ2, Full ops kd H X pe t μ μ2 m := by
    classical
    refine ⟨fun r => if r < (H t).next then μ r else if h : ∃ i s, i < ops.size ∧ kd i = .late s ∧ X i = true ∧ r = (H s).next then some (pe h.choose) else none, fun r hr => ?_, fun i s hi hk hx hs => ?_⟩
    · show (if r < (H t).next then μ r else _) = μ r
      rw [if_pos hr]
    · rcases Nat.lt_or_ge s t with h' | h'
      · have h1 := (D.late_next hi hk).1
        have h2 := D.nexts (x := s + 1) (y := t) (by omega) I.le
        show (if (H s).next < (H t).next then μ (H s).next else _) = _
        rw [if_pos (by omega)]; exact I.has i s hi hk hx h'
      · have h2 := D.nexts (x := t) (y := s) h' (by omega)
        have hex : ∃ i' s', i' < ops.size ∧ kd i' = .late s' ∧ X i' = true ∧ (H s).next = (H s').next := ⟨i, s, hi, hk, hx, rfl⟩
        show (if (H s).next < (H t).next then μ (H s).next else if h : ∃ i' s', i' < ops.size ∧ kd i' = .late s' ∧ X i' = true ∧ (H s).next = (H s').next then some (pe h.choose) else none) = _
        rw [if_neg (by omega), dif_pos hex]
        obtain ⟨s', q1, q2, q3, q4⟩ := hex.choose_spec
        have e : s = s' := by
          have a1 := D.late_next hi hk
          have a2 := D.late_next q1 q2
          rcases Nat.lt_trichotomy s s' with h9 | h9 | h9
          · have := D.nexts (x := s + 1) (y := s') (by omega) (by omega); omega
          · exact h9
          · have := D.nexts (x := s' + 1) (y := s) (by omega) (by omega); omega
        subst e
        rw [D.uniq _ i s q1 hi (by rw [q2]; rfl) (by rw [hk]; rfl)]
  have psz : ∀ u', (put tmps o.dst u').size = cx.nt := fun u' => by cases hod : o.dst <;> simp [put, hsz]
  have keepd : ∀ (u' : Value) (i : Nat) (p : Oper) (d : Tmp), ops[i]? = some p → p.dst = some d → i ≠ j → (put tmps o.dst u')[d]? = tmps[d]? := by
    intro u' i p d hp hd hij
    cases hod : o.dst with
    | none => rfl
    | some d' =>
      have : d' ≠ d := fun e => hij (D.inj i j p o d hp ho hd (by rw [hod, e]))
      simp only [put]; rw [Array.getElem?_setIfInBounds_ne this]
  have keepo : ∀ (u' : Value) (d : Tmp), (∀ (i : Nat) (p : Oper), ops[i]? = some p → p.dst = some d → upd X j i = false) → (put tmps o.dst u')[d]? = tmps[d]? := by
    intro u' d hno
    cases hod : o.dst with
    | none => rfl
    | some d' =>
      have : d' ≠ d := fun e => by
        have := hno j o ho (by rw [hod, e])
        simp [upd] at this
      simp only [put]; rw [Array.getElem?_setIfInBounds_ne this]
  have updX : ∀ i, i ≠ j → upd X j i = X i := fun i hij => by simp [upd, hij]
  -- what waits goes on waiting
  have pend' : ∀ (t' : Nat) (μ' : Emb) (w' : World) (u' : Value), t ≤ t' → Ext μ (H t) w μ' (H t') w' → ∀ i o' s, ops[i]? = some o' → i ≠ j → kd i = .late s → X i = true → t' ≤ s → Pend H μ0 w0 t' μ' w' s (pe i) := by
    intro t' μ' w' u' htt hx i o' s ho' hij hks hxi hs
    have hQ := I.pend i o' s ho' hks hxi (by omega)
    obtain ⟨c', ob', d1, d2, d3⟩ := hQ.blk
    have hfr := hx.frame (pe i).b (lt_of_heap d1) fun r p f hr hp hm => hQ.free r p f hr hm
    exact ⟨⟨c', ob', by rw [hfr.1]; exact d1, d2, d3.mono hx.agree hx.next⟩, hx.free (pe i).b (lt_of_heap d1) hQ.free, hQ.f1, hQ.f2⟩
  -- what is known behind a step that is no late one
  have after : ∀ (t' : Nat) (μ' : Emb) (w' : World) (u' : Value), t ≤ t' → (∀ s, kd j ≠ .late s) → Ext μ (H t) w μ' (H t') w' → (∀ μ2 N, (H t').next ≤ N → (H (kd j).lv).next ≤ N → Full ops kd H (upd X j) pe t' μ' μ2 (kd j).lv → VRel μ2 N (v j) u') → t' ≤ m → (∀ i s, i < ops.size → kd i = .change s → (upd X j i = true ↔ s < t')) → (∀ i s, i < ops.size → kd i = .late s → s < t' → s < t) →
      DInv ops a v kd H m μ0 w0 (upd X j) t' μ' w' (put tmps o.dst u') pe := by
    intro t' μ' w' u' htt hnl hx hv hle hcnt hlt
    refine ⟨closed_upd I.closed hed, hle, hcnt, fun i s hi hks hs => ?_, fun i s hi hks hxi hs => ?_, fun i p d hp hd hi => ?_, fun d u hau hno => ?_, I.ext.trans hx, fun i o' s ho' hks hxi hs => ?_, fun i1 i2 s1 s2 h1 h2 k1 k2 x1 x2 l1 l2 hne => ?_⟩
    · have hij : i ≠ j := fun e => by subst e; exact hnl s hks
      rw [updX i hij]; exact I.lat i s hi hks (hlt i s hi hks hs)
    · have hij : i ≠ j := fun e => by subst e; exact hnl s hks
      rw [updX i hij] at hxi
      have h8 := hlt i s hi hks hs
      have h1 := (D.late_next hi hks).1
      have h2 := D.nexts (x := s + 1) (y := t) (by omega) I.le
      rw [hx.agree _ (by omega)]; exact I.has i s hi hks hxi h8
    · by_cases hij : i = j
      · subst hij
        rw [ho] at hp; cases hp
        have hlt : d < tmps.size := by rw [hsz]; exact D.dlt i o d ho hd
        exact ⟨u', by simp [put, hd, hlt], hv⟩
      · have hxi : X i = true := by simpa [upd, hij] using hi
        obtain ⟨v', h1, h2⟩ := I.done i p d hp hd hxi
        refine ⟨v', by rw [keepd u' i p d hp hd hij]; exact h1, fun μ2 N g1 g2 hF => h2 μ2 N (Nat.le_trans hx.next g1) g2 (hF.back hx.agree hx.next fun i' s' hi' hk' hx' => ⟨?_, rfl⟩)⟩
        have : i' ≠ j := fun e => by subst e; exact hnl s' hk'
        rw [updX i' this]; exact hx'
    · obtain ⟨v', h1, h2⟩ := I.old d u hau fun i p hp hd => by
        have := hno i p hp hd
        unfold upd at this
        split at this
        · cases this
        · exact this
      exact ⟨v', by rw [keepo u' d hno]; exact h1, h2.mono hx.agree hx.next⟩
    · have hij : i ≠ j := fun e => by subst e; exact hnl s hks
      exact pend' t' μ' w' u' htt hx i o' s ho' hij hks (by rw [updX i hij] at hxi; exact hxi) hs
    · have n1 : i1 ≠ j := fun e => by subst e; exact hnl s1 k1
      have n2 : i2 ≠ j := fun e => by subst e; exact hnl s2 k2
      rw [updX i1 n1] at x1; rw [updX i2 n2] at x2
      exact I.apart i1 i2 s1 s2 h1 h2 k1 k2 x1 x2 (by omega) (by omega) hne
  have fin : ∀ {t' : Nat} {μ' : Emb} {w' : World} {tmps' : Array Value} {pe' : Nat → Ent}, DInv ops a v kd H m μ0 w0 (upd X j) t' μ' w' tmps' pe' → tmps'.size = cx.nt → Steps P (lone (frame cx.fn rd tmps defers (.inRegion ops (j :: rest) :: k)) cs w) (lone (frame cx.fn rd tmps' defers (.inRegion ops rest :: k)) cs w') →
      ∃ t' μ' tmps' w' pe', DInv ops a v kd H m μ0 w0 (upd X j) t' μ' w' tmps' pe' ∧ Sat ops kd (upd X j) t' ∧ tmps'.size = cx.nt ∧
        Steps P (lone (frame cx.fn rd tmps defers (.inRegion ops (j :: rest) :: k)) cs w) (lone (frame cx.fn rd tmps' defers (.inRegion ops rest :: k)) cs w') := by
    intro t' μ' w' tmps' pe' I' hs' hst
    obtain ⟨t2, μ2, I2, S2⟩ := saturate D (m - t') (Nat.le_refl _) I'
    exact ⟨t2, μ2, tmps', w', pe', I2, S2, hs', hst⟩
  have same : ∀ i s, i < ops.size → kd i = .change s → (∀ s', kd j ≠ .change s') → (upd X j i = true ↔ s < t) := by
    intro i s hi hks hne
    have : i ≠ j := fun e => by subst e; exact hne s hks
    simp only [upd, this, if_false]
    exact I.cnt i s hi hks
  cases hkd : kd j with
  | skip =>
    rw [hkd] at hk
    obtain ⟨hg, hv⟩ := hk
    have hw := aguard_wanted (act fun l => by rw [hkd]; simp) hg
    refine fin (after t μ w undef (Nat.le_refl _) (fun s => by rw [hkd]; simp) (Ext.refl st) (fun _ _ _ _ _ => by rw [hv]; exact .tuple .nil) I.le (fun i s hi hks => same i s hi hks fun s' e => by rw [hkd] at e; cases e) (fun _ _ _ _ h => h)) (psz _) (.one ?_)
    have := st_op_skip (P := P) (fn := cx.fn) (rd := rd) (tmps := tmps) (defers := defers) (k := k) (cs := cs) (w := w) (ops := ops) (i := j) (rest := rest) (by simp [ho, hw])
    rw [this, ho]; rfl
  | quiet =>
    rw [hkd] at hk
    obtain ⟨hg, hop⟩ := hk
    have hnp : ∀ l, kd j ≠ .pure l := fun l => by rw [hkd]; simp
    have act := act hnp
    have hw := aguard_wanted act hg
    have hmay : May ops K kd j t := by
      refine ⟨known hnp, fun i s hil hks hkn => ?_⟩
      have hx := later i (D.kno _ _ hkn)
      rcases Nat.lt_or_ge s t with h | h
      · exfalso
        cases hki : kd i with
        | skip => rw [hki] at hks; cases hks
        | quiet => rw [hki] at hks; cases hks
        | pure l => rw [hki] at hks; cases hks
        | change s' => rw [hki] at hks; cases hks; have := (I.cnt i s hil hki).2 h; rw [hx] at this; cases this
        | late s' => rw [hki] at hks; cases hks; have := I.lat i s hil hki h; rw [hx] at this; cases this
      · exact h
    obtain ⟨nx, w1, mm, u, u', h', μ', w', e1, e2, e3, ⟨rfl, rfl⟩, e6, e7⟩ := hop t I.le hmay μ (opnd tmps) w (frame cx.fn rd tmps defers (.inRegion ops (j :: rest) :: k)) cs act.opnd st
    refine fin (after t μ' w' u' (Nat.le_refl _) (fun s => by rw [hkd]; simp) e6 (fun μ2 N h1 _ hF => e7.mono hF.1 h1) I.le (fun i s hi hks => same i s hi hks fun s' e => by rw [hkd] at e; cases e) (fun _ _ _ _ h => h)) (psz _) (.head (st_op_push ho hw hdf e1 e2) ?_)
    rw [finish_region, ho] at e3
    exact e3
  | pure l =>
    rw [hkd] at hk
    obtain ⟨hg, hop⟩ := hk
    have hlm := D.lev j hjlt
    rw [hkd] at hlm
    obtain ⟨μ2, hF2⟩ := exF
    have hle2 := D.nexts I.le (Nat.le_refl m)
    have act2 := actP l hkd μ2 (H m).next hle2 (D.nexts hlm (Nat.le_refl m)) ⟨hF2.1, fun i s hi hk hx hs => hF2.2 i s hi hk hx (Nat.lt_of_lt_of_le hs hlm)⟩
    have hw := aguard_wanted act2 hg
    obtain ⟨u', g1, g2⟩ := hop μ2 (H m).next (opnd tmps) w act2.opnd
    refine fin (after t μ w u' (Nat.le_refl _) (fun s => by rw [hkd]; simp) (Ext.refl st) (fun μ3 N h1 h2 hF => ?_) I.le (fun i s hi hks => same i s hi hks fun s' e => by rw [hkd] at e; cases e) (fun _ _ _ _ h => h)) (psz _) (.head (st_op_push ho hw hdf g1 rfl) ?_)
    · rw [hkd] at h2 hF
      refine g2 μ3 N (actP l hkd μ3 N h1 h2 (hF.back (Agree.refl _ _) (Nat.le_refl _) fun i' s' hi' hk' hx' => ⟨?_, rfl⟩)).opnd
      simp only [upd]; split
      · rfl
      · exact hx'
    · rw [finish_region, ho]
      exact .refl _ _
  | change s =>
    rw [hkd] at hk
    obtain ⟨hg, hop⟩ := hk
    have act := act fun l => by rw [hkd]; simp
    have hw := aguard_wanted act hg
    have hsm : s < m := D.lts j s hjlt (by rw [hkd]; rfl)
    have hst : s = t := by
      have hns : ¬ s < t := fun h => by rw [(I.cnt j s hjlt hkd).2 h] at hj; cases hj
      rcases Nat.lt_or_ge t s with h | h
      · have := upto (s - 1) (fun i s' hi hs' hle => (D.prev j s hjlt hkd i s' hi hs' (by omega)) X I.closed hed) (by omega)
        omega
      · omega
    subst hst
    obtain ⟨nx, w1, mm, u, u', h', μ', w', e1, e2, e3, ⟨rfl, rfl⟩, e6, e7⟩ := hop μ (opnd tmps) w (frame cx.fn rd tmps defers (.inRegion ops (j :: rest) :: k)) cs act.opnd st
    refine fin (after (s + 1) μ' w' u' (by omega) (fun s => by rw [hkd]; simp) e6 (fun μ2 N h1 _ hF => e7.mono hF.1 h1) (by omega) (fun i s' hi hks => by
      by_cases hij : i = j
      · subst hij; rw [hkd] at hks; cases hks; simp [upd]
      · simp only [upd, hij, if_false]
        rw [I.cnt i s' hi hks]
        constructor
        · intro h; omega
        · intro h
          rcases Nat.lt_or_ge s' s with h' | h'
          · exact h'
          · exfalso; have : s' = s := by omega
            subst this; exact hij (D.uniq i j s' hi hjlt (by rw [hks]; rfl) (by rw [hkd]; rfl))) (fun i s' hi hks hs => by
      rcases Nat.lt_or_ge s' s with h' | h'
      · exact h'
      · exfalso; have : s' = s := by omega
        subst this
        have := D.uniq i j s' hi hjlt (by rw [hks]; rfl) (by rw [hkd]; rfl)
        subst this; rw [hkd] at hks; cases hks)) (psz _) (.head (st_op_push ho hw hdf e1 e2) ?_)
    rw [finish_region, ho] at e3
    exact e3
  | late s =>
    rw [hkd] at hk
    obtain ⟨hg, rv, ob, hnv, hvj, hH, hown, hbo, hop⟩ := hk
    have act := act fun l => by rw [hkd]; simp
    have hw := aguard_wanted act hg
    have hts : t ≤ s := by
      rcases Nat.lt_or_ge s t with h | h
      · have := I.lat j s hjlt hkd h; rw [hj] at this; cases this
      · exact h
    obtain ⟨nx, w1, mm, u, u', h', μ', w', e1, e2, e3, ⟨rfl, rfl⟩, e6, e7⟩ := hop (H t) μ (opnd tmps) w (frame cx.fn rd tmps defers (.inRegion ops (j :: rest) :: k)) cs act.opnd st
    have hbo' : BO (H t).next ob := hbo μ _ _ act.opnd
    have hgn : ((H t).new ob).get (H t).next = some ob := by rw [AHeap.get_new, if_pos rfl]
    obtain ⟨_, e, c, g1, g2, g3⟩ := e6.st.live (H t).next ob hgn
    have xo : Ext μ (H t) w μ (H t) w' := Ext.old st e6 rfl fun r o hr => ⟨(st.live r o hr).1, by rw [AHeap.get_new, if_neg (by have := (st.live r o hr).1; omega)]; exact hr, .inl hr⟩
    have hor : ORel μ (H t).next e c ob := (g3.narrow hbo').mono (fun q hq => (e6.agree q hq).symm) (Nat.le_refl _)
    have hfree : ∀ r p f, (H t).get r = some p → μ r = some f → f.b ≠ e.b := by
      intro r p f hr hm hb
      have hlt := (st.live r p hr).1
      have := e6.st.apart (H t).next r ob p e f hgn hown (by rw [AHeap.get_new, if_neg (by omega)]; exact hr) g1 (by rw [e6.agree r hlt]; exact hm) hb.symm
      omega
    refine fin (pe' := fun q => if q = j then e else pe q) (t' := t) (μ' := μ) (w' := w') (tmps' := put tmps o.dst u') ?_ (psz _) (.head (st_op_push ho hw hdf e1 e2) ?_)
    · refine ⟨closed_upd I.closed hed, I.le, fun i s' hi hks => same i s' hi hks (fun s' e => by rw [hkd] at e; cases e), fun i s' hi hks hs => ?_, fun i s' hi hks hxi hs => ?_, fun i p d hp hd hi => ?_, fun d u hau hno => ?_, I.ext.trans xo, fun i o' s' ho' hks hxi hs => ?_, fun i1 i2 s1 s2 h1 h2 k1 k2 x1 x2 l1 l2 hne => ?_⟩
      · have hij : i ≠ j := fun e => by subst e; rw [hkd] at hks; cases hks; omega
        rw [updX i hij]; exact I.lat i s' hi hks hs
      · have hij : i ≠ j := fun e => by subst e; rw [hkd] at hks; cases hks; omega
        rw [updX i hij] at hxi
        rw [if_neg hij]; exact I.has i s' hi hks hxi hs
      · by_cases hij : i = j
        · subst hij
          rw [ho] at hp; cases hp
          have hlt : d < tmps.size := by rw [hsz]; exact D.dlt i o d ho hd
          refine ⟨u', by simp [put, hd, hlt], fun μ2 N g1' g2' hF => ?_⟩
          have h5 := hF.2 i s hjlt hkd (by simp [upd]) (by rw [hkd]; exact Nat.lt_succ_self s)
          simp only [if_true] at h5
          have h6 := (D.late_next hjlt hkd).1
          rw [hkd] at g2'
          have h7 : Emb.upd μ2 (H s).next e = μ2 := by
            funext r
            by_cases hr : (H s).next = r
            · subst hr; rw [Emb.upd_same]; exact h5.symm
            · rw [Emb.upd_ne _ _ (Ne.symm hr)]
          have h8 := hnv.move (μ2 := μ2) (n := (H s).next) e7 g1
          rw [h7] at h8
          rw [hvj]
          exact h8.mono (Agree.refl _ _) (by show (H s).next + 1 ≤ N; have : (H (s + 1)).next ≤ N := g2'; omega)
        · obtain ⟨v', h1, h2⟩ := I.done i p d hp hd (by rw [updX i hij] at hi; exact hi)
          refine ⟨v', by rw [keepd u' i p d hp hd hij]; exact h1, fun μ2 N g1' g2' hF => h2 μ2 N g1' g2' (hF.back (Agree.refl _ _) (Nat.le_refl _) fun i' s' hi' hk' hx' => ?_)⟩
          have : i' ≠ j := fun e => by subst e; rw [hj] at hx'; cases hx'
          exact ⟨by rw [updX i' this]; exact hx', if_neg this⟩
      · obtain ⟨v', h1, h2⟩ := I.old d u hau fun i p hp hd => by
          have := hno i p hp hd
          unfold upd at this
          split at this
          · cases this
          · exact this
        exact ⟨v', by rw [keepo u' d hno]; exact h1, h2⟩
      · by_cases hij : i = j
        · subst hij
          rw [ho] at ho'; cases ho'
          rw [hkd] at hks; cases hks
          rw [if_pos rfl]
          refine ⟨⟨c, ob, g2, hH, hor⟩, hfree, fun b hb hf => ?_, fun b hb hf => ?_⟩
          · have y := (I.ext.frame b hb hf).2
            exact (e6.frame b (Nat.lt_of_lt_of_le hb I.ext.size) y).2 (H t).next ob e hgn hown g1
          · exact e6.free b (Nat.lt_of_lt_of_le hb I.ext.size) (I.ext.free b hb hf) (H t).next ob e hgn g1
        · rw [if_neg hij]
          exact pend' t μ w' u' (Nat.le_refl _) xo i o' s' ho' hij hks (by rw [updX i hij] at hxi; exact hxi) hs
      · have key : ∀ i s', i < ops.size → i ≠ j → kd i = .late s' → upd X j i = true → t ≤ s' → (pe i).b ≠ e.b := by
          intro i s' hil hij hks hxi hs
          rw [updX i hij] at hxi
          obtain ⟨o', ho'⟩ : ∃ o', ops[i]? = some o' := ⟨_, Array.getElem?_eq_getElem hil⟩
          have hQ := I.pend i o' s' ho' hks hxi hs
          obtain ⟨c', ob', d1, d2, d3⟩ := hQ.blk
          exact fun h => (e6.free (pe i).b (lt_of_heap d1) hQ.free (H t).next ob e hgn g1) h.symm
        show (if i1 = j then e else pe i1).b ≠ (if i2 = j then e else pe i2).b
        by_cases n1 : i1 = j
        · have n2 : i2 ≠ j := fun e => hne (n1.trans e.symm)
          rw [if_pos n1, if_neg n2]; exact fun h => key i2 s2 h2 n2 k2 x2 l2 h.symm
        · by_cases n2 : i2 = j
          · rw [if_pos n2, if_neg n1]; exact key i1 s1 h1 n1 k1 x1 l1
          · rw [if_neg n1, if_neg n2]
            exact I.apart i1 i2 s1 s2 h1 h2 k1 k2 (by rw [updX i1 n1] at x1; exact x1) (by rw [updX i2 n2] at x2; exact x2) l1 l2 hne
    · rw [finish_region, ho] at e3
      exact e3
theorem ready_eq (listed : Array Bool) : ((List.range ops.size).filter fun i => !listed.getD i true && ((ops[i]?).map (·.after.all fun e => !Region.binds .any e || listed.getD e.on false)).getD false) = Region.ready .any ops listed := rfl
theorem drawn_all (D : DRun P cx ops K a v kd H m) : ∀ (fuel tape : Nat) (listed : Array Bool) (t : Nat) (μ : Emb) (tmps : Array Value) (defers : List Deferred) (rd : RK) (w : World) (pe : Nat → Ent) (k : List Item) (cs : List Frame),
    listed.size = ops.size → (listed.toList.countP (fun b => !b)) = fuel → DInv ops a v kd H m μ0 w0 (fun i => listed.getD i false) t μ w tmps pe → Sat ops kd (fun i => listed.getD i false) t → tmps.size = cx.nt →
    ∃ μ' tmps' w' pe', DInv ops a v kd H m μ0 w0 (fun i => decide (i < ops.size)) m μ' w' tmps' pe' ∧ tmps'.size = cx.nt ∧
      Steps P (lone (frame cx.fn rd tmps defers (.inRegion ops (Region.linearise.go .any ops fuel tape listed []) :: k)) cs w) (lone (frame cx.fn rd tmps' defers k) cs w') := by
  intro fuel
  induction fuel with
  | zero =>
    intro tape listed t μ tmps defers rd w pe k cs hsize hcount I S hsz
    have hall : ∀ i, i < ops.size → listed.getD i false = true := by
      intro i hi
      have h0 : i < listed.size := by omega
      have := List.countP_eq_zero.1 hcount (listed[i]) (by simp)
      simp only [Array.getD_eq_getD_getElem?, Array.getElem?_eq_getElem h0, Option.getD_some]
      simpa using this
    have hX : (fun i => listed.getD i false) = fun i => decide (i < ops.size) := by
      funext i
      by_cases hi : i < ops.size
      · simp [hall i hi, hi]
      · have : ¬ i < listed.size := by omega
        simp [Array.getD_eq_getD_getElem?, Array.getElem?_eq_none (Nat.le_of_not_lt this), hi]
    have htm : t = m := by
      rcases Nat.lt_or_ge t m with h | h
      · obtain ⟨i, hi, hk⟩ := D.all t h
        exfalso
        cases hkd : kd i with
        | skip => rw [hkd] at hk; cases hk
        | quiet => rw [hkd] at hk; cases hk
        | pure l => rw [hkd] at hk; cases hk
        | change s => rw [hkd] at hk; cases hk; have := (I.cnt i t hi hkd).1 (hall i hi); omega
        | late s => rw [hkd] at hk; cases hk; have := S i hi hkd; simp only [hall i hi] at this; cases this
      · have := I.le; omega
    subst htm
    rw [hX] at I
    refine ⟨μ, tmps, w, pe, I, hsz, .one ?_⟩
    simp only [Region.linearise.go, List.reverse_nil]
    exact st_region_end
  | succ fuel ih =>
    intro tape listed t μ tmps defers rd w pe k cs hsize hcount I S hsz
    -- somebody is ready: the first that has not been listed
    have hsome : ∃ i, i ∈ Region.ready .any ops listed := by
      have hex : ∃ i, i < ops.size ∧ listed.getD i true = false := by
        have : 0 < listed.toList.countP (fun b => !b) := by omega
        obtain ⟨b, hb1, hb2⟩ := List.countP_pos_iff.1 this
        obtain ⟨i, hi⟩ := List.getElem?_of_mem hb1
        have hlt := (List.getElem?_eq_some_iff.1 hi).1
        simp only [Array.length_toList] at hlt
        rw [Array.getElem?_toList] at hi
        exact ⟨i, by omega, by simp only [Array.getD_eq_getD_getElem?, hi, Option.getD_some]; simpa using hb2⟩
      have hmin : ∀ q, (∃ i, i < q ∧ i < ops.size ∧ listed.getD i true = false) → ∃ i, i < ops.size ∧ listed.getD i true = false ∧ ∀ i', i' < i → listed.getD i' true = true := by
        intro q
        induction q with
        | zero => rintro ⟨i, hi, _⟩; omega
        | succ q ihq =>
          rintro ⟨i, hi, hio, hil⟩
          by_cases hex2 : ∃ i', i' < q ∧ i' < ops.size ∧ listed.getD i' true = false
          · exact ihq hex2
          · refine ⟨i, hio, hil, fun i' hi' => ?_⟩
            cases hx : listed.getD i' true with
            | true => rfl
            | false => exact (hex2 ⟨i', by omega, by omega, hx⟩).elim
      obtain ⟨i0, hi0, hl0⟩ := hex
      obtain ⟨i, hio, hil, hbelow⟩ := hmin (i0 + 1) ⟨i0, by omega, hi0, hl0⟩
      obtain ⟨o, ho⟩ : ∃ o, ops[i]? = some o := ⟨_, Array.getElem?_eq_getElem hio⟩
      refine ⟨i, mem_ready.2 ⟨hil, o, ho, fun e he hb => ?_⟩⟩
      have hlt := D.back i o ho e he hb
      have := hbelow e.on hlt
      have hls : e.on < listed.size := by omega
      simp only [Array.getD_eq_getD_getElem?, Array.getElem?_eq_getElem hls, Option.getD_some] at this ⊢
      exact this
    -- the one that is taken
    have hgo : ∃ i tape', i ∈ Region.ready .any ops listed ∧ Region.linearise.go .any ops (fuel + 1) tape listed [] = i :: Region.linearise.go .any ops fuel tape' (listed.setIfInBounds i true) [] := by
      simp only [Region.linearise.go, ready_eq]
      have hlen : 0 < (Region.ready .any ops listed).length := by
        obtain ⟨i, hi⟩ := hsome
        exact List.length_pos_of_mem hi
      have hmod : tape % (Region.ready .any ops listed).length < (Region.ready .any ops listed).length := Nat.mod_lt _ hlen
      rw [List.getElem?_eq_getElem hmod]
      refine ⟨_, tape / (Region.ready .any ops listed).length, List.getElem_mem hmod, ?_⟩
      simp only
      rw [linearise_go_acc .any ops fuel _ _ [_]]
      rfl
    obtain ⟨j, tape', hjr, hgo⟩ := hgo
    obtain ⟨hjl, o, ho, hje⟩ := mem_ready.1 hjr
    have hjlt : j < ops.size := (Array.getElem?_eq_some_iff.1 ho).1
    have hjls : j < listed.size := by omega
    have hjf : listed[j] = false := by
      simpa only [Array.getD_eq_getD_getElem?, Array.getElem?_eq_getElem hjls, Option.getD_some] using hjl
    have hj0 : listed.getD j false = false := by simp only [Array.getD_eq_getD_getElem?, Array.getElem?_eq_getElem hjls, Option.getD_some, hjf]
    rw [hgo]
    obtain ⟨t', μ', tmps', w', pe', I', S', s1, s6⟩ := drawn_step D (rest := Region.linearise.go .any ops fuel tape' (listed.setIfInBounds j true) []) (k := k) (cs := cs) (defers := defers) (rd := rd) I S hsz ho hj0
      (fun p hp e he hb => by rw [ho] at hp; cases hp; exact hje e he hb)
    have hX : upd (fun i => listed.getD i false) j = fun i => (listed.setIfInBounds j true).getD i false := by
      funext i
      simp only [upd]
      by_cases hij : i = j
      · subst hij; simp [Array.getD_eq_getD_getElem?, hjls]
      · simp only [hij, if_false, Array.getD_eq_getD_getElem?]
        rw [Array.getElem?_setIfInBounds_ne (Ne.symm hij)]
    rw [hX] at I' S'
    have hcount' : ((listed.setIfInBounds j true).toList.countP fun b => !b) = fuel := by
      rw [Array.toList_setIfInBounds]
      have hjl' : j < listed.toList.length := by simpa using hjls
      rw [List.countP_set hjl']
      have : listed.toList[j] = false := by simpa using hjf
      simp [this, hcount]
    obtain ⟨μ2, tmps2, w2, pe2, I2, r1, r6⟩ := ih tape' (listed.setIfInBounds j true) t' μ' tmps' defers rd w' pe' k cs (by simpa using hsize) hcount' I' S' s1
    exact ⟨μ2, tmps2, w2, pe2, I2, r1, s6.trans r6⟩
theorem CWp.drawn (hmix : P.follows .mixedOrders = true) (D : DRun P cx ops K a v kd H m) {id : Nat} {aF : Tr Value} {Q : AExit → Tr Value → AHeap → Prop}
    (hF : ∀ d u, aF.get d = some u → (∃ i p, ops[i]? = some p ∧ p.dst = some d ∧ u = v i) ∨ (a.get d = some u ∧ ∀ (i : Nat) (p : Oper), ops[i]? = some p → p.dst ≠ some d)) (hQ : Q .normal aF (H m)) : CWp P cx (.region id ops true) a (H 0) Q := by
  intro μ base tmps defers rd w k cs p
  have hsched : ∀ t, Region.schedule (P.follows .mixedOrders) ops t = Region.linearise.go .any ops ops.size t (Array.replicate ops.size false) [] := fun t => by simp [Region.schedule, hmix, Region.linearise]
  have hfalse : (fun i => (Array.replicate ops.size false).getD i false) = fun _ => false := by
    funext i
    simp only [Array.getD_eq_getD_getElem?, Array.getElem?_replicate]
    split <;> rfl
  have x0 := Ext.same (w' := { w with drawn := w.drawn + 1 }) p.st rfl rfl rfl
  have I : DInv ops a v kd H m μ { w with drawn := w.drawn + 1 } (fun i => (Array.replicate ops.size false).getD i false) 0 μ { w with drawn := w.drawn + 1 } tmps (fun _ => ⟨0, 0, 0, 0⟩) := by
    rw [hfalse]
    exact ⟨fun j hj => by simp at hj, Nat.zero_le _, fun i s _ _ => by simp, fun i s _ _ h => by omega, fun i s _ _ hx => by simp at hx, fun i o d _ _ hx => by simp at hx, fun d u hu _ => p.act d u hu, Ext.refl x0.st, fun i o s _ _ hx => by simp at hx, fun i i' s s' _ _ _ _ hx => by simp at hx⟩
  have S : Sat ops kd (fun i => (Array.replicate ops.size false).getD i false) 0 := by rw [hfalse]; exact fun _ _ _ => rfl
  obtain ⟨μ', tmps', w', pe', I', r1, r6⟩ := drawn_all D ops.size (w.tape w.drawn (.order cx.fn id)) (Array.replicate ops.size false) 0 μ tmps defers rd { w with drawn := w.drawn + 1 } _ k cs (by simp) (by simp [List.countP_replicate])
    I S p.size
  have r5 := x0.trans I'.ext
  have p' := p.ext r5
  refine ⟨.normal, aF, H m, μ', tmps', defers, w', hQ, ⟨fun d u hu => ?_, r1, p'.rdr, p'.dok, p.dno, p.dge, p'.bsz, p'.st⟩, r5, .head st_region_draw ?_⟩
  · rcases hF d u hu with ⟨i, o, ho, hd, rfl⟩ | ⟨hau, hno⟩
    · have hi := (Array.getElem?_eq_some_iff.1 ho).1
      exact I'.at_ D ho hd (by simpa using hi) (D.lev i hi)
    · exact I'.old d u hau fun i o ho hd => (hno i o ho hd).elim
  · rw [hsched]; exact r6
end
end Go.Ab.Nx
namespace Go.Ab.Nx
open Go.Ab
set_option linter.unusedSimpArgs false
set_option linter.unusedVariables false
section ops
variable {P : Program} {T : Tr TI}
noncomputable def isPure : Op → Bool
  | .move _ | .assign _ | .build .. | .makeInterface .. | .makeFunc .. | .fieldAddr .. | .field .. | .indexAddr .. | .index .. | .extract .. => true
  | _ => false
theorem pure_run {o : Oper} {ρ : Operand → Option Value} {v : Value} (S : (Operand → Value) → Sem Value) (he : ∀ ρ', execOp ρ' o = do pure (.value (← S ρ'))) (hg : ∀ (μ : Emb) (n : Nat) (ρ' : Operand → Value) (w : World), OpRel μ n ρ ρ' → ∃ v', (S ρ').run P w = .ok v' w ∧ VRel μ n v v') : PureOp P o ρ v := by
  intro μ n ρ' w hρ
  obtain ⟨u', h1, _⟩ := hg μ n ρ' w hρ
  refine ⟨u', by rw [he]; simp only [Sem.run_bind, h1, Result.andThen_ok, Sem.run_pure], fun μ2 n2 hρ2 => ?_⟩
  obtain ⟨u2, k1, k2⟩ := hg μ2 n2 ρ' w hρ2
  rw [h1] at k1
  cases k1
  exact k2
theorem aop_pure (ok : TyOK P T) {o : Oper} {ρ : Operand → Option Value} {h h' : AHeap} {v : Value} (hm : isPure o.op = true) (ha : aop P T o ρ h = some (v, h')) : PureOp P o ρ v := by
  obtain ⟨dst, op, ty, pos, after, guard⟩ := o
  cases op <;> simp only [isPure] at hm <;> first | (cases hm; done) | skip
  case move x =>
    obtain ⟨h1, h2⟩ := keep_some ha
    exact fun μ n ρ' w hρ => ⟨ρ' x, rfl, fun μ2 n2 hρ2 => hρ2 x v h1⟩
  case assign x =>
    obtain ⟨h1, h2⟩ := keep_some ha
    exact fun μ n ρ' w hρ => ⟨ρ' x, rfl, fun μ2 n2 hρ2 => hρ2 x v h1⟩
  case build t parts =>
    simp only [aop] at ha
    split at ha
    · rename_i ps hp
      obtain ⟨h1, rfl⟩ := keep_some ha
      refine pure_run (fun ρ' => Instr.build t (parts.map fun (i, x) => (i, ρ' x))) (fun _ => rfl) fun μ n ρ' w hρ => ?_
      have := aparts_rel hρ hp
      exact build_good ok (by simpa using this) h1 w
    · cases ha
  case makeInterface t x =>
    simp only [aop] at ha
    split at ha
    · rename_i u ti hu ht
      cases hi : isIface ti.und
      · rw [hi, cond_false] at ha
        simp only [Option.some.injEq, Prod.mk.injEq] at ha
        obtain ⟨rfl, rfl⟩ := ha
        refine pure_run (fun ρ' => Instr.makeInterface t (ρ' x)) (fun _ => rfl) fun μ n ρ' w hρ => ⟨.iface t (ρ' x), ?_, .iface (hρ x u hu)⟩
        simp only [Instr.makeInterface, Sem.run_bind, run_underlying ok ht, Result.andThen_ok]
        split
        · rename_i e; rw [e] at hi; cases hi
        · rfl
      · rw [hi, cond_true] at ha; cases ha
    · cases ha
  case makeFunc fn first cap =>
    simp only [aop] at ha
    split at ha
    · rename_i a b h1 h2
      cases hy : noYield fn
      · rw [hy, cond_false] at ha; cases ha
      · rw [hy, cond_true] at ha
        simp only [Option.some.injEq, Prod.mk.injEq] at ha
        obtain ⟨rfl, rfl⟩ := ha
        refine fun μ n ρ' w hρ => ⟨.func fn (first.map ρ') (cap.map ρ'), rfl, fun μ2 n2 hρ2 => .func (fun l e => by subst e; cases hy) ?_ ?_⟩
        · simpa using aopnds_rel hρ2 h1
        · simpa using aopnds_rel hρ2 h2
    · cases ha
  case fieldAddr s x f =>
    simp only [aop] at ha
    split at ha
    · rename_i u hu
      obtain ⟨g1, rfl⟩ := keep_some ha
      exact pure_run (fun ρ' => Instr.fieldAt s (ρ' x) f) (fun _ => rfl) fun μ n ρ' w hρ => fieldAddr_good ok (hρ x u hu) g1 w
    · cases ha
  case field t x f =>
    simp only [aop] at ha
    split at ha
    · rename_i u hu
      obtain ⟨g1, rfl⟩ := keep_some ha
      exact pure_run (fun ρ' => Instr.field t (ρ' x) f) (fun _ => rfl) fun μ n ρ' w hρ => field_good ok (hρ x u hu) g1 w
    · cases ha
  case indexAddr t x i =>
    simp only [aop] at ha
    split at ha
    · rename_i u j hu hj
      obtain ⟨g1, rfl⟩ := keep_some ha
      exact pure_run (fun ρ' => Instr.indexAt t (ρ' x) (ρ' i)) (fun _ => rfl) fun μ n ρ' w hρ => indexAddr_good ok (hρ x u hu) (hρ i j hj) g1 w
    · cases ha
  case index t x i =>
    simp only [aop] at ha
    split at ha
    · rename_i u j hu hj
      obtain ⟨g1, rfl⟩ := keep_some ha
      exact pure_run (fun ρ' => Instr.index t (ρ' x) (ρ' i)) (fun _ => rfl) fun μ n ρ' w hρ => index_good ok (hρ x u hu) (hρ i j hj) g1 w
    · cases ha
  case extract x i =>
    simp only [aop] at ha
    split at ha
    · rename_i u hu
      obtain ⟨g1, rfl⟩ := keep_some ha
      exact pure_run (fun ρ' => Instr.extract (ρ' x) i) (fun _ => rfl) fun μ n ρ' w hρ => extract_good (hρ x u hu) g1 w
    · cases ha
end ops
structure DSt where
  dn : Nat
  a : Tr Value
  W : Tr Nat
  R : Tr Nat
  hist : List (Nat × Bool × AHeap)
  lvs : List (Nat × List (Nat × Bool × AHeap))
  reads : List (Nat × Oper × Tr Value × Value)
  h : AHeap
noncomputable def dMasks : List Oper → Nat → Tr Nat → Option (Tr Nat)
  | [], _, M => some M
  | o :: os, j, M => match dMask M j o.after.toList 0 with
    | some mk => dMasks os (j + 1) (M.put j (some mk))
    | none => none
noncomputable def dFin (σ : DSt) (j : Nat) (o : Oper) (nd : List Tmp) (v : Value) (hist : List (Nat × Bool × AHeap)) (lvs : List (Nat × List (Nat × Bool × AHeap))) (reads : List (Nat × Oper × Tr Value × Value)) (h : AHeap) : DSt :=
  { dn := Nat.lor σ.dn (Nat.shiftLeft 1 j), a := (match o.dst with | some d => σ.a.put d (some v) | none => σ.a), W := (match o.dst with | some d => σ.W.put d (some j) | none => σ.W), R := dReads σ.W j nd σ.R, hist, lvs, reads, h }
noncomputable def dPures (mk : Nat) : List (Nat × List (Nat × Bool × AHeap)) → Bool
  | [] => true
  | (i, hs) :: r => (bif Nat.testBit mk i then dAll mk hs else true) && dPures mk r
noncomputable def dStep (P : Program) (T : Tr TI) (op : Oper → (Operand → Option Value) → AHeap → Option (Value × AHeap)) (ops : Array Oper) (nt : Nat) (a0 : Tr Value) (M : Tr Nat) (σ : DSt) (j : Nat) (o : Oper) : Option DSt :=
  match M.get j with
  | none => none
  | some mk => bif Nat.beq (Nat.lor mk σ.dn) σ.dn && !Nat.testBit σ.dn j then match dAct a0 σ.a σ.W mk (needs ops o) .leaf with
    | none => none
    | some pa => bif dDst nt σ.W (dReads σ.W j (needs ops o) σ.R) j mk o.dst && !isDefer o.op then
      bif dBelow mk σ.hist && dPures mk σ.lvs then
        match aguard ops pa o with
        | none => none
        | some false => some (dFin σ j o (needs ops o) (.tuple #[]) σ.hist σ.lvs σ.reads σ.h)
        | some true => match memKind T o.op with
          | 0 => match aop P T o (aopnd pa) σ.h with
            | some (v, _) => some (dFin σ j o (needs ops o) v σ.hist σ.lvs σ.reads σ.h)
            | none => none
          | 1 => match aop P T o (aopnd pa) σ.h with
            | some (v, _) => bif dHist P T o pa v mk σ.hist then some (dFin σ j o (needs ops o) v σ.hist σ.lvs ((j, o, pa, v) :: σ.reads) σ.h) else none
            | none => none
          | _ => bif dAll mk σ.hist then match op o (aopnd pa) σ.h with
            | some (v, h') => bif σ.reads.all (fun x => Nat.testBit mk x.1 || sameAt P T x.2.1 x.2.2.1 x.2.2.2 h') && Nat.ble σ.h.next h'.next then some (dFin σ j o (needs ops o) v ((j, false, σ.h) :: σ.hist) σ.lvs σ.reads h') else none
            | none => none
            else bif isNew o.op then match aop P T o (aopnd pa) σ.h with
              | some (v, h') => bif σ.reads.all (fun x => Nat.testBit mk x.1 || sameAt P T x.2.1 x.2.2.1 x.2.2.2 h') && Nat.ble σ.h.next h'.next then some (dFin σ j o (needs ops o) v ((j, true, σ.h) :: σ.hist) σ.lvs σ.reads h') else none
              | none => none
            else none
      else match aguard ops pa o with
        | some true => bif isPure o.op then match aop P T o (aopnd pa) σ.h with
            | some (v, _) => some (dFin σ j o (needs ops o) v σ.hist ((j, σ.hist) :: σ.lvs) σ.reads σ.h)
            | none => none
          else none
        | _ => none
      else none
    else none
noncomputable def dRun (P : Program) (T : Tr TI) (op : Oper → (Operand → Option Value) → AHeap → Option (Value × AHeap)) (ops : Array Oper) (nt : Nat) (a0 : Tr Value) (M : Tr Nat) : List (Nat × Oper) → DSt → Option DSt
  | [], σ => some σ
  | (j, o) :: os, σ => match dStep P T op ops nt a0 M σ j o with
    | some σ' => dRun P T op ops nt a0 M os σ'
    | none => none
noncomputable def nums : List Oper → Nat → List (Nat × Oper)
  | [], _ => []
  | o :: os, j => (j, o) :: nums os (j + 1)
noncomputable def lateOrd (T : Tr TI) (M : Tr Nat) (all : List (Nat × Oper)) : List (Nat × Oper) → Nat → List (Nat × Oper) → List (Nat × Oper)
  | [], dn, acc => acc.reverse ++ all.filter (fun x => !Nat.testBit dn x.1)
  | (j, o) :: os, dn, acc => bif (Nat.beq (memKind T o.op) 2 && !isNew o.op) && !Nat.testBit dn j then
      let mk := (M.get j).getD 0
      let want := all.filter (fun x => Nat.testBit mk x.1 && !Nat.testBit dn x.1)
      lateOrd T M all os (Nat.lor dn (Nat.lor mk (Nat.shiftLeft 1 j))) ((j, o) :: (want.reverse ++ acc))
    else lateOrd T M all os dn acc
noncomputable def evDrawn (P : Program) (T : Tr TI) (op : Oper → (Operand → Option Value) → AHeap → Option (Value × AHeap)) (ops : Array Oper) (nt : Nat) (a : Tr Value) (h : AHeap) : Option (Tr Value × AHeap) :=
  match dMasks ops.toList 0 .leaf with
  | none => none
  | some M => match dRun P T op ops nt a M (nums ops.toList 0) ⟨0, a, .leaf, .leaf, [], [], [], h⟩ with
    | some σ => bif Nat.beq σ.dn (Nat.sub (Nat.shiftLeft 1 ops.size) 1) then some (σ.a, σ.h) else none
    | none => match dRun P T op ops nt a M (lateOrd T M (nums ops.toList 0) (nums ops.toList 0) 0 []) ⟨0, a, .leaf, .leaf, [], [], [], h⟩ with
      | some σ => bif Nat.beq σ.dn (Nat.sub (Nat.shiftLeft 1 ops.size) 1) then some (σ.a, σ.h) else none
      | none => none
end Go.Ab.Nx
namespace Go.Ab.Nx
open Go.Ab
set_option linter.unusedSimpArgs false
set_option linter.unusedVariables false
section
variable {P : Program} {T : Tr TI} {cx : Cx} {ops : Array Oper} {a0 : Tr Value} {h0 : AHeap}
structure MOK (ops : Array Oper) (M : Tr Nat) : Prop where
  mask : ∀ j mk, M.get j = some mk → ∀ p, Nat.testBit mk p = true → Known ops p j ∧ p < j
  back : ∀ (j : Nat) (o : Oper), ops[j]? = some o → ∀ e ∈ o.after, Region.binds .any e = true → e.on < j
theorem dMasks_ok : ∀ {os : List Oper} {j : Nat} {M M' : Tr Nat}, ops.toList.drop j = os → dMasks os j M = some M' → (∀ i mk, M.get i = some mk → ∀ p, Nat.testBit mk p = true → Known ops p i ∧ p < i) → (∀ (i : Nat) (o : Oper), i < j → ops[i]? = some o → ∀ e ∈ o.after, Region.binds .any e = true → e.on < i) → MOK ops M'
  | [], j, M, M', hd, h, hM, hb => by
    simp only [dMasks, Option.some.injEq] at h
    subst h
    refine ⟨hM, fun i o ho => hb i o ?_ ho⟩
    have h1 := (Array.getElem?_eq_some_iff.1 ho).1
    have h2 := List.drop_eq_nil_iff.1 hd
    simp at h2; omega
  | o :: os, j, M, M', hd, h, hM, hb => by
    simp only [dMasks] at h
    split at h
    · rename_i mk hmk
      have ho : ops[j]? = some o := by
        rw [← Array.getElem?_toList]
        have := congrArg (fun l : List Oper => l[0]?) hd
        simpa using this
      obtain ⟨km, kb⟩ := dMask_known ho hM (fun e he => by simpa using he) hmk (fun p hp => by simp at hp)
      refine dMasks_ok (j := j + 1) (by rw [← List.drop_drop, hd]; rfl) h (fun i mk' hi p hp => ?_) fun i o' hi ho' e he hbi => ?_
      · rw [Tr.get_put] at hi
        split at hi
        · rename_i e; subst e; cases hi; exact km p hp
        · exact hM i mk' hi p hp
      · by_cases e2 : i = j
        · subst e2; rw [ho] at ho'; cases ho'; exact kb e (by simpa using he) hbi
        · exact hb i o' (by omega) ho' e he hbi
    · cases h
theorem bit_add (dn j i : Nat) : Nat.testBit (Nat.lor dn (Nat.shiftLeft 1 j)) i = (Nat.testBit dn i || decide (i = j)) := by rw [testBit_lor', testBit_one]
theorem bit_sub {mk dn : Nat} (h : Nat.beq (Nat.lor mk dn) dn = true) {p : Nat} (hp : Nat.testBit mk p = true) : Nat.testBit dn p = true := by
  rw [← Nat.eq_of_beq_eq_true h, testBit_lor', hp]; rfl
inductive HistOK (size : Nat) (kd : Nat → Kind) (H : Nat → AHeap) : List (Nat × Bool × AHeap) → Nat → Prop
  | nil : HistOK size kd H [] 0
  | cons {c m : Nat} {l : Bool} {r : List (Nat × Bool × AHeap)} (hc : c < size) (hk : kd c = bif l then .late m else .change m) (t : HistOK size kd H r m) : HistOK size kd H ((c, l, H m) :: r) (m + 1)
theorem bif_no (l : Bool) (m : Nat) : (bif l then Kind.late m else Kind.change m).no = some m := by cases l <;> rfl
noncomputable def KB (M : Tr Nat) (i j : Nat) : Prop := ∃ mk, M.get j = some mk ∧ Nat.testBit mk i = true
theorem HistOK.mono {size n : Nat} {kd : Nat → Kind} {H H' : Nat → AHeap} (kn : Kind) (hk : kd n = .skip) : ∀ {l : List (Nat × Bool × AHeap)} {m : Nat}, HistOK size kd H l m → (∀ t, t < m → H' t = H t) → HistOK size (ups kd n kn) H' l m
  | _, _, .nil, _ => .nil
  | _, _, .cons (c := c) (m := m) (l := l) hc hk' t, hh => by
    have hne : c ≠ n := fun e => by
      subst e; rw [hk] at hk'
      cases l <;> cases hk'
    rw [← hh m (by omega)]
    exact .cons hc (by rw [ups_ne _ _ hne]; exact hk') (t.mono kn hk fun s hs => hh s (by omega))
noncomputable def KOne (P : Program) (T : Tr TI) (ops : Array Oper) (M : Tr Nat) (kd : Nat → Kind) (H : Nat → AHeap) (m : Nat) (reads : List (Nat × Oper × Tr Value × Value)) (v : Value) (pa : Tr Value) (j : Nat) (o : Oper) : Prop :=
  match kd j with
  | .skip => aguard ops pa o = some false ∧ v = .tuple #[]
  | .quiet => aguard ops pa o = some true ∧ (∀ t, t ≤ m → May ops (KB M) kd j t → ∃ h', aop P T o (aopnd pa) (H t) = some (v, h') ∧ h' = H t) ∧ ((memKind T o.op = 0 ∧ ∃ y, aop P T o (aopnd pa) y = some (v, y)) ∨ (memKind T o.op = 1 ∧ (j, o, pa, v) ∈ reads))
  | .change s => (aguard ops pa o = some true ∧ OpWp P o (aopnd pa) (H s) (fun u h' => u = v ∧ h' = H (s + 1)) ∧ ∀ i s', (kd i).no = some s' → s' < s → Known ops i j) ∧ s < m ∧ (∀ i, (kd i).no = some s → i = j)
  | .late s => (aguard ops pa o = some true ∧ ∃ rv ob, NewV rv ∧ v = rv (H s).next ∧ H (s + 1) = (H s).new ob ∧ ob.own = true ∧ (∀ (μ : Emb) (n : Nat) (ρ' : Operand → Value), OpRel μ n (aopnd pa) ρ' → BO n ob) ∧ ∀ h, aop P T o (aopnd pa) h = some (rv h.next, h.new ob)) ∧ s < m ∧ (∀ i, (kd i).no = some s → i = j)
  | .pure l => aguard ops pa o = some true ∧ PureOp P o (aopnd pa) v ∧ l ≤ m
theorem KOne.at {M : Tr Nat} {kd : Nat → Kind} {H : Nat → AHeap} {m : Nat} {reads : List (Nat × Oper × Tr Value × Value)} {v : Value} {pa : Tr Value} {j : Nat} {o : Oper} (h : KOne P T ops M kd H m reads v pa j o) {s : Nat} (hs : (kd j).no = some s) : s < m ∧ ∀ i, (kd i).no = some s → i = j := by
  unfold KOne at h
  cases hk : kd j with
  | skip => rw [hk] at hs; cases hs
  | quiet => rw [hk] at hs; cases hs
  | pure l => rw [hk] at hs; cases hs
  | change s' => rw [hk] at hs h; cases hs; exact h.2
  | late s' => rw [hk] at hs h; cases hs; exact h.2
structure DP (P : Program) (T : Tr TI) (cx : Cx) (ops : Array Oper) (M : Tr Nat) (a0 : Tr Value) (h0 : AHeap) (σ : DSt) (v : Nat → Value) (pa : Nat → Tr Value) (kd : Nat → Kind) (H : Nat → AHeap) (m : Nat) : Prop where
  hz : H 0 = h0
  hm : H m = σ.h
  hist : HistOK ops.size kd H σ.hist m
  kdun : ∀ j, Nat.testBit σ.dn j = false → kd j = .skip
  dlt : ∀ j, Nat.testBit σ.dn j = true → j < ops.size
  down : ∀ j, Nat.testBit σ.dn j = true → ∀ i, KB M i j → Nat.testBit σ.dn i = true
  wr : ∀ d j, σ.W.get d = some j → Nat.testBit σ.dn j = true ∧ ∃ o, ops[j]? = some o ∧ o.dst = some d
  wr2 : ∀ (j : Nat) (o : Oper) (d : Tmp), Nat.testBit σ.dn j = true → ops[j]? = some o → o.dst = some d → σ.W.get d = some j ∧ d < cx.nt
  act : ∀ d, σ.a.get d = match σ.W.get d with | some j => some (v j) | none => a0.get d
  all : ∀ s, s < m → ∃ i, (kd i).no = some s
  lvm : ∀ i, (kd i).lv ≤ m
  monoH : ∀ s, s < m → (H s).next ≤ (H (s + 1)).next
  below : ∀ j i, Nat.testBit σ.dn j = true → (∀ l, kd j ≠ .pure l) → KB M i j → ∀ i' s', (kd i').no = some s' → s' < (kd i).lv → KB M i' j
  belowP : ∀ j i l, kd j = .pure l → KB M i j → (kd i).lv ≤ l
  lvs : ∀ i l, kd i = .pure l → ∃ hs, (i, hs) ∈ σ.lvs ∧ HistOK ops.size kd H hs l
  pas : ∀ (j : Nat) (o : Oper), Nat.testBit σ.dn j = true → ops[j]? = some o → ∀ d u, (pa j).get d = some u → (∃ i p, ops[i]? = some p ∧ p.dst = some d ∧ KB M i j ∧ u = v i) ∨
    (a0.get d = some u ∧ (∃ r, σ.R.get d = some r ∧ Nat.testBit r j = true) ∧ ∀ (i : Nat) (p : Oper), Nat.testBit σ.dn i = true → ops[i]? = some p → p.dst = some d → i = j ∨ Known ops j i)
  dfr : ∀ (j : Nat) (o : Oper), Nat.testBit σ.dn j = true → ops[j]? = some o → isDefer o.op = false
  one : ∀ (j : Nat) (o : Oper), Nat.testBit σ.dn j = true → ops[j]? = some o → KOne P T ops M kd H m σ.reads (v j) (pa j) j o
theorem dAll_bit {size : Nat} {kd : Nat → Kind} {H : Nat → AHeap} {mk : Nat} : ∀ {l : List (Nat × Bool × AHeap)} {m : Nat}, HistOK size kd H l m → dAll mk l = true → ∀ s, s < m → ∃ c, c < size ∧ (kd c).no = some s ∧ Nat.testBit mk c = true
  | _, _, .nil, _, s, hs => by omega
  | _, _, .cons (c := c) (m := m) (l := l) hc hk t, hd, s, hs => by
    simp only [dAll, Bool.and_eq_true] at hd
    by_cases e : s = m
    · subst e; exact ⟨c, hc, by rw [hk]; exact bif_no l s, hd.1⟩
    · exact dAll_bit t hd.2 s (by omega)
theorem dBelow_bit {size : Nat} {kd : Nat → Kind} {H : Nat → AHeap} {mk : Nat} : ∀ {l : List (Nat × Bool × AHeap)} {m : Nat}, HistOK size kd H l m → dBelow mk l = true → ∀ i s, kd i = .late s → s < m → (∀ c, (kd c).no = some s → c = i) → Nat.testBit mk i = true → ∀ s', s' < s → ∃ c, c < size ∧ (kd c).no = some s' ∧ Nat.testBit mk c = true
  | _, _, .nil, _, i, s, _, hs, _, _, _, _ => by omega
  | _, _, .cons (c := c) (m := m) (l := l) hc hk t, hd, i, s, hks, hs, hu, hb, s', hlt => by
    simp only [dBelow, Bool.and_eq_true] at hd
    by_cases e : s = m
    · subst e
      have hci : c = i := hu c (by rw [hk]; exact bif_no l s)
      subst hci
      have hl : l = true := by
        cases l with
        | true => rfl
        | false => rw [hk] at hks; cases hks
      subst hl
      rw [hb] at hd
      exact dAll_bit t (by simpa using hd.1) s' hlt
    · exact dBelow_bit t hd.2 i s hks (by omega) hu hb s' hlt
theorem dPures_all {mk i : Nat} {hs : List (Nat × Bool × AHeap)} : ∀ {l : List (Nat × List (Nat × Bool × AHeap))}, dPures mk l = true → (i, hs) ∈ l → Nat.testBit mk i = true → dAll mk hs = true
  | [], _, h, _ => by cases h
  | (j, gs) :: l, hd, h, hb => by
    simp only [dPures, Bool.and_eq_true] at hd
    rcases List.mem_cons.1 h with h | h
    · cases h
      rw [hb] at hd
      simpa using hd.1
    · exact dPures_all hd.2 h hb
end
end Go.Ab.Nx
namespace Go.Ab.Nx
open Go.Ab
set_option linter.unusedSimpArgs false
set_option linter.unusedVariables false
section
variable {P : Program} {T : Tr TI} {cx : Cx} {ops : Array Oper} {M : Tr Nat} {a0 : Tr Value} {h0 : AHeap}
theorem may_less {kd : Nat → Kind} {n j t : Nat} {kn : Kind} (hk : kd n = .skip) (h : May ops (KB M) (ups kd n kn) j t) : May ops (KB M) kd j t :=
  ⟨fun i s hi hs hkb => h.1 i s hi (by rw [ups_ne _ _ (fun e => by subst e; rw [hk] at hs; cases hs)]; exact hs) hkb,
   fun i s hi hs hkb => h.2 i s hi (by rw [ups_ne _ _ (fun e => by subst e; rw [hk] at hs; cases hs)]; exact hs) hkb⟩
theorem KOne.keep {kd : Nat → Kind} {n : Nat} {kn : Kind} (hk : kd n = .skip) {H H' : Nat → AHeap} {m m' : Nat} (hkn : ∀ s, kn.no = some s → s = m) (hH : ∀ t, t ≤ m → H' t = H t) (hm : m ≤ m') {reads reads' : List (Nat × Oper × Tr Value × Value)} (hr : ∀ x ∈ reads, x ∈ reads') {v : Value} {pa : Tr Value} {j : Nat} {o : Oper} (hjn : j ≠ n)
    (hq : kd j = .quiet → ((memKind T o.op = 0 ∧ ∃ y, aop P T o (aopnd pa) y = some (v, y)) ∨ (memKind T o.op = 1 ∧ (j, o, pa, v) ∈ reads)) → ∀ t, m < t → t ≤ m' → May ops (KB M) (ups kd n kn) j t → ∃ h', aop P T o (aopnd pa) (H' t) = some (v, h') ∧ h' = H' t)
    (h : KOne P T ops M kd H m reads v pa j o) : KOne P T ops M (ups kd n kn) H' m' reads' v pa j o := by
  have old : ∀ i s, s < m → (ups kd n kn i).no = some s → (kd i).no = some s := by
    intro i s hsm hs
    by_cases e : i = n
    · subst e; rw [ups_same] at hs; have := hkn s hs; omega
    · rw [ups_ne _ _ e] at hs; exact hs
  unfold KOne at h ⊢
  rw [ups_ne _ _ hjn]
  cases hkd : kd j with
  | skip => rw [hkd] at h; exact h
  | quiet =>
    rw [hkd] at h
    obtain ⟨h1, h2, h3⟩ := h
    refine ⟨h1, fun t ht hmay => ?_, h3.imp id fun ⟨a, b⟩ => ⟨a, hr _ b⟩⟩
    by_cases e : t ≤ m
    · rw [hH t e]; exact h2 t e (may_less hk hmay)
    · exact hq hkd h3 t (by omega) ht hmay
  | change s =>
    rw [hkd] at h
    obtain ⟨⟨h1, h2, h3⟩, h4, h5⟩ := h
    refine ⟨⟨h1, ?_, fun i s' hs' hlt => h3 i s' (old i s' (by omega) hs') hlt⟩, by omega, fun i he => h5 i (old i s h4 he)⟩
    rw [hH s (by omega), hH (s + 1) (by omega)]; exact h2
  | late s =>
    rw [hkd] at h
    obtain ⟨⟨h1, rv, ob, q1, q2, q3, q4⟩, h4, h5⟩ := h
    refine ⟨⟨h1, rv, ob, q1, by rw [hH s (by omega)]; exact q2, by rw [hH s (by omega), hH (s + 1) (by omega)]; exact q3, q4⟩, by omega, fun i he => h5 i (old i s h4 he)⟩
  | pure l =>
    rw [hkd] at h
    exact ⟨h.1, h.2.1, by have := h.2.2; omega⟩
theorem bit_new {dn n j : Nat} (h : Nat.testBit (Nat.lor dn (Nat.shiftLeft 1 n)) j = true) : j = n ∨ Nat.testBit dn j = true := by
  rw [bit_add] at h
  simp only [Bool.or_eq_true, decide_eq_true_eq] at h
  exact h.symm
theorem bit_old {dn n j : Nat} (h : Nat.testBit dn j = true) : Nat.testBit (Nat.lor dn (Nat.shiftLeft 1 n)) j = true := by rw [bit_add, h]; rfl
theorem bit_self (dn n : Nat) : Nat.testBit (Nat.lor dn (Nat.shiftLeft 1 n)) n = true := by rw [bit_add]; simp
theorem DP.no {σ : DSt} {v : Nat → Value} {pa : Nat → Tr Value} {kd : Nat → Kind} {H : Nat → AHeap} {m : Nat} (D : DP P T cx ops M a0 h0 σ v pa kd H m) {i s : Nat} (hs : (kd i).no = some s) : Nat.testBit σ.dn i = true ∧ i < ops.size ∧ s < m ∧ ∀ c, (kd c).no = some s → c = i := by
  have hd : Nat.testBit σ.dn i = true := by
    cases hb : Nat.testBit σ.dn i with
    | true => rfl
    | false => rw [D.kdun i hb] at hs; cases hs
  have hl := D.dlt i hd
  have := (D.one i _ hd (Array.getElem?_eq_getElem hl)).at hs
  exact ⟨hd, hl, this.1, this.2⟩
theorem DP.add (hM : MOK ops M) {σ : DSt} {v : Nat → Value} {pa : Nat → Tr Value} {kd : Nat → Kind} {H : Nat → AHeap} {m : Nat} (D : DP P T cx ops M a0 h0 σ v pa kd H m) {n : Nat} {o : Oper} (ho : ops[n]? = some o) {mk : Nat} (hmk : M.get n = some mk) (hsub : ∀ p, Nat.testBit mk p = true → Nat.testBit σ.dn p = true) (hnd : Nat.testBit σ.dn n = false)
    {pn : Tr Value} (hpn : dAct a0 σ.a σ.W mk (needs ops o) .leaf = some pn) (hdst : dDst cx.nt σ.W (dReads σ.W n (needs ops o) σ.R) n mk o.dst = true) (hdf : isDefer o.op = false)
    (val : Value) (kn : Kind) {hist' : List (Nat × Bool × AHeap)} {lvs' : List (Nat × List (Nat × Bool × AHeap))} {reads' : List (Nat × Oper × Tr Value × Value)} {h' : AHeap} {m' : Nat} {H' : Nat → AHeap} (hH : ∀ t, t ≤ m → H' t = H t) (hle : m ≤ m') (hm' : H' m' = h')
    (hhist : HistOK ops.size (ups kd n kn) H' hist' m') (hall : ∀ s, s < m' → ∃ i, (ups kd n kn i).no = some s) (hkn : ∀ s, kn.no = some s → s = m) (hlv : kn.lv ≤ m') (hmono : ∀ s, m ≤ s → s < m' → (H' s).next ≤ (H' (s + 1)).next)
    (hbel : (∀ l, kn ≠ .pure l) → dBelow mk σ.hist = true ∧ dPures mk σ.lvs = true) (hpl : ∀ l, kn = .pure l → l = m)
    (hlvs : ∀ x ∈ σ.lvs, x ∈ lvs') (hlvn : ∀ l, kn = .pure l → (n, σ.hist) ∈ lvs')
    (hnew : KOne P T ops M (ups kd n kn) H' m' reads' val pn n o)
    (hold : ∀ (j : Nat) (p : Oper), Nat.testBit σ.dn j = true → ops[j]? = some p → j ≠ n → KOne P T ops M kd H m σ.reads (v j) (pa j) j p → KOne P T ops M (ups kd n kn) H' m' reads' (v j) (pa j) j p) :
    DP P T cx ops M a0 h0 (dFin σ n o (needs ops o) val hist' lvs' reads' h') (ups v n val) (ups pa n pn) (ups kd n kn) H' m' := by
  have km := hM.mask n mk hmk
  have hks : kd n = .skip := D.kdun n hnd
  have hnl : n < ops.size := (Array.getElem?_eq_some_iff.1 ho).1
  have nen : ∀ {j}, Nat.testBit σ.dn j = true → j ≠ n := fun hj e => by subst e; rw [hnd] at hj; cases hj
  -- the slot is written for the first time
  have hfresh : ∀ d, o.dst = some d → d < cx.nt ∧ σ.W.get d = none ∧ ∀ r, (dReads σ.W n (needs ops o) σ.R).get d = some r → ∀ j, Nat.testBit r j = true → j = n ∨ Known ops j n := by
    intro d hd
    rw [hd] at hdst
    simp only [dDst, Bool.and_eq_true] at hdst
    obtain ⟨d1, d2, d3⟩ := hdst
    refine ⟨Nat.le_of_ble_eq_true d1, by simpa using d2, fun r hr j hj => ?_⟩
    rw [hr] at d3
    simp only at d3
    have e := Nat.eq_of_beq_eq_true d3
    have hb : Nat.testBit (Nat.lor mk (Nat.shiftLeft 1 n)) j = true := by rw [← e, testBit_lor', hj]; rfl
    rw [testBit_lor', testBit_one] at hb
    simp only [Bool.or_eq_true, decide_eq_true_eq] at hb
    rcases hb with hb | hb
    · exact .inr (km j hb).1
    · exact .inl hb
  have hW : ∀ d, (dFin σ n o (needs ops o) val hist' lvs' reads' h').W.get d = if o.dst = some d then some n else σ.W.get d := by
    intro d
    simp only [dFin]
    cases hd : o.dst with
    | none => simp
    | some d' =>
      rw [Tr.get_put]
      by_cases e : d' = d
      · simp [e]
      · simp [e]
  have oldlv : ∀ i, Nat.testBit σ.dn i = true → (ups kd n kn i).lv ≤ m := fun i hi => by rw [ups_ne _ _ (nen hi)]; exact D.lvm i
  have oldno : ∀ i s, s < m → (ups kd n kn i).no = some s → (kd i).no = some s := by
    intro i s hsm hs
    by_cases e : i = n
    · subst e; rw [ups_same] at hs; have := hkn s hs; omega
    · rw [ups_ne _ _ e] at hs; exact hs
  refine ⟨by rw [hH 0 (Nat.zero_le _)]; exact D.hz, hm', hhist, fun j hj => ?_, fun j hj => ?_, fun j hj i hkb => ?_, fun d j hj => ?_, fun j p d hj hp hd => ?_, fun d => ?_, hall, fun i => ?_, fun s hs => ?_, fun j i hj hnp hkb i' s' hs' hlt => ?_, fun j i l hkj hkb => ?_, fun i l hki => ?_, fun j p hj hp d u hu => ?_, fun j p hj hp => ?_, fun j p hj hp => ?_⟩
  · have hj' : Nat.testBit (Nat.lor σ.dn (Nat.shiftLeft 1 n)) j = false := hj
    rw [bit_add] at hj'
    simp only [Bool.or_eq_false_iff, decide_eq_false_iff_not] at hj'
    rw [ups_ne _ _ hj'.2]; exact D.kdun j hj'.1
  · rcases bit_new hj with rfl | h
    · exact hnl
    · exact D.dlt j h
  · refine bit_old ?_
    rcases bit_new hj with rfl | h
    · obtain ⟨mk2, g1, g2⟩ := hkb
      rw [hmk] at g1; cases g1; exact hsub i g2
    · exact D.down j h i hkb
  · rw [hW] at hj
    split at hj
    · rename_i e; cases hj; exact ⟨bit_self _ _, o, ho, e⟩
    · obtain ⟨h1, h2⟩ := D.wr d j hj; exact ⟨bit_old h1, h2⟩
  · rw [hW]
    rcases bit_new hj with rfl | h
    · rw [ho] at hp; cases hp
      exact ⟨by rw [if_pos hd], (hfresh d hd).1⟩
    · obtain ⟨h1, h2⟩ := D.wr2 j p d h hp hd
      refine ⟨?_, h2⟩
      rw [if_neg, h1]
      intro ho2
      have := (hfresh d ho2).2.1
      rw [h1] at this; cases this
  · rw [hW]
    simp only [dFin]
    cases hd : o.dst with
    | none =>
      simp only [reduceCtorEq, if_false]
      rw [D.act d]
      split
      · rename_i j hj
        rw [ups_ne _ _ (nen (D.wr d j hj).1)]
      · rfl
    | some d' =>
      rw [Tr.get_put]
      by_cases e : d' = d
      · subst e; simp [ups_same]
      · rw [if_neg e, if_neg (by simpa using e), D.act d]
        split
        · rename_i j hj
          rw [ups_ne _ _ (nen (D.wr d j hj).1)]
        · rfl
  · by_cases e : i = n
    · subst e; rw [ups_same]; exact hlv
    · rw [ups_ne _ _ e]; exact Nat.le_trans (D.lvm i) hle
  · by_cases e : s < m
    · rw [hH s (by omega), hH (s + 1) (by omega)]; exact D.monoH s e
    · exact hmono s (by omega) hs
  · have hin : Nat.testBit σ.dn i = true := by
      rcases bit_new hj with rfl | h
      · obtain ⟨mk2, g1, g2⟩ := hkb
        rw [hmk] at g1; cases g1; exact hsub i g2
      · exact D.down j h i hkb
    have hil := oldlv i hin
    have hs2 := oldno i' s' (by omega) hs'
    rw [ups_ne _ _ (nen hin)] at hlt
    rcases bit_new hj with rfl | h
    · rw [ups_same] at hnp
      obtain ⟨hb1, hb2⟩ := hbel hnp
      obtain ⟨mk2, g1, g2⟩ := hkb
      rw [hmk] at g1; cases g1
      refine ⟨mk, hmk, ?_⟩
      have D2 := D.no hs2
      cases hki : kd i with
      | skip => rw [hki] at hlt; exact absurd hlt (Nat.not_lt_zero _)
      | quiet => rw [hki] at hlt; exact absurd hlt (Nat.not_lt_zero _)
      | change s => rw [hki] at hlt; exact absurd hlt (Nat.not_lt_zero _)
      | late s =>
        rw [hki] at hlt
        have hlt' : s' < s + 1 := hlt
        have Ds := D.no (i := i) (s := s) (by rw [hki]; rfl)
        by_cases e : s' = s
        · subst e
          have := Ds.2.2.2 i' hs2
          subst this; exact g2
        · obtain ⟨c, _, q1, q2⟩ := dBelow_bit D.hist hb1 i s hki Ds.2.2.1 Ds.2.2.2 g2 s' (by omega)
          have := D2.2.2.2 c q1
          subst this; exact q2
      | pure l =>
        rw [hki] at hlt
        have hlt' : s' < l := hlt
        obtain ⟨hs, q1, q2⟩ := D.lvs i l hki
        obtain ⟨c, _, q3, q4⟩ := dAll_bit q2 (dPures_all hb2 q1 g2) s' hlt'
        have := D2.2.2.2 c q3
        subst this; exact q4
    · rw [ups_ne _ _ (nen h)] at hnp
      exact D.below j i h hnp hkb i' s' hs2 hlt
  · by_cases e : j = n
    · subst e
      rw [ups_same] at hkj
      have := hpl l hkj
      subst this
      obtain ⟨mk2, g1, g2⟩ := hkb
      rw [hmk] at g1; cases g1
      exact oldlv i (hsub i g2)
    · rw [ups_ne _ _ e] at hkj
      have hjd : Nat.testBit σ.dn j = true := by
        cases hb : Nat.testBit σ.dn j with
        | true => rfl
        | false => rw [D.kdun j hb] at hkj; cases hkj
      rw [ups_ne _ _ (nen (D.down j hjd i hkb))]
      exact D.belowP j i l hkj hkb
  · by_cases e : i = n
    · subst e
      rw [ups_same] at hki
      have := hpl l hki
      subst this
      exact ⟨σ.hist, hlvn _ hki, D.hist.mono kn hks fun t ht => hH t (by omega)⟩
    · rw [ups_ne _ _ e] at hki
      obtain ⟨hs, q1, q2⟩ := D.lvs i l hki
      have := D.lvm i
      rw [hki] at this
      have hlm : l ≤ m := this
      exact ⟨hs, hlvs _ q1, q2.mono kn hks fun t ht => hH t (by omega)⟩
  · rcases bit_new hj with rfl | h
    · rw [ho] at hp; cases hp
      rw [ups_same] at hu
      rcases dAct_spec hpn d u hu with h | ⟨i, h1, h2, h3⟩ | ⟨h1, h2, h3⟩
      · first | cases h | (rw [Tr.get_leaf] at h; cases h)
      · obtain ⟨g1, p', g2, g3⟩ := D.wr d i h1
        refine .inl ⟨i, p', g2, g3, ⟨mk, hmk, h2⟩, ?_⟩
        rw [D.act d, h1] at h3
        simp only [Option.some.injEq] at h3
        rw [ups_ne _ _ (nen g1)]; exact h3.symm
      · refine .inr ⟨h2, dReads_new _ _ h3 h1, fun i p' hi hp' hd' => ?_⟩
        rcases bit_new hi with rfl | hi
        · exact .inl rfl
        · have := (D.wr2 i p' d hi hp' hd').1
          rw [h1] at this; cases this
    · rw [ups_ne _ _ (nen h)] at hu
      rcases D.pas j p h hp d u hu with ⟨i, p', g1, g2, g3, g4⟩ | ⟨g1, ⟨r, g2, g3⟩, g4⟩
      · exact .inl ⟨i, p', g1, g2, g3, by rw [ups_ne _ _ (nen (D.down j h i g3))]; exact g4⟩
      · obtain ⟨r', g5, g6⟩ := dReads_keeps (W := σ.W) (j := n) (needs ops o) σ.R g2 g3
        refine .inr ⟨g1, ⟨r', g5, g6⟩, fun i p' hi hp' hd' => ?_⟩
        rcases bit_new hi with rfl | hi
        · rw [ho] at hp'; cases hp'
          rcases (hfresh d hd').2.2 r' g5 j g6 with h9 | h9
          · exact (nen h h9).elim
          · exact .inr h9
        · exact g4 i p' hi hp' hd'
  · rcases bit_new hj with rfl | h
    · rw [ho] at hp; cases hp; exact hdf
    · exact D.dfr j p h hp
  · rcases bit_new hj with rfl | h
    · rw [ho] at hp; cases hp; rw [ups_same, ups_same]; exact hnew
    · rw [ups_ne _ _ (nen h), ups_ne _ _ (nen h)]; exact hold j p h hp (nen h) (D.one j p h hp)
end
end Go.Ab.Nx
namespace Go.Ab.Nx
open Go.Ab
set_option linter.unusedSimpArgs false
set_option linter.unusedVariables false
section
variable {P : Program} {T : Tr TI} {cx : Cx} {ops : Array Oper} {M : Tr Nat} {a0 : Tr Value} {h0 : AHeap}
theorem dHist_all {kd : Nat → Kind} {H : Nat → AHeap} {mk j : Nat} {o : Oper} {pa : Tr Value} {v : Value} (hk : memKind T o.op = 1) (hmk : M.get j = some mk) :
    ∀ {l : List (Nat × Bool × AHeap)} {m : Nat}, HistOK ops.size kd H l m → dHist P T o pa v mk l = true → ∀ t, t < m → May ops (KB M) kd j t → aop P T o (aopnd pa) (H t) = some (v, H t)
  | _, _, .nil, _, t, ht, _ => by omega
  | _, _, .cons (c := c) (m := m) (l := l) hc hkc hr, hd, t, ht, hmay => by
    simp only [dHist, Bool.or_eq_true, Bool.and_eq_true] at hd
    rcases hd with hd | ⟨hd1, hd2⟩
    · have := hmay.1 c m hc (by rw [hkc]; exact bif_no l m) ⟨mk, hmk, hd⟩
      omega
    · by_cases e : t = m
      · subst e; exact sameAt_eq hk hd1
      · exact dHist_all hk hmk hr hd2 t (by omega) hmay
theorem dStep_sound (ok : TyOK P T) (hM : MOK ops M) {op : Oper → (Operand → Option Value) → AHeap → Option (Value × AHeap)} (hop : ∀ o ρ h u h', op o ρ h = some (u, h') → OpWp P o ρ h fun x y => x = u ∧ y = h') {σ σ' : DSt} {v : Nat → Value} {pa : Nat → Tr Value} {kd : Nat → Kind} {H : Nat → AHeap} {m : Nat}
    (D : DP P T cx ops M a0 h0 σ v pa kd H m) {n : Nat} {o : Oper} (ho : ops[n]? = some o) (hs : dStep P T op ops cx.nt a0 M σ n o = some σ') : ∃ v' pa' kd' H' m', DP P T cx ops M a0 h0 σ' v' pa' kd' H' m' := by
  unfold dStep at hs
  split at hs
  · cases hs
  rename_i mk hmk
  cases hc : Nat.beq (Nat.lor mk σ.dn) σ.dn && !Nat.testBit σ.dn n
  · rw [hc, cond_false] at hs; cases hs
  rw [hc, cond_true] at hs
  simp only [Bool.and_eq_true, Bool.not_eq_true'] at hc
  obtain ⟨hc1, hnd⟩ := hc
  have hsub : ∀ p, Nat.testBit mk p = true → Nat.testBit σ.dn p = true := fun p hp => bit_sub hc1 hp
  split at hs
  · cases hs
  rename_i pn hpn
  cases hb : dDst cx.nt σ.W (dReads σ.W n (needs ops o) σ.R) n mk o.dst && !isDefer o.op
  · rw [hb, cond_false] at hs; cases hs
  rw [hb, cond_true] at hs
  simp only [Bool.and_eq_true, Bool.not_eq_true'] at hb
  obtain ⟨hdst, hdf⟩ := hb
  have hks : kd n = .skip := D.kdun n hnd
  have hnl : n < ops.size := (Array.getElem?_eq_some_iff.1 ho).1
  have allk : ∀ kn s, s < m → ∃ i, (ups kd n kn i).no = some s := by
    intro kn s hs
    obtain ⟨i, h2⟩ := D.all s hs
    exact ⟨i, by rw [ups_ne _ _ (fun e => by subst e; rw [hks] at h2; cases h2)]; exact h2⟩
  -- no change
  have quiet : ∀ (u : Value) (kn : Kind) (lvs' : List (Nat × List (Nat × Bool × AHeap))) (reads' : List (Nat × Oper × Tr Value × Value)), kn.no = none → kn.lv ≤ m → ((∀ l, kn ≠ .pure l) → dBelow mk σ.hist = true ∧ dPures mk σ.lvs = true) → (∀ l, kn = .pure l → l = m) → (∀ x ∈ σ.lvs, x ∈ lvs') → (∀ l, kn = .pure l → (n, σ.hist) ∈ lvs') → (∀ x ∈ σ.reads, x ∈ reads') →
      KOne P T ops M (ups kd n kn) H m reads' u pn n o → ∃ v' pa' kd' H' m', DP P T cx ops M a0 h0 (dFin σ n o (needs ops o) u σ.hist lvs' reads' σ.h) v' pa' kd' H' m' := by
    intro u kn lvs' reads' g1 g2 g3 g4 g5 g6 g7 g8
    refine ⟨_, _, _, H, m, D.add hM ho hmk hsub hnd hpn hdst hdf u kn (fun _ _ => rfl) (Nat.le_refl _) D.hm (D.hist.mono kn hks fun _ _ => rfl) (allk kn) (fun s hs => by rw [g1] at hs; cases hs) g2 (fun s h1 h2 => by omega) g3 g4 g5 g6 g8 fun j p hj hp hjn hk => ?_⟩
    exact hk.keep hks (fun s hs => by rw [g1] at hs; cases hs) (fun _ _ => rfl) (Nat.le_refl _) g7 hjn fun _ _ t h1 h2 => by omega
  -- one more change, plain or late
  have change : ∀ (u : Value) (h' : AHeap) (l : Bool), dBelow mk σ.hist = true ∧ dPures mk σ.lvs = true → σ.reads.all (fun x => Nat.testBit mk x.1 || sameAt P T x.2.1 x.2.2.1 x.2.2.2 h') = true → σ.h.next ≤ h'.next →
      KOne P T ops M (ups kd n (bif l then .late m else .change m)) (ups H (m + 1) h') (m + 1) σ.reads u pn n o →
      ∃ v' pa' kd' H' m', DP P T cx ops M a0 h0 (dFin σ n o (needs ops o) u ((n, l, σ.h) :: σ.hist) σ.lvs σ.reads h') v' pa' kd' H' m' := by
    intro u h' l hbel hrd hnx hnew
    have hHle : ∀ t, t ≤ m → ups H (m + 1) h' t = H t := fun t ht => ups_ne _ _ (by omega)
    have hnp : ∀ l', (bif l then Kind.late m else .change m) ≠ .pure l' := fun l' => by cases l <;> simp
    refine ⟨_, _, _, ups H (m + 1) h', m + 1, D.add hM ho hmk hsub hnd hpn hdst hdf u (bif l then .late m else .change m) hHle (Nat.le_succ _) (ups_same _ _ _) ?_ ?_ (fun s hs => by rw [bif_no] at hs; cases hs; rfl) ?_ ?_ (fun _ => hbel) (fun l' e => (hnp l' e).elim) (fun _ h => h) (fun l' e => (hnp l' e).elim) hnew fun j p hj hp hjn hk => ?_⟩
    · have := HistOK.cons (size := ops.size) (kd := ups kd n (bif l then .late m else .change m)) (H := ups H (m + 1) h') (l := l) hnl (ups_same _ _ _) (D.hist.mono (bif l then .late m else .change m) hks (H' := ups H (m + 1) h') fun t ht => hHle t (by omega))
      rw [hHle m (Nat.le_refl _), D.hm] at this
      exact this
    · intro s hs
      by_cases e : s = m
      · exact ⟨n, by rw [ups_same, e]; exact bif_no l m⟩
      · exact allk _ s (by omega)
    · cases l
      · exact Nat.zero_le _
      · exact Nat.le_refl _
    · intro s h1 h2
      have : s = m := by omega
      subst this
      rw [ups_same, hHle s (Nat.le_refl _), D.hm]; exact hnx
    · refine hk.keep hks (fun s hs => by rw [bif_no] at hs; cases hs; rfl) hHle (Nat.le_succ _) (fun _ h => h) hjn fun hq hrd' t h1 h2 hmay => ?_
      have : t = m + 1 := by omega
      subst this
      rw [ups_same]
      rcases hrd' with ⟨k3, y, hy⟩ | ⟨k3, k4⟩
      · exact ⟨h', (aop_free k3 hy).2 _, rfl⟩
      · have := List.all_eq_true.1 hrd _ k4
        simp only [Bool.or_eq_true] at this
        rcases this with this | this
        · have := hmay.2 n m hnl (by rw [ups_same]; exact bif_no l m) ⟨mk, hmk, this⟩
          omega
        · exact ⟨_, sameAt_eq k3 this, rfl⟩
  have uq : ∀ (kn : Kind), ∀ i, (ups kd n kn i).no = some m → i = n := by
    intro kn i he
    by_cases e : i = n
    · exact e
    · rw [ups_ne _ _ e] at he
      have := (D.no he).2.2.1
      omega
  cases hbp : dBelow mk σ.hist && dPures mk σ.lvs
  · -- an operation on what waits
    rw [hbp, cond_false] at hs
    split at hs
    · rename_i hg
      cases hp : isPure o.op
      · rw [hp, cond_false] at hs; cases hs
      rw [hp, cond_true] at hs
      split at hs
      · rename_i u hx ha
        cases hs
        refine quiet u (.pure m) _ _ rfl (Nat.le_refl _) (fun h => (h m rfl).elim) (fun l e => by cases e; rfl) (fun _ h => List.mem_cons_of_mem _ h) (fun l e => List.mem_cons_self) (fun _ h => h) ?_
        unfold KOne; rw [ups_same]
        exact ⟨hg, aop_pure ok hp ha, Nat.le_refl _⟩
      · cases hs
    · cases hs
  · rw [hbp, cond_true] at hs
    simp only [Bool.and_eq_true] at hbp
    split at hs
    · cases hs
    · rename_i hg
      cases hs
      refine quiet (.tuple #[]) .skip _ _ rfl (Nat.zero_le _) (fun _ => hbp) (fun l e => by cases e) (fun _ h => h) (fun l e => by cases e) (fun _ h => h) ?_
      unfold KOne; rw [ups_same]; exact ⟨hg, rfl⟩
    · rename_i hg
      split at hs
      · rename_i hk0
        split at hs
        · rename_i u hx ha
          cases hs
          obtain ⟨e1, e2⟩ := aop_free hk0 ha
          refine quiet u .quiet _ _ rfl (Nat.zero_le _) (fun _ => hbp) (fun l e => by cases e) (fun _ h => h) (fun l e => by cases e) (fun _ h => h) ?_
          unfold KOne; rw [ups_same]
          exact ⟨hg, fun t _ _ => ⟨H t, e2 _, rfl⟩, .inl ⟨hk0, _, e2 σ.h⟩⟩
        · cases hs
      · rename_i hk1
        split at hs
        · rename_i u hx ha
          cases hdh : dHist P T o pn u mk σ.hist
          · rw [hdh, cond_false] at hs; cases hs
          · rw [hdh, cond_true] at hs
            cases hs
            have e1 := aop_read hk1 ha
            subst e1
            refine quiet u .quiet _ _ rfl (Nat.zero_le _) (fun _ => hbp) (fun l e => by cases e) (fun _ h => h) (fun l e => by cases e) (fun _ h => List.mem_cons_of_mem _ h) ?_
            unfold KOne; rw [ups_same]
            refine ⟨hg, fun t ht hmay => ?_, .inr ⟨hk1, List.mem_cons_self⟩⟩
            by_cases e : t = m
            · subst e; rw [D.hm]; exact ⟨_, ha, rfl⟩
            · exact ⟨_, dHist_all hk1 hmk D.hist hdh t (by omega) (may_less hks hmay), rfl⟩
        · cases hs
      · cases hch : dAll mk σ.hist
        rotate_left
        · rw [hch, cond_true] at hs
          split at hs
          · rename_i u h' ha
            cases hrd : σ.reads.all (fun x => Nat.testBit mk x.1 || sameAt P T x.2.1 x.2.2.1 x.2.2.2 h') && Nat.ble σ.h.next h'.next
            · rw [hrd, cond_false] at hs; cases hs
            · rw [hrd, cond_true] at hs
              simp only [Bool.and_eq_true] at hrd
              cases hs
              refine change u h' false hbp hrd.1 (Nat.le_of_ble_eq_true hrd.2) ?_
              unfold KOne; rw [ups_same]
              simp only [cond_false]
              refine ⟨⟨hg, ?_, fun i s' hs' hlt => ?_⟩, by omega, uq _⟩
              · rw [ups_ne _ _ (by omega), ups_same, D.hm]; exact hop _ _ _ _ _ ha
              · have hs2 : (kd i).no = some s' := by
                  by_cases e : i = n
                  · subst e; rw [ups_same] at hs'; cases hs'; omega
                  · rw [ups_ne _ _ e] at hs'; exact hs'
                obtain ⟨c, g1, g2, g3⟩ := dAll_bit D.hist hch s' hlt
                have := (D.no hs2).2.2.2 c g2
                subst this; exact (hM.mask n mk hmk c g3).1
          · cases hs
        · rw [hch, cond_false] at hs
          cases hnw : isNew o.op
          · rw [hnw, cond_false] at hs; cases hs
          rw [hnw, cond_true] at hs
          split at hs
          · rename_i u h' ha
            cases hrd : σ.reads.all (fun x => Nat.testBit mk x.1 || sameAt P T x.2.1 x.2.2.1 x.2.2.2 h') && Nat.ble σ.h.next h'.next
            · rw [hrd, cond_false] at hs; cases hs
            · rw [hrd, cond_true] at hs
              simp only [Bool.and_eq_true] at hrd
              cases hs
              refine change u h' true hbp hrd.1 (Nat.le_of_ble_eq_true hrd.2) ?_
              obtain ⟨rv, ob, n1, n2, n3, n4, n5, n6⟩ := aop_new hnw ha
              unfold KOne; rw [ups_same]
              simp only [cond_true]
              refine ⟨⟨hg, rv, ob, n1, ?_, ?_, n4, n6, n5⟩, by omega, uq _⟩
              · rw [ups_ne _ _ (by omega), D.hm]; exact n2
              · rw [ups_same, ups_ne H h' (show m ≠ m + 1 by omega), D.hm]; exact n3
          · cases hs
theorem dRun_sound (ok : TyOK P T) (hM : MOK ops M) {op : Oper → (Operand → Option Value) → AHeap → Option (Value × AHeap)} (hop : ∀ o ρ h u h', op o ρ h = some (u, h') → OpWp P o ρ h fun x y => x = u ∧ y = h') :
    ∀ {os : List (Nat × Oper)} {σ σ' : DSt} {v : Nat → Value} {pa : Nat → Tr Value} {kd : Nat → Kind} {H : Nat → AHeap} {m : Nat}, DP P T cx ops M a0 h0 σ v pa kd H m → (∀ x ∈ os, ops[x.1]? = some x.2) → dRun P T op ops cx.nt a0 M os σ = some σ' →
      ∃ v' pa' kd' H' m', DP P T cx ops M a0 h0 σ' v' pa' kd' H' m'
  | [], σ, σ', v, pa, kd, H, m, D, _, hr => by simp only [dRun, Option.some.injEq] at hr; subst hr; exact ⟨v, pa, kd, H, m, D⟩
  | (j, o) :: os, σ, σ', v, pa, kd, H, m, D, hd, hr => by
    simp only [dRun] at hr
    split at hr
    · rename_i σ1 h1
      obtain ⟨v1, pa1, kd1, H1, m1, D1⟩ := dStep_sound ok hM hop D (hd (j, o) List.mem_cons_self) h1
      exact dRun_sound ok hM hop D1 (fun x hx => hd x (List.mem_cons_of_mem _ hx)) hr
    · cases hr
theorem nums_mem : ∀ {os : List Oper} {j : Nat}, ops.toList.drop j = os → ∀ x ∈ nums os j, ops[x.1]? = some x.2
  | [], j, _, x, hx => by cases hx
  | o :: os, j, hd, x, hx => by
    simp only [nums] at hx
    rcases List.mem_cons.1 hx with rfl | hx
    · rw [← Array.getElem?_toList]
      have := congrArg (fun l : List Oper => l[0]?) hd
      simpa using this
    · exact nums_mem (j := j + 1) (by rw [← List.drop_drop, hd]; rfl) x hx
theorem lateOrd_mem {all : List (Nat × Oper)} {p : Nat × Oper → Prop} (ha : ∀ x ∈ all, p x) : ∀ {os : List (Nat × Oper)} {dn : Nat} {acc : List (Nat × Oper)}, (∀ x ∈ os, p x) → (∀ x ∈ acc, p x) → ∀ x ∈ lateOrd T M all os dn acc, p x
  | [], dn, acc, _, hacc, x, hx => by
    simp only [lateOrd, List.mem_append, List.mem_reverse, List.mem_filter] at hx
    rcases hx with hx | hx
    · exact hacc x hx
    · exact ha x hx.1
  | (j, o) :: os, dn, acc, hos, hacc, x, hx => by
    simp only [lateOrd] at hx
    cases hb : (Nat.beq (memKind T o.op) 2 && !isNew o.op) && !Nat.testBit dn j
    · rw [hb, cond_false] at hx
      exact lateOrd_mem ha (fun y hy => hos y (List.mem_cons_of_mem _ hy)) hacc x hx
    · rw [hb, cond_true] at hx
      refine lateOrd_mem ha (fun y hy => hos y (List.mem_cons_of_mem _ hy)) (fun y hy => ?_) x hx
      rcases List.mem_cons.1 hy with rfl | hy
      · exact hos _ List.mem_cons_self
      · rcases List.mem_append.1 hy with hy | hy
        · exact ha y (List.mem_filter.1 (List.mem_reverse.1 hy)).1
        · exact hacc y hy
theorem DP.fin (ok : TyOK P T) (hmix : P.follows .mixedOrders = true) (hM : MOK ops M) {a : Tr Value} {h : AHeap} {σ : DSt} {v : Nat → Value} {pa : Nat → Tr Value} {kd : Nat → Kind} {H : Nat → AHeap} {m : Nat} (D : DP P T cx ops M a h σ v pa kd H m) (hn : Nat.beq σ.dn (Nat.sub (Nat.shiftLeft 1 ops.size) 1) = true)
    {id : Nat} {Q : AExit → Tr Value → AHeap → Prop} (hQ : Q .normal σ.a σ.h) : CWp P cx (.region id ops true) a h Q := by
  have dn : ∀ j, j < ops.size → Nat.testBit σ.dn j = true := by
    intro j hj
    rw [Nat.eq_of_beq_eq_true hn]
    show Nat.testBit ((1 <<< ops.size) - 1) j = true
    rw [Nat.one_shiftLeft, Nat.testBit_two_pow_sub_one]
    simpa using hj
  have lt : ∀ {j : Nat} {o : Oper}, ops[j]? = some o → Nat.testBit σ.dn j = true := fun hj => dn _ (Array.getElem?_eq_some_iff.1 hj).1
  have R : DRun P cx ops (KB M) a v kd H m := by
    refine { kno := fun i j hk => by (obtain ⟨mk, h1, h2⟩ := hk; exact (hM.mask j mk h1 i h2).1), back := fun j o ho => hM.back j o ho, inj := fun i j o p d hi hj hdo hdp => ?_, dlt := fun i o d hi hd => (D.wr2 i o d (lt hi) hi hd).2, all := fun s hs => ?_, uniq := fun i j s hi hj h1 h2 => (D.no h2).2.2.2 i h1, lts := fun i s hi h1 => (D.no h1).2.2.1, prev := fun j s hj hk i s' hi hs' hlt => ?_, below := fun j i hj hi hk hkb i' s' hi' hs' hlt => D.below j i (dn j hj) hk hkb i' s' hs' hlt, belowP := fun j i l hj hi hk hkb => D.belowP j i l hk hkb, mono := D.monoH, lev := fun j _ => D.lvm j, one := fun j o ho => ⟨pa j, fun d u hu => ?_, D.dfr j o (lt ho) ho, ?_⟩ }
    · have h1 := (D.wr2 i o d (lt hi) hi hdo).1
      have h2 := (D.wr2 j p d (lt hj) hj hdp).1
      rw [h1] at h2; cases h2; rfl
    · obtain ⟨i, h2⟩ := D.all s hs; exact ⟨i, (D.no h2).2.1, h2⟩
    · have hone := D.one j _ (dn j hj) (Array.getElem?_eq_getElem hj)
      unfold KOne at hone
      rw [hk] at hone
      exact hone.1.2.2 i s' hs' hlt
    · rcases D.pas j o (lt ho) ho d u hu with ⟨i, p, g1, g2, g3, g4⟩ | ⟨g1, _, g3⟩
      · exact .inl ⟨i, p, g1, g2, g3, g4⟩
      · exact .inr ⟨g1, fun i p hp hd => g3 i p (lt hp) hp hd⟩
    · have hk := D.one j o (lt ho) ho
      unfold KOne at hk
      cases hkd : kd j with
      | skip => rw [hkd] at hk; exact hk
      | quiet =>
        rw [hkd] at hk
        obtain ⟨k1, k2, k3⟩ := hk
        refine ⟨k1, fun t ht hmay => ?_⟩
        obtain ⟨h', g1, g2⟩ := k2 t ht hmay
        exact aop_sound ok g1 ⟨rfl, g2⟩
      | change s =>
        rw [hkd] at hk
        exact ⟨hk.1.1, hk.1.2.1⟩
      | late s =>
        rw [hkd] at hk
        obtain ⟨⟨k1, rv, ob, q1, q2, q3, q4, q5, q6⟩, _⟩ := hk
        exact ⟨k1, rv, ob, q1, q2, q3, q4, q5, fun h => aop_sound ok (q6 h) ⟨rfl, rfl⟩⟩
      | pure l => rw [hkd] at hk; exact ⟨hk.1, hk.2.1⟩
  have hd := CWp.drawn (id := id) (aF := σ.a) (Q := Q) hmix R (fun d u hu => by
    rw [D.act d] at hu
    split at hu
    · rename_i j hj
      obtain ⟨_, p, g1, g2⟩ := D.wr d j hj
      simp only [Option.some.injEq] at hu
      exact .inl ⟨j, p, g1, g2, hu.symm⟩
    · rename_i hw
      refine .inr ⟨hu, fun i p hp hdp => ?_⟩
      have := (D.wr2 i p d (lt hp) hp hdp).1
      rw [hw] at this; cases this) (by rw [D.hm]; exact hQ)
  rw [D.hz] at hd
  exact hd
theorem evDrawn_sound (ok : TyOK P T) (hmix : P.follows .mixedOrders = true) {op : Oper → (Operand → Option Value) → AHeap → Option (Value × AHeap)} (hop : ∀ o ρ h u h', op o ρ h = some (u, h') → OpWp P o ρ h fun x y => x = u ∧ y = h')
    {id : Nat} {a aF : Tr Value} {h hF : AHeap} (he : evDrawn P T op ops cx.nt a h = some (aF, hF)) {Q : AExit → Tr Value → AHeap → Prop} (hQ : Q .normal aF hF) : CWp P cx (.region id ops true) a h Q := by
  unfold evDrawn at he
  split at he
  · cases he
  rename_i M hM0
  have hM : MOK ops M := dMasks_ok (j := 0) (by simp) hM0 (fun i mk hi => by first | cases hi | (rw [Tr.get_leaf] at hi; cases hi)) (fun i o hi => absurd hi (Nat.not_lt_zero _))
  have z : ∀ j, Nat.testBit 0 j = true → False := fun j hj => by simp at hj
  have D0 : DP P T cx ops M a h ⟨0, a, .leaf, .leaf, [], [], [], h⟩ (fun _ => .tuple #[]) (fun _ => .leaf) (fun _ => .skip) (fun _ => h) 0 :=
    { hz := rfl
      hm := rfl
      hist := .nil
      kdun := fun _ _ => rfl
      dlt := fun j hj => (z j hj).elim
      down := fun j hj => (z j hj).elim
      wr := fun d j hj => by first | cases hj | (rw [Tr.get_leaf] at hj; cases hj)
      wr2 := fun j o d hj => (z j hj).elim
      act := fun d => by first | rfl | (simp only [Tr.get_leaf])
      all := fun s hs => absurd hs (Nat.not_lt_zero _)
      lvm := fun i => Nat.le_refl _
      monoH := fun s hs => absurd hs (Nat.not_lt_zero _)
      below := fun j i hj => (z j hj).elim
      belowP := fun j i l hk => by cases hk
      lvs := fun i l hk => by cases hk
      pas := fun j o hj => (z j hj).elim
      dfr := fun j o hj => (z j hj).elim
      one := fun j o hj => (z j hj).elim }
  have hn0 : ∀ x ∈ nums ops.toList 0, ops[x.1]? = some x.2 := nums_mem (by simp)
  split at he
  · rename_i σ hσ
    cases hb : Nat.beq σ.dn (Nat.sub (Nat.shiftLeft 1 ops.size) 1)
    · rw [hb, cond_false] at he; cases he
    · rw [hb, cond_true] at he
      simp only [Option.some.injEq, Prod.mk.injEq] at he
      obtain ⟨rfl, rfl⟩ := he
      obtain ⟨v, pa, kd, H, m, D⟩ := dRun_sound ok hM hop D0 hn0 hσ
      exact D.fin ok hmix hM hb hQ
  · split at he
    · rename_i σ hσ
      cases hb : Nat.beq σ.dn (Nat.sub (Nat.shiftLeft 1 ops.size) 1)
      · rw [hb, cond_false] at he; cases he
      · rw [hb, cond_true] at he
        simp only [Option.some.injEq, Prod.mk.injEq] at he
        obtain ⟨rfl, rfl⟩ := he
        obtain ⟨v, pa, kd, H, m, D⟩ := dRun_sound ok hM hop D0 (lateOrd_mem hn0 hn0 fun x hx => by cases hx) hσ
        exact D.fin ok hmix hM hb hQ
    · cases he
end
end Go.Ab.Nx
