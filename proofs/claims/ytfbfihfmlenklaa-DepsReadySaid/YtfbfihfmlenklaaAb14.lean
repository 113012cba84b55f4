/-
  A region whose order is left open: whatever the order, it comes to what the text's order comes to, where the operations that change something stand in a chain, and the others give the same wherever they may stand.
-/
import Derived.Test.YtfbfihfmlenklaaAb13
import Derived.Orders
namespace Go.Ab
set_option linter.unusedSimpArgs false
set_option linter.unusedVariables false

def EdgesIn (ops : Array Oper) (X : Nat → Bool) (j : Nat) : Prop := ∀ o, ops[j]? = some o → ∀ e ∈ o.after, Region.binds .any e = true → X e.on = true
def Closed (ops : Array Oper) (X : Nat → Bool) : Prop := ∀ j, X j = true → EdgesIn ops X j
/-- Operation p stands ahead of operation j in every order. -/
def Known (ops : Array Oper) (p j : Nat) : Prop := ∀ X, Closed ops X → EdgesIn ops X j → X p = true

inductive Kind where
  | skip
  | quiet
  | change (s : Nat)

/-- May operation j be carried out when t of those that change something have been? -/
def May (ops : Array Oper) (kd : Nat → Kind) (j t : Nat) : Prop :=
  (∀ i s, i < ops.size → kd i = .change s → Known ops i j → s < t) ∧ (∀ i s, i < ops.size → kd i = .change s → Known ops j i → t ≤ s)

structure DRun (P : Program) (cx : Cx) (ops : Array Oper) (a : Tr Value) (v : Nat → Value) (kd : Nat → Kind) (H : Nat → AHeap) (m : Nat) : Prop where
  back : ∀ (j : Nat) (o : Oper), ops[j]? = some o → ∀ e ∈ o.after, Region.binds .any e = true → e.on < j
  inj : ∀ (i j : Nat) (o p : Oper) (d : Tmp), ops[i]? = some o → ops[j]? = some p → o.dst = some d → p.dst = some d → i = j
  dlt : ∀ (i : Nat) (o : Oper) (d : Tmp), ops[i]? = some o → o.dst = some d → d < cx.nt
  all : ∀ s, s < m → ∃ i, i < ops.size ∧ kd i = .change s
  one : ∀ (j : Nat) (o : Oper), ops[j]? = some o → ∃ pa : Tr Value,
    (∀ d u, pa.get d = some u → (∃ i p, ops[i]? = some p ∧ p.dst = some d ∧ Known ops i j ∧ u = v i) ∨ (a.get d = some u ∧ ∀ (i : Nat) (p : Oper), ops[i]? = some p → p.dst = some d → i = j ∨ Known ops j i)) ∧
    isDefer o.op = false ∧
    match kd j with
    | .skip => aguard ops pa o = some false ∧ v j = .tuple #[]
    | .quiet => aguard ops pa o = some true ∧ (∀ t, t ≤ m → May ops kd j t → OpWp P o (aopnd pa) (H t) fun u h' => u = v j ∧ h' = H t)
    | .change s => aguard ops pa o = some true ∧ OpWp P o (aopnd pa) (H s) (fun u h' => u = v j ∧ h' = H (s + 1)) ∧ s < m ∧ (∀ i, i < ops.size → kd i = .change s → i = j) ∧ (∀ i, i < ops.size → kd i = .change (s + 1) → Known ops j i)

/-- What is known once some of the operations have been carried out. -/
structure DInv (ops : Array Oper) (a : Tr Value) (v : Nat → Value) (kd : Nat → Kind) (m : Nat) (X : Nat → Bool) (t : Nat) (μ : Emb) (n : Nat) (tmps : Array Value) : Prop where
  closed : Closed ops X
  le : t ≤ m
  cnt : ∀ i s, i < ops.size → kd i = .change s → (X i = true ↔ s < t)
  done : ∀ (i : Nat) (o : Oper) (d : Tmp), ops[i]? = some o → o.dst = some d → X i = true → ∃ v', tmps[d]? = some v' ∧ VRel μ n (v i) v'
  old : ∀ d u, a.get d = some u → (∀ (i : Nat) (o : Oper), ops[i]? = some o → o.dst = some d → X i = false) → ∃ v', tmps[d]? = some v' ∧ VRel μ n u v'

section
variable {P : Program} {cx : Cx} {ops : Array Oper} {a : Tr Value} {v : Nat → Value} {kd : Nat → Kind} {H : Nat → AHeap} {m : Nat}

def upd (X : Nat → Bool) (j : Nat) : Nat → Bool := fun i => if i = j then true else X i

theorem closed_upd {X : Nat → Bool} {j : Nat} (hX : Closed ops X) (he : EdgesIn ops X j) : Closed ops (upd X j) := by
  intro i hi o ho e hem hb
  unfold upd
  split
  · rfl
  · by_cases hij : i = j
    · subst hij; exact he o ho e hem hb
    · have : X i = true := by simpa [upd, hij] using hi
      exact hX i this o ho e hem hb

/-- One operation more, in whatever order. -/
theorem drawn_step (D : DRun P cx ops a v kd H m) {X : Nat → Bool} {t : Nat} {μ : Emb} {base : Nat} {tmps : Array Value} {defers : List Deferred} {rd : Option Nat} {w : World} {k : List Item} {cs : List Frame} {j : Nat} {rest : List Nat} {o : Oper}
    (I : DInv ops a v kd m X t μ (H t).next tmps) (hsz : tmps.size = cx.nt) (hrd : RdRel μ (H t).next cx.rd rd) (hdok : DOk μ (H t) w defers) (hdno : cx.rd ≠ none → defers = []) (hdge : ∀ d ∈ defers, ∀ q, d.target = .collected q → base ≤ q)
    (hbsz : base ≤ w.heap.size) (st : StRel μ (H t) w) (ho : ops[j]? = some o) (hj : X j = false) (hed : EdgesIn ops X j) :
    ∃ t' μ' tmps' w', DInv ops a v kd m (upd X j) t' μ' (H t').next tmps' ∧ tmps'.size = cx.nt ∧ RdRel μ' (H t').next cx.rd rd ∧ DOk μ' (H t') w' defers ∧ base ≤ w'.heap.size ∧ Ext μ (H t) w μ' (H t') w' ∧
      Steps P (lone (frame cx.fn rd tmps defers (.inRegion ops (j :: rest) :: k)) cs w) (lone (frame cx.fn rd tmps' defers (.inRegion ops rest :: k)) cs w') := by
  obtain ⟨pa, hpa, hdf, hk⟩ := D.one j o ho
  have hjlt : j < ops.size := (Array.getElem?_eq_some_iff.1 ho).1
  -- who stands behind j has not been carried out
  have later : ∀ i, Known ops j i → X i = false := by
    intro i hi
    cases hx : X i with
    | false => rfl
    | true => have := hi X I.closed (I.closed i hx); rw [this] at hj; cases hj
  have act : ActRel μ (H t).next pa tmps := by
    intro d u hu
    rcases hpa d u hu with ⟨i, p, hp, hd, hkn, rfl⟩ | ⟨hau, hl⟩
    · exact I.done i p d hp hd (hkn X I.closed hed)
    · refine I.old d u hau fun i p hp hd => ?_
      rcases hl i p hp hd with rfl | hl
      · exact hj
      · exact later i hl
  -- what is known behind the step
  have after : ∀ (t' : Nat) (μ' : Emb) (w' : World) (u' : Value), Ext μ (H t) w μ' (H t') w' → VRel μ' (H t').next (v j) u' → t' ≤ m → (∀ i s, i < ops.size → kd i = .change s → (upd X j i = true ↔ s < t')) →
      DInv ops a v kd m (upd X j) t' μ' (H t').next (put tmps o.dst u') ∧ (put tmps o.dst u').size = cx.nt := by
    intro t' μ' w' u' hx hv hle hcnt
    refine ⟨⟨closed_upd I.closed hed, hle, hcnt, fun i p d hp hd hi => ?_, fun d u hau hno => ?_⟩, ?_⟩
    · by_cases hij : i = j
      · subst hij
        rw [ho] at hp; cases hp
        have hlt : d < tmps.size := by rw [hsz]; exact D.dlt i o d ho hd
        exact ⟨u', by simp [put, hd, hlt], hv⟩
      · have hxi : X i = true := by simpa [upd, hij] using hi
        obtain ⟨v', h1, h2⟩ := I.done i p d hp hd hxi
        refine ⟨v', ?_, h2.mono hx.agree hx.next⟩
        cases hod : o.dst with
        | none => exact h1
        | some d' =>
          have : d' ≠ d := fun e => hij (D.inj i j p o d hp ho hd (by rw [hod, e]))
          simp only [put]; rw [Array.getElem?_setIfInBounds_ne this]; exact h1
    · obtain ⟨v', h1, h2⟩ := I.old d u hau fun i p hp hd => by
        have := hno i p hp hd
        unfold upd at this
        split at this
        · cases this
        · exact this
      refine ⟨v', ?_, h2.mono hx.agree hx.next⟩
      cases hod : o.dst with
      | none => exact h1
      | some d' =>
        have : d' ≠ d := fun e => by
          have := hno j o ho (by rw [hod, e])
          simp [upd] at this
        simp only [put]; rw [Array.getElem?_setIfInBounds_ne this]; exact h1
    · cases hod : o.dst <;> simp [put, hsz]
  have same : ∀ i s, i < ops.size → kd i = .change s → (∀ s', kd j ≠ .change s') → (upd X j i = true ↔ s < t) := by
    intro i s hi hks hne
    have : i ≠ j := fun e => by subst e; exact hne s hks
    simp only [upd, this, if_false]
    exact I.cnt i s hi hks
  cases hkd : kd j with
  | skip =>
    rw [hkd] at hk
    obtain ⟨hg, hv⟩ := hk
    have hw := aguard_wanted act hg
    obtain ⟨i1, i2⟩ := after t μ w undef (Ext.refl st) (by rw [hv]; exact .tuple .nil) I.le (fun i s hi hks => same i s hi hks fun s' e => by rw [hkd] at e; cases e)
    refine ⟨t, μ, _, w, i1, i2, hrd, hdok, hbsz, Ext.refl st, .one ?_⟩
    have := st_op_skip (P := P) (fn := cx.fn) (rd := rd) (tmps := tmps) (defers := defers) (k := k) (cs := cs) (w := w) (ops := ops) (i := j) (rest := rest) (by simp [ho, hw])
    rw [this, ho]; rfl
  | quiet =>
    rw [hkd] at hk
    obtain ⟨hg, hop⟩ := hk
    have hw := aguard_wanted act hg
    have hmay : May ops kd j t := by
      refine ⟨fun i s hil hks hkn => (I.cnt i s hil hks).1 (hkn X I.closed hed), fun i s hil hks hkn => ?_⟩
      have hx := later i hkn
      rcases Nat.lt_or_ge s t with h | h
      · have := (I.cnt i s hil hks).2 h; rw [hx] at this; cases this
      · exact h
    obtain ⟨nx, w1, mm, u, u', h', μ', w', e1, e2, e3, ⟨rfl, rfl⟩, e6, e7⟩ := hop t I.le hmay μ (opnd tmps) w (frame cx.fn rd tmps defers (.inRegion ops (j :: rest) :: k)) cs act.opnd st
    obtain ⟨i1, i2⟩ := after t μ' w' u' e6 e7 I.le (fun i s hi hks => same i s hi hks fun s' e => by rw [hkd] at e; cases e)
    refine ⟨t, μ', _, w', i1, i2, hrd.mono e6.agree e6.next, hdok.ext e6, Nat.le_trans hbsz e6.size, e6, .head (st_op_push ho hw hdf e1 e2) ?_⟩
    rw [finish_region, ho] at e3
    exact e3
  | change s =>
    rw [hkd] at hk
    obtain ⟨hg, hop, hsm, huniq, hchain⟩ := hk
    have hw := aguard_wanted act hg
    have hst : s = t := by
      have hns : ¬ s < t := fun h => by rw [(I.cnt j s hjlt hkd).2 h] at hj; cases hj
      rcases Nat.lt_or_ge t s with h | h
      · exfalso
        -- the one ahead has been carried out
        obtain ⟨i, hil, hki⟩ := D.all t (by omega)
        have : ∀ q, t + q < m → ∀ i', i' < ops.size → kd i' = .change (t + q) → q ≠ 0 → X i' = false ∨ True := fun _ _ _ _ _ _ => .inr trivial
        -- chain: t-th ≺ .. ≺ s-th
        have chain : ∀ q, ∀ i', i' < ops.size → kd i' = .change (t + q + 1) → EdgesIn ops X i' → X i = true := by
          intro q
          induction q with
          | zero =>
            intro i' hi' hk' he'
            obtain ⟨p, hp⟩ : ∃ p, ops[i]? = some p := ⟨_, Array.getElem?_eq_getElem hil⟩
            obtain ⟨pa2, _, _, hk2⟩ := D.one i p hp
            rw [hki] at hk2
            exact (hk2.2.2.2.2 i' hi' hk') X I.closed he'
          | succ q ih =>
            intro i' hi' hk' he'
            have hlt : t + q + 1 < m := by
              obtain ⟨p, hp⟩ : ∃ p, ops[i']? = some p := ⟨_, Array.getElem?_eq_getElem hi'⟩
              obtain ⟨pa2, _, _, hk2⟩ := D.one i' p hp
              rw [hk'] at hk2
              have := hk2.2.2.1
              omega
            obtain ⟨i2, hi2, hk2⟩ := D.all (t + q + 1) hlt
            obtain ⟨p, hp⟩ : ∃ p, ops[i2]? = some p := ⟨_, Array.getElem?_eq_getElem hi2⟩
            obtain ⟨pa2, _, _, hk3⟩ := D.one i2 p hp
            rw [hk2] at hk3
            have hx2 : X i2 = true := (hk3.2.2.2.2 i' hi' (by rw [hk']; congr 1)) X I.closed he'
            exact ih i2 hi2 hk2 (I.closed i2 hx2)
        have hxi : X i = true := chain (s - t - 1) j hjlt (by rw [hkd]; congr 1; omega) hed
        have := (I.cnt i t hil hki).1 hxi
        omega
      · omega
    subst hst
    obtain ⟨nx, w1, mm, u, u', h', μ', w', e1, e2, e3, ⟨rfl, rfl⟩, e6, e7⟩ := hop μ (opnd tmps) w (frame cx.fn rd tmps defers (.inRegion ops (j :: rest) :: k)) cs act.opnd st
    obtain ⟨i1, i2⟩ := after (s + 1) μ' w' u' e6 e7 (by omega) (fun i s' hi hks => by
      by_cases hij : i = j
      · subst hij; rw [hkd] at hks; cases hks; simp [upd]
      · simp only [upd, hij, if_false]
        rw [I.cnt i s' hi hks]
        constructor
        · intro h; omega
        · intro h
          rcases Nat.lt_or_ge s' s with h' | h'
          · exact h'
          · exfalso; have : s' = s := by omega
            subst this; exact hij (huniq i hi hks))
    refine ⟨s + 1, μ', _, w', i1, i2, hrd.mono e6.agree e6.next, hdok.ext e6, Nat.le_trans hbsz e6.size, e6, .head (st_op_push ho hw hdf e1 e2) ?_⟩
    rw [finish_region, ho] at e3
    exact e3

theorem ready_eq (listed : Array Bool) : ((List.range ops.size).filter fun i => !listed.getD i true && ((ops[i]?).map (·.after.all fun e => !Region.binds .any e || listed.getD e.on false)).getD false) = Region.ready .any ops listed := rfl

/-- All of them, in whatever order. -/
theorem drawn_all (D : DRun P cx ops a v kd H m) : ∀ (fuel tape : Nat) (listed : Array Bool) (t : Nat) (μ : Emb) (base : Nat) (tmps : Array Value) (defers : List Deferred) (rd : Option Nat) (w : World) (k : List Item) (cs : List Frame),
    listed.size = ops.size → (listed.toList.countP (fun b => !b)) = fuel → DInv ops a v kd m (fun i => listed.getD i false) t μ (H t).next tmps → tmps.size = cx.nt → RdRel μ (H t).next cx.rd rd → DOk μ (H t) w defers → (cx.rd ≠ none → defers = []) →
    (∀ d ∈ defers, ∀ q, d.target = .collected q → base ≤ q) → base ≤ w.heap.size → StRel μ (H t) w →
    ∃ μ' tmps' w', DInv ops a v kd m (fun i => decide (i < ops.size)) m μ' (H m).next tmps' ∧ tmps'.size = cx.nt ∧ RdRel μ' (H m).next cx.rd rd ∧ DOk μ' (H m) w' defers ∧ base ≤ w'.heap.size ∧ Ext μ (H t) w μ' (H m) w' ∧
      Steps P (lone (frame cx.fn rd tmps defers (.inRegion ops (Region.linearise.go .any ops fuel tape listed []) :: k)) cs w) (lone (frame cx.fn rd tmps' defers k) cs w') := by
  intro fuel
  induction fuel with
  | zero =>
    intro tape listed t μ base tmps defers rd w k cs hsize hcount I hsz hrd hdok hdno hdge hbsz st
    have hall : ∀ i, i < ops.size → listed.getD i false = true := by
      intro i hi
      have h0 : i < listed.size := by omega
      have := List.countP_eq_zero.1 hcount (listed[i]) (by simp)
      simp only [Array.getD_eq_getD_getElem?, Array.getElem?_eq_getElem h0, Option.getD_some]
      simpa using this
    have hX : (fun i => listed.getD i false) = fun i => decide (i < ops.size) := by
      funext i
      by_cases hi : i < ops.size
      · simp [hall i hi, hi]
      · have : ¬ i < listed.size := by omega
        simp [Array.getD_eq_getD_getElem?, Array.getElem?_eq_none (Nat.le_of_not_lt this), hi]
    have htm : t = m := by
      rcases Nat.lt_or_ge t m with h | h
      · obtain ⟨i, hi, hk⟩ := D.all t h
        have := (I.cnt i t hi hk).1 (hall i hi)
        omega
      · have := I.le; omega
    subst htm
    rw [hX] at I
    refine ⟨μ, tmps, w, I, hsz, hrd, hdok, hbsz, Ext.refl st, .one ?_⟩
    simp only [Region.linearise.go, List.reverse_nil]
    exact st_region_end
  | succ fuel ih =>
    intro tape listed t μ base tmps defers rd w k cs hsize hcount I hsz hrd hdok hdno hdge hbsz st
    -- somebody is ready: the first that has not been listed
    have hsome : ∃ i, i ∈ Region.ready .any ops listed := by
      have hex : ∃ i, i < ops.size ∧ listed.getD i true = false := by
        have : 0 < listed.toList.countP (fun b => !b) := by omega
        obtain ⟨b, hb1, hb2⟩ := List.countP_pos_iff.1 this
        obtain ⟨i, hi⟩ := List.getElem?_of_mem hb1
        have hlt := (List.getElem?_eq_some_iff.1 hi).1
        simp only [Array.length_toList] at hlt
        rw [Array.getElem?_toList] at hi
        exact ⟨i, by omega, by simp only [Array.getD_eq_getD_getElem?, hi, Option.getD_some]; simpa using hb2⟩
      have hmin : ∀ q, (∃ i, i < q ∧ i < ops.size ∧ listed.getD i true = false) → ∃ i, i < ops.size ∧ listed.getD i true = false ∧ ∀ i', i' < i → listed.getD i' true = true := by
        intro q
        induction q with
        | zero => rintro ⟨i, hi, _⟩; omega
        | succ q ihq =>
          rintro ⟨i, hi, hio, hil⟩
          by_cases hex2 : ∃ i', i' < q ∧ i' < ops.size ∧ listed.getD i' true = false
          · exact ihq hex2
          · refine ⟨i, hio, hil, fun i' hi' => ?_⟩
            cases hx : listed.getD i' true with
            | true => rfl
            | false => exact (hex2 ⟨i', by omega, by omega, hx⟩).elim
      obtain ⟨i0, hi0, hl0⟩ := hex
      obtain ⟨i, hio, hil, hbelow⟩ := hmin (i0 + 1) ⟨i0, by omega, hi0, hl0⟩
      obtain ⟨o, ho⟩ : ∃ o, ops[i]? = some o := ⟨_, Array.getElem?_eq_getElem hio⟩
      refine ⟨i, mem_ready.2 ⟨hil, o, ho, fun e he hb => ?_⟩⟩
      have hlt := D.back i o ho e he hb
      have := hbelow e.on hlt
      have hls : e.on < listed.size := by omega
      simp only [Array.getD_eq_getD_getElem?, Array.getElem?_eq_getElem hls, Option.getD_some] at this ⊢
      exact this
    -- the one that is taken
    have hgo : ∃ i tape', i ∈ Region.ready .any ops listed ∧ Region.linearise.go .any ops (fuel + 1) tape listed [] = i :: Region.linearise.go .any ops fuel tape' (listed.setIfInBounds i true) [] := by
      simp only [Region.linearise.go, ready_eq]
      have hlen : 0 < (Region.ready .any ops listed).length := by
        obtain ⟨i, hi⟩ := hsome
        exact List.length_pos_of_mem hi
      have hmod : tape % (Region.ready .any ops listed).length < (Region.ready .any ops listed).length := Nat.mod_lt _ hlen
      rw [List.getElem?_eq_getElem hmod]
      refine ⟨_, tape / (Region.ready .any ops listed).length, List.getElem_mem hmod, ?_⟩
      simp only
      rw [linearise_go_acc .any ops fuel _ _ [_]]
      rfl
    obtain ⟨j, tape', hjr, hgo⟩ := hgo
    obtain ⟨hjl, o, ho, hje⟩ := mem_ready.1 hjr
    have hjlt : j < ops.size := (Array.getElem?_eq_some_iff.1 ho).1
    have hjls : j < listed.size := by omega
    have hjf : listed[j] = false := by
      simpa only [Array.getD_eq_getD_getElem?, Array.getElem?_eq_getElem hjls, Option.getD_some] using hjl
    have hj0 : listed.getD j false = false := by simp only [Array.getD_eq_getD_getElem?, Array.getElem?_eq_getElem hjls, Option.getD_some, hjf]
    rw [hgo]
    obtain ⟨t', μ', tmps', w', I', s1, s2, s3, s4, s5, s6⟩ := drawn_step D (rest := Region.linearise.go .any ops fuel tape' (listed.setIfInBounds j true) []) (k := k) (cs := cs) I hsz hrd hdok hdno hdge hbsz st ho hj0
      (fun p hp e he hb => by rw [ho] at hp; cases hp; exact hje e he hb)
    have hX : upd (fun i => listed.getD i false) j = fun i => (listed.setIfInBounds j true).getD i false := by
      funext i
      simp only [upd]
      by_cases hij : i = j
      · subst hij; simp [Array.getD_eq_getD_getElem?, hjls]
      · simp only [hij, if_false, Array.getD_eq_getD_getElem?]
        rw [Array.getElem?_setIfInBounds_ne (Ne.symm hij)]
    rw [hX] at I'
    have hcount' : ((listed.setIfInBounds j true).toList.countP fun b => !b) = fuel := by
      rw [Array.toList_setIfInBounds]
      have hjl' : j < listed.toList.length := by simpa using hjls
      rw [List.countP_set hjl']
      have : listed.toList[j] = false := by simpa using hjf
      simp [this, hcount]
    obtain ⟨μ2, tmps2, w2, I2, r1, r2, r3, r4, r5, r6⟩ := ih tape' (listed.setIfInBounds j true) t' μ' base tmps' defers rd w' k cs (by simpa using hsize) hcount' I' s1 s2 s3 hdno hdge s4 s5.st
    exact ⟨μ2, tmps2, w2, I2, r1, r2, r3, r4, s5.trans r5, s6.trans r6⟩

/-- A region whose order is left open. -/
theorem CWp.drawn (hmix : P.follows .mixedOrders = true) (D : DRun P cx ops a v kd H m) {id : Nat} {aF : Tr Value} {Q : AExit → Tr Value → AHeap → Prop}
    (hF : ∀ d u, aF.get d = some u → (∃ i p, ops[i]? = some p ∧ p.dst = some d ∧ u = v i) ∨ (a.get d = some u ∧ ∀ (i : Nat) (p : Oper), ops[i]? = some p → p.dst ≠ some d)) (hQ : Q .normal aF (H m)) : CWp P cx (.region id ops true) a (H 0) Q := by
  intro μ base tmps defers rd w k cs p
  have hsched : ∀ t, Region.schedule (P.follows .mixedOrders) ops t = Region.linearise.go .any ops ops.size t (Array.replicate ops.size false) [] := fun t => by simp [Region.schedule, hmix, Region.linearise]
  have hfalse : (fun i => (Array.replicate ops.size false).getD i false) = fun _ => false := by
    funext i
    simp only [Array.getD_eq_getD_getElem?, Array.getElem?_replicate]
    split <;> rfl
  have I : DInv ops a v kd m (fun i => (Array.replicate ops.size false).getD i false) 0 μ (H 0).next tmps := by
    rw [hfalse]
    exact ⟨fun j hj => by simp at hj, Nat.zero_le _, fun i s _ _ => by simp, fun i o d _ _ hx => by simp at hx, fun d u hu _ => p.act d u hu⟩
  have p' := p.ext (Ext.same (w' := { w with drawn := w.drawn + 1 }) p.st rfl rfl rfl)
  obtain ⟨μ', tmps', w', I', r1, r2, r3, r4, r5, r6⟩ := drawn_all D ops.size (w.tape w.drawn (.order cx.fn id)) (Array.replicate ops.size false) 0 μ base tmps defers rd { w with drawn := w.drawn + 1 } k cs (by simp) (by simp [List.countP_replicate])
    I p'.size p'.rdr p'.dok p'.dno p'.dge p'.bsz p'.st
  refine ⟨.normal, aF, H m, μ', tmps', defers, w', hQ, ⟨fun d u hu => ?_, r1, r2, r3, p.dno, p.dge, r4, r5.st⟩, (Ext.same (w' := { w with drawn := w.drawn + 1 }) p.st rfl rfl rfl).trans r5, .head st_region_draw ?_⟩
  · rcases hF d u hu with ⟨i, o, ho, hd, rfl⟩ | ⟨hau, hno⟩
    · exact I'.done i o d ho hd (by simpa using (Array.getElem?_eq_some_iff.1 ho).1)
    · exact I'.old d u hau fun i o ho hd => (hno i o ho hd).elim
  · rw [hsched]; exact r6
end

end Go.Ab
