/-
  The operations of a program under the view: values, fields, cells that are loaded and stored, new rows.
-/
import Derived.Test.YtebheelmgcggmaaGreatAb2
import Derived.Laws.Cells
namespace Go.Ab
set_option linter.unusedSimpArgs false
set_option linter.unusedVariables false
noncomputable def GoodV (P : Program) (μ : Emb) (h : AHeap) (w : World) (s : Sem Value) (v : Value) (h' : AHeap) : Prop :=
  ∃ v' w' μ', s.run P w = .ok v' w' ∧ Ext μ h w μ' h' w' ∧ VRel μ' h'.next v v'
noncomputable def GoodU (P : Program) (μ : Emb) (h : AHeap) (w : World) (s : Sem Unit) (h' : AHeap) : Prop :=
  ∃ w' μ', s.run P w = .ok () w' ∧ Ext μ h w μ' h' w'
noncomputable def pureRun {α : Type} (P : Program) : Sem α → Option α
  | .pure a => some a
  | .program k => pureRun P (k P)
  | .mark _ k => pureRun P k
  | _ => none
theorem pureRun_run {α : Type} {P : Program} : ∀ (s : Sem α) {a : α} (w : World), pureRun P s = some a → s.run P w = .ok a w := by
  intro s
  induction s with
  | pure a => intro b w h; simp [pureRun] at h; subst h; rfl
  | program k ih => intro b w h; simp only [pureRun] at h; simp only [Sem.run]; exact ih P w h
  | mark m k ih => intro b w h; simp only [pureRun] at h; simp only [Sem.run]; exact ih w h
  | _ => intro b w h; simp [pureRun] at h
structure TI where
  size : Nat
  bytes : Nat
  und : TypeDesc
  zero : Option Value
noncomputable def TI.agg (t : TI) : Bool := match t.und with | .struct _ | .array _ _ => true | _ => false
structure TyOK (P : Program) (T : Tr TI) : Prop where
  ok : ∀ t ti, T.get t = some ti → ∃ i, P.info? t = some i ∧ i.size = ti.size ∧ i.bytes = ti.bytes ∧ i.zero = ti.zero ∧ P.underlying t = some ti.und
section types
variable {P : Program} {T : Tr TI} (ok : TyOK P T) {t : TypeId} {ti : TI} (ht : T.get t = some ti) (w : World)
include ok ht
theorem run_underlying : (underlying t).run P w = .ok ti.und w := by
  obtain ⟨i, h1, h2, h3, h4, h5⟩ := ok.ok t ti ht
  simp [underlying, h5]
theorem run_typeInfo : ∃ i, (typeInfo t).run P w = .ok i w ∧ i.size = ti.size ∧ i.bytes = ti.bytes ∧ i.zero = ti.zero := by
  obtain ⟨i, h1, h2, h3, h4, h5⟩ := ok.ok t ti ht
  exact ⟨i, by simp [typeInfo, h1], h2, h3, h4⟩
theorem run_sizeOf : (sizeOf t).run P w = .ok ti.size w := by
  obtain ⟨i, h1, h2, h3, h4⟩ := run_typeInfo ok ht w
  simp [sizeOf, h1, h2]
theorem run_isAgg : (isAgg t).run P w = .ok ti.agg w := by
  simp only [isAgg, Sem.run_bind, run_underlying ok ht, Result.andThen_ok, TI.agg]
  split <;> rename_i hx <;> simp_all
theorem run_zeroValue {z : Value} (hz : ti.zero = some z) : (zeroValue t).run P w = .ok z w := by
  obtain ⟨i, h1, h2, h3, h4⟩ := run_typeInfo ok ht w
  rw [hz] at h4
  simp [zeroValue, h1, h4]
end types
@[simp] theorem add_none (b o n : Nat) : (Addr.mk b o none).add n = ⟨b, o + n, none⟩ := by
  unfold Addr.add; split
  · rename_i h; subst h; rfl
  · rfl
noncomputable def rowOf (h : AHeap) (r : Nat) : Option (List Value) :=
  match h.get r with
  | some (.cells vs _) => some vs
  | some (.ro vs) => some vs
  | _ => none
theorem StRel.cell {μ : Emb} {h : AHeap} {w : World} (st : StRel μ h w) {r : Nat} {vs : List Value} (hr : rowOf h r = some vs) {e : Ent} (hm : μ r = some e) {i : Nat} {v : Value} (hv : vs[i]? = some v) :
    ∃ v', w.cell? ⟨e.b, e.d + i, none⟩ = some v' ∧ VRel μ h.next v v' := by
  unfold rowOf at hr
  split at hr
  · rename_i vs' sz hg
    cases hr
    obtain ⟨_, e', c, h2, h3, _, cs, t, fz, rfl, _, _, _, h8⟩ := st.live r _ hg
    rw [hm] at h2; cases h2
    obtain ⟨v', h9, h10⟩ := h8 i v hv
    exact ⟨v', by simp [World.cell?, h3, h9], h10⟩
  · rename_i vs' hg
    cases hr
    obtain ⟨_, e', c, h2, h3, cs, t, fz, rfl, h8⟩ := st.live r _ hg
    rw [hm] at h2; cases h2
    obtain ⟨v', h9, h10⟩ := h8 i v hv
    exact ⟨v', by simp [World.cell?, h3, h9], h10⟩
  · cases hr
noncomputable def cellsOf (vs : List Value) (off n : Nat) : Option (List Value) :=
  bif Nat.ble (off + n) vs.length then some ((vs.drop off).take n) else none
theorem cellsOf_some {vs l : List Value} {off n : Nat} (h : cellsOf vs off n = some l) : off + n ≤ vs.length ∧ l = (vs.drop off).take n ∧ l.length = n := by
  unfold cellsOf at h
  cases hb : Nat.ble (off + n) vs.length
  · simp [hb] at h
  · rw [hb] at h
    simp at h
    have : off + n ≤ vs.length := Nat.le_of_ble_eq_true hb
    subst h
    exact ⟨this, rfl, by simp; omega⟩
theorem StRel.loadCells {P : Program} {μ : Emb} {h : AHeap} {w : World} (st : StRel μ h w) {r : Nat} {vs : List Value} (hr : rowOf h r = some vs) {e : Ent} (hm : μ r = some e) {off n : Nat} {l : List Value}
    (hl : cellsOf vs off n = some l) : ∃ l', (loadCells ⟨e.b, e.d + off, none⟩ n).run P w = .ok l'.toArray w ∧ LRel μ h.next l l' := by
  obtain ⟨h1, rfl, h3⟩ := cellsOf_some hl
  have hex : ∀ j, j < n → ∃ v', w.cell? ⟨e.b, e.d + off + j, none⟩ = some v' ∧ ∀ v, vs[off + j]? = some v → VRel μ h.next v v' := by
    intro j hj
    have hlt : off + j < vs.length := by omega
    obtain ⟨v', h4, h5⟩ := st.cell hr hm (List.getElem?_eq_getElem hlt)
    exact ⟨v', by rw [← h4, Nat.add_assoc], fun v hv => by rw [List.getElem?_eq_getElem hlt] at hv; cases hv; exact h5⟩
  have hch : ∃ f : Nat → Value, ∀ j, j < n → w.cell? ⟨e.b, e.d + off + j, none⟩ = some (f j) ∧ ∀ v, vs[off + j]? = some v → VRel μ h.next v (f j) :=
    ⟨fun j => if hj : j < n then (hex j hj).choose else undef, fun j hj => by simp only [dif_pos hj]; exact (hex j hj).choose_spec⟩
  obtain ⟨f, hf⟩ := hch
  refine ⟨(List.range n).map f, run_loadCells w _ n f (fun j hj => by simpa using (hf j hj).1), LRel.of_getElem? (by simp; omega) ?_⟩
  intro i v v' hv hv'
  have hi : i < n := by
    have := (List.getElem?_eq_some_iff.1 hv').1
    simpa using this
  simp only [List.getElem?_take, hi, if_true, List.getElem?_drop] at hv
  simp only [List.getElem?_map, List.getElem?_range hi, Option.map_some] at hv'
  cases hv'
  exact (hf i hi).2 v hv
theorem StRel.loadVar {P : Program} {T : Tr TI} (ok : TyOK P T) {t : TypeId} {ti : TI} (ht : T.get t = some ti) {μ : Emb} {h : AHeap} {w : World} (st : StRel μ h w) {r : Nat} {vs : List Value}
    (hr : rowOf h r = some vs) {e : Ent} (hm : μ r = some e) {off : Nat} {v : Value}
    (hv : (bif ti.agg then (cellsOf vs off ti.size).map (fun l => Value.agg l.toArray) else vs[off]?) = some v) :
    ∃ v', (loadVar t ⟨e.b, e.d + off, none⟩).run P w = .ok v' w ∧ VRel μ h.next v v' := by
  cases ha : ti.agg
  · rw [ha] at hv
    simp only [cond_false] at hv
    obtain ⟨v', h1, h2⟩ := st.cell hr hm hv
    exact ⟨v', by simp [Go.loadVar, run_isAgg ok ht, ha, h1], h2⟩
  · rw [ha] at hv
    simp only [cond_true, Option.map_eq_some_iff] at hv
    obtain ⟨l, hl, rfl⟩ := hv
    obtain ⟨l', h1, h2⟩ := st.loadCells (P := P) hr hm hl
    exact ⟨.agg l'.toArray, by simp [Go.loadVar, run_isAgg ok ht, ha, run_sizeOf ok ht, h1], .agg (by simpa using h2)⟩
noncomputable def splice : List Value → Nat → List Value → List Value
  | vs, _, [] => vs
  | [], _, _ => []
  | _ :: vs, 0, x :: xs => x :: splice vs 0 xs
  | v :: vs, off + 1, xs => v :: splice vs off xs
theorem splice_length : ∀ (vs : List Value) (off : Nat) (xs : List Value), (splice vs off xs).length = vs.length
  | vs, _, [] => by cases vs <;> simp [splice]
  | [], _, _ :: _ => by simp [splice]
  | _ :: vs, 0, x :: xs => by simp [splice, splice_length vs 0 xs]
  | v :: vs, off + 1, x :: xs => by simp [splice, splice_length vs off (x :: xs)]
theorem splice_get : ∀ (vs : List Value) (off : Nat) (xs : List Value) (i : Nat), off + xs.length ≤ vs.length → (splice vs off xs)[i]? = if off ≤ i ∧ i < off + xs.length then xs[i - off]? else vs[i]?
  | vs, off, [], i, _ => by
    have : splice vs off [] = vs := by cases vs <;> simp [splice]
    rw [this, if_neg (by simp)]
  | [], off, x :: xs, i, h => by simp at h
  | v :: vs, 0, x :: xs, i, h => by
    cases i with
    | zero => simp [splice]
    | succ i =>
      have ih := splice_get vs 0 xs i (by simp at h ⊢; omega)
      simp only [splice, List.getElem?_cons_succ, ih]
      simp
  | v :: vs, off + 1, x :: xs, i, h => by
    cases i with
    | zero => simp [splice]
    | succ i =>
      have ih := splice_get vs off (x :: xs) i (by simp at h ⊢; omega)
      simp only [splice, List.getElem?_cons_succ, ih]
      simp only [List.length_cons]
      by_cases hc : off ≤ i ∧ i < off + (xs.length + 1)
      · rw [if_pos hc, if_pos (by omega)]; congr 1; omega
      · rw [if_neg hc, if_neg (by omega)]
theorem run_storeCells {P : Program} (b o : Nat) (t : TypeId) (fz : Nat × Nat) : ∀ (xs : List Value) (i : Nat) (cs : Array Value) (w : World), w.heap[b]? = some (.cells cs t fz) → o + i + xs.length ≤ cs.size →
    (∀ j, j < xs.length → ¬ (fz.1 ≤ o + i + j ∧ o + i + j < fz.2)) → (∀ x ∈ xs, x.oneCell' = true) →
    ∃ w' cs', (storeCells ⟨b, o, none⟩ xs i).run P w = .ok () w' ∧ w'.heap.size = w.heap.size ∧ (∀ q, q ≠ b → w'.heap[q]? = w.heap[q]?) ∧ w'.heap[b]? = some (.cells cs' t fz) ∧ cs'.size = cs.size ∧
      (∀ k, cs'[k]? = if o + i ≤ k ∧ k < o + i + xs.length then xs[k - (o + i)]? else cs[k]?) ∧ w'.os = w.os ∧ w'.output = w.output
  | [], i, cs, w, hb, _, _, _ => ⟨w, cs, rfl, rfl, fun _ _ => rfl, hb, rfl, fun k => by rw [if_neg (by simp)], rfl, rfl⟩
  | x :: xs, i, cs, w, hb, hsz, hfz, hone => by
    simp only [List.length_cons] at hsz
    have hlt : o + i < cs.size := by omega
    have hcell : w.cell? ⟨b, o + i, none⟩ = some cs[o + i] := by simp [World.cell?, hb, Array.getElem?_eq_getElem hlt]
    have hfr : w.frozen? ⟨b, o + i, none⟩ = false := by
      have := hfz 0 (by simp)
      simp only [World.frozen?, hb]
      simp only [Nat.add_zero] at this
      by_cases h1 : fz.1 ≤ o + i <;> by_cases h2 : o + i < fz.2 <;> simp_all
    have hb1 : (w.setCell ⟨b, o + i, none⟩ x).heap[b]? = some (.cells (cs.setIfInBounds (o + i) x) t fz) := by
      simp [World.setCell, Array.getElem?_modify, hb]
    obtain ⟨w', cs', h1, h2, h3, h4, h5, h6, h7, h8⟩ := run_storeCells (P := P) b o t fz xs (i + 1) (cs.setIfInBounds (o + i) x) (w.setCell ⟨b, o + i, none⟩ x) hb1 (by simp; omega)
      (fun j hj => by have := hfz (j + 1) (by simpa using hj); rwa [show o + i + (j + 1) = o + (i + 1) + j by omega] at this) (fun y hy => hone y (List.mem_cons_of_mem _ hy))
    refine ⟨w', cs', ?_, by simpa using h2, fun q hq => ?_, h4, by simpa using h5, fun k => ?_, h7, h8⟩
    · simp only [storeCells, Sem.run_bind, add_none, run_store P w _ x _ (hone x List.mem_cons_self), hcell, hfr]
      exact h1
    · rw [h3 q hq]
      simp [World.setCell, Array.getElem?_modify, Ne.symm hq]
    · rw [h6 k]
      simp only [List.length_cons]
      by_cases hk : k = o + i
      · subst hk
        rw [if_neg (by omega), if_pos (by omega)]
        simp [hlt]
      · by_cases hc : o + (i + 1) ≤ k ∧ k < o + (i + 1) + xs.length
        · rw [if_pos hc, if_pos (by omega), show k - (o + i) = (k - (o + (i + 1))) + 1 by omega, List.getElem?_cons_succ]
        · rw [if_neg hc, if_neg (by omega), Array.getElem?_setIfInBounds_ne (Ne.symm hk)]
noncomputable def oneCells (xs : List Value) : Bool := xs.all Value.oneCell'
theorem VRel.oneCell {μ : Emb} {n : Nat} {v v' : Value} (h : VRel μ n v v') : v'.oneCell' = v.oneCell' := by cases h <;> rfl
theorem LRel.oneCells {μ : Emb} {n : Nat} : ∀ {l l' : List Value}, LRel μ n l l' → Ab.oneCells l = true → ∀ x ∈ l', x.oneCell' = true
  | _, _, .nil, _ => by simp
  | _, _, .cons h t, ho => by
    simp only [Ab.oneCells, List.all_cons, Bool.and_eq_true] at ho
    intro x hx
    cases hx with
    | head => rw [h.oneCell]; exact ho.1
    | tail _ hx => exact LRel.oneCells t ho.2 x hx
theorem VRel.cells {μ : Emb} {n : Nat} {v v' : Value} (h : VRel μ n v v') : LRel μ n v.cells.toList v'.cells.toList := by
  cases h <;> first | assumption | exact .cons (by constructor <;> assumption) .nil
noncomputable def writeRow (h : AHeap) (r off : Nat) (xs : List Value) : Option AHeap :=
  match h.get r with
  | some (.cells vs sz) => bif Nat.ble (off + xs.length) vs.length && oneCells xs then some (h.set r (.cells (splice vs off xs) sz)) else none
  | _ => none
theorem StRel.storeCells {P : Program} {μ : Emb} {h h' : AHeap} {w : World} (st : StRel μ h w) {r off : Nat} {xs xs' : List Value} (hw : writeRow h r off xs = some h') {e : Ent} (hm : μ r = some e)
    (hx : LRel μ h.next xs xs') : ∃ w', (storeCells ⟨e.b, e.d + off, none⟩ xs').run P w = .ok () w' ∧ Ext μ h w μ h' w' := by
  unfold writeRow at hw
  split at hw
  · rename_i vs sz hg
    cases hb : Nat.ble (off + xs.length) vs.length && Ab.oneCells xs
    · simp [hb] at hw
    · rw [hb] at hw
      simp only [cond_true, Option.some.injEq] at hw
      subst hw
      simp only [Bool.and_eq_true] at hb
      have hle : off + xs.length ≤ vs.length := Nat.le_of_ble_eq_true hb.1
      obtain ⟨hrn, e', c, h2, h3, hsz, cs, t, fz, rfl, h5, h6, h7, h8⟩ := st.live r _ hg
      rw [hm] at h2; cases h2
      have hlen := hx.length
      obtain ⟨w', cs', a1, a2, a3, a4, a5, a6, a7, a8⟩ := run_storeCells (P := P) e.b (e.d + off) t fz xs' 0 cs w h3 (by omega)
        (fun j hj => by have := h7 (off + j) (by omega); rwa [show e.d + off + 0 + j = e.d + (off + j) by omega]) (hx.oneCells hb.2)
      refine ⟨w', a1, Ext.set st hg rfl hm a2 a3 a4 a7 a8 ⟨hsz, cs', t, fz, rfl, by rw [splice_length]; exact h5, by omega, h7, ?_⟩⟩
      intro i v hv
      rw [splice_get _ _ _ _ hle] at hv
      rw [a6 (e.d + i)]
      by_cases hc : off ≤ i ∧ i < off + xs.length
      · rw [if_pos hc] at hv
        rw [if_pos (by omega)]
        obtain ⟨v', h9, h10⟩ := hx.getElem? _ hv
        exact ⟨v', by rw [← h9]; congr 1; omega, h10⟩
      · rw [if_neg hc] at hv
        rw [if_neg (by omega)]
        exact h8 i v hv
  · cases hw
theorem StRel.newRow {P : Program} {μ : Emb} {h : AHeap} {w : World} (st : StRel μ h w) (t : TypeId) (xs : List Value) (xs' : Array Value) (sz : Nat) (hx : LRel μ h.next xs xs'.toList) :
    ∃ w' μ' b, (newRow t xs').run P w = .ok ⟨b, 0, none⟩ w' ∧ Ext μ h w μ' (h.new (.cells xs sz)) w' ∧ μ' h.next = some ⟨b, 0, xs.length, sz⟩ := by
  have hlen := hx.length
  refine ⟨_, _, w.heap.size, ?_, Ext.new st (.cells xs' t) ⟨w.heap.size, 0, xs.length, sz⟩ (.cells xs sz) rfl ⟨rfl, xs', t, (0, 0), rfl, Nat.le_refl _, by simp at hlen ⊢; omega, fun i _ => by omega, ?_⟩, Emb.upd_same _ _ _⟩
  · simp [Go.newRow]
  · intro i v hv
    obtain ⟨v', h1, h2⟩ := hx.getElem? i hv
    exact ⟨v', by simpa using h1, h2.mono (Agree.upd μ _ (Nat.le_refl _)) (by omega)⟩
end Go.Ab
