/-
  The operations of a program under the view: fields, elements, aggregates, slices of slices.
-/
import Derived.Test.YtebheelmgcggmaaGreatAb3
namespace Go.Ab
set_option linter.unusedSimpArgs false
set_option linter.unusedVariables false
section ops
variable {P : Program} {T : Tr TI} {μ : Emb} {h h' : AHeap} {w : World}
noncomputable def aAlloc (T : Tr TI) (t : TypeId) (h : AHeap) : Option (Value × AHeap) :=
  match T.get t with
  | some ti => match ti.zero with
    | some z => bif z.cells.toList.all flat1 then some (.pointer (some ⟨h.next, 0, none⟩), h.new (.cells z.cells.toList 1)) else none
    | none => none
  | none => none
noncomputable def aBox (v : Value) (h : AHeap) : Value × AHeap := (.pointer (some ⟨h.next, 0, none⟩), h.new (.cells v.cells.toList 1))
theorem box_good (st : StRel μ h w) (t : TypeId) {v v' : Value} (hv : VRel μ h.next v v') : GoodV P μ h w (Instr.box t v') (aBox v h).1 (aBox v h).2 := by
  obtain ⟨w', μ', b, h1, h2, h3⟩ := st.newRow (P := P) t v.cells.toList v'.cells 1 hv.cells
  refine ⟨.pointer (some ⟨b, 0, none⟩), w', μ', by simp only [Instr.box, newVar, Sem.run_bind, h1, Result.andThen_ok, Sem.run_pure], h2, ?_⟩
  exact VRel.ptr (off := 0) (by simp [aBox]) h3
theorem alloc_good (ok : TyOK P T) (st : StRel μ h w) {t : TypeId} {v : Value} (ha : aAlloc T t h = some (v, h')) : GoodV P μ h w (Instr.alloc t true (.tuple #[])) v h' := by
  unfold aAlloc at ha
  split at ha
  · rename_i ti ht
    split at ha
    · rename_i z hz
      cases hf : z.cells.toList.all flat1
      · simp [hf] at ha
      · rw [hf] at ha
        simp only [cond_true, Option.some.injEq, Prod.mk.injEq] at ha
        obtain ⟨rfl, rfl⟩ := ha
        obtain ⟨w', μ', b, h1, h2, h3⟩ := st.newRow (P := P) t z.cells.toList z.cells 1 (LRel.of_flat1 _ _ hf)
        refine ⟨.pointer (some ⟨b, 0, none⟩), w', μ', by simp only [Instr.alloc, newVar, Sem.run_bind, run_zeroValue ok ht w hz, h1, Result.andThen_ok, Sem.run_pure], h2, ?_⟩
        exact VRel.ptr (off := 0) (by simp) h3
    · cases ha
  · cases ha
noncomputable def aLoad (T : Tr TI) (t : TypeId) (x : Value) (h : AHeap) : Option Value :=
  match x with
  | .pointer (some ⟨r, off, none⟩) => match T.get t, rowOf h r with
    | some ti, some vs => bif ti.agg then (cellsOf vs off ti.size).map (fun l => Value.agg l.toArray) else vs[off]?
    | _, _ => none
  | _ => none
theorem load_good (ok : TyOK P T) (st : StRel μ h w) {t : TypeId} {x x' v : Value} (hx : VRel μ h.next x x') (ha : aLoad T t x h = some v) :
    ∃ v', (Instr.loadAt t x').run P w = .ok v' w ∧ VRel μ h.next v v' := by
  unfold aLoad at ha
  split at ha
  · rename_i r off
    split at ha
    · rename_i ti vs ht hr
      cases hx with
      | ptr hlt hm =>
        obtain ⟨v', h1, h2⟩ := st.loadVar ok ht hr hm ha
        exact ⟨v', by simp only [Instr.loadAt, Instr.sureAddr, Sem.run_bind, Sem.run_pure, Result.andThen_ok, h1], h2⟩
    · cases ha
  · cases ha
noncomputable def aStore (T : Tr TI) (t : TypeId) (x v : Value) (h : AHeap) : Option AHeap :=
  match x with
  | .pointer (some ⟨r, off, none⟩) => match T.get t with
    | some ti => bif Nat.beq v.cells.size ti.size then writeRow h r off v.cells.toList else none
    | _ => none
  | _ => none
theorem store_good (ok : TyOK P T) (st : StRel μ h w) {t : TypeId} {x x' v v' : Value} (hx : VRel μ h.next x x') (hv : VRel μ h.next v v') (ha : aStore T t x v h = some h') :
    GoodU P μ h w (Instr.storeAt t x' v') h' := by
  unfold aStore at ha
  split at ha
  · rename_i r off
    split at ha
    · rename_i ti ht
      cases hb : Nat.beq v.cells.size ti.size
      · simp [hb] at ha
      · rw [hb] at ha
        simp only [cond_true] at ha
        cases hx with
        | ptr hlt hm =>
          have hl := hv.cells
          obtain ⟨w', h1, h2⟩ := st.storeCells (P := P) ha hm hl
          have hsz : v'.cells.size = ti.size := by
            have := hl.length
            simp only [Array.length_toList] at this
            have := Nat.eq_of_beq_eq_true hb
            omega
          exact ⟨w', μ, by simp only [Instr.storeAt, Instr.sureAddr, storeVar, Sem.run_bind, Sem.run_pure, Result.andThen_ok, run_sizeOf ok ht, hsz, ne_eq, not_true_eq_false, Sem.run_ite, if_false, h1], h2⟩
    · cases ha
  · cases ha
noncomputable def aFieldAddr (T : Tr TI) (s : TypeId) (x : Value) (f : Nat) : Option Value :=
  match x with
  | .pointer (some ⟨r, off, none⟩) => match T.get s with
    | some ti => match ti.und with
      | .struct fields => match fields[f]? with
        | some fd => match T.get fd.type with
          | some fi => bif Nat.beq fi.size 0 then none else some (.pointer (some ⟨r, off + fd.offset, none⟩))
          | none => none
        | none => none
      | _ => none
    | none => none
  | _ => none
theorem fieldAddr_good (ok : TyOK P T) {n : Nat} {s : TypeId} {x x' v : Value} {f : Nat} (hx : VRel μ n x x') (ha : aFieldAddr T s x f = some v) (w : World) :
    ∃ v', (Instr.fieldAt s x' f).run P w = .ok v' w ∧ VRel μ n v v' := by
  unfold aFieldAddr at ha
  split at ha
  · rename_i r off
    split at ha
    · rename_i ti ht
      split at ha
      · rename_i fields hu
        split at ha
        · rename_i fd hf
          split at ha
          · rename_i fi hfi
            cases hb : Nat.beq fi.size 0
            · rw [hb] at ha
              simp only [cond_false, Option.some.injEq] at ha
              subst ha
              cases hx with
              | ptr hlt hm =>
                have hsz : ¬ fi.size = 0 := fun hz => by rw [hz] at hb; cases hb
                rename_i e
                refine ⟨.pointer (some ⟨e.b, e.d + (off + fd.offset), none⟩), ?_, .ptr hlt hm⟩
                simp only [Instr.fieldAt, Sem.run_bind, run_underlying ok ht, hu, Result.andThen_ok, hf, Instr.sureAddr, Sem.run_pure, fieldPlace, run_sizeOf ok hfi, hsz, if_false, add_none]
                rw [Nat.add_assoc]
            · rw [hb] at ha; cases ha
          · cases ha
        · cases ha
      · cases ha
    · cases ha
  · cases ha
noncomputable def aIndexAddr (T : Tr TI) (t : TypeId) (x i : Value) : Option Value :=
  match T.get t, i with
  | some ti, .int _ i => match ti.und, x with
    | .array len elem, .pointer (some ⟨r, off, none⟩) => match T.get elem with
      | some ei => if 0 ≤ i ∧ i < len then some (.pointer (some ⟨r, off + i.toNat * ei.size, none⟩)) else none
      | none => none
    | .slice elem, .slice (some ⟨r, off, none⟩) len _ => match T.get elem with
      | some ei => if 0 ≤ i ∧ i < len then some (.pointer (some ⟨r, off + i.toNat * ei.size, none⟩)) else none
      | none => none
    | _, _ => none
  | _, _ => none
theorem indexAddr_good (ok : TyOK P T) {n : Nat} {t : TypeId} {x x' i i' v : Value} (hx : VRel μ n x x') (hi : VRel μ n i i') (ha : aIndexAddr T t x i = some v) (w : World) :
    ∃ v', (Instr.indexAt t x' i').run P w = .ok v' w ∧ VRel μ n v v' := by
  unfold aIndexAddr at ha
  split at ha
  · rename_i ti k i ht
    cases hi
    split at ha
    · rename_i len elem r off hu
      split at ha
      · rename_i ei he
        split at ha
        · rename_i hc
          cases ha
          cases hx with
          | ptr hlt hm =>
            rename_i e
            refine ⟨.pointer (some ⟨e.b, e.d + (off + i.toNat * ei.size), none⟩), ?_, .ptr hlt hm⟩
            simp only [Instr.indexAt, Sem.run_bind, asIntOf, Sem.run_pure, run_underlying ok ht, hu, Result.andThen_ok, Instr.sureAddr, hc, and_self, if_true, run_sizeOf ok he, add_none]
            rw [Nat.add_assoc]
        · cases ha
      · cases ha
    · rename_i elem r off len c hu
      split at ha
      · rename_i ei he
        split at ha
        · rename_i hc
          cases ha
          have key : ∀ (e : Ent) (cap : Nat), (Instr.indexAt t (.slice (some ⟨e.b, e.d + off, none⟩) len cap) (.int k i)).run P w = .ok (.pointer (some ⟨e.b, e.d + (off + i.toNat * ei.size), none⟩)) w := by
            intro e cap
            simp only [Instr.indexAt, Sem.run_bind, asIntOf, Sem.run_pure, run_underlying ok ht, hu, Result.andThen_ok, hc, and_self, if_true, run_sizeOf ok he, add_none]
            rw [Nat.add_assoc]
          cases hx with
          | sliceK hlt hm => exact ⟨_, key _ _, .ptr hlt hm⟩
          | sliceU hlt hm hl hcap => exact ⟨_, key _ _, .ptr hlt hm⟩
          | sliceZ hlt hm => omega
          | sliceKZ hlt hm => omega
        · cases ha
      · cases ha
    · cases ha
  · cases ha
noncomputable def aPart (T : Tr TI) (t : TypeId) (cs : List Value) (off : Nat) : Option Value :=
  match T.get t with
  | some ti => bif ti.agg then some (.agg ((cs.drop off).take ti.size).toArray) else cs[off]?
  | none => none
theorem part_good (ok : TyOK P T) {n : Nat} {t : TypeId} {cs cs' : Array Value} {off : Nat} {v : Value} (hx : LRel μ n cs.toList cs'.toList) (ha : aPart T t cs.toList off = some v) (w : World) :
    ∃ v', (part t cs' off).run P w = .ok v' w ∧ VRel μ n v v' := by
  unfold aPart at ha
  split at ha
  · rename_i ti ht
    cases hg : ti.agg
    · rw [hg] at ha
      simp only [cond_false] at ha
      obtain ⟨v', h1, h2⟩ := hx.getElem? _ ha
      rw [Array.getElem?_toList] at h1
      exact ⟨v', by simp [part, run_isAgg ok ht, hg, h1], h2⟩
    · rw [hg] at ha
      simp only [cond_true, Option.some.injEq] at ha
      subst ha
      refine ⟨.agg (cs'.extract off (off + ti.size)), by simp [part, run_isAgg ok ht, hg, run_sizeOf ok ht], .agg ?_⟩
      simp only [Array.toList_extract, List.extract_eq_take_drop, Nat.add_sub_cancel_left]
      exact LRel.take _ (LRel.drop _ hx)
  · cases ha
noncomputable def aField (T : Tr TI) (s : TypeId) (x : Value) (f : Nat) : Option Value :=
  match x, T.get s with
  | .agg cs, some ti => match ti.und with
    | .struct fields => match fields[f]? with
      | some fd => aPart T fd.type cs.toList fd.offset
      | none => none
    | _ => none
  | _, _ => none
theorem field_good (ok : TyOK P T) {n : Nat} {s : TypeId} {x x' v : Value} {f : Nat} (hx : VRel μ n x x') (ha : aField T s x f = some v) (w : World) :
    ∃ v', (Instr.field s x' f).run P w = .ok v' w ∧ VRel μ n v v' := by
  unfold aField at ha
  split at ha
  · rename_i cs ti ht
    split at ha
    · rename_i fields hu
      split at ha
      · rename_i fd hf
        cases hx with
        | agg hl =>
          obtain ⟨v', h1, h2⟩ := part_good ok hl ha w
          exact ⟨v', by simp only [Instr.field, Sem.run_bind, run_underlying ok ht, hu, Result.andThen_ok, hf, asAgg, Sem.run_pure, h1], h2⟩
      · cases ha
    · cases ha
  · cases ha
noncomputable def aIndex (T : Tr TI) (t : TypeId) (x i : Value) : Option Value :=
  match x, i, T.get t with
  | .agg cs, .int _ i, some ti => match ti.und with
    | .array len elem => match T.get elem with
      | some ei => if 0 ≤ i ∧ i < len then aPart T elem cs.toList (i.toNat * ei.size) else none
      | none => none
    | _ => none
  | .string s, .int _ i, some ti => match ti.und with
    | .string => if 0 ≤ i then (s.data.toList[i.toNat]?).map (fun b => Value.int .u8 b.toNat) else none
    | _ => none
  | _, _, _ => none
theorem index_good (ok : TyOK P T) {n : Nat} {t : TypeId} {x x' i i' v : Value} (hx : VRel μ n x x') (hi : VRel μ n i i') (ha : aIndex T t x i = some v) (w : World) :
    ∃ v', (Instr.index t x' i').run P w = .ok v' w ∧ VRel μ n v v' := by
  unfold aIndex at ha
  split at ha
  · rename_i cs k i ti ht
    cases hi
    split at ha
    · rename_i len elem hu
      split at ha
      · rename_i ei he
        split at ha
        · rename_i hc
          cases hx with
          | agg hl =>
            obtain ⟨v', h1, h2⟩ := part_good ok hl ha w
            exact ⟨v', by simp only [Instr.index, Sem.run_bind, asIntOf, Sem.run_pure, run_underlying ok ht, hu, Result.andThen_ok, hc, and_self, if_true, run_sizeOf ok he, h1], h2⟩
        · cases ha
      · cases ha
    · cases ha
  · rename_i s k i ti ht
    cases hi
    cases hx
    split at ha
    · rename_i hu
      split at ha
      · rename_i hc
        simp only [Option.map_eq_some_iff] at ha
        obtain ⟨b, hb, rfl⟩ := ha
        refine ⟨_, ?_, VRel.int _ _⟩
        have hb' : s[i.toNat]? = some b := by
          obtain ⟨h1, h2⟩ := List.getElem?_eq_some_iff.1 hb
          have h3 : i.toNat < s.size := by simpa using h1
          rw [getElem?_pos s i.toNat h3]
          exact congrArg some h2
        simp only [Instr.index, Sem.run_bind, asIntOf, Sem.run_pure, run_underlying ok ht, hu, Result.andThen_ok, hc, if_true, hb']
      · cases ha
    · cases ha
  · cases ha
noncomputable def aExtract (x : Value) (i : Nat) : Option Value :=
  match x with
  | .tuple vs => vs.toList[i]?
  | _ => none
theorem extract_good {n : Nat} {x x' v : Value} {i : Nat} (hx : VRel μ n x x') (ha : aExtract x i = some v) (w : World) :
    ∃ v', (Instr.extract x' i).run P w = .ok v' w ∧ VRel μ n v v' := by
  unfold aExtract at ha
  split at ha
  · cases hx with
    | tuple hl =>
      obtain ⟨v', h1, h2⟩ := hl.getElem? _ ha
      rw [Array.getElem?_toList] at h1
      exact ⟨v', by simp [Instr.extract, h1], h2⟩
  · cases ha
noncomputable def fillL (place : Nat → Option (Nat × Nat)) (cells : List Value) : List (Nat × Value) → Option (List Value)
  | [] => some cells
  | (i, v) :: rest => match place i with
    | none => none
    | some (off, size) => bif Nat.beq v.cells.size size && Nat.ble (off + size) cells.length then fillL place (splice cells off v.cells.toList) rest else none
theorem foldl_set_get (off : Nat) : ∀ (xs : List Value) (k : Nat) (cs : Array Value), (∀ i, ((xs.zipIdx k).foldl (fun cs (x : Value × Nat) => cs.setIfInBounds (off + x.2) x.1) cs)[i]? =
    if off + k ≤ i ∧ i < off + k + xs.length ∧ i < cs.size then xs[i - (off + k)]? else cs[i]?) ∧
    ((xs.zipIdx k).foldl (fun cs (x : Value × Nat) => cs.setIfInBounds (off + x.2) x.1) cs).size = cs.size
  | [], k, cs => ⟨fun i => by rw [if_neg (by simp; omega)]; rfl, by simp⟩
  | x :: xs, k, cs => by
    obtain ⟨ih1, ih2⟩ := foldl_set_get off xs (k + 1) (cs.setIfInBounds (off + k) x)
    refine ⟨fun i => ?_, by simp only [List.zipIdx_cons, List.foldl_cons]; rw [ih2]; simp⟩
    simp only [List.zipIdx_cons, List.foldl_cons]
    rw [ih1 i]
    simp only [Array.size_setIfInBounds, List.length_cons]
    by_cases hk : i = off + k
    · subst hk
      rw [if_neg (by omega)]
      by_cases hs : off + k < cs.size
      · rw [if_pos (by omega)]; simp [hs]
      · rw [if_neg (by omega)]; simp [hs]
    · by_cases hc : off + (k + 1) ≤ i ∧ i < off + (k + 1) + xs.length ∧ i < cs.size
      · rw [if_pos hc, if_pos (by omega), show i - (off + k) = (i - (off + (k + 1))) + 1 by omega, List.getElem?_cons_succ]
      · rw [if_neg hc, if_neg (by omega), Array.getElem?_setIfInBounds_ne (Ne.symm hk)]
inductive PRel (μ : Emb) (n : Nat) : List (Nat × Value) → List (Nat × Value) → Prop
  | nil : PRel μ n [] []
  | cons {i : Nat} {v v' : Value} {l l' : List (Nat × Value)} (h : VRel μ n v v') (t : PRel μ n l l') : PRel μ n ((i, v) :: l) ((i, v') :: l')
theorem fill_good {n : Nat} (place : Nat → Option (Nat × Nat)) : ∀ {ps ps' : List (Nat × Value)}, PRel μ n ps ps' → ∀ {cs : List Value} {cs' : Array Value} {r : List Value}, LRel μ n cs cs'.toList → fillL place cs ps = some r →
    ∃ r', Instr.fill place cs' ps' = some r' ∧ LRel μ n r r'.toList
  | _, _, .nil, cs, cs', r, hl, hf => by
    simp only [fillL, Option.some.injEq] at hf; subst hf; exact ⟨cs', rfl, hl⟩
  | _, _, .cons (i := i) (v := v) (v' := v') h t, cs, cs', r, hl, hf => by
    simp only [fillL] at hf
    split at hf
    · cases hf
    · rename_i off size hp
      cases hb : Nat.beq v.cells.size size && Nat.ble (off + size) cs.length
      · simp [hb] at hf
      · rw [hb] at hf
        simp only [cond_true] at hf
        simp only [Bool.and_eq_true] at hb
        have e1 := Nat.eq_of_beq_eq_true hb.1
        have e2 : off + size ≤ cs.length := Nat.le_of_ble_eq_true hb.2
        have hvl := h.cells.length
        simp only [Array.length_toList] at hvl
        have hcl := hl.length
        simp only [Array.length_toList] at hcl
        obtain ⟨g1, g2⟩ := foldl_set_get off v'.cells.toList 0 cs'
        have hfold : v'.cells.zipIdx.foldl (fun cs (x : Value × Nat) => cs.setIfInBounds (off + x.2) x.1) cs' = (v'.cells.toList.zipIdx 0).foldl (fun cs (x : Value × Nat) => cs.setIfInBounds (off + x.2) x.1) cs' := by
          rw [← Array.foldl_toList, Array.toList_zipIdx]
        have hl2 : LRel μ n (splice cs off v.cells.toList) (v'.cells.zipIdx.foldl (fun cs (x : Value × Nat) => cs.setIfInBounds (off + x.2) x.1) cs').toList := by
          rw [hfold]
          refine LRel.of_getElem? (by rw [splice_length, Array.length_toList]; exact hcl.trans g2.symm) ?_
          intro j a b ha hb'
          rw [splice_get _ _ _ _ (by simp; omega)] at ha
          rw [Array.getElem?_toList, g1 j] at hb'
          simp only [Array.length_toList, Nat.add_zero] at ha hb'
          by_cases hc : off ≤ j ∧ j < off + v.cells.size
          · rw [if_pos hc] at ha
            rw [if_pos (by omega)] at hb'
            obtain ⟨v2, h3, h4⟩ := h.cells.getElem? _ ha
            rw [hb'] at h3; cases h3; exact h4
          · rw [if_neg hc] at ha
            rw [if_neg (by omega)] at hb'
            obtain ⟨v2, h3, h4⟩ := hl.getElem? _ ha
            rw [Array.getElem?_toList, hb'] at h3; cases h3; exact h4
        obtain ⟨r', h5, h6⟩ := fill_good place t hl2 hf
        refine ⟨r', ?_, h6⟩
        have hcond : ¬ (v'.cells.size ≠ size || decide (off + v'.cells.size > cs'.size)) = true := by
          simp; omega
        simp only [Instr.fill, hp]
        rw [if_neg (by simpa using hcond)]
        exact h5
noncomputable def places (T : Tr TI) : List Field → Option (List (Nat × Nat))
  | [] => some []
  | f :: fs => match T.get f.type, places T fs with
    | some ti, some l => some ((f.offset, ti.size) :: l)
    | _, _ => none
theorem run_places (ok : TyOK P T) : ∀ {fs : List Field} {l : List (Nat × Nat)} (_ : places T fs = some l) (w : World),
    (List.mapM (fun (f : Field) => do pure (f.offset, ← sizeOf f.type)) fs : Sem (List (Nat × Nat))).run P w = .ok l w
  | [], l, h, w => by simp only [places, Option.some.injEq] at h; subst h; rfl
  | f :: fs, l, h, w => by
    simp only [places] at h
    split at h
    · rename_i ti l' ht hl
      cases h
      have ih := run_places ok hl w
      simp only [List.mapM_cons, Sem.run_bind, run_sizeOf ok ht, Result.andThen_ok, Sem.run_pure]
      rw [ih]
      rfl
    · cases h
noncomputable def aBuild (T : Tr TI) (t : TypeId) (parts : List (Nat × Value)) : Option Value :=
  match T.get t with
  | some ti => match ti.zero with
    | some z => bif z.cells.toList.all flat1 then match ti.und with
      | .struct fields => match places T fields.toList with
        | some l => (fillL (fun i => l[i]?) z.cells.toList parts).map fun r => Value.agg r.toArray
        | none => none
      | .array _ elem => match T.get elem with
        | some ei => (fillL (fun i => some (i * ei.size, ei.size)) z.cells.toList parts).map fun r => Value.agg r.toArray
        | none => none
      | _ => none
      else none
    | none => none
  | none => none
theorem build_good (ok : TyOK P T) {n : Nat} {t : TypeId} {ps : List (Nat × Value)} {ps' : Array (Nat × Value)} {v : Value} (hp : PRel μ n ps ps'.toList) (ha : aBuild T t ps = some v) (w : World) :
    ∃ v', (Instr.build t ps').run P w = .ok v' w ∧ VRel μ n v v' := by
  unfold aBuild at ha
  split at ha
  · rename_i ti ht
    split at ha
    · rename_i z hz
      cases hf : z.cells.toList.all flat1
      · simp [hf] at ha
      · rw [hf] at ha
        simp only [cond_true] at ha
        split at ha
        · rename_i fields hu
          split at ha
          · rename_i l hl
            simp only [Option.map_eq_some_iff] at ha
            obtain ⟨r, hr, rfl⟩ := ha
            obtain ⟨r', h1, h2⟩ := fill_good (fun i => l[i]?) hp (LRel.of_flat1 μ n hf) hr
            refine ⟨.agg r', ?_, .agg (by simpa using h2)⟩
            have hm : (fields.mapM (fun (f : Field) => do pure (f.offset, ← sizeOf f.type)) : Sem (Array (Nat × Nat))).run P w = .ok l.toArray w := by
              rw [Array.mapM_eq_mapM_toList, Sem.run_map, run_places ok hl w]
              rfl
            simp only [Instr.build, Sem.run_bind, run_zeroValue ok ht w hz, run_underlying ok ht, hu, Result.andThen_ok]
            rw [hm]
            simp only [Result.andThen_ok, List.getElem?_toArray, h1, Sem.run_pure]
          · cases ha
        · rename_i len elem hu
          split at ha
          · rename_i ei he
            simp only [Option.map_eq_some_iff] at ha
            obtain ⟨r, hr, rfl⟩ := ha
            obtain ⟨r', h1, h2⟩ := fill_good (fun i => some (i * ei.size, ei.size)) hp (LRel.of_flat1 μ n hf) hr
            refine ⟨.agg r', ?_, .agg (by simpa using h2)⟩
            simp only [Instr.build, Sem.run_bind, run_zeroValue ok ht w hz, run_underlying ok ht, hu, Result.andThen_ok, run_sizeOf ok he, h1, Sem.run_pure]
          · cases ha
        · cases ha
    · cases ha
  · cases ha
end ops
end Go.Ab
