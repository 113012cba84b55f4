/-
  The operations of a program under the view: copy, clear, len, cap; bytes and strings; what asks nothing of memory; comparisons with nil.
-/
import Derived.Test.YtebheelmgcggmaaGreatAb6
namespace Go.Ab
set_option linter.unusedSimpArgs false
set_option linter.unusedVariables false
section ops
variable {P : Program} {T : Tr TI} {μ : Emb} {h h' : AHeap} {w : World}
noncomputable def aCopy (T : Tr TI) (argTypes : Array TypeId) (d s : Value) (h : AHeap) : Option (Value × AHeap) :=
  match argTypes.toList with
  | t :: _ => match T.get t with
    | some ti => match ti.und with
      | .slice elem => match T.get elem, aLen s with
        | some ei, some sl => match d with
          | .slice none 0 0 => some (.int .i64 0, h)
          | .slice (some ⟨r, off, none⟩) dl _ => bif Nat.beq (Nat.min sl dl) 0 then some (.int .i64 0, h) else
            match aCells h ei.size (Nat.min sl dl) s with
            | some l => match writeRow h r off l with
              | some h' => some (.int .i64 (Nat.min sl dl), h')
              | none => none
            | none => none
          | _ => none
        | _, _ => none
      | _ => none
    | none => none
  | [] => none
theorem firstCells_zero (size : Nat) {n : Nat} {x x' : Value} {k : Nat} (hx : VRel μ n x x') (ha : aLen x = some k) (w : World) : (Builtin.firstCells size 0 x').run P w = .ok #[] w := by
  cases hx <;> simp only [aLen] at ha <;> first
    | (cases ha; done)
    | (simp only [Builtin.firstCells, Nat.zero_mul]; rfl)
    | (simp only [Builtin.firstCells, Sem.run_pure]; simp [ByteArray.extract, ByteArray.copySlice])
    | cases ha
theorem copy_good (ok : TyOK P T) (st : StRel μ h w) {argTypes : Array TypeId} (ty : TypeId) {d d' s s' v : Value} (hd : VRel μ h.next d d') (hs : VRel μ h.next s s')
    (ha : aCopy T argTypes d s h = some (v, h')) : GoodV P μ h w (Builtin.copy_ argTypes ty #[d', s']) v h' := by
  unfold aCopy at ha
  split at ha
  · rename_i t rest hat
    have h0 : argTypes[0]? = some t := by rw [← Array.getElem?_toList, hat]; rfl
    split at ha
    · rename_i ti ht
      split at ha
      · rename_i elem hti
        split at ha
        · rename_i ei sl he hsl
          have hlx := lenOf_good (P := P) hs hsl w
          split at ha
          · cases hd
            simp only [Option.some.injEq, Prod.mk.injEq] at ha
            obtain ⟨rfl, rfl⟩ := ha
            refine ⟨.int .i64 0, w, μ, ?_, Ext.refl st, .int _ _⟩
            have hz : Nat.min sl 0 = 0 := Nat.min_zero sl
            simp only [Builtin.copy_, h0, List.getElem?_toArray, List.getElem?_cons_zero, List.getElem?_cons_succ, Sem.run_bind, run_underlying ok ht, hti, Result.andThen_ok, hlx, run_sizeOf ok he, hz, firstCells_zero _ hs hsl, Sem.run_pure, goInt]
            rfl
          · rename_i r off dl c
            have base : ∀ a dl' c', (Builtin.firstCells ei.size (Nat.min sl dl') s').run P w = .ok #[] w → Nat.min sl dl' = 0 → (Builtin.copy_ argTypes ty #[.slice (some a) dl' c', s']).run P w = .ok (.int .i64 0) w := by
              intro a dl' c' hf hz
              rw [hz] at hf
              simp only [Builtin.copy_, h0, List.getElem?_toArray, List.getElem?_cons_zero, List.getElem?_cons_succ, Sem.run_bind, run_underlying ok ht, hti, Result.andThen_ok, hlx, run_sizeOf ok he, hf, Sem.run_pure, goInt, storeNil, hz]
              rfl
            cases hz : Nat.beq (Nat.min sl dl) 0
            · rw [hz, cond_false] at ha
              have hz' : ¬ Nat.min sl dl = 0 := fun e => by rw [e] at hz; cases hz
              split at ha
              · rename_i l hl
                split at ha
                · rename_i h2 hw
                  simp only [Option.some.injEq, Prod.mk.injEq] at ha
                  obtain ⟨rfl, rfl⟩ := ha
                  obtain ⟨l', hl1, hl2⟩ := firstCells_good (P := P) st hs hl
                  have key : ∀ (e : Ent) c', μ r = some e → GoodV P μ h w (Builtin.copy_ argTypes ty #[.slice (some ⟨e.b, e.d + off, none⟩) dl c', s']) (.int .i64 (Nat.min sl dl)) h2 := by
                    intro e c' hm
                    obtain ⟨w', k1, k2⟩ := st.storeCells (P := P) hw hm hl2
                    refine ⟨.int .i64 (Nat.min sl dl), w', μ, ?_, k2, .int _ _⟩
                    simp only [Builtin.copy_, h0, List.getElem?_toArray, List.getElem?_cons_zero, List.getElem?_cons_succ, Sem.run_bind, run_underlying ok ht, hti, Result.andThen_ok, hlx, run_sizeOf ok he, hl1, Sem.run_pure, goInt, k1]
                  have hdl : ¬ dl = 0 := fun e => hz' (by rw [e]; exact Nat.min_zero sl)
                  cases hd with
                  | sliceK hlt hm => exact key _ _ hm
                  | sliceU hlt hm _ _ => exact key _ _ hm
                  | sliceZ hlt hm => exact (hdl rfl).elim
                  | sliceKZ hlt hm => exact (hdl rfl).elim
                · cases ha
              · cases ha
            · rw [hz, cond_true] at ha
              simp only [Option.some.injEq, Prod.mk.injEq] at ha
              obtain ⟨rfl, rfl⟩ := ha
              have hz' := Nat.eq_of_beq_eq_true hz
              have hf := firstCells_zero (P := P) ei.size hs hsl w
              rw [← hz'] at hf
              cases hd <;> exact ⟨.int .i64 0, w, μ, base _ _ _ hf hz', Ext.refl st, .int _ _⟩
          · cases ha
        · cases ha
      · cases ha
    · cases ha
  · cases ha
noncomputable def aClear (T : Tr TI) (argTypes : Array TypeId) (x : Value) (h : AHeap) : Option AHeap :=
  match argTypes.toList with
  | t :: _ => match T.get t with
    | some ti => match ti.und with
      | .slice elem => match x with
        | .slice none 0 0 => some h
        | .slice (some ⟨r, off, none⟩) n _ => bif Nat.beq n 0 then some h else match T.get elem with
          | some ei => match ei.zero with
            | some z => bif z.cells.toList.all flat1 then writeRow h r off (zeros z.cells.toList n) else none
            | none => none
          | none => none
        | _ => none
      | .map _ _ => match x with
        | .map none => some h
        | .map (some r) => match h.get r with
          | some (.map _ clock) => some (h.set r (.map [] clock))
          | _ => none
        | _ => none
      | _ => none
    | none => none
  | [] => none
theorem StRel.getMap (st : StRel μ h w) {r : Nat} {es : List AEnt} {clock : Nat} (hg : h.get r = some (.map es clock)) {e : Ent} (hm : μ r = some e) :
    ∃ ms, w.heap[e.b]? = some (.map ms clock) ∧ EsRel μ h.next es ms.toList ∧ e.d = 0 := by
  obtain ⟨_, e', c, h2, h3, h4, ms, rfl, h5⟩ := st.live r _ hg
  rw [hm] at h2; cases h2
  exact ⟨ms, h3, h5, h4⟩
theorem run_getObj {P : Program} {w : World} {r : Nat} {o : Obj} (hr : w.heap[r]? = some o) (hc : ∀ c t f, o ≠ .cells c t f) : (getObj r).run P w = .ok o w := by
  cases o <;> simp only [getObj, Sem.run, hr] <;> exact (hc _ _ _ rfl).elim
theorem run_setObj {P : Program} {w : World} {r : Nat} {o o' : Obj} (hr : w.heap[r]? = some o) (hc : ∀ c t f, o ≠ .cells c t f) : (setObj r o').run P w = .ok () { w with heap := w.heap.setIfInBounds r o' } := by
  cases o <;> simp only [Go.setObj, Sem.run, hr] <;> exact (hc _ _ _ rfl).elim
theorem StRel.setObj (st : StRel μ h w) {r : Nat} {o : AObj} (hg : h.get r = some o) (ho : o.own = true) {e : Ent} (hm : μ r = some e) {c' : Obj} {o' : AObj} (hor : ORel μ h.next e c' o') :
    Ext μ h w μ (h.set r o') { w with heap := w.heap.setIfInBounds e.b c' } := by
  obtain ⟨_, e', c, h2, h3, h4⟩ := st.live r _ hg
  rw [hm] at h2; cases h2
  have hlt := lt_of_heap h3
  exact Ext.set st hg ho hm (by simp) (fun b hb => Array.getElem?_setIfInBounds_ne (Ne.symm hb)) (by simp [hlt]) rfl rfl hor
theorem clear_good (ok : TyOK P T) (st : StRel μ h w) {argTypes : Array TypeId} (ty : TypeId) {x x' : Value} (hx : VRel μ h.next x x') (ha : aClear T argTypes x h = some h') :
    GoodV P μ h w (Builtin.clear_ argTypes ty #[x']) (.tuple #[]) h' := by
  unfold aClear at ha
  split at ha
  · rename_i t rest hat
    have h0 : argTypes[0]? = some t := by rw [← Array.getElem?_toList, hat]; rfl
    split at ha
    · rename_i ti ht
      split at ha
      · rename_i elem hti
        split at ha
        · cases ha; cases hx
          refine ⟨.tuple #[], w, μ, ?_, Ext.refl st, .tuple .nil⟩
          simp only [Builtin.clear_, h0, List.getElem?_toArray, List.getElem?_cons_zero, Sem.run_bind, run_underlying ok ht, hti, Result.andThen_ok, Sem.run_pure]
        · rename_i r off n c
          cases hz : Nat.beq n 0
          · rw [hz, cond_false] at ha
            have hz' : ¬ n = 0 := fun e => by rw [e] at hz; cases hz
            obtain ⟨m, rfl⟩ : ∃ m, n = m + 1 := ⟨n - 1, by omega⟩
            split at ha
            · rename_i ei he
              split at ha
              · rename_i z hzv
                cases hf : z.cells.toList.all flat1
                · rw [hf, cond_false] at ha; cases ha
                · rw [hf, cond_true] at ha
                  have key : ∀ (e : Ent) c', μ r = some e → GoodV P μ h w (Builtin.clear_ argTypes ty #[.slice (some ⟨e.b, e.d + off, none⟩) (m + 1) c']) (.tuple #[]) h' := by
                    intro e c' hm
                    obtain ⟨w', k1, k2⟩ := st.storeCells (P := P) ha hm (LRel.of_flat1 μ h.next (zeros_flat hf (m + 1)))
                    refine ⟨.tuple #[], w', μ, ?_, k2, .tuple .nil⟩
                    simp only [Builtin.clear_, h0, List.getElem?_toArray, List.getElem?_cons_zero, Sem.run_bind, run_underlying ok ht, hti, Result.andThen_ok, run_zeroValue ok he w hzv, Builtin.zeroCells, zeros_eq, k1, Sem.run_pure]
                  cases hx with
                  | sliceK hlt hm => exact key _ _ hm
                  | sliceU hlt hm _ _ => exact key _ _ hm
              · cases ha
            · cases ha
          · rw [hz, cond_true] at ha
            cases ha
            have hz' := Nat.eq_of_beq_eq_true hz
            subst hz'
            have key : ∀ a c', GoodV P μ h w (Builtin.clear_ argTypes ty #[.slice (some a) 0 c']) (.tuple #[]) h := by
              intro a c'
              refine ⟨.tuple #[], w, μ, ?_, Ext.refl st, .tuple .nil⟩
              simp only [Builtin.clear_, h0, List.getElem?_toArray, List.getElem?_cons_zero, Sem.run_bind, run_underlying ok ht, hti, Result.andThen_ok, Sem.run_pure]
            cases hx <;> exact key _ _
        · cases ha
      · rename_i kt et hti
        split at ha
        · cases ha; cases hx
          refine ⟨.tuple #[], w, μ, ?_, Ext.refl st, .tuple .nil⟩
          simp only [Builtin.clear_, h0, List.getElem?_toArray, List.getElem?_cons_zero, Sem.run_bind, run_underlying ok ht, hti, Result.andThen_ok, Sem.run_pure]
        · rename_i r
          split at ha
          · rename_i es clock hg
            cases ha
            cases hx with
            | map hlt hm =>
              rename_i e
              obtain ⟨ms, g1, g2, g3⟩ := st.getMap hg hm
              refine ⟨.tuple #[], _, μ, ?_, st.setObj hg rfl hm (c' := .map #[] clock) ⟨g3, #[], rfl, .nil⟩, .tuple .nil⟩
              simp only [Builtin.clear_, h0, List.getElem?_toArray, List.getElem?_cons_zero, Sem.run_bind, run_underlying ok ht, hti, Result.andThen_ok, run_getObj g1 (fun _ _ _ => by simp), run_setObj g1 (fun _ _ _ => by simp), Sem.run_pure]
          · cases ha
        · cases ha
      · cases ha
    · cases ha
  · cases ha
noncomputable def aLenOf (T : Tr TI) (argTypes : Array TypeId) (x : Value) (h : AHeap) : Option Value :=
  match argTypes.toList with
  | t :: _ => match T.get t with
    | some ti => match ti.und, x with
      | .slice _, .slice _ n _ => some (.int .i64 n)
      | .string, .string s => some (.int .i64 s.size)
      | .array n _, _ => some (.int .i64 n)
      | .pointer arr, _ => match T.get arr with
        | some ai => match ai.und with
          | .array n _ => some (.int .i64 n)
          | _ => none
        | none => none
      | .map _ _, .map none => some (.int .i64 0)
      | .map _ _, .map (some r) => match h.get r with
        | some (.map es _) => some (.int .i64 es.length)
        | _ => none
      | _, _ => none
    | none => none
  | [] => none
theorem len_good (ok : TyOK P T) (st : StRel μ h w) {argTypes : Array TypeId} (ty : TypeId) {x x' v : Value} (hx : VRel μ h.next x x') (ha : aLenOf T argTypes x h = some v) :
    ∃ v', (Builtin.len_ argTypes ty #[x']).run P w = .ok v' w ∧ VRel μ h.next v v' := by
  unfold aLenOf at ha
  split at ha
  · rename_i t rest hat
    have h0 : argTypes[0]? = some t := by rw [← Array.getElem?_toList, hat]; rfl
    split at ha
    · rename_i ti ht
      have pre : (Builtin.len_ argTypes ty #[x']).run P w = (Builtin.len_ #[t] ty #[x']).run P w := by
        simp only [Builtin.len_, h0, List.getElem?_toArray, List.getElem?_cons_zero]
      rw [pre]
      split at ha
      · rename_i e _ n _ hti
        cases ha
        refine ⟨.int .i64 n, ?_, .int _ _⟩
        cases hx <;> simp only [Builtin.len_, List.getElem?_toArray, List.getElem?_cons_zero, Sem.run_bind, run_underlying ok ht, hti, Result.andThen_ok, Sem.run_pure, goInt]
      · rename_i s hti
        cases ha
        cases hx
        exact ⟨.int .i64 s.size, by simp only [Builtin.len_, List.getElem?_toArray, List.getElem?_cons_zero, Sem.run_bind, run_underlying ok ht, hti, Result.andThen_ok, Sem.run_pure, goInt], .int _ _⟩
      · rename_i n _ hti
        cases ha
        exact ⟨.int .i64 n, by simp only [Builtin.len_, List.getElem?_toArray, List.getElem?_cons_zero, Sem.run_bind, run_underlying ok ht, hti, Result.andThen_ok, Sem.run_pure, goInt], .int _ _⟩
      · rename_i arr hti
        split at ha
        · rename_i ai har
          split at ha
          · rename_i n _ hai
            cases ha
            exact ⟨.int .i64 n, by simp only [Builtin.len_, List.getElem?_toArray, List.getElem?_cons_zero, Sem.run_bind, run_underlying ok ht, hti, Result.andThen_ok, run_underlying ok har, hai, Sem.run_pure, goInt], .int _ _⟩
          · cases ha
        · cases ha
      · rename_i hti
        cases ha
        cases hx
        exact ⟨.int .i64 0, by simp only [Builtin.len_, List.getElem?_toArray, List.getElem?_cons_zero, Sem.run_bind, run_underlying ok ht, hti, Result.andThen_ok, Sem.run_pure, goInt], .int _ _⟩
      · rename_i r hti
        split at ha
        · rename_i es clock hg
          cases ha
          cases hx with
          | map hlt hm =>
            obtain ⟨ms, g1, g2, g3⟩ := st.getMap hg hm
            have := g2.length
            simp only [Array.length_toList] at this
            exact ⟨.int .i64 es.length, by simp only [Builtin.len_, List.getElem?_toArray, List.getElem?_cons_zero, Sem.run_bind, run_underlying ok ht, hti, Result.andThen_ok, run_getObj g1 (fun _ _ _ => by simp), Sem.run_pure, goInt, this], .int _ _⟩
        · cases ha
      · cases ha
    · cases ha
  · cases ha
end ops
end Go.Ab
