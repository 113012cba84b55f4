/-
  The tables of a program; a closed call by the evaluator.
-/
import Derived.Test.YtebheelmgcggmaaGreatAb18
import Derived.ChangeSame
namespace Go.Ab
set_option linter.unusedSimpArgs false
set_option linter.unusedVariables false
noncomputable def tyOf (P : Program) (t : TypeId) : Option TI :=
  match P.info? t, P.underlying t with
  | some i, some d => some ⟨i.size, i.bytes, d, i.zero⟩
  | _, _ => none
noncomputable def fnOf (P : Program) (f : FuncId) : Option Func :=
  match P.funcs[f]? with
  | some fn => bif fn.name == "runtime.NumGoroutine" || fn.body.isNone then none else some fn
  | none => none
noncomputable def tab {α : Type} (g : Nat → Option α) : Nat → Tr α
  | 0 => .leaf
  | n + 1 => (tab g n).put n (g n)
theorem tab_get {α : Type} (g : Nat → Option α) : ∀ (n i : Nat) {x : α}, (tab g n).get i = some x → g i = some x
  | 0, i, x, h => by cases h
  | n + 1, i, x, h => by
    simp only [tab] at h
    rw [Tr.get_put] at h
    split at h
    · rename_i e; subst e; exact h
    · exact tab_get g n i h
theorem tyOK_of (P : Program) (n : Nat) : TyOK P (tab (tyOf P) n) := by
  refine ⟨fun t ti ht => ?_⟩
  have h := tab_get _ _ _ ht
  unfold tyOf at h
  split at h
  · rename_i i d h1 h2
    cases h
    exact ⟨i, h1, rfl, rfl, rfl, h2⟩
  · cases h
theorem fnOK_of (P : Program) (n : Nat) (f : FuncId) (fn : Func) (h : (tab (fnOf P) n).get f = some fn) : Entered P f fn := by
  have h := tab_get _ _ _ h
  unfold fnOf at h
  split at h
  · rename_i fn' hf
    cases hb : fn'.name == "runtime.NumGoroutine" || fn'.body.isNone
    · rw [hb, cond_false] at h
      cases h
      simp only [Bool.or_eq_false_iff] at hb
      exact ⟨hf, hb.1, hb.2⟩
    · rw [hb, cond_true] at h; cases h
  · cases h
noncomputable def envOf (P : Program) (nt nf : Nat) : Env := ⟨P, tab (tyOf P) nt, tab (fnOf P) nf, fun _ _ _ => none⟩
structure Kept (w w' : World) : Prop where
  os : w'.os = w.os
  output : w'.output = w.output
  size : w.heap.size ≤ w'.heap.size
  heap : ∀ b, b < w.heap.size → w'.heap[b]? = w.heap[b]?
theorem Kept.but {w w' : World} (h : Kept w w') (may : MemPlace → Prop) : w.keptBut w' may := by
  refine ⟨h.os, h.output, fun i hi => ?_⟩
  rw [h.heap i hi]
  cases hw : w.heap[i]? with
  | none => rfl
  | some o =>
    cases o <;> simp only [implies_true, and_self, or_true]
theorem Kept.frozen {w w' : World} (h : Kept w w') {b off : Nat} (hb : b < w.heap.size) : w'.frozen? ⟨b, off, none⟩ = w.frozen? ⟨b, off, none⟩ := by
  simp only [World.frozen?, h.heap b hb]
theorem post_of_kept {H : Type} {enc : TypeId × Value → H} {P : Program} {f : Func} {s : ChangeSpec} {apart fresh handsOn again : Bool} {W W' : World} {args : Array Value} {v : Value} {ds gs : List (DataW H)} {before pa pv : List MemPlace}
    (hW : DataW.Whole enc P f.params.toList s.vars apart W args.toList ds gs before)
    (hres : ∀ (b : Nat) (sp : Nat → Bool) (hd : Bool), DataW.TrodAll enc P W' b sp hd f.resultTypes.toList (v.resultList f.resultTypes.size) (s.fn H (ds ++ gs)).results [])
    (hargs : ∀ sp : Nat → Bool, (∀ p ∈ before, sp p.block = true) → DataW.TrodAll enc P W' 0 sp true f.params.toList args.toList (s.fn H (ds ++ gs)).args pa)
    (hvars : ∀ sp : Nat → Bool, (∀ p ∈ before, sp p.block = true) → DataW.TrodVars enc P W' sp s.vars (s.fn H (ds ++ gs)).vars pv)
    (hps : before = pa ++ pv) (hk : Kept W W')
    (hok : ∀ (j : Nat) (t : TypeId) (r : Value), f.resultTypes[j]? = some t → (v.resultList f.resultTypes.size)[j]? = some r → Value.okWide P W' .any 0 t r) :
    s.post enc P f apart fresh handsOn again W args v W' := by
  have hlt := hW.lt
  have hold : ∀ p ∈ before, (fun b => decide (b < W.heap.size)) p.block = true := fun p hp => by simpa using hlt p hp
  refine ⟨ds, gs, before, [], pa, pv, hW, hres _ _ _, hargs _ hold, hvars _ hold, World.keptBut_mono (fun p hp => ⟨hp, ?_⟩) (hk.but (· ∈ before)), fun _ => ?_⟩
  · rw [hps, List.mem_append] at hp
    exact Or.inr hp
  · obtain ⟨_, _, _, _, _, hz, hn⟩ := hW
    refine ⟨hok, _, _, ([] ++ pa) ++ pv, ⟨[] ++ pa, pv, ChangeShapes.trodAll_append (hargs _ (fun _ _ => rfl)) (hres _ _ _), hvars _ (fun _ _ => rfl), rfl, ?_, ?_⟩, ?_⟩
    · intro b off hp
      have hm : MemPlace.cell b off ∈ before := by rw [hps]; simpa using hp
      have hb : b < W.heap.size := hlt _ hm
      rw [hk.frozen hb]
      exact hz b off hm
    · intro ha
      have := hn ha
      rw [hps] at this
      simpa using this
    · intro p hp _
      rw [hps]
      simpa using hp
noncomputable def isTrue : Option (Value × AHeap) → Bool
  | some (.bool b, _) => b
  | _ => false
theorem FWp.closed {P : Program} {f : FuncId} {v : Value} {h' : AHeap} (hf : FWp P f [] ⟨0, .leaf⟩ fun x y => x = v ∧ y = h') (hv : flat v = true) (w : World) : Calls P f #[] w fun e w' => e = .returned v ∧ Kept w w' := by
  have st : StRel (fun _ => none) ⟨0, .leaf⟩ w := ⟨fun r o hr => (by cases hr), fun r q o p e f hr => (by cases hr)⟩
  refine (hf (fun _ => none) #[] w .nil st).mono ?_
  rintro e w' ⟨x, v', h1, μ', rfl, ⟨rfl, rfl⟩, ex, hr⟩
  refine ⟨by rw [hr.flat_eq hv], ex.os, ex.output, ex.size, fun b hb => (ex.frame b hb fun r o e hr => (by cases hr)).1⟩
theorem closed_true {E : Env} (ok : EnvOK E) (n : Nat) {f : FuncId} (he : isTrue (evCall E (ev E n) f [] ⟨0, .leaf⟩) = true) (w : World) : Calls E.P f #[] w fun e w' => e = .returned (.bool true) ∧ Kept w w' := by
  unfold isTrue at he
  split at he
  · rename_i b h' hc
    subst he
    exact (call_sound ok n hc).closed rfl w
  · cases he
end Go.Ab
