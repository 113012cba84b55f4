/-
  The evaluator of the view with regions gone through in an order of their own.
-/
import Derived.Test.YtebheelmgcggmaaGreatAb46
import Derived.Test.YtebheelmgcggmaaGreatAb19
namespace Go.Ab.Nx
open Go.Ab
set_option linter.unusedSimpArgs false
set_option linter.unusedVariables false
noncomputable def evStep (E : Env) (code : CodeF) (cx : Cx) (c : Code) (a : Tr Value) (h : AHeap) : Option (AExit × Tr Value × AHeap) :=
  match c with
  | .skip => some (.normal, a, h)
  | .label _ => some (.normal, a, h)
  | .region _ ops draw => match (bif draw then evDrawn E.P E.T (evOp E code) ops cx.nt a h else evOps E code ops cx.nt ops.toList a h) with
    | some (a', h') => some (.normal, a', h')
    | none => none
  | .seq x y => match code cx x a h with
    | some (.normal, a', h') => code cx y a' h'
    | r => r
  | .cond c x y => match aopnd a c with
    | some (.bool t) => bif t then code cx x a h else code cx y a h
    | _ => none
  | .block id c => match code cx c a h with
    | some (.exit i, a', h') => some (bif Nat.beq i id then .normal else .exit i, a', h')
    | r => r
  | .loop c => match code cx c a h with
    | some (.normal, a', h') => code cx (.loop c) a' h'
    | r => r
  | .rangeFunc f params assign body => evRange E code cx f params assign body a h
  | .exit id => some (.exit id, a, h)
  | .scope c => code cx c a h
  | .ret => some (.ret, a, h)
  | _ => none
noncomputable def ev (E : Env) : Nat → CodeF
  | 0 => fun _ _ _ _ => none
  | n + 1 => evStep E (ev E n)
section
variable {E : Env} (ok : EnvOK E)
include ok
theorem evStep_sound {code : CodeF} (hs : Sound E.P code) : Sound E.P (evStep E code) := by
  intro cx c a h e a' h' he
  cases c with
  | skip => simp only [evStep, Option.some.injEq, Prod.mk.injEq] at he; obtain ⟨rfl, rfl, rfl⟩ := he; exact CWp.skip ⟨rfl, rfl, rfl⟩
  | label l => simp only [evStep, Option.some.injEq, Prod.mk.injEq] at he; obtain ⟨rfl, rfl, rfl⟩ := he; exact CWp.label ⟨rfl, rfl, rfl⟩
  | region id ops draw =>
    simp only [evStep] at he
    cases draw
    · simp only [cond_false] at he
      split at he
      · rename_i a1 h1 hr
        simp only [Option.some.injEq, Prod.mk.injEq] at he
        obtain ⟨rfl, rfl, rfl⟩ := he
        have := evOps_sound ok hs (cx := cx) (i := 0) (by simp) hr
        rw [Array.length_toList, ← List.range_eq_range'] at this
        refine CWp.region (fun μ base tmps defers rd w k cs p => ?_)
        obtain ⟨a2, h2, μ2, t2, w2, ⟨rfl, rfl⟩, q⟩ := this μ base tmps defers rd w k cs p
        exact ⟨_, _, μ2, t2, w2, ⟨rfl, rfl, rfl⟩, q⟩
      · cases he
    · simp only [cond_true] at he
      split at he
      · rename_i a1 h1 hr
        simp only [Option.some.injEq, Prod.mk.injEq] at he
        obtain ⟨rfl, rfl, rfl⟩ := he
        exact evDrawn_sound ok.ty ok.mix (fun o ρ h u h' => evOp_sound ok hs o ρ h u h') hr ⟨rfl, rfl, rfl⟩
      · cases he
  | seq x y =>
    simp only [evStep] at he
    refine CWp.seq ?_
    split at he
    · rename_i a1 h1 hc
      refine (hs _ _ _ _ _ _ _ hc).mono ?_
      rintro e1 a2 h2 ⟨rfl, rfl, rfl⟩
      exact hs _ _ _ _ _ _ _ he
    · rename_i r hne
      refine (hs _ _ _ _ _ _ _ he).mono ?_
      rintro e1 a2 h2 ⟨rfl, rfl, rfl⟩
      cases e1 with
      | normal => exact (hne _ _ he).elim
      | exit i => exact ⟨rfl, rfl, rfl⟩
      | ret => exact ⟨rfl, rfl, rfl⟩
  | cond c x y =>
    simp only [evStep] at he
    split at he
    · rename_i t ht
      refine CWp.cond ht ?_
      cases t
      · exact hs _ _ _ _ _ _ _ he
      · exact hs _ _ _ _ _ _ _ he
    · cases he
  | block id c =>
    simp only [evStep] at he
    refine CWp.block ?_
    split at he
    · rename_i i a1 h1 hc
      simp only [Option.some.injEq, Prod.mk.injEq] at he
      obtain ⟨rfl, rfl, rfl⟩ := he
      refine (hs _ _ _ _ _ _ _ hc).mono ?_
      rintro e1 a2 h2 ⟨rfl, rfl, rfl⟩
      by_cases hi : i = id
      · subst hi; simp
      · have : Nat.beq i id = false := by
          cases hb : Nat.beq i id
          · rfl
          · exact (hi (Nat.eq_of_beq_eq_true hb)).elim
        simp [hi, this]
    · rename_i r hne
      refine (hs _ _ _ _ _ _ _ he).mono ?_
      rintro e1 a2 h2 ⟨rfl, rfl, rfl⟩
      cases e1 with
      | normal => exact ⟨rfl, rfl, rfl⟩
      | exit i => exact (hne _ _ _ he).elim
      | ret => exact ⟨rfl, rfl, rfl⟩
  | loop c =>
    simp only [evStep] at he
    refine CWp.loop1 ?_
    split at he
    · rename_i a1 h1 hc
      refine (hs _ _ _ _ _ _ _ hc).mono ?_
      rintro e1 a2 h2 ⟨rfl, rfl, rfl⟩
      exact hs _ _ _ _ _ _ _ he
    · rename_i r hne
      refine (hs _ _ _ _ _ _ _ he).mono ?_
      rintro e1 a2 h2 ⟨rfl, rfl, rfl⟩
      cases e1 with
      | normal => exact (hne _ _ he).elim
      | exit i => exact ⟨rfl, rfl, rfl⟩
      | ret => exact ⟨rfl, rfl, rfl⟩
  | rangeFunc f params assign body => exact evRange_sound ok hs he
  | exit id => simp only [evStep, Option.some.injEq, Prod.mk.injEq] at he; obtain ⟨rfl, rfl, rfl⟩ := he; exact CWp.exit ⟨rfl, rfl, rfl⟩
  | scope c => exact CWp.scope (hs _ _ _ _ _ _ _ he)
  | goto l => cases he
  | ret => simp only [evStep, Option.some.injEq, Prod.mk.injEq] at he; obtain ⟨rfl, rfl, rfl⟩ := he; exact CWp.ret ⟨rfl, rfl, rfl⟩
  | refuse w => cases he
theorem ev_sound : ∀ n, Sound E.P (ev E n)
  | 0 => fun _ _ _ _ _ _ _ he => by cases he
  | n + 1 => evStep_sound ok (ev_sound n)
theorem call_sound (n : Nat) {f : FuncId} {args : List Value} {h h' : AHeap} {v : Value} (he : evCall E (ev E n) f args h = some (v, h')) : FWp E.P f args h fun x y => x = v ∧ y = h' :=
  (evCall_sound ok (ev_sound ok n) he).2
end
theorem closed_true {E : Env} (ok : EnvOK E) (n : Nat) {f : FuncId} (he : isTrue (evCall E (ev E n) f [] ⟨0, .leaf⟩) = true) (w : World) : Calls E.P f #[] w fun e w' => e = .returned (.bool true) ∧ Kept w w' := by
  unfold isTrue at he
  split at he
  · rename_i b h' hc
    subst he
    exact (call_sound ok n hc).closed rfl w
  · cases he
end Go.Ab.Nx
