/-
  The function works of the Cache laws, by the evaluator; the table with it as one step.
-/
import Derived.Test.YtimbhgkiohbkdaaGreatCkF
import Derived.Test.YtimbhgkiohbkdaaGreatAb22
namespace Go.Proofs.YtimbhgkiohbkdaaGreat
open Go.Ab Go.Ab.Nx Go.Ab.Nx.Zx Go.Ab.Nx.Lx Go.Ab.Nx.Dx Go.Ab.Nx.Mx
set_option linter.unusedSimpArgs false
set_option linter.unusedVariables false
set_option maxRecDepth 1000000
theorem worksRan : yesL (lFun envE (evZ envE 1000) (mCall envE (evZ envE 1000) exts slowF 1000 3) 1000 21 [] ⟨0, .leaf⟩) = true := by kernel_rfl
theorem works_c (h : AHeap) : FWp Tryz.prog 21 [] h fun u h' => u = .bool true ∧ h' = h :=
  FWp.ofClosed rfl (fun w => closedL_true envE_ok (evZ_sound envE_ok 1000) (mCall_sound envE_ok (evZ_sound envE_ok 1000) extsOK slowF 1000 3) 1000 worksRan w)
noncomputable def worksS (f : FuncId) (args : List Value) (h : AHeap) : Option (Value × AHeap) := bif Nat.beq f 21 && args.isEmpty then some (.bool true, h) else none
noncomputable def tabT (f : FuncId) (args : List Value) (h : AHeap) : Option (Value × AHeap) :=
  match worksS f args h with
  | some r => some r
  | none => envE.S f args h
noncomputable def envT : Env := { envE with S := tabT }
theorem envT_ok : EnvOK envT := ⟨envE_ok.ty, envE_ok.mix, envE_ok.fn, fun f args h v h' hk => by
  have hk : tabT f args h = some (v, h') := hk
  unfold tabT at hk
  split at hk
  · rename_i r hr
    cases hk
    unfold worksS at hr
    cases hb : Nat.beq f 21 && args.isEmpty
    · rw [hb, cond_false] at hr; cases hr
    · rw [hb, cond_true] at hr
      cases hr
      simp only [Bool.and_eq_true, List.isEmpty_iff] at hb
      obtain ⟨h1, rfl⟩ := hb
      obtain rfl := Nat.eq_of_beq_eq_true h1
      exact ⟨⟨_, en21⟩, (works_c h).mono fun x y hq => hq⟩
  · exact envE_ok.sum f args h v h' hk⟩
end Go.Proofs.YtimbhgkiohbkdaaGreat
