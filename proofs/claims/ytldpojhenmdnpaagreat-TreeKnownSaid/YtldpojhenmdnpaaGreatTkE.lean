/-
  The evaluator's tables for the Tree laws: sorted keys, page.Parse (which may panic), the law's works. The function works of the Tree laws, by the evaluator; the table with it as one step.
-/
import Derived.Test.YtldpojhenmdnpaaGreatAb50
import Derived.Test.YtldpojhenmdnpaaGreatTy
import Derived.Test.YtldpojhenmdnpaaGreatSortNU
import Derived.Test.YtldpojhenmdnpaaGreatAb22
namespace Go.Proofs.YtldpojhenmdnpaaGreat
open Go.Ab Go.Ab.Nx Go.Ab.Nx.Zx Go.Ab.Nx.Lx Go.Ab.Nx.Dx Go.Ab.Nx.Mx
set_option linter.unusedSimpArgs false
set_option linter.unusedVariables false
set_option maxRecDepth 1000000
noncomputable def keysA (f : FuncId) (args : List Value) (h : AHeap) : Option (Value × AHeap) :=
  match SortS.keysS 103 [158, 169] f args h with
  | some r => some r
  | none => SortU.keysS 59 [124] f args h
theorem keysA_ok (f : FuncId) (args : List Value) (h : AHeap) (v : Value) (h' : AHeap) (hk : keysA f args h = some (v, h')) : (∃ fn, Entered Tryz.prog f fn) ∧ FWp Tryz.prog f args h fun x y => x = v ∧ y = h' := by
  unfold keysA at hk
  split at hk
  · rename_i r hr
    cases hk
    refine SortS.keysS_ok en103 (fun k hk => ?_) f args h v h' hr
    simp only [List.mem_cons, List.not_mem_nil, or_false] at hk
    rcases hk with rfl | rfl
    · exact fun h q m clock l ks hok => SortS.KB.sorted_c h q m clock l ks ⟨hok.lt, hok.inj, hok.nodup⟩
    · exact fun h q m clock l ks hok => SortS.KR.sorted_c h q m clock l ks ⟨hok.lt, hok.inj, hok.nodup⟩
  · refine SortU.keysS_ok en59 (fun k hk => ?_) f args h v h' hk
    simp only [List.mem_cons, List.not_mem_nil, or_false] at hk
    subst hk
    exact fun h q m clock l ks hok => SortU.KL.sorted_c h q m clock l ks ⟨hok.lt, hok.inj, hok.nodup⟩
noncomputable def envA : Env := { envOf Tryz.prog 288 282 with S := keysA }
theorem envA_ok : EnvOK envA := ⟨tyOK_of Tryz.prog 288, (by kernel_rfl), fnOK_of Tryz.prog 282, keysA_ok⟩
noncomputable def envB : Env := envP envA 1000 [43]
theorem envB_ok : EnvOK envB := envP_ok envA_ok 1000 _
theorem noX : XOK Tryz.prog [] := fun k hk => (by cases hk)
noncomputable abbrev slowF : List FuncId := [40, 14, 54, 16]
end Go.Proofs.YtldpojhenmdnpaaGreat
namespace Go.Proofs.YtldpojhenmdnpaaGreat
open Go.Ab Go.Ab.Nx Go.Ab.Nx.Zx Go.Ab.Nx.Lx Go.Ab.Nx.Dx Go.Ab.Nx.Mx
set_option linter.unusedSimpArgs false
set_option linter.unusedVariables false
set_option maxRecDepth 1000000
theorem worksRan : yesL (lFun envB (evZ envB 1000) (mCall envB (evZ envB 1000) [] slowF 1000 3) 1000 8 [] ⟨0, .leaf⟩) = true := by kernel_rfl
theorem works_c (h : AHeap) : FWp Tryz.prog 8 [] h fun u h' => u = .bool true ∧ h' = h :=
  FWp.ofClosed rfl (fun w => closedL_true envB_ok (evZ_sound envB_ok 1000) (mCall_sound envB_ok (evZ_sound envB_ok 1000) noX slowF 1000 3) 1000 worksRan w)
noncomputable def worksS (f : FuncId) (args : List Value) (h : AHeap) : Option (Value × AHeap) := bif Nat.beq f 8 && args.isEmpty then some (.bool true, h) else none
noncomputable def tabT (f : FuncId) (args : List Value) (h : AHeap) : Option (Value × AHeap) :=
  match worksS f args h with
  | some r => some r
  | none => envB.S f args h
noncomputable def envT : Env := { envB with S := tabT }
theorem envT_ok : EnvOK envT := ⟨envB_ok.ty, envB_ok.mix, envB_ok.fn, fun f args h v h' hk => by
  have hk : tabT f args h = some (v, h') := hk
  unfold tabT at hk
  split at hk
  · rename_i r hr
    cases hk
    unfold worksS at hr
    cases hb : Nat.beq f 8 && args.isEmpty
    · rw [hb, cond_false] at hr; cases hr
    · rw [hb, cond_true] at hr
      cases hr
      simp only [Bool.and_eq_true, List.isEmpty_iff] at hb
      obtain ⟨h1, rfl⟩ := hb
      obtain rfl := Nat.eq_of_beq_eq_true h1
      exact ⟨⟨_, en8⟩, (works_c h).mono fun x y hq => hq⟩
  · exact envB_ok.sum f args h v h' hk⟩
end Go.Proofs.YtldpojhenmdnpaaGreat
