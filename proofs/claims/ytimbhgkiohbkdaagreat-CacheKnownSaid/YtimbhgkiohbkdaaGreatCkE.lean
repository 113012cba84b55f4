/-
  The evaluator's tables for the law CacheKnown.
-/
import Derived.Test.YtimbhgkiohbkdaaGreatAb55
import Derived.Test.YtimbhgkiohbkdaaGreatTy
import Derived.Test.YtimbhgkiohbkdaaGreatKeysKR
namespace Go.Proofs.YtimbhgkiohbkdaaGreat
open Go.Ab Go.Ab.Nx Go.Ab.Nx.Zx Go.Ab.Nx.Lx Go.Ab.Nx.Dx Go.Ab.Nx.Mx
set_option linter.unusedSimpArgs false
set_option linter.unusedVariables false
set_option maxRecDepth 1000000
noncomputable def keysA (f : FuncId) (args : List Value) (h : AHeap) : Option (Value × AHeap) :=
  match SortS.keysS 150 [211, 221] f args h with
  | some r => some r
  | none => SortU.keysS 88 [226, 187, 168] f args h
theorem keysA_ok (f : FuncId) (args : List Value) (h : AHeap) (v : Value) (h' : AHeap) (hk : keysA f args h = some (v, h')) : (∃ fn, Entered Tryz.prog f fn) ∧ FWp Tryz.prog f args h fun x y => x = v ∧ y = h' := by
  unfold keysA at hk
  split at hk
  · rename_i r hr
    cases hk
    refine SortS.keysS_ok en150 (fun k hk => ?_) f args h v h' hr
    simp only [List.mem_cons, List.not_mem_nil, or_false] at hk
    rcases hk with rfl | rfl
    · exact fun h q m clock l ks hok => SortS.KB.sorted_c h q m clock l ks ⟨hok.lt, hok.inj, hok.nodup⟩
    · exact fun h q m clock l ks hok => SortS.KR.sorted_c h q m clock l ks ⟨hok.lt, hok.inj, hok.nodup⟩
  · refine SortU.keysS_ok en88 (fun k hk => ?_) f args h v h' hk
    simp only [List.mem_cons, List.not_mem_nil, or_false] at hk
    rcases hk with rfl | rfl | rfl
    · exact fun h q m clock l ks hok => SortU.KL.sorted_c h q m clock l ks ⟨hok.lt, hok.inj, hok.nodup⟩
    · exact fun h q m clock l ks hok => SortU.KI.sorted_c h q m clock l ks ⟨hok.lt, hok.inj, hok.nodup⟩
    · exact fun h q m clock l ks hok => SortU.KG.sorted_c h q m clock l ks ⟨hok.lt, hok.inj, hok.nodup⟩
noncomputable def envA : Env := { envOf Tryz.prog 353 341 with S := keysA }
theorem envA_ok : EnvOK envA := ⟨tyOK_of Tryz.prog 353, (by kernel_rfl), fnOK_of Tryz.prog 341, keysA_ok⟩
noncomputable def envB : Env := envP envA 1000 [205]
theorem envB_ok : EnvOK envB := envP_ok envA_ok 1000 _
noncomputable abbrev exts : List FuncId × List FuncId := ([231], [241])
theorem extsOK : YOK Tryz.prog exts := by
  refine ⟨fun k hk => ?_, fun k hk => ?_⟩
  · obtain rfl := List.mem_singleton.1 hk
    exact ⟨_, rfl, by kernel_rfl, by kernel_rfl, by kernel_rfl, by kernel_rfl⟩
  · obtain rfl := List.mem_singleton.1 hk
    exact ⟨_, rfl, by kernel_rfl, by kernel_rfl, by kernel_rfl, by kernel_rfl⟩
noncomputable abbrev slowX : List FuncId := [116, 118, 185, 171, 230, 54]
noncomputable def known : Tr Unit := setT [150, 88, 205, 116, 118, 185, 171, 230, 54, 120, 32, 79, 43, 81, 83, 21, 302, 303, 85, 13]
noncomputable def envC : Env := envU (envM envB 1000 exts slowX 3) known
theorem envC_ok : EnvOK envC := envU_ok (envM_ok envB_ok 1000 extsOK slowX 3) _
end Go.Proofs.YtimbhgkiohbkdaaGreat
