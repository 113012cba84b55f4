/-
  The evaluator's table for the Order laws, with slices.Sorted(maps.Keys(m)) at strings as one step.
-/
import Derived.Test.YtjenbiohcecfnaaGreatKeysKP
namespace Go.Proofs.YtjenbiohcecfnaaGreat
open Go.Ab
set_option maxRecDepth 100000
noncomputable def envO : Env := { envOf Tryz.prog 204 136 with S := SortS.keysS 34 [62] }
theorem envO_ok : EnvOK envO := ⟨tyOK_of Tryz.prog 204, (by kernel_rfl), fnOK_of Tryz.prog 136, SortS.keysS_ok en34 (fun k hk => by
  simp only [List.mem_cons, List.not_mem_nil, or_false] at hk
  subst hk
  exact fun h q m clock l ks => SortS.KP.sorted_c h q m clock l ks)⟩
end Go.Proofs.YtjenbiohcecfnaaGreat
