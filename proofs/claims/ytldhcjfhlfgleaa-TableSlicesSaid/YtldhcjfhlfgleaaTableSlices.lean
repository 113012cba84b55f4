/-
  Proved: the law TableSlices returns true at every input; nothing that lay in memory changes, and the arguments read behind the call as they read before. No conditions.
  The walk is over an abstract view of the model's memory (the Ab texts), which is proved right.
-/
import Derived.Test.YtldhcjfhlfgleaaRows
import Derived.WalkKit
import Derived.ProofKit
import Derived.OpenShut
import Derived.Test.YtldhcjfhlfgleaaTableT
namespace Go.Proofs.Ytldhcjfhlfgleaa.tableSlices
open Go.ChangeShapes Go.WideShapes Go.ChangeAt Go.RowKit
set_option linter.unusedVariables false

theorem own : ownKnob Try.prog.godebug = none := by kernel_rfl

set_option maxRecDepth 100000 in
theorem lifted (os : Os) (started : os.Started) (H : Type) (enc : TypeId × Value → H) :
    ReturnsInHanded {} Try.checked os 5 .any (Rows.tableSlicesSpec.pre6 enc Try.prog Try.f5 Rows.tableSlicesRow.domain false) (Rows.tableSlicesSpec.post enc Try.prog Try.f5 false true false false) := by
  refine returnsInHanded_of_change (C := Try.checked) own started (by kernel_rfl) Try.func5
    (ChangeSpec.witness6 (enc := enc) (C := Try.checked) false ⟨#[], #[.slice none 0 0, .int .u8 0, .int .u8 0], []⟩ 8 (by kernel_rfl) (by kernel_rfl) (by kernel_rfl) (by kernel_rfl)) ?_
  intro W base args ds gs before hval hW hcnd _
  refine Ab.law_calls (k := 4) rfl (by kernel_rfl) hval hW (fun h us hr => ?_) (fun ds hl => ?_) (fun w' => ok_one (by kernel_rfl) rfl (okWide_bool_mk Try.underlying4 _))
  · rw [Try.params5] at hr
    match us, hr with
    | [v0, v1, v2], ⟨g0, g1, g2, _⟩ =>
      obtain ⟨b1, l1, rfl, a1⟩ := RdV.touches g0
      obtain ⟨m, rfl, hm⟩ := Ab.RdV.int Try.underlying5 g1
      have hm2 := Ab.lit_u8 hm
      obtain ⟨m', rfl⟩ := Int.eq_ofNat_of_zero_le hm2.1
      obtain ⟨n, rfl, hn⟩ := Ab.RdV.int Try.underlying5 g2
      have hn2 := Ab.lit_u8 hn
      obtain ⟨n', rfl⟩ := Int.eq_ofNat_of_zero_le hn2.1
      exact slices_c h m' n' (by omega) (by omega) b1 l1 a1
  · match ds, hl with
    | [d1, d2, d3], _ => exact ⟨rfl, rfl, fun w' b sp hd => trodAll_cons_mk (shut_bool Try.underlying4 _) trodAll_mk0⟩

theorem over : Rows.tableSlicesRow.holds Try.pinned (OpenSpec.ofChange Rows.tableSlicesSpec) :=
  OpenClaim.holds_of_wide 5 Try.f5 rfl rfl rfl rfl rfl rfl rfl ⟨rfl, rfl, rfl, rfl, rfl⟩ rfl rfl rfl rfl rfl (by kernel_rfl) Try.func5 (by kernel_rfl)
    (of_decide_eq_true (by kernel_rfl)) (by unfold Func.isWrapper; first | (rw [if_pos (by decide +kernel)]; kernel_rfl) | (rw [if_neg (by decide +kernel)]; exact ⟨rfl, rfl⟩))
    (fun os started H enc _ => lifted os started H enc)

theorem proved : Rows.TableSlicesSaid :=
  over
#print axioms proved
end Go.Proofs.Ytldhcjfhlfgleaa.tableSlices
