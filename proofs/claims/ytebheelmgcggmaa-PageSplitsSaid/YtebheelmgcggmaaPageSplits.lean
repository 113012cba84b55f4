/-
  Proved: the law PageSplits returns true at every input; nothing that lay in memory changes, and the arguments read behind the call as they read before. No conditions.
  The walk is over an abstract view of the model's memory (the Ab texts), which is proved right.
-/
import Derived.Test.YtebheelmgcggmaaRows
import Derived.WalkKit
import Derived.ProofKit
import Derived.OpenShut
import Derived.Test.YtebheelmgcggmaaMj
namespace Go.Proofs.Ytebheelmgcggmaa.pageSplits
open Go.ChangeShapes Go.WideShapes Go.ChangeAt Go.RowKit
set_option linter.unusedVariables false

theorem lit_u8n {n : Int} (h : (Lit.int .u8 n).wf = true) : ∃ m : Nat, n = m ∧ m < 256 := by
  have := Ab.lit_u8 h
  exact ⟨n.toNat, by omega, by omega⟩
theorem own : ownKnob Try.prog.godebug = none := by kernel_rfl

set_option maxRecDepth 100000 in
theorem lifted (os : Os) (started : os.Started) (H : Type) (enc : TypeId × Value → H) :
    ReturnsInHanded {} Try.checked os 6 .any (Rows.pageSplitsSpec.pre6 enc Try.prog Try.f6 Rows.pageSplitsRow.domain false) (Rows.pageSplitsSpec.post enc Try.prog Try.f6 false true false false) := by
  refine returnsInHanded_of_change (C := Try.checked) own started (by kernel_rfl) Try.func6
    (ChangeSpec.witness6 (enc := enc) (C := Try.checked) false ⟨#[], #[.slice none 0 0, .int .u16 0, .int .u8 0], []⟩ 8 (by kernel_rfl) (by kernel_rfl) (by kernel_rfl) (by kernel_rfl)) ?_
  intro W base args ds gs before hval hW hcnd _
  refine Ab.law_calls (k := 4) rfl (by kernel_rfl) hval hW (fun h us hr => ?_) (fun ds hl => ?_) (fun w' => ok_one (by kernel_rfl) rfl (okWide_bool_mk Try.underlying4 _))
  · rw [Try.params6] at hr
    match us, hr with
    | [v0, v1, v2], ⟨g0, g1, g2, _⟩ =>
      obtain ⟨b1, l1, rfl, a1, a2⟩ := RdV.ops g0
      obtain ⟨i, rfl, hi⟩ := Ab.RdV.int Try.underlying31 g1
      obtain ⟨j, rfl, hj⟩ := Ab.RdV.int Try.underlying5 g2
      obtain ⟨m1, rfl, hm1⟩ := lit_u16 hi
      obtain ⟨m2, rfl, hm2⟩ := lit_u8n hj
      exact splits_c h b1 0 l1 m1 m2 a1 a2 hm1 hm2
  · match ds, hl with
    | [d1, d2, d3], _ => exact ⟨rfl, rfl, fun w' b sp hd => trodAll_cons_mk (shut_bool Try.underlying4 _) trodAll_mk0⟩

theorem over : Rows.pageSplitsRow.holds Try.pinned (OpenSpec.ofChange Rows.pageSplitsSpec) :=
  OpenClaim.holds_of_wide 6 Try.f6 rfl rfl rfl rfl rfl rfl rfl ⟨rfl, rfl, rfl, rfl, rfl⟩ rfl rfl rfl rfl rfl (by kernel_rfl) Try.func6 (by kernel_rfl)
    (of_decide_eq_true (by kernel_rfl)) (by unfold Func.isWrapper; first | (rw [if_pos (by decide +kernel)]; kernel_rfl) | (rw [if_neg (by decide +kernel)]; exact ⟨rfl, rfl⟩))
    (fun os started H enc _ => lifted os started H enc)

theorem proved : Rows.PageSplitsSaid :=
  over
#print axioms proved
end Go.Proofs.Ytebheelmgcggmaa.pageSplits
