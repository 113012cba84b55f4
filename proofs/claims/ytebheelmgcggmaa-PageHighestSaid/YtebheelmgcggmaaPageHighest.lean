/-
  Proved: the law PageHighest returns true at every input; nothing that lay in memory changes, and the arguments read behind the call as they read before. No conditions.
  The walk is over an abstract view of the model's memory (the Ab texts), which is proved right.
-/
import Derived.Test.YtebheelmgcggmaaRows
import Derived.WalkKit
import Derived.ProofKit
import Derived.OpenShut
import Derived.Test.YtebheelmgcggmaaMg
namespace Go.Proofs.Ytebheelmgcggmaa.pageHighest
open Go.ChangeShapes Go.WideShapes Go.ChangeAt Go.RowKit
set_option linter.unusedVariables false

theorem own : ownKnob Try.prog.godebug = none := by kernel_rfl

set_option maxRecDepth 100000 in
theorem lifted (os : Os) (started : os.Started) (H : Type) (enc : TypeId × Value → H) :
    ReturnsInHanded {} Try.checked os 3 .any (Rows.pageHighestSpec.pre6 enc Try.prog Try.f3 Rows.pageHighestRow.domain false) (Rows.pageHighestSpec.post enc Try.prog Try.f3 false true false false) := by
  refine returnsInHanded_of_change (C := Try.checked) own started (by kernel_rfl) Try.func3
    (ChangeSpec.witness6 (enc := enc) (C := Try.checked) false ⟨#[], #[.slice none 0 0, .slice none 0 0], []⟩ 8 (by kernel_rfl) (by kernel_rfl) (by kernel_rfl) (by kernel_rfl)) ?_
  intro W base args ds gs before hval hW hcnd _
  refine Ab.law_calls (k := 4) rfl (by kernel_rfl) hval hW (fun h us hr => ?_) (fun ds hl => ?_) (fun w' => ok_one (by kernel_rfl) rfl (okWide_bool_mk Try.underlying4 _))
  · rw [Try.params3] at hr
    match us, hr with
    | [v0, v1], ⟨g0, g1, _⟩ =>
      obtain ⟨b1, l1, rfl, a1, a2⟩ := RdV.ops g0
      obtain ⟨b2, l2, rfl, c1, c2⟩ := RdV.u16s g1
      exact highest_c h b1 b2 0 0 l1 l2 a1 c1 a2 c2
  · match ds, hl with
    | [d1, d2], _ => exact ⟨rfl, rfl, fun w' b sp hd => trodAll_cons_mk (shut_bool Try.underlying4 _) trodAll_mk0⟩

theorem over : Rows.pageHighestRow.holds Try.pinned (OpenSpec.ofChange Rows.pageHighestSpec) :=
  OpenClaim.holds_of_wide 3 Try.f3 rfl rfl rfl rfl rfl rfl rfl ⟨rfl, rfl, rfl, rfl, rfl⟩ rfl rfl rfl rfl rfl (by kernel_rfl) Try.func3 (by kernel_rfl)
    (of_decide_eq_true (by kernel_rfl)) (by unfold Func.isWrapper; first | (rw [if_pos (by decide +kernel)]; kernel_rfl) | (rw [if_neg (by decide +kernel)]; exact ⟨rfl, rfl⟩))
    (fun os started H enc _ => lifted os started H enc)

theorem proved : Rows.PageHighestSaid :=
  over
#print axioms proved
end Go.Proofs.Ytebheelmgcggmaa.pageHighest
