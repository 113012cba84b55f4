/-
  Proved: the law PageParts returns true at every input; nothing that lay in memory changes, and the arguments read behind the call as they read before. No conditions.
  The walk is over an abstract view of the model's memory (the Ab texts), which is proved right.
-/
import Derived.Test.YtebheelmgcggmaaGreatRows
import Derived.WalkKit
import Derived.ProofKit
import Derived.OpenShut
import Derived.Test.YtebheelmgcggmaaGreatMl
namespace Go.Proofs.YtebheelmgcggmaaGreat.pageParts
open Go.ChangeShapes Go.WideShapes Go.ChangeAt Go.RowKit
set_option linter.unusedVariables false

theorem own : ownKnob Tryz.prog.godebug = none := by kernel_rfl

set_option maxRecDepth 100000 in
theorem lifted (os : Os) (started : os.Started) (H : Type) (enc : TypeId × Value → H) :
    ReturnsInHanded {} Tryz.checked os 5 .any (Rows.pagePartsSpec.pre6 enc Tryz.prog Tryz.f5 Rows.pagePartsRow.domain false) (Rows.pagePartsSpec.post enc Tryz.prog Tryz.f5 false true false false) := by
  refine returnsInHanded_of_change (C := Tryz.checked) own started (by kernel_rfl) Tryz.func5
    (ChangeSpec.witness6 (enc := enc) (C := Tryz.checked) false ⟨#[], #[.agg #[.string ⟨#[]⟩, .string ⟨#[]⟩, .int .u64 0, .slice none 0 0, .slice none 0 0], .agg #[.string ⟨#[]⟩, .string ⟨#[]⟩, .int .u64 0, .slice none 0 0, .slice none 0 0]], []⟩ 8 (by kernel_rfl) (by kernel_rfl) (by kernel_rfl) (by kernel_rfl)) ?_
  intro W base args ds gs before hval hW hcnd _
  refine Ab.law_calls (k := 4) rfl (by kernel_rfl) hval hW (fun h us hr => ?_) (fun ds hl => ?_) (fun w' => ok_one (by kernel_rfl) rfl (okWide_bool_mk Tryz.underlying4 _))
  · rw [Tryz.params5] at hr
    match us, hr with
    | [v0, v1], ⟨g0, g1, _⟩ =>
      obtain ⟨p, b1, b2, rfl, a1, a2, s1, s2, l1⟩ := rd_leaf g0
      obtain ⟨q, b3, b4, rfl, a3, a4, s3, s4, l2⟩ := rd_leaf g1
      exact parts_c h p q b1 b2 b3 b4 a1 a2 a3 a4 s1 s2 s3 s4 l1 l2
  · match ds, hl with
    | [d1, d2], _ => exact ⟨rfl, rfl, fun w' b sp hd => trodAll_cons_mk (shut_bool Tryz.underlying4 _) trodAll_mk0⟩

theorem over : Rows.pagePartsRow.holds Tryz.pinned (OpenSpec.ofChange Rows.pagePartsSpec) :=
  OpenClaim.holds_of_wide 5 Tryz.f5 rfl rfl rfl rfl rfl rfl rfl ⟨rfl, rfl, rfl, rfl, rfl⟩ rfl rfl rfl rfl rfl (by kernel_rfl) Tryz.func5 (by kernel_rfl)
    (of_decide_eq_true (by kernel_rfl)) (by unfold Func.isWrapper; first | (rw [if_pos (by decide +kernel)]; kernel_rfl) | (rw [if_neg (by decide +kernel)]; exact ⟨rfl, rfl⟩))
    (fun os started H enc _ => lifted os started H enc)

theorem proved : Rows.PagePartsSaid :=
  over
#print axioms proved
end Go.Proofs.YtebheelmgcggmaaGreat.pageParts
