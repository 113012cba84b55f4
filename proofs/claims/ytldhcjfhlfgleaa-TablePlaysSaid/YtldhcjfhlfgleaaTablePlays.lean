/-
  Proved: the law TablePlays returns true at every input; nothing that lay in memory changes, and the arguments read behind the call as they read before. No conditions.
  The walk is over an abstract view of the model's memory (the Ab texts), which is proved right.
-/
import Derived.Test.YtldhcjfhlfgleaaRows
import Derived.WalkKit
import Derived.ProofKit
import Derived.OpenShut
import Derived.Test.YtldhcjfhlfgleaaTablePl
namespace Go.Proofs.Ytldhcjfhlfgleaa.tablePlays
open Go.ChangeShapes Go.WideShapes Go.ChangeAt Go.RowKit
set_option linter.unusedVariables false

theorem own : ownKnob Try.prog.godebug = none := by kernel_rfl

theorem two {P : Program} {h : Ab.AHeap} {k : Nat} {s t : TypeId} {us : List Value} (hr : Ab.RdArgs P h k [s, t] us) : ∃ a b, us = [a, b] ∧ Ab.RdV P h k s a ∧ Ab.RdV P h k t b := by
  match us, hr with
  | [a, b], ⟨g0, g1, _⟩ => exact ⟨a, b, rfl, g0, g1⟩

set_option maxRecDepth 100000 in
theorem lifted (os : Os) (started : os.Started) (H : Type) (enc : TypeId × Value → H) :
    ReturnsInHanded {} Try.checked os 3 .any (Rows.tablePlaysSpec.pre6 enc Try.prog Try.f3 Rows.tablePlaysRow.domain false) (Rows.tablePlaysSpec.post enc Try.prog Try.f3 false true false false) := by
  refine returnsInHanded_of_change (C := Try.checked) own started (by kernel_rfl) Try.func3
    (ChangeSpec.witness6 (enc := enc) (C := Try.checked) false ⟨#[], #[.slice none 0 0, .int .i64 0], []⟩ 8 (by kernel_rfl) (by kernel_rfl) (by kernel_rfl) (by kernel_rfl)) ?_
  intro W base args ds gs before hval hW hcnd _
  refine Ab.law_calls (k := 8) rfl (by kernel_rfl) hval hW (fun h us hr => ?_) (fun ds hl => ?_) (fun w' => ok_one (by kernel_rfl) rfl (okWide_bool_mk Try.underlying4 _))
  · rw [Try.params3] at hr
    obtain ⟨v0, v1, rfl, g0, g1⟩ := two hr
    obtain ⟨b1, l1, rfl, a1⟩ := RdV.acts g0
    obtain ⟨m, rfl, hm⟩ := Ab.RdV.int Try.underlying3 g1
    exact (plays_c h m b1 l1 a1).mono fun u h1 hk => hk
  · match ds, hl with
    | [d1, d2], _ => exact ⟨rfl, rfl, fun w' b sp hd => trodAll_cons_mk (shut_bool Try.underlying4 _) trodAll_mk0⟩

theorem over : Rows.tablePlaysRow.holds Try.pinned (OpenSpec.ofChange Rows.tablePlaysSpec) :=
  OpenClaim.holds_of_wide 3 Try.f3 rfl rfl rfl rfl rfl rfl rfl ⟨rfl, rfl, rfl, rfl, rfl⟩ rfl rfl rfl rfl rfl (by kernel_rfl) Try.func3 (by kernel_rfl)
    (of_decide_eq_true (by kernel_rfl)) (by unfold Func.isWrapper; first | (rw [if_pos (by decide +kernel)]; kernel_rfl) | (rw [if_neg (by decide +kernel)]; exact ⟨rfl, rfl⟩))
    (fun os started H enc _ => lifted os started H enc)

theorem proved : Rows.TablePlaysSaid :=
  over
#print axioms proved
end Go.Proofs.Ytldhcjfhlfgleaa.tablePlays
