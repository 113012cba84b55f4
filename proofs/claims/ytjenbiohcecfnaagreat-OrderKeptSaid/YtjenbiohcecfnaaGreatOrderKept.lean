/-
  Proved: the law OrderKept returns true at every input; nothing that lay in memory changes, and the arguments read behind the call as they read before. No conditions.
  The walk is over an abstract view of the model's memory (the Ab texts), which is proved right.
-/
import Derived.Test.YtjenbiohcecfnaaGreatRows
import Derived.WalkKit
import Derived.ProofKit
import Derived.OpenShut
import Derived.Test.YtjenbiohcecfnaaGreatOrdKa
namespace Go.Proofs.YtjenbiohcecfnaaGreat.orderKept
open Go.ChangeShapes Go.WideShapes Go.ChangeAt Go.RowKit
set_option linter.unusedVariables false
set_option maxRecDepth 10000

theorem own : ownKnob Tryz.prog.godebug = none := by kernel_rfl

theorem three {P : Program} {h : Ab.AHeap} {k : Nat} {s t u : TypeId} {us : List Value} (hr : Ab.RdArgs P h k [s, t, u] us) : ∃ a b c, us = [a, b, c] ∧ Ab.RdV P h k s a ∧ Ab.RdV P h k t b ∧ Ab.RdV P h k u c := by
  match us, hr with
  | [a, b, c], ⟨g0, g1, g2, _⟩ => exact ⟨a, b, c, rfl, g0, g1, g2⟩
theorem arr {h : Ab.AHeap} {n : Nat} {v : Value} (hr : Ab.RdV Tryz.prog h (n + 2) 54 v) : ∃ a b c : Int, v = .agg #[.int .u8 a, .int .u8 b, .int .u8 c] ∧ (0 ≤ a ∧ a < 256) ∧ (0 ≤ b ∧ b < 256) ∧ (0 ≤ c ∧ c < 256) := by
  unfold Ab.RdV at hr
  rw [Tryz.underlying54] at hr
  obtain ⟨vs, rfl, h1⟩ := hr
  unfold Ab.Rd at h1
  rw [Tryz.underlying54] at h1
  obtain ⟨vss, rfl, h2, h3⟩ := h1
  match vss, h2 with
  | [x, y, z], _ =>
    obtain ⟨a, rfl, a2⟩ := Ab.Rd.int Tryz.underlying5 (h3 x (by simp)).2
    obtain ⟨b, rfl, b2⟩ := Ab.Rd.int Tryz.underlying5 (h3 y (by simp)).2
    obtain ⟨c, rfl, c2⟩ := Ab.Rd.int Tryz.underlying5 (h3 z (by simp)).2
    exact ⟨a, b, c, rfl, Ab.lit_u8 a2, Ab.lit_u8 b2, Ab.lit_u8 c2⟩

set_option maxRecDepth 100000 in
theorem lifted (os : Os) (started : os.Started) (H : Type) (enc : TypeId × Value → H) :
    ReturnsInHanded {} Tryz.checked os 4 .any (Rows.orderKeptSpec.pre6 enc Tryz.prog Tryz.f4 Rows.orderKeptRow.domain false) (Rows.orderKeptSpec.post enc Tryz.prog Tryz.f4 false true false false) := by
  refine returnsInHanded_of_change (C := Tryz.checked) own started (by kernel_rfl) Tryz.func4
    (ChangeSpec.witness6 (enc := enc) (C := Tryz.checked) false ⟨#[], #[.slice none 0 0, .agg #[.slice none 0 0, .slice none 0 0], .agg #[.int .u8 0, .int .u8 0, .int .u8 0]], []⟩ 12 (by kernel_rfl) (by kernel_rfl) (by kernel_rfl) (by kernel_rfl)) ?_
  intro W base args ds gs before hval hW hcnd _
  refine Ab.law_calls (k := 12) rfl (by kernel_rfl) hval hW (fun h us hr => ?_) (fun ds hl => ?_) (fun w' => ok_one (by kernel_rfl) rfl (okWide_bool_mk Tryz.underlying4 _))
  · rw [Tryz.params4] at hr
    obtain ⟨v0, v1, v2, rfl, g0, g1, g2⟩ := three hr
    obtain ⟨b1, l1, rfl, a1⟩ := RdV.olds (n := 6) g0
    obtain ⟨c0, c1, m0, m1, rfl, a2, a3⟩ := RdV.two (n := 4) g1
    obtain ⟨a, b, c, rfl, ha, hb, hc⟩ := arr (n := 10) g2
    exact (kept_c h b1 l1 a1 c0 c1 m0 m1 a2 a3 a b c ha hb hc).mono fun u h1 hk => hk
  · match ds, hl with
    | [d1, d2, d3], _ => exact ⟨rfl, rfl, fun w' b sp hd => trodAll_cons_mk (shut_bool Tryz.underlying4 _) trodAll_mk0⟩

theorem over : Rows.orderKeptRow.holds Tryz.pinned (OpenSpec.ofChange Rows.orderKeptSpec) :=
  OpenClaim.holds_of_wide 4 Tryz.f4 rfl rfl rfl rfl rfl rfl rfl ⟨rfl, rfl, rfl, rfl, rfl⟩ rfl rfl rfl rfl rfl (by kernel_rfl) Tryz.func4 (by kernel_rfl)
    (of_decide_eq_true (by kernel_rfl)) (by unfold Func.isWrapper; first | (rw [if_pos (by decide +kernel)]; kernel_rfl) | (rw [if_neg (by decide +kernel)]; exact ⟨rfl, rfl⟩))
    (fun os started H enc _ => lifted os started H enc)

theorem proved : Rows.OrderKeptSaid :=
  over
#print axioms proved
end Go.Proofs.YtjenbiohcecfnaaGreat.orderKept
