/-
  Proved: the law TableRanges returns true at every input; nothing that lay in memory changes, and the arguments read behind the call as they read before. No conditions.
  The walk is over an abstract view of the model's memory (the Ab texts), which is proved right.
-/
import Derived.Test.YtldhcjfhlfgleaaRows
import Derived.WalkKit
import Derived.ProofKit
import Derived.OpenShut
import Derived.Test.YtldhcjfhlfgleaaTableQ
namespace Go.Proofs.Ytldhcjfhlfgleaa.tableRanges
open Go.ChangeShapes Go.WideShapes Go.ChangeAt Go.RowKit
set_option linter.unusedVariables false

theorem own : ownKnob Try.prog.godebug = none := by kernel_rfl

theorem rdv_arr {P : Program} {h : Ab.AHeap} {n m : Nat} {t e : TypeId} {v : Value} (ht : P.underlying t = some (.array m e)) (hr : Ab.RdV P h (n + 1) t v) :
    ∃ vss : List (List Value), v = .agg vss.flatten.toArray ∧ vss.length = m ∧ ∀ x ∈ vss, x.length = P.cellsOf e ∧ Ab.Rd P h n e x := by
  unfold Ab.RdV at hr
  rw [ht] at hr
  obtain ⟨vs, rfl, hr⟩ := hr
  unfold Ab.Rd at hr
  rw [ht] at hr
  obtain ⟨vss, rfl, hl, hv⟩ := hr
  exact ⟨vss, rfl, hl, hv⟩
set_option maxRecDepth 10000 in
theorem bounds3 {h : Ab.AHeap} {v : Value} (hr : Ab.RdV Try.prog h 4 63 v) : ∃ x0 x1 x2 : Nat, v = .agg #[.int .u8 (x0 : Int), .int .u8 (x1 : Int), .int .u8 (x2 : Int)] ∧ x0 < 256 ∧ x1 < 256 ∧ x2 < 256 := by
  obtain ⟨vss, rfl, hl, hv⟩ := rdv_arr Try.underlying63 hr
  match vss, hl with
  | [a, b, c], _ =>
    obtain ⟨i, rfl, w1⟩ := Ab.Rd.int Try.underlying5 (hv a (by simp)).2
    obtain ⟨j, rfl, w2⟩ := Ab.Rd.int Try.underlying5 (hv b (by simp)).2
    obtain ⟨k, rfl, w3⟩ := Ab.Rd.int Try.underlying5 (hv c (by simp)).2
    have r1 := Ab.lit_u8 w1
    have r2 := Ab.lit_u8 w2
    have r3 := Ab.lit_u8 w3
    refine ⟨i.toNat, j.toNat, k.toNat, ?_, by omega, by omega, by omega⟩
    simp [Int.toNat_of_nonneg r1.1, Int.toNat_of_nonneg r2.1, Int.toNat_of_nonneg r3.1]

set_option maxRecDepth 100000 in
theorem lifted (os : Os) (started : os.Started) (H : Type) (enc : TypeId × Value → H) :
    ReturnsInHanded {} Try.checked os 6 .any (Rows.tableRangesSpec.pre6 enc Try.prog Try.f6 Rows.tableRangesRow.domain false) (Rows.tableRangesSpec.post enc Try.prog Try.f6 false true false false) := by
  refine returnsInHanded_of_change (C := Try.checked) own started (by kernel_rfl) Try.func6
    (ChangeSpec.witness6 (enc := enc) (C := Try.checked) false ⟨#[], #[.slice none 0 0, .int .u8 0, .agg #[.int .u8 0, .int .u8 0, .int .u8 0]], []⟩ 8 (by kernel_rfl) (by kernel_rfl) (by kernel_rfl) (by kernel_rfl)) ?_
  intro W base args ds gs before hval hW hcnd _
  refine Ab.law_calls (k := 4) rfl (by kernel_rfl) hval hW (fun h us hr => ?_) (fun ds hl => ?_) (fun w' => ok_one (by kernel_rfl) rfl (okWide_bool_mk Try.underlying4 _))
  · rw [Try.params6] at hr
    match us, hr with
    | [v0, v1, v2], ⟨g0, g1, g2, _⟩ =>
      obtain ⟨b1, l1, rfl, a1⟩ := RdV.touches g0
      obtain ⟨m, rfl, hm⟩ := Ab.RdV.int Try.underlying5 g1
      have hm2 := Ab.lit_u8 hm
      obtain ⟨m', rfl⟩ := Int.eq_ofNat_of_zero_le hm2.1
      obtain ⟨x0, x1, x2, rfl, hx0, hx1, hx2⟩ := bounds3 g2
      exact ranges_c h m' x0 x1 x2 (by omega) hx0 hx1 hx2 b1 l1 a1
  · match ds, hl with
    | [d1, d2, d3], _ => exact ⟨rfl, rfl, fun w' b sp hd => trodAll_cons_mk (shut_bool Try.underlying4 _) trodAll_mk0⟩

theorem over : Rows.tableRangesRow.holds Try.pinned (OpenSpec.ofChange Rows.tableRangesSpec) :=
  OpenClaim.holds_of_wide 6 Try.f6 rfl rfl rfl rfl rfl rfl rfl ⟨rfl, rfl, rfl, rfl, rfl⟩ rfl rfl rfl rfl rfl (by kernel_rfl) Try.func6 (by kernel_rfl)
    (of_decide_eq_true (by kernel_rfl)) (by unfold Func.isWrapper; first | (rw [if_pos (by decide +kernel)]; kernel_rfl) | (rw [if_neg (by decide +kernel)]; exact ⟨rfl, rfl⟩))
    (fun os started H enc _ => lifted os started H enc)

theorem proved : Rows.TableRangesSaid :=
  over
#print axioms proved
end Go.Proofs.Ytldhcjfhlfgleaa.tableRanges
