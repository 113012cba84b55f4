/-
  A call's own rubbish is dropped from the view; what it hands back gets the next number.
-/
import Derived.Test.YtjenbiohcecfnaaAb20
namespace Go.Ab
set_option linter.unusedSimpArgs false
set_option linter.unusedVariables false

/-- A call whose own rubbish is dropped. -/
theorem FWp.gc {P : Program} {f : FuncId} {args : List Value} {h H : AHeap} {v : Value} (hn : H.next = h.next) (hv : BV h.next v)
    (hf : FWp P f args h fun u h' => u = v ∧ ∀ r o, H.get r = some o → r < h.next ∧ h'.get r = some o ∧ (h.get r = some o ∨ BO h.next o)) : FWp P f args h fun u h' => u = v ∧ h' = H := by
  intro μ args' w hl st
  refine (hf μ args' w hl st).mono ?_
  rintro e w' ⟨u, v', h', μ', rfl, ⟨rfl, hg⟩, x, hr⟩
  refine ⟨u, v', H, μ, rfl, ⟨rfl, rfl⟩, Ext.old st x hn hg, ?_⟩
  obtain ⟨_, _, g⟩ := hv
  exact VRel.mono (n := h.next) (fun q hq => (x.agree q hq).symm) (by omega) (g.narrow hr)

end Go.Ab
