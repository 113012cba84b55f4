/-
  Slices of strings that are read only.
-/
import Derived.Test.YtjenbiohcecfnaaAb33
namespace Go.Ab
set_option linter.unusedSimpArgs false
set_option linter.unusedVariables false
theorem RdV.strs {P : Program} {h : AHeap} {n : Nat} {t e : TypeId} {v : Value} (ht : P.underlying t = some (.slice e)) (he : P.underlying e = some .string) (hr : RdV P h (n + 2) t v) :
    ∃ (b : Option Addr) (zs : List ByteArray), v = .slice b zs.length 0 ∧ zs.length ≤ maxLen ∧ ∀ i, i < zs.length → ∃ r z, b = some ⟨r, 0, none⟩ ∧ r < h.next ∧ h.get r = some (.ro (zs.map Value.string)) ∧ zs[i]? = some z ∧ (zs.map Value.string)[i]? = some (.string z) := by
  unfold RdV at hr
  rw [ht] at hr
  simp only at hr
  unfold Rd at hr
  rw [ht] at hr
  simp only at hr
  rcases hr with h1 | ⟨r, vss, h1, h2, h3, h4, h5⟩
  · exact ⟨none, [], by simpa using h1, Nat.zero_le _, fun i hi => (Nat.not_lt_zero i hi).elim⟩
  · have key : ∃ zs : List ByteArray, vss = zs.map (fun z => [Value.string z]) := by
      clear h1 h2 h3 h4
      induction vss with
      | nil => exact ⟨[], rfl⟩
      | cons v vss ih =>
        obtain ⟨zs, e1⟩ := ih fun x hx => h5 x (List.mem_cons_of_mem _ hx)
        obtain ⟨_, g⟩ := h5 v List.mem_cons_self
        unfold Rd at g
        rw [he] at g
        simp only at g
        obtain ⟨i, rfl, hw⟩ := g
        exact ⟨i :: zs, by rw [e1]; rfl⟩
    obtain ⟨zs, rfl⟩ := key
    have fl : ∀ l : List ByteArray, (l.map fun z => [Value.string z]).flatten = l.map Value.string := by
      intro l; induction l with
      | nil => rfl
      | cons x l ih => simp [ih]
    refine ⟨some ⟨r, 0, none⟩, zs, by simpa using h1, by simpa using h2, fun i hi => ⟨r, zs[i], rfl, h3, ?_, by simp [hi], by simp [hi]⟩⟩
    have := h4 (by intro e; simp at e; rw [e] at hi; simp at hi)
    rw [this, fl]
/-- A guard on what was passed by. -/
theorem aguard_un {ops : Array Oper} {a : Tr Value} {o : Oper} {j : Nat} {want : Bool} {d : Tmp} (h1 : o.guard = some (j, want)) (h2 : (ops[j]?).bind (·.dst) = some d) (h3 : a.get d = some (.tuple #[])) : aguard ops a o = some false := by
  simp only [aguard, h1, h2, h3]
end Go.Ab
