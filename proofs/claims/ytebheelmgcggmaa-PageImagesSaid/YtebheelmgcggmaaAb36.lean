/-
  Slices of structs that are read only.
-/
import Derived.Test.YtebheelmgcggmaaAb35
namespace Go.Ab
set_option linter.unusedSimpArgs false
set_option linter.unusedVariables false
theorem RdV.recs {P : Program} {h : AHeap} {n : Nat} {t e : TypeId} {v : Value} (ht : P.underlying t = some (.slice e)) (hr : RdV P h (n + 1) t v) :
    ∃ (b : Option Addr) (vss : List (List Value)), v = .slice b vss.length 0 ∧ vss.length ≤ maxLen ∧ (∀ x ∈ vss, x.length = P.cellsOf e ∧ Rd P h n e x) ∧ (vss ≠ [] → ∃ r, b = some ⟨r, 0, none⟩ ∧ r < h.next ∧ h.get r = some (.ro vss.flatten)) := by
  unfold RdV at hr
  rw [ht] at hr
  simp only at hr
  unfold Rd at hr
  rw [ht] at hr
  simp only at hr
  rcases hr with h1 | ⟨r, vss, h1, h2, h3, h4, h5⟩
  · exact ⟨none, [], by simpa using h1, Nat.zero_le _, by simp, fun h => (h rfl).elim⟩
  · exact ⟨some ⟨r, 0, none⟩, vss, by simpa using h1, h2, h5, fun hn => ⟨r, rfl, h3, h4 hn⟩⟩
theorem Rd.fields {P : Program} {h : AHeap} {n : Nat} {t : TypeId} {fs : Array Field} {vs : List Value} (ht : P.underlying t = some (.struct fs)) (hr : Rd P h (n + 1) t vs) :
    ∃ vss : List (List Value), vs = vss.flatten ∧ vss.length = fs.size ∧ ∀ (i : Nat) (f : Field) (v : List Value), fs[i]? = some f → vss[i]? = some v → v.length = P.cellsOf f.type ∧ Rd P h n f.type v := by
  unfold Rd at hr
  rw [ht] at hr
  exact hr
theorem Rd.int {P : Program} {h : AHeap} {n : Nat} {t : TypeId} {k : IntKind} {vs : List Value} (ht : P.underlying t = some (.int k)) (hr : Rd P h (n + 1) t vs) : ∃ i, vs = [.int k i] ∧ (Lit.int k i).wf = true := by
  unfold Rd at hr
  rw [ht] at hr
  exact hr
theorem Rd.bool {P : Program} {h : AHeap} {n : Nat} {t : TypeId} {vs : List Value} (ht : P.underlying t = some .bool) (hr : Rd P h (n + 1) t vs) : ∃ b, vs = [.bool b] := by
  unfold Rd at hr
  rw [ht] at hr
  exact hr
theorem Rd.string {P : Program} {h : AHeap} {n : Nat} {t : TypeId} {vs : List Value} (ht : P.underlying t = some .string) (hr : Rd P h (n + 1) t vs) : ∃ s : ByteArray, vs = [.string s] ∧ s.size ≤ maxLen := by
  unfold Rd at hr
  rw [ht] at hr
  exact hr
theorem flatten_get {α : Type} {c : Nat} : ∀ {vss : List (List α)} {i j : Nat} {v : List α}, (∀ x ∈ vss, x.length = c) → vss[i]? = some v → j < c → vss.flatten[i * c + j]? = v[j]?
  | [], i, j, v, _, h, _ => by simp at h
  | x :: vss, 0, j, v, hl, h, hj => by
    simp at h; subst h
    have := hl x List.mem_cons_self
    rw [Nat.zero_mul, Nat.zero_add, List.flatten_cons, List.getElem?_append_left (by omega)]
  | x :: vss, i + 1, j, v, hl, h, hj => by
    simp at h
    have hx := hl x List.mem_cons_self
    have e : (i + 1) * c + j - x.length = i * c + j := by rw [hx, Nat.succ_mul]; omega
    rw [List.flatten_cons, List.getElem?_append_right (by rw [hx, Nat.succ_mul]; omega), e]
    exact flatten_get (fun y hy => hl y (List.mem_cons_of_mem _ hy)) h hj
end Go.Ab
