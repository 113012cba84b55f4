/-
  Slices of structs that are read only.
-/
import Derived.Test.YtebheelmgcggmaaGreatAb35
namespace Go.Ab
set_option linter.unusedSimpArgs false
set_option linter.unusedVariables false
theorem flatten_get {α : Type} {c : Nat} : ∀ {vss : List (List α)} {i j : Nat} {v : List α}, (∀ x ∈ vss, x.length = c) → vss[i]? = some v → j < c → vss.flatten[i * c + j]? = v[j]?
  | [], i, j, v, _, h, _ => by simp at h
  | x :: vss, 0, j, v, hl, h, hj => by
    simp at h; subst h
    have := hl x List.mem_cons_self
    rw [Nat.zero_mul, Nat.zero_add, List.flatten_cons, List.getElem?_append_left (by omega)]
  | x :: vss, i + 1, j, v, hl, h, hj => by
    simp at h
    have hx := hl x List.mem_cons_self
    have e : (i + 1) * c + j - x.length = i * c + j := by rw [hx, Nat.succ_mul]; omega
    rw [List.flatten_cons, List.getElem?_append_right (by rw [hx, Nat.succ_mul]; omega), e]
    exact flatten_get (fun y hy => hl y (List.mem_cons_of_mem _ hy)) h hj
end Go.Ab
