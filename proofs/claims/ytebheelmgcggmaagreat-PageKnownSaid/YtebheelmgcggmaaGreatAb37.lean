/-
  Strings by their bytes: their order; strings as keys of maps.
-/
import Derived.Test.YtebheelmgcggmaaGreatAb36
import Derived.Laws.Strings
namespace Go.Ab
open Go.Sort
set_option linter.unusedSimpArgs false
set_option linter.unusedVariables false
theorem bless : ∀ x y : List UInt8, Op.bytesLess x y = ltStr x y
  | [], [] => by simp [Op.bytesLess, ltStr]
  | [], b :: y => by simp [Op.bytesLess, ltStr]
  | a :: x, [] => by simp [Op.bytesLess, ltStr]
  | a :: x, b :: y => by
    have ih := bless x y
    simp only [ltStr] at ih ⊢
    rw [Op.bytesLess, ih, Bool.eq_iff_iff]
    simp [List.cons_lt_cons_iff]
theorem str_lt (x y : List UInt8) : Op.bytesLess (ByteArray.toList ⟨⟨x⟩⟩) (ByteArray.toList ⟨⟨y⟩⟩) = ltStr x y := by
  rw [ByteArray.toList_eq, ByteArray.toList_eq]; exact bless x y
noncomputable abbrev encS (s : List UInt8) : Value := .string ⟨⟨s⟩⟩
end Go.Ab
