/-
  Strings by their bytes: their order; strings as keys of maps.
-/
import Derived.Test.YtebheelmgcggmaaAb36
import Derived.Laws.Strings
namespace Go.Ab
open Go.Sort
set_option linter.unusedSimpArgs false
set_option linter.unusedVariables false
theorem bless : ∀ x y : List UInt8, Op.bytesLess x y = ltStr x y
  | [], [] => by simp [Op.bytesLess, ltStr]
  | [], b :: y => by simp [Op.bytesLess, ltStr]
  | a :: x, [] => by simp [Op.bytesLess, ltStr]
  | a :: x, b :: y => by
    have ih := bless x y
    simp only [ltStr] at ih ⊢
    rw [Op.bytesLess, ih, Bool.eq_iff_iff]
    simp [List.cons_lt_cons_iff]
theorem str_lt (x y : List UInt8) : Op.bytesLess (ByteArray.toList ⟨⟨x⟩⟩) (ByteArray.toList ⟨⟨y⟩⟩) = ltStr x y := by
  rw [ByteArray.toList_eq, ByteArray.toList_eq]; exact bless x y
abbrev encS (s : List UInt8) : Value := .string ⟨⟨s⟩⟩
theorem beq_str (a b : List UInt8) : ((⟨⟨a⟩⟩ : ByteArray) == ⟨⟨b⟩⟩) = decide (a = b) := by
  show ((⟨a⟩ : Array UInt8) == ⟨b⟩) = decide (a = b)
  rw [Bool.eq_iff_iff]; simp
theorem keyOk_str {P : Program} {T : Tr TI} (ok : TyOK P T) {kt : TypeId} {ki : TI} {s : ByteArray} {e : Bool} (hk : T.get kt = some ki) (hu : ki.und = .string) : keyOk P e kt (.string s) = true := by
  obtain ⟨_, _, _, _, _, u1⟩ := ok.ok kt ki hk
  rw [hu] at u1
  have key : ∀ m, pureRun P (Instr.checkKey e (m + 1) kt (.string s)) = some () := by
    intro m
    simp only [Instr.checkKey, underlying, bind_assoc, pureRun_program, u1, pure_bind, pureRun_pure]
  have := key 9999
  unfold keyOk
  rw [this]; rfl
theorem key_str {P : Program} {T : Tr TI} (ok : TyOK P T) {kt : TypeId} {ki : TI} (hk : T.get kt = some ki) (hu : ki.und = .string) : KeyOK P T kt encS :=
  ⟨find_now hk fun a b => by rw [hu]; simp only [Instr.sameNow, beq_str], fun e a => keyOk_str ok hk hu, fun a => by simp [Instr.sameBits, beq_str]⟩
end Go.Ab
