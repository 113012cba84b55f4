/-
  Loops, with the slots that count written down.
-/
import Derived.Test.YtebheelmgcggmaaGreatAb25
namespace Go.Ab
set_option linter.unusedSimpArgs false
set_option linter.unusedVariables false
noncomputable def mkA : List (Nat × Value) → Tr Value
  | [] => .leaf
  | (t, v) :: l => (mkA l).put t (some v)
noncomputable def HasA (a : Tr Value) : List (Nat × Value) → Prop
  | [] => True
  | (t, v) :: l => a.get t = some v ∧ HasA a l
theorem HasA.get {a : Tr Value} : ∀ {l : List (Nat × Value)}, HasA a l → ∀ t v, (mkA l).get t = some v → a.get t = some v
  | [], _, t, v, h => by cases t <;> cases h
  | (s, u) :: l, ha, t, v, h => by
    simp only [mkA, Tr.get_put] at h
    split at h
    · rename_i e; subst e; cases h; exact ha.1
    · exact HasA.get ha.2 t v h
section
variable {P : Program} {T : Tr TI} {cx : Cx}
theorem CWp.known {c : Code} {Q : AExit → Tr Value → AHeap → Prop} {a : Tr Value} {h : AHeap} {L : List (Nat × Value)} (hb : HasA a L) (hc : CWp P cx c (mkA L) h Q) : CWp P cx c a h Q := CWp.forget hb.get hc
theorem CWp.loopA {c : Code} {Q : AExit → Tr Value → AHeap → Prop} (I : Nat → List (Nat × Value) → AHeap → Prop)
    (round : ∀ n L h, I n L h → CWp P cx c (mkA L) h fun e a' h' => match e with | .normal => ∃ m L', m < n ∧ HasA a' L' ∧ I m L' h' | e => Q e a' h') {n : Nat} {L : List (Nat × Value)} {a : Tr Value} {h : AHeap} (ha : HasA a L) (hI : I n L h) : CWp P cx (.loop c) a h Q := by
  refine CWp.loopI (fun n a h => ∃ L, HasA a L ∧ I n L h) ?_ n a h ⟨L, ha, hI⟩
  rintro n a h ⟨L, ha, hI⟩
  refine CWp.known ha ((round n L h hI).mono fun e a' h' hq => ?_)
  cases e with
  | normal => obtain ⟨m, L', h1, h2, h3⟩ := hq; exact ⟨m, h1, L', h2, h3⟩
  | exit i => exact hq
  | ret => exact hq
end
end Go.Ab
