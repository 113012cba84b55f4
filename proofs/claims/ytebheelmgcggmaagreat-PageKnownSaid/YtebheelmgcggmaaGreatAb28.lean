/-
  The arguments of a law: a view of what they read as; what they read as behind a call that has changed nothing.
-/
import Derived.Test.YtebheelmgcggmaaGreatAb27
import Derived.ChangeReads
import Derived.ChangeArms
import Derived.ChangeSlices
namespace Go.Ab
set_option linter.unusedSimpArgs false
set_option linter.unusedVariables false
noncomputable def contig (P : Program) (total : Nat) : List Field → Nat → Bool
  | [], o => Nat.beq o total
  | f :: fs, o => Nat.beq f.offset o && contig P total fs (o + P.cellsOf f.type)
noncomputable def plainT (P : Program) : Nat → TypeId → Bool
  | 0, _ => false
  | n + 1, t => match P.underlying t with
    | some .bool => Nat.beq (P.cellsOf t) 1
    | some (.int _) => Nat.beq (P.cellsOf t) 1
    | some .string => Nat.beq (P.cellsOf t) 1
    | some (.slice e) => Nat.beq (P.cellsOf t) 1 && (!Nat.beq (P.cellsOf e) 0 && plainT P n e)
    | some (.struct fs) => contig P (P.cellsOf t) fs.toList 0 && fs.toList.all (fun f => plainT P n f.type)
    | some (.array m e) => Nat.beq (m * P.cellsOf e) (P.cellsOf t) && plainT P n e
    | _ => false
noncomputable def Rd (P : Program) (h : AHeap) : Nat → TypeId → List Value → Prop
  | 0, _, _ => False
  | n + 1, t, vs => match P.underlying t with
    | some .bool => ∃ b, vs = [.bool b]
    | some (.int k) => ∃ i, vs = [.int k i] ∧ (Lit.int k i).wf = true
    | some .string => ∃ s : ByteArray, vs = [.string s] ∧ s.size ≤ maxLen
    | some (.slice e) => vs = [.slice none 0 0] ∨ ∃ (r : Nat) (vss : List (List Value)), vs = [.slice (some ⟨r, 0, none⟩) vss.length 0] ∧ vss.length ≤ maxLen ∧ r < h.next ∧ (vss ≠ [] → h.get r = some (.ro vss.flatten)) ∧ ∀ v ∈ vss, v.length = P.cellsOf e ∧ Rd P h n e v
    | some (.struct fs) => ∃ vss : List (List Value), vs = vss.flatten ∧ vss.length = fs.size ∧ ∀ (i : Nat) (f : Field) (v : List Value), fs[i]? = some f → vss[i]? = some v → v.length = P.cellsOf f.type ∧ Rd P h n f.type v
    | some (.array m e) => ∃ vss : List (List Value), vs = vss.flatten ∧ vss.length = m ∧ ∀ v ∈ vss, v.length = P.cellsOf e ∧ Rd P h n e v
    | _ => False
section
variable {H : Type} {enc : TypeId × Value → H} {P : Program} {w : World} {spare : Nat → Bool} {held : Bool}
end
end Go.Ab
