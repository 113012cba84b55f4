/-
  The plain law of the package post, with no program in sight.
-/
import Derived.Test.YthjeoohlknajpaaPostG
namespace Go.Proofs.Ythjeoohlknajpaa
open Go.Ab
set_option linter.unusedSimpArgs false
set_option linter.unusedVariables false

def lead : List Op → Nat
  | [] => 0
  | o :: l => bif o.acked then lead l + 1 else 0
def cnt : List Op → Nat
  | [] => 0
  | o :: l => (bif o.acked then 0 else 1) + cnt l
def Seqd (base : Int) (l : List Op) : Prop := ∀ (i : Nat) (o : Op), l[i]? = some o → o.lsn = base + i + 1
theorem Seqd.tail {base : Int} {o : Op} {l : List Op} (h : Seqd base (o :: l)) : o.lsn = base + 1 ∧ Seqd (base + 1) l :=
  ⟨by have := h 0 o rfl; simpa using this, fun i p hp => by have := h (i + 1) p (by simpa using hp); omega⟩
theorem lead_le : ∀ l : List Op, lead l ≤ l.length
  | [] => Nat.le_refl _
  | o :: l => by have := lead_le l; simp only [lead]; cases o.acked <;> simp <;> omega
theorem pref_lead : ∀ {l : List Op} {base : Int}, Seqd base l → pref base l = base + lead l
  | [], base, _ => by simp [pref, lead]
  | o :: l, base, h => by
    obtain ⟨h1, h2⟩ := h.tail
    simp only [pref, lead]
    cases o.acked
    · simp
    · simp only [cond_true]; rw [h1, pref_lead h2]; omega
theorem cnt_append : ∀ l m : List Op, cnt (l ++ m) = cnt l + cnt m
  | [], m => by simp [cnt]
  | o :: l, m => by simp only [List.cons_append, cnt, cnt_append l m]; omega
theorem cnt_le : ∀ l : List Op, cnt l ≤ l.length
  | [] => Nat.le_refl _
  | o :: l => by have := cnt_le l; simp only [cnt]; cases o.acked <;> simp <;> omega
theorem drop_lead : ∀ {l : List Op} {n : Nat}, n ≤ lead l → lead (l.drop n) = lead l - n ∧ cnt (l.drop n) = cnt l
  | l, 0, _ => by simp
  | [], n + 1, h => by simp [lead] at h
  | o :: l, n + 1, h => by
    simp only [lead] at h ⊢
    cases ha : o.acked
    · rw [ha] at h; simp at h
    · rw [ha] at h
      simp only [cond_true] at h ⊢
      obtain ⟨h1, h2⟩ := drop_lead (l := l) (n := n) (by omega)
      simp only [List.drop_succ_cons, cnt, ha, cond_true]
      exact ⟨by omega, by omega⟩
theorem cnt_set : ∀ {l : List Op} {i : Nat} {o : Op}, l[i]? = some o → o.acked = false → cnt (l.set i { o with acked := true }) + 1 = cnt l
  | o :: l, 0, o', h, ha => by
    simp only [List.getElem?_cons_zero, Option.some.injEq] at h; subst h
    simp only [List.set_cons_zero, cnt, ha, cond_true, cond_false]; omega
  | o :: l, i + 1, o', h, ha => by
    simp only [List.getElem?_cons_succ] at h
    have := cnt_set h ha
    simp only [List.set_cons_succ, cnt]; omega

structure Okp (S : PS) (top : Int) : Prop where
  base : 0 ≤ S.base
  sum : S.base + S.ops.length = top
  seqd : Seqd S.base S.ops
  waits : S.waits = cnt S.ops
  big : top ≤ 1000000
theorem Okp.len {S : PS} {top : Int} (h : Okp S top) : S.ops.length ≤ 1000000 := by have := h.base; have := h.sum; have := h.big; omega
theorem Okp.w {S : PS} {top : Int} (h : Okp S top) : 0 ≤ S.waits ∧ S.waits ≤ 1000000 := by
  have := h.waits; have := cnt_le S.ops; have := h.len; omega
theorem Okp.add {S : PS} {top : Int} (h : Okp S top) (hb : top < 1000000) (key val : ByteArray) (del : Bool) : Okp ⟨S.base, S.ops ++ [⟨key, top + 1, del, val, false, false, 0⟩], S.waits + 1⟩ (top + 1) := by
  have h1 := h.sum
  refine ⟨h.base, by simp; omega, fun i o ho => ?_, ?_, by omega⟩
  · rw [List.getElem?_append] at ho
    split at ho
    · exact h.seqd i o ho
    · rename_i hi
      have : i = S.ops.length := by
        rcases Nat.lt_or_ge (i - S.ops.length) 1 with h2 | h2
        · omega
        · rw [List.getElem?_eq_none (by simpa using h2)] at ho; cases ho
      subst this
      simp at ho
      subst ho
      simp only; omega
  · simp only [cnt_append, cnt, h.waits, cond_false]; omega
theorem Okp.ack {S : PS} {top : Int} (h : Okp S top) (lsn : Int) : Okp (ackS S lsn).2 top := by
  unfold ackS
  split
  · exact h
  · split
    · exact h
    · split
      · rename_i o ho
        split
        · exact h
        · rename_i ha
          have ha' : o.acked = false := by simpa using ha
          refine ⟨h.base, by simp only [List.length_set]; exact h.sum, fun i p hp => ?_, ?_, h.big⟩
          · simp only [List.getElem?_set] at hp
            split at hp
            · rename_i e
              subst e
              split at hp
              · cases hp; exact h.seqd _ o ho
              · cases hp
            · exact h.seqd i p hp
          · have := cnt_set ho ha'
            have := h.waits
            simp only; omega
      · exact h
/-- What is trimmed, and what is left. -/
theorem Okp.trim {S : PS} {top : Int} (h : Okp S top) (lsn : Int) : ∃ n : Nat, (if pref S.base S.ops < (if S.base > lsn then S.base else lsn) then pref S.base S.ops else (if S.base > lsn then S.base else lsn)) - S.base = n ∧ n ≤ S.ops.length ∧
    Okp ⟨S.base + n, S.ops.drop n, S.waits⟩ top ∧ pref (S.base + n) (S.ops.drop n) = pref S.base S.ops := by
  have e := pref_lead h.seqd
  have hl := lead_le S.ops
  obtain ⟨n, hn, hn2⟩ : ∃ n : Nat, (if pref S.base S.ops < (if S.base > lsn then S.base else lsn) then pref S.base S.ops else (if S.base > lsn then S.base else lsn)) - S.base = n ∧ n ≤ lead S.ops := by
    rw [e]
    refine ⟨((if S.base + (lead S.ops : Int) < (if S.base > lsn then S.base else lsn) then S.base + (lead S.ops : Int) else (if S.base > lsn then S.base else lsn)) - S.base).toNat, ?_, ?_⟩ <;> (split <;> split <;> omega)
  obtain ⟨d1, d2⟩ := drop_lead hn2
  have hs : Seqd (S.base + n) (S.ops.drop n) := fun i o ho => by
    rw [List.getElem?_drop] at ho
    have := h.seqd _ o ho
    omega
  refine ⟨n, hn, by omega, ⟨by have := h.base; simp only; omega, ?_, hs, ?_, h.big⟩, ?_⟩
  · have := h.sum; simp only [List.length_drop]; omega
  · simp only [d2]; exact h.waits
  · rw [pref_lead hs, e, d1]; omega

/-- Rows that are read only stay. -/
def Ro (h h' : AHeap) : Prop := h.next ≤ h'.next ∧ ∀ q vs, q < h.next → h.get q = some (.ro vs) → h'.get q = some (.ro vs)
theorem Ro.step {h0 h h' : AHeap} {p : Nat} {R : Option Nat} {S : PS} (r : Ro h0 h) (hP : PA h p S R) (f : Fr h h' p R) : Ro h0 h' :=
  ⟨Nat.le_trans r.1 f.1, fun q vs hq hg => f.ro hP (Nat.lt_of_lt_of_le hq r.1) (r.2 q vs hq hg)⟩
end Go.Proofs.Ythjeoohlknajpaa
