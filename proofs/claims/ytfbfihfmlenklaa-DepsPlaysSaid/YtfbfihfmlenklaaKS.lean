/-
  The evaluator's table, with slices.Sorted(maps.Keys(m)) as one step.
-/
import Derived.Test.YtfbfihfmlenklaaKeys
namespace Go.Proofs.Ytfbfihfmlenklaa.SortU
open Go.Ab Go.Sort
set_option linter.unusedSimpArgs false
set_option linter.unusedVariables false
set_option maxRecDepth 10000

def unE : List AEnt → Option (List (Int × Value × Nat))
  | [] => some []
  | e :: es => match e.key, unE es with
    | .int .u64 n, some l => some ((n, e.val, e.born) :: l)
    | _, _ => none
theorem unE_mk : ∀ {es : List AEnt} {l : List (Int × Value × Nat)}, unE es = some l → es = mkE .u64 l
  | [], l, h => by simp only [unE, Option.some.injEq] at h; subst h; rfl
  | e :: es, l, h => by
    simp only [unE] at h
    split at h
    · rename_i n l0 h1 h2
      cases h
      rw [unE_mk h2]
      cases e
      simp only at h1
      subst h1
      rfl
    · cases h
def noB (b : Nat) : List (Int × Value × Nat) → Bool
  | [] => true
  | x :: l => !Nat.beq x.2.2 b && noB b l
def okB (clock : Nat) : List (Int × Value × Nat) → Bool
  | [] => true
  | x :: l => Nat.ble (x.2.2 + 1) clock && (noB x.2.2 l && okB clock l)
theorem noB_ne {b : Nat} : ∀ {l : List (Int × Value × Nat)}, noB b l = true → ∀ x ∈ l, x.2.2 ≠ b
  | y :: l, h, x, hx => by
    simp only [noB, Bool.and_eq_true, Bool.not_eq_true'] at h
    cases hx with
    | head => intro e; rw [e, Nat.beq_refl] at h; cases h.1
    | tail _ hm => exact noB_ne h.2 x hm
theorem okB_ok {clock : Nat} : ∀ {l : List (Int × Value × Nat)}, okB clock l = true → MapOK l clock
  | [], _ => ⟨fun _ h => (List.not_mem_nil h).elim, fun _ h => (List.not_mem_nil h).elim, List.nodup_nil⟩
  | x :: l, h => by
    simp only [okB, Bool.and_eq_true] at h
    obtain ⟨h1, h2, h3⟩ := h
    have r := okB_ok h3
    have hx := noB_ne h2
    refine ⟨fun y hy => ?_, fun y hy z hz e => ?_, List.nodup_cons.2 ⟨fun hm => hx x hm rfl, r.nodup⟩⟩
    · cases hy with
      | head => exact Nat.le_of_ble_eq_true h1
      | tail _ hm => exact r.lt y hm
    · cases hy with
      | head => cases hz with
        | head => rfl
        | tail _ hm => exact (hx z hm e.symm).elim
      | tail _ hm => cases hz with
        | head => exact (hx y hm e).elim
        | tail _ hn => exact r.inj y hm z hn e
def insI (x : Int) : List Int → List Int
  | [] => [x]
  | y :: l => bif decide (x ≤ y) then x :: y :: l else y :: insI x l
def isI : List Int → List Int
  | [] => []
  | x :: l => insI x (isI l)
theorem insI_perm (x : Int) : ∀ l, (insI x l).Perm (x :: l)
  | [] => .refl _
  | y :: l => by
    simp only [insI]
    cases decide (x ≤ y)
    · exact ((insI_perm x l).cons y).trans (.swap x y l)
    · exact .refl _
theorem isI_perm : ∀ l, (isI l).Perm l
  | [] => .refl _
  | x :: l => (insI_perm x _).trans ((isI_perm l).cons x)
theorem insI_sorted (x : Int) : ∀ {l : List Int}, l.Pairwise (· ≤ ·) → (insI x l).Pairwise (· ≤ ·)
  | [], _ => by simp [insI]
  | y :: l, h => by
    simp only [insI]
    have h' := List.pairwise_cons.1 h
    cases hd : decide (x ≤ y)
    · simp only [cond_false]
      refine List.pairwise_cons.2 ⟨fun z hz => ?_, insI_sorted x h'.2⟩
      have := (insI_perm x l).mem_iff.1 hz
      cases this with
      | head => simp at hd; omega
      | tail _ hm => exact h'.1 z hm
    · simp only [cond_true]
      refine List.pairwise_cons.2 ⟨fun z hz => ?_, h⟩
      have hxy : x ≤ y := by simpa using hd
      cases hz with
      | head => exact hxy
      | tail _ hm => exact Int.le_trans hxy (h'.1 z hm)
theorem isI_sorted : ∀ l : List Int, (isI l).Pairwise (· ≤ ·)
  | [] => .nil
  | x :: l => insI_sorted x (isI_sorted l)

def keysRes (h : AHeap) (ks : List Int) : Value × AHeap :=
  match ks with
  | [] => (.slice none 0 0, h)
  | _ => (.slice (some ⟨h.next, 0, none⟩) ks.length 0, h.new (.cells (ks.map (Value.int .u64)) 1))
def keysAt (h : AHeap) (q : Nat) : Option (Value × AHeap) :=
  match h.get q with
  | some (.cells [.map (some m)] 1) => match h.get m with
    | some (.map es clock) => match unE es with
      | some l => bif (okB clock l && Nat.ble l.length 1000000) && (Nat.ble (q + 1) h.next && Nat.ble (m + 1) h.next) then some (keysRes h (isI (l.map (·.1)))) else none
      | none => none
    | _ => none
  | _ => none
def keysS (f : FuncId) (args : List Value) (h : AHeap) : Option (Value × AHeap) :=
  bif Nat.beq f 30 then match args with
    | [.func (.func k) first cap] => bif Nat.beq k 37 && first.isEmpty then match cap.toList with
      | [.pointer (some ⟨q, 0, none⟩)] => keysAt h q
      | _ => none
      else none
    | _ => none
  else none
theorem keysAt_ok {h h' : AHeap} {q : Nat} {v : Value} (hk : keysAt h q = some (v, h')) : FWp Try.prog 30 [.func (.func 37) #[] #[P0 q]] h fun x y => x = v ∧ y = h' := by
  unfold keysAt at hk
  split at hk
  · rename_i m hq
    split at hk
    · rename_i es clock hm
      split at hk
      · rename_i l hl
        cases hb : (okB clock l && Nat.ble l.length 1000000) && (Nat.ble (q + 1) h.next && Nat.ble (m + 1) h.next)
        · rw [hb, cond_false] at hk; cases hk
        · rw [hb, cond_true] at hk
          simp only [Bool.and_eq_true] at hb
          obtain ⟨⟨b1, b2⟩, b3, b4⟩ := hb
          rw [unE_mk hl] at hm
          have := sorted_c h q m clock l (isI (l.map (·.1))) (okB_ok b1) (Nat.le_of_ble_eq_true b3) (Nat.le_of_ble_eq_true b4) hq hm (Nat.le_of_ble_eq_true b2) (isI_perm _) (isI_sorted _)
          refine this.mono ?_
          rintro x y (⟨e1, rfl, rfl⟩ | ⟨e1, rfl, rfl⟩)
          · rw [e1] at hk
            simp only [keysRes, Option.some.injEq, Prod.mk.injEq] at hk
            exact hk
          · unfold keysRes at hk
            split at hk
            · rename_i e2; exact (e1 e2).elim
            · simp only [Option.some.injEq, Prod.mk.injEq] at hk; exact hk
      · cases hk
    · cases hk
  · cases hk
theorem keysS_ok (f : FuncId) (args : List Value) (h : AHeap) (v : Value) (h' : AHeap) (hk : keysS f args h = some (v, h')) : (∃ fn, Entered Try.prog f fn) ∧ FWp Try.prog f args h fun x y => x = v ∧ y = h' := by
  unfold keysS at hk
  cases hf : Nat.beq f 30
  · rw [hf, cond_false] at hk; cases hk
  · rw [hf, cond_true] at hk
    obtain rfl := Nat.eq_of_beq_eq_true hf
    refine ⟨⟨_, en30⟩, ?_⟩
    split at hk
    · rename_i k first cap
      cases hb : Nat.beq k 37 && first.isEmpty
      · rw [hb, cond_false] at hk; cases hk
      · rw [hb, cond_true] at hk
        simp only [Bool.and_eq_true, Array.isEmpty_iff] at hb
        obtain ⟨b1, rfl⟩ := hb
        obtain rfl := Nat.eq_of_beq_eq_true b1
        split at hk
        · rename_i q hc
          have : cap = #[.pointer (some ⟨q, 0, none⟩)] := Array.toList_inj.1 hc
          subst this
          exact keysAt_ok hk
        · cases hk
    · cases hk
noncomputable def envK : Env := { envOf Try.prog 116 76 with S := keysS }
theorem envK_ok : EnvOK envK := ⟨tyOK_of Try.prog 116, (by kernel_rfl), fnOK_of Try.prog 76, keysS_ok⟩
end Go.Proofs.Ytfbfihfmlenklaa.SortU
