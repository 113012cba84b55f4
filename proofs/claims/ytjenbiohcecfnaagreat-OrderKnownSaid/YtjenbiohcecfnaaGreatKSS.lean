/-
  The keys of a map of strings, read out of a heap, and sorted.
-/
import Derived.Test.YtjenbiohcecfnaaGreatSortH
namespace Go.Proofs.YtjenbiohcecfnaaGreat.SortS
open Go.Ab Go.Sort
set_option linter.unusedSimpArgs false
set_option linter.unusedVariables false
set_option maxRecDepth 10000

/-- A map's entries: when each was born differs. -/
structure MapOK (l : List (El × Value × Nat)) (clock : Nat) : Prop where
  lt : ∀ x ∈ l, x.2.2 < clock
  inj : ∀ x ∈ l, ∀ y ∈ l, x.2.2 = y.2.2 → x = y
  nodup : l.Nodup

def unE : List AEnt → Option (List (El × Value × Nat))
  | [] => some []
  | e :: es => match e.key, unE es with
    | .string s, some l => some ((s.data.toList, e.val, e.born) :: l)
    | _, _ => none
theorem unE_mk : ∀ {es : List AEnt} {l : List (El × Value × Nat)}, unE es = some l → es = mkK enc l
  | [], l, h => by simp only [unE, Option.some.injEq] at h; subst h; rfl
  | e :: es, l, h => by
    simp only [unE] at h
    split at h
    · rename_i s l0 h1 h2
      cases h
      rw [unE_mk h2]
      cases e
      simp only at h1
      subst h1
      rfl
    · cases h
def noB (b : Nat) : List (El × Value × Nat) → Bool
  | [] => true
  | x :: l => !Nat.beq x.2.2 b && noB b l
def okB (clock : Nat) : List (El × Value × Nat) → Bool
  | [] => true
  | x :: l => Nat.ble (x.2.2 + 1) clock && (noB x.2.2 l && okB clock l)
theorem noB_ne {b : Nat} : ∀ {l : List (El × Value × Nat)}, noB b l = true → ∀ x ∈ l, x.2.2 ≠ b
  | y :: l, h, x, hx => by
    simp only [noB, Bool.and_eq_true, Bool.not_eq_true'] at h
    cases hx with
    | head => intro e; rw [e, Nat.beq_refl] at h; cases h.1
    | tail _ hm => exact noB_ne h.2 x hm
theorem okB_ok {clock : Nat} : ∀ {l : List (El × Value × Nat)}, okB clock l = true → MapOK l clock
  | [], _ => ⟨fun _ h => (List.not_mem_nil h).elim, fun _ h => (List.not_mem_nil h).elim, List.nodup_nil⟩
  | x :: l, h => by
    simp only [okB, Bool.and_eq_true] at h
    obtain ⟨h1, h2, h3⟩ := h
    have r := okB_ok h3
    have hx := noB_ne h2
    refine ⟨fun y hy => ?_, fun y hy z hz e => ?_, List.nodup_cons.2 ⟨fun hm => hx x hm rfl, r.nodup⟩⟩
    · cases hy with
      | head => exact Nat.le_of_ble_eq_true h1
      | tail _ hm => exact r.lt y hm
    · cases hy with
      | head => cases hz with
        | head => rfl
        | tail _ hm => exact (hx z hm e.symm).elim
      | tail _ hm => cases hz with
        | head => exact (hx y hm e).elim
        | tail _ hn => exact r.inj y hm z hn e
def insS (x : El) : List El → List El
  | [] => [x]
  | y :: l => bif Op.bytesLess y x then y :: insS x l else x :: y :: l
def isS : List El → List El
  | [] => []
  | x :: l => insS x (isS l)
theorem insS_perm (x : El) : ∀ l, (insS x l).Perm (x :: l)
  | [] => .refl _
  | y :: l => by
    simp only [insS]
    cases Op.bytesLess y x
    · exact .refl _
    · exact ((insS_perm x l).cons y).trans (.swap x y l)
theorem isS_perm : ∀ l, (isS l).Perm l
  | [] => .refl _
  | x :: l => (insS_perm x _).trans ((isS_perm l).cons x)
theorem insS_sorted (x : El) : ∀ {l : List El}, l.Pairwise (fun a b => lt b a = false) → (insS x l).Pairwise (fun a b => lt b a = false)
  | [], _ => by simp [insS]
  | y :: l, h => by
    simp only [insS]
    have h' := List.pairwise_cons.1 h
    have e := bless y x
    cases hd : Op.bytesLess y x
    · simp only [cond_false]
      have hyx : lt y x = false := by rw [hd] at e; exact e.symm
      refine List.pairwise_cons.2 ⟨fun z hz => ?_, h⟩
      cases hz with
      | head => exact hyx
      | tail _ hm =>
        have hzy := h'.1 z hm
        simp only [lt, ltStr, decide_eq_false_iff_not, List.not_lt] at hyx hzy ⊢
        exact List.le_trans hyx hzy
    · simp only [cond_true]
      have hyx : lt y x = true := by rw [hd] at e; exact e.symm
      refine List.pairwise_cons.2 ⟨fun z hz => ?_, insS_sorted x h'.2⟩
      have := (insS_perm x l).mem_iff.1 hz
      cases this with
      | head =>
        simp only [lt, ltStr, decide_eq_false_iff_not, decide_eq_true_eq] at hyx ⊢
        exact fun h9 => List.lt_asymm hyx h9
      | tail _ hm => exact h'.1 z hm
theorem isS_sorted : ∀ l : List El, (isS l).Pairwise (fun a b => lt b a = false)
  | [] => .nil
  | x :: l => insS_sorted x (isS_sorted l)
def keysRes (h : AHeap) (ks : List El) : Value × AHeap :=
  match ks with
  | [] => (.slice none 0 0, h)
  | _ => (.slice (some ⟨h.next, 0, none⟩) ks.length 0, h.new (.cells (ks.map enc) 1))
def keysAt (h : AHeap) (q : Nat) : Option (Value × AHeap) :=
  match h.get q with
  | some (.cells [.map (some m)] 1) => match h.get m with
    | some (.map es clock) => match unE es with
      | some l => bif (okB clock l && Nat.ble l.length 1000000) && (Nat.ble (q + 1) h.next && Nat.ble (m + 1) h.next) then some (keysRes h (isS (l.map (·.1)))) else none
      | none => none
    | _ => none
  | _ => none
/-- What Sorted does with the keys that a closure gives. -/
def SortedC (f k : FuncId) : Prop := ∀ (h : AHeap) (q m clock : Nat) (l : List (El × Value × Nat)) (ks : List El), MapOK l clock → q < h.next → m < h.next → h.get q = some (.cells [.map (some m)] 1) → h.get m = some (.map (mkK enc l) clock) → l.length ≤ 1000000 →
    ks.Perm (l.map (·.1)) → ks.Pairwise (fun x y => lt y x = false) →
    FWp Tryz.prog f [.func (.func k) #[] #[P0 q]] h fun u h' => (ks = [] ∧ u = .slice none 0 0 ∧ h' = h) ∨ (ks ≠ [] ∧ u = .slice (some ⟨h.next, 0, none⟩) ks.length 0 ∧ h' = h.new (.cells (ks.map enc) 1))
theorem keysAt_ok {f k : FuncId} (sc : SortedC f k) {h h' : AHeap} {q : Nat} {v : Value} (hk : keysAt h q = some (v, h')) : FWp Tryz.prog f [.func (.func k) #[] #[P0 q]] h fun x y => x = v ∧ y = h' := by
  unfold keysAt at hk
  split at hk
  · rename_i m hq
    split at hk
    · rename_i es clock hm
      split at hk
      · rename_i l hl
        cases hb : (okB clock l && Nat.ble l.length 1000000) && (Nat.ble (q + 1) h.next && Nat.ble (m + 1) h.next)
        · rw [hb, cond_false] at hk; cases hk
        · rw [hb, cond_true] at hk
          simp only [Bool.and_eq_true] at hb
          obtain ⟨⟨b1, b2⟩, b3, b4⟩ := hb
          rw [unE_mk hl] at hm
          have := sc h q m clock l (isS (l.map (·.1))) (okB_ok b1) (Nat.le_of_ble_eq_true b3) (Nat.le_of_ble_eq_true b4) hq hm (Nat.le_of_ble_eq_true b2) (isS_perm _) (isS_sorted _)
          refine this.mono ?_
          rintro x y (⟨e1, rfl, rfl⟩ | ⟨e1, rfl, rfl⟩)
          · rw [e1] at hk
            simp only [keysRes, Option.some.injEq, Prod.mk.injEq] at hk
            exact hk
          · unfold keysRes at hk
            split at hk
            · rename_i e2; exact (e1 e2).elim
            · simp only [Option.some.injEq, Prod.mk.injEq] at hk; exact hk
      · cases hk
    · cases hk
  · cases hk
/-- Keys of one of some closures, sorted. -/
def keysS (f : FuncId) (ks : List FuncId) (f' : FuncId) (args : List Value) (h : AHeap) : Option (Value × AHeap) :=
  bif Nat.beq f' f then match args with
    | [.func (.func k) first cap] => bif ks.any (Nat.beq k) && first.isEmpty then match cap.toList with
      | [.pointer (some ⟨q, 0, none⟩)] => keysAt h q
      | _ => none
      else none
    | _ => none
  else none
theorem keysS_ok {f : FuncId} {fn : Func} {ks : List FuncId} (he : Entered Tryz.prog f fn) (sc : ∀ k ∈ ks, SortedC f k) (f' : FuncId) (args : List Value) (h : AHeap) (v : Value) (h' : AHeap) (hk : keysS f ks f' args h = some (v, h')) : (∃ fn, Entered Tryz.prog f' fn) ∧ FWp Tryz.prog f' args h fun x y => x = v ∧ y = h' := by
  unfold keysS at hk
  cases hf : Nat.beq f' f
  · rw [hf, cond_false] at hk; cases hk
  · rw [hf, cond_true] at hk
    obtain rfl := Nat.eq_of_beq_eq_true hf
    refine ⟨⟨_, he⟩, ?_⟩
    split at hk
    · rename_i k first cap
      cases hb : ks.any (Nat.beq k) && first.isEmpty
      · rw [hb, cond_false] at hk; cases hk
      · rw [hb, cond_true] at hk
        simp only [Bool.and_eq_true, Array.isEmpty_iff] at hb
        obtain ⟨b1, rfl⟩ := hb
        obtain ⟨k', hk', b1⟩ := List.any_eq_true.1 b1
        obtain rfl := Nat.eq_of_beq_eq_true b1
        split at hk
        · rename_i q hc
          have : cap = #[.pointer (some ⟨q, 0, none⟩)] := Array.toList_inj.1 hc
          subst this
          exact keysAt_ok (sc _ hk') hk
        · cases hk
    · cases hk
end Go.Proofs.YtjenbiohcecfnaaGreat.SortS
