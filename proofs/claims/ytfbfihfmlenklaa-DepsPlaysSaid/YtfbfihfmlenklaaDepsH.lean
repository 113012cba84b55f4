/-
  Merged: DepsX, DepsY, DepsZ, DepsH.
-/
import Derived.Test.YtfbfihfmlenklaaDepsF
namespace Go.Proofs.Ytfbfihfmlenklaa
open Go.Ab
set_option linter.unusedSimpArgs false
set_option linter.unusedVariables false
set_option maxRecDepth 10000
set_option maxHeartbeats 4000000

theorem sb : (∀ p : Prop, (p ∧ p) = p) ∧ (∀ {α : Type} {d : Decidable True} (a b : α), @ite α True d a b = a) ∧ (∀ n : Nat, (n : Int).toNat = n) ∧ (∀ n : Nat, 0 + n = n) ∧ (∀ n : Nat, n + 0 = n) ∧ (∀ n : Nat, n * 1 = n) := ⟨fun p => and_self p, fun {α d} a b => by simp, fun n => Int.toNat_natCast n, Nat.zero_add, Nat.add_zero, Nat.mul_one⟩

/-! Slices that grow. -/
def svRow : Value → Option Nat
  | .slice (some a) _ _ => some a.block
  | _ => none
inductive SV (h : AHeap) (sz lo : Nat) : List Value → Value → Prop
  | nil : SV h sz lo [] (.slice none 0 0)
  | some {y n : Nat} {vs : List Value} (hn : vs.length = n * sz) (hlo : lo ≤ y) (hy : y < h.next) (hg : h.get y = .some (.cells vs sz)) (hne : vs ≠ []) : SV h sz lo vs (.slice (.some ⟨y, 0, .none⟩) n 0)
theorem SV.mono {h h' : AHeap} {sz lo : Nat} {vs : List Value} {v : Value} (s : SV h sz lo vs v) (hn : h.next ≤ h'.next) (hk : ∀ z, z < h.next → svRow v = Option.some z → h'.get z = h.get z) : SV h' sz lo vs v := by
  cases s with
  | nil => exact .nil
  | some h1 h2 h3 h4 h5 => exact .some h1 h2 (by omega) (by rw [hk _ h3 rfl]; exact h4) h5
theorem aCells_part {h : AHeap} {r off n len size c : Nat} {vs new : List Value} (hr : rowOf h r = some vs) (hl : n ≤ len) (hc : cellsOf vs off (n * size) = some new) : aCells h size n (.slice (some ⟨r, off, none⟩) len c) = some new := by
  cases e1 : Nat.beq (n * size) 0 with
  | false => simp only [aCells, e1, cond_false, Nat.ble_eq_true_of_le hl, cond_true, hr, hc]
  | true =>
    have e2 := Nat.eq_of_beq_eq_true e1
    rw [e2] at hc
    have := (cellsOf_some hc).2.1
    simp only [List.take_zero] at this
    simp only [aCells, e1, cond_true, this]
/-- Something is appended, whatever there is. -/
theorem ap_any {h : AHeap} {sz lo k : Nat} {A B : List Value} {v x : Value} (s : SV h sz lo A v) (hl : aLen x = some k) (hx : aCells h sz k x = some B) (hB : B.length = k * sz) (hone : oneCells B = true) (hlen : vLen v + k ≤ 3000000) (hlo : lo ≤ h.next) (hsz : 0 < sz := by decide) :
    ∃ v' h', (∀ ats A', appT T ats = some A' → A'.size = sz → A'.bytes ≤ 100 → aAppend T ats v x h = some (v', h')) ∧ SV h' sz lo (A ++ B) v' ∧ h.next ≤ h'.next ∧ h'.next ≤ h.next + 1 ∧ (∀ z, z < h.next → ¬ svRow v = some z → h'.get z = h.get z) ∧ ((svRow v' = svRow v ∧ k = 0) ∨ svRow v' = some h.next) ∧ vLen v' = vLen v + k := by
  cases hk : Nat.beq k 0 with
  | true =>
    have e := Nat.eq_of_beq_eq_true hk
    subst e
    have e2 : B = [] := List.length_eq_zero_iff.1 (by rw [hB]; omega)
    subst e2
    refine ⟨v, h, fun ats A' h1 h2 h3 => ?_, by rw [List.append_nil]; exact s, Nat.le_refl _, by omega, fun _ _ _ => rfl, .inl ⟨rfl, rfl⟩, rfl⟩
    have hb : Nat.ble ((2 * (vLen v + 0) + 256) * A'.bytes) 281474976710656 = true := Nat.ble_eq_true_of_le (by
      have : (2 * (vLen v + 0) + 256) * A'.bytes ≤ 7000000 * 100 := Nat.mul_le_mul (by omega) h3
      omega)
    subst h2
    cases s <;> simp only [aAppend, h1, hl, hx, hb, cond_true, hk]
  | false =>
    have hk0 : 0 < k := by
      cases k with
      | zero => cases hk
      | succ k => omega
    have hBne : B ≠ [] := fun e => by
      rw [e] at hB
      have := Nat.mul_pos hk0 hsz
      simp at hB; omega
    cases s with
    | nil =>
      refine ⟨.slice (some ⟨h.next, 0, none⟩) k 0, h.new (.cells B sz), fun ats A' h1 h2 h3 => ?_, .some (by simpa using hB) hlo (by simp) (AHeap.get_new_same _ _) (by simpa using hBne), by simp, by simp, fun z hz _ => AHeap.get_new_ne (by omega), .inr rfl, by simp [vLen]⟩
      subst h2
      exact ap_0 h1 hl hx (by have : (2 * (0 + k) + 256) * A'.bytes ≤ 7000000 * 100 := Nat.mul_le_mul (by simp only [vLen] at hlen; omega) h3
                              omega) hk
    | @some y n _ h1 h2 h3 h4 =>
      have hc : cellsOf A 0 (n * sz) = .some A := cellsOf_all h1
      refine ⟨.slice (.some ⟨h.next, 0, .none⟩) (n + k) 0, (h.kill y).new (.cells (A ++ B) sz), fun ats A' g1 g2 g3 => ?_, .some (by rw [List.length_append, h1, hB, Nat.add_mul]) hlo (by simp only [nx]; omega) (AHeap.get_new_at (by simp only [nx]; omega)) (fun e => hBne (List.append_eq_nil_iff.1 e).2), by simp only [nx]; omega, by simp only [nx]; omega, fun z hz hne => ?_, .inr rfl, rfl⟩
      · subst g2
        exact ap_u g1 hl hx (by have : (2 * (n + k) + 256) * A'.bytes ≤ 7000000 * 100 := Nat.mul_le_mul (by simp only [vLen] at hlen; omega) g3
                                omega) hk h4 hone hc
      · have hzy : ¬ y = z := fun e => hne (by rw [← e]; rfl)
        simp (disch := first | assumption | omega | (simp only [nx] <;> omega) | fail) only [hpl]

theorem SV.row {h : AHeap} {sz lo : Nat} {vs : List Value} {v : Value} {y : Nat} (s : SV h sz lo vs v) (hy : svRow v = Option.some y) : lo ≤ y ∧ y < h.next ∧ h.get y = Option.some (.cells vs sz) ∧ v = .slice (Option.some ⟨y, 0, Option.none⟩) (vLen v) 0 ∧ vs.length = vLen v * sz := by
  cases s with
  | nil => cases hy
  | some h1 h2 h3 h4 => cases hy; exact ⟨h2, h3, h4, rfl, h1⟩
theorem SV.form {h : AHeap} {sz lo : Nat} {vs : List Value} {v : Value} (s : SV h sz lo vs v) : ∃ b, v = .slice b (vLen v) 0 ∧ vs.length = vLen v * sz ∧ (vs ≠ [] → ∃ y, b = Option.some ⟨y, 0, Option.none⟩ ∧ svRow v = Option.some y ∧ lo ≤ y ∧ y < h.next ∧ h.get y = Option.some (.cells vs sz)) := by
  cases s with
  | nil => exact ⟨Option.none, rfl, by simp [vLen], fun h => (h rfl).elim⟩
  | some h1 h2 h3 h4 => exact ⟨_, rfl, h1, fun _ => ⟨_, rfl, rfl, h2, h3, h4⟩⟩
theorem SV.empty {h : AHeap} {sz lo : Nat} {vs : List Value} {v : Value} (s : SV h sz lo vs v) (e : vs = []) : v = .slice Option.none 0 0 := by
  cases s with
  | nil => rfl
  | some _ _ _ _ h5 => exact (h5 e).elim
/-! The document's pairs. -/
abbrev T3 := (Int × Int) × Bool
def t3cs (t : T3) : List Value := [U64 t.1.1, U64 t.1.2, .bool t.2]
def flatT : List T3 → List Value
  | [] => []
  | t :: l => t3cs t ++ flatT l
theorem flatT_length : ∀ l : List T3, (flatT l).length = l.length * 3
  | [] => rfl
  | o :: l => by simp only [flatT, List.length_append, flatT_length l, List.length_cons, t3cs, List.length_nil]; omega
theorem flatT_append : ∀ l m : List T3, flatT (l ++ m) = flatT l ++ flatT m
  | [], m => rfl
  | o :: l, m => by simp only [flatT, List.cons_append, flatT_append l m, List.append_assoc]
theorem flatT_drop : ∀ (l : List T3) (i : Nat), (flatT l).drop (i * 3) = flatT (l.drop i)
  | [], i => by simp [flatT]
  | q :: l, 0 => by simp [flatT]
  | q :: l, i + 1 => by
    have e : (i + 1) * 3 = i * 3 + 3 := by omega
    rw [e]
    show List.drop (i * 3 + 3) (t3cs q ++ flatT l) = flatT (l.drop i)
    rw [← flatT_drop l i]; rfl
theorem flatT_cell {l : List T3} {i : Nat} {t : T3} (hq : l[i]? = some t) : cellsOf (flatT l) (i * 3) 3 = some (t3cs t) := by
  have hil := (List.getElem?_eq_some_iff.1 hq).1
  rw [cellsOf_mk (by rw [flatT_length]; omega), flatT_drop, List.drop_eq_getElem_cons hil]
  have : l[i] = t := (List.getElem?_eq_some_iff.1 hq).2
  rw [this]; rfl
theorem flatT_get {t : T3} (j : Nat) : ∀ {l : List T3} {i : Nat}, l[i]? = some t → j < 3 → (flatT l)[i * 3 + j]? = (t3cs t)[j]?
  | [], i, h, _ => by simp at h
  | x :: l, 0, h, hj => by
    simp at h; subst h
    simp only [flatT]
    rw [List.getElem?_append_left (by simp [t3cs]; omega)]; simp
  | x :: l, i + 1, h, hj => by
    simp only [List.getElem?_cons_succ] at h
    have e : (i + 1) * 3 + j = i * 3 + j + 3 := by omega
    rw [e, ← flatT_get j h hj]; rfl
structure RD (h : AHeap) (s : Nat) (x : Option Nat) (D : List T3) : Prop where
  lt : s < h.next
  ov : ∃ v, h.get s = some (.cells [v] 1) ∧ SV h 3 0 (flatT D) v ∧ svRow v = x
  sx : ∀ y, x = some y → ¬ y = s ∧ y < h.next
/-- The document's list, read. -/
theorem RD.val {h : AHeap} {s : Nat} {x : Option Nat} {D : List T3} (hB : RD h s x D) : ∃ b, h.get s = some (.cells [.slice b D.length 0] 1) ∧ (∀ i, i < D.length → ∃ y, b = some ⟨y, 0, none⟩ ∧ y < h.next ∧ ¬ y = s ∧ x = some y ∧ h.get y = some (.cells (flatT D) 3)) := by
  obtain ⟨_, ⟨v, h2, h3, h4⟩, h5⟩ := hB
  obtain ⟨vs, hvs⟩ : ∃ vs, vs = flatT D := ⟨_, rfl⟩
  rw [← hvs] at h3
  have hl := flatT_length D
  rw [← hvs] at hl
  rw [← hvs]
  cases h3 with
  | nil =>
    have : D.length = 0 := by simp at hl; omega
    rw [this]
    exact ⟨none, h2, fun i hi => absurd hi (Nat.not_lt_zero _)⟩
  | @some y n _ hn _ hy hg =>
    have : n = D.length := by omega
    subst this
    exact ⟨_, h2, fun i hi => ⟨y, rfl, hy, (h5 y h4.symm).1, h4.symm, hg⟩⟩
def FrT (h h' : AHeap) (s : Nat) (x : Option Nat) : Prop := h.next ≤ h'.next ∧ ∀ z, z < h.next → ¬ s = z → (∀ y, x = some y → ¬ y = z) → h'.get z = h.get z
theorem RD.mono {h h' : AHeap} {s : Nat} {x : Option Nat} {D : List T3} (hB : RD h s x D) (hn : h.next ≤ h'.next) (hs : h'.get s = h.get s) (hk : ∀ y, x = some y → h'.get y = h.get y) : RD h' s x D := by
  obtain ⟨h1, ⟨v, h2, h3, h4⟩, h5⟩ := hB
  exact ⟨by omega, ⟨v, by rw [hs]; exact h2, h3.mono hn (fun z _ hz => hk z (by rw [← h4]; exact hz)), h4⟩, fun y hy => ⟨(h5 y hy).1, by have := (h5 y hy).2; omega⟩⟩

/-! Numbers in a list. -/
structure IntsB (h : AHeap) (G : List Int) (b : Option Addr) : Prop where
  at_ : ∀ i, i < G.length → ∃ y, b = some ⟨y, 0, none⟩ ∧ y < h.next ∧ h.get y = some (.cells (G.map (Value.int .u64)) 1)
theorem has_c (h : AHeap) (G : List Int) (b : Option Addr) (c : Nat) (n : Int) (hb : IntsB h G b) (hl : G.length ≤ 1000000) : FWp Try.prog 32 [.slice b G.length c, U64 n] h fun u h' => u = .bool (decide (n ∈ G)) ∧ h' = h := by
  refine W.enter tyOK Try.func32 rfl rfl ?_
  simp only [entry]
  refine W.seq <| W.reg <| OSuf.aopF tyOK rfl (so_assign (by simp only [lk] <;> rfl)) (fun _ => rfl) rfl <| OSuf.nil <| SQ.normal ?_
  refine W.seq <| W.seq <| W.reg <| OSuf.aop tyOK rfl (so_assign (by simp only [lk] <;> rfl)) rfl <| OSuf.nil <| SQ.normal ?_
  -- leaf: loop
  refine W.cut (fun L h' => h' = h ∧ n ∉ G ∧ L = []) (W.block (W.loop (fun m L h' => ∃ i : Nat, m + i = G.length ∧ h' = h ∧ n ∉ G.take i ∧ L = [(0, .slice b G.length c), (1, U64 n), (5, I64 i)]) (n := G.length) ⟨0, by omega, rfl, by simp, rfl⟩ ?_ ?_)) ?_
  · simp [HasA, Tr.get_put]
  · rintro m L h' ⟨i, hn, rfl, hni, rfl⟩
    simp only [mkA]
    have w2 : IntKind.i64.wrap ((i : Int) + 1) = ((i + 1 : Nat) : Int) := by rw [wrap_i64 (by omega) (by omega)]; omega
    by_cases hi : (i : Int) < (G.length : Int)
    · obtain ⟨g, hg⟩ : ∃ g, G[i]? = some g := ⟨G[i]'(by omega), by simp⟩
      obtain ⟨y, rfl, y1, y2⟩ := hb.at_ i (by omega)
      have hc : (0 ≤ (i : Int) ∧ (i : Int) < (G.length : Int)) := by omega
      have hgg : (G.map (Value.int .u64))[i]? = some (.int .u64 g) := by simp [hg]
      by_cases he : g = n
      · refine W.seq <| W.seq <| W.reg <| OSuf.aop tyOK rfl sm rfl <| OSuf.aop tyOK rfl sm rfl <| OSuf.aop tyOK rfl (so_len (by simp only [aopnds, lk] <;> rfl) (by simp (disch := first | assumption | omega | (simp only [nx] <;> omega) | fail) only [aLenOf, ty36, hpl, hc, sb, y2, hgg] <;> rfl)) rfl <| OSuf.aopT tyOK rfl (so_bin (by simp only [lk] <;> rfl) (by simp only [lk] <;> rfl) bi_lss) (fun _ => rfl) (by first | rfl | assumption | ((simp only [bl, hc, sb, y2, hgg]) <;> first | done | assumption | omega) | (simp; done) | (simp; omega)) <| OSuf.nil <| SQ.normal ?_
        refine W.yes (by simp only [lk] <;> rfl) <| CWp.skip <| SQ.normal ?_
        refine W.seq <| W.block <| W.seq <| W.reg <| OSuf.aop tyOK rfl sm rfl <| OSuf.aop tyOK rfl sm rfl <| OSuf.aop tyOK rfl (so_indexAddr (by simp only [lk] <;> rfl) (by simp only [lk] <;> rfl) (by simp (disch := first | assumption | omega | (simp only [nx] <;> omega) | fail) only [aIndexAddr, ty36, ty29, hpl, hc, sb, y2, hgg] <;> rfl)) rfl <| OSuf.aop tyOK rfl (so_load (by simp only [lk] <;> rfl) (by simp (disch := first | assumption | omega | (simp only [nx] <;> omega) | fail) only [aLoad, ty29, rowOf, hpl, hc, sb, y2, hgg] <;> rfl)) rfl <| OSuf.aop tyOK rfl sm rfl <| OSuf.aopT tyOK rfl (so_bin (by simp only [lk] <;> rfl) (by simp only [lk] <;> rfl) bi_eql) (fun _ => rfl) (by first | rfl | assumption | ((simp only [bl, hc, sb, y2, hgg]) <;> first | done | assumption | omega) | (simp; done) | (simp; omega)) <| OSuf.nil <| SQ.normal ?_
        refine W.yes (by simp only [lk] <;> rfl) <| W.seq <| W.reg <| OSuf.aopT tyOK rfl (so_assign (by simp only [lk] <;> rfl)) (fun _ => rfl) rfl <| OSuf.nil <| SQ.normal ?_
        refine CWp.ret <| BQ.ret <| SQ.ret <| LQ.ret <| BQ.ret <| NQ.ret <| SQ.ret <| FQ.ret (by simp only [aRet, Try.f32, aResults, aResult, lk, Nat.reduceEqDiff, reduceIte] <;> rfl) ?_
        -- leaf: end
        have : n ∈ G := by rw [← he]; exact List.mem_of_getElem? hg
        exact ⟨by simp [this], rfl⟩
      · refine W.seq <| W.seq <| W.reg <| OSuf.aop tyOK rfl sm rfl <| OSuf.aop tyOK rfl sm rfl <| OSuf.aop tyOK rfl (so_len (by simp only [aopnds, lk] <;> rfl) (by simp (disch := first | assumption | omega | (simp only [nx] <;> omega) | fail) only [aLenOf, ty36, hpl, hc, sb, y2, hgg] <;> rfl)) rfl <| OSuf.aopT tyOK rfl (so_bin (by simp only [lk] <;> rfl) (by simp only [lk] <;> rfl) bi_lss) (fun _ => rfl) (by first | rfl | assumption | ((simp only [bl, hc, sb, y2, hgg]) <;> first | done | assumption | omega) | (simp; done) | (simp; omega)) <| OSuf.nil <| SQ.normal ?_
        refine W.yes (by simp only [lk] <;> rfl) <| CWp.skip <| SQ.normal ?_
        refine W.seq <| W.block <| W.seq <| W.reg <| OSuf.aop tyOK rfl sm rfl <| OSuf.aop tyOK rfl sm rfl <| OSuf.aop tyOK rfl (so_indexAddr (by simp only [lk] <;> rfl) (by simp only [lk] <;> rfl) (by simp (disch := first | assumption | omega | (simp only [nx] <;> omega) | fail) only [aIndexAddr, ty36, ty29, hpl, hc, sb, y2, hgg] <;> rfl)) rfl <| OSuf.aop tyOK rfl (so_load (by simp only [lk] <;> rfl) (by simp (disch := first | assumption | omega | (simp only [nx] <;> omega) | fail) only [aLoad, ty29, rowOf, hpl, hc, sb, y2, hgg] <;> rfl)) rfl <| OSuf.aop tyOK rfl sm rfl <| OSuf.aopF tyOK rfl (so_bin (by simp only [lk] <;> rfl) (by simp only [lk] <;> rfl) bi_eql) (fun _ => rfl) (by first | rfl | assumption | ((simp only [bl, hc, sb, y2, hgg]) <;> first | done | assumption | omega) | (simp; done) | (simp; omega)) <| OSuf.nil <| SQ.normal ?_
        refine W.no (by simp only [lk] <;> rfl) <| CWp.skip <| BQ.normal <| SQ.normal ?_
        refine W.reg <| OSuf.aop tyOK rfl sm rfl <| OSuf.aop tyOK rfl (so_bin (by simp only [lk] <;> rfl) (by simp only [lk] <;> rfl) (bi_w bi_add (by first | (simp only [w2] <;> rfl) | rfl))) rfl <| OSuf.aop tyOK rfl (so_assign (by simp only [lk] <;> rfl)) rfl <| OSuf.nil <| ?_
        -- leaf: round
        refine LQ.normal (m := m - 1) (L := [(0, .slice (some ⟨y, 0, none⟩) G.length c), (1, U64 n), (5, I64 ((i + 1 : Nat) : Int))]) (by omega) ?_ ⟨i + 1, by omega, rfl, ?_, rfl⟩
        · simp only [HasA, Tr.get_put, Nat.reduceEqDiff, reduceIte, w2, and_self]
        · rw [List.take_add_one, hg]
          simp only [Option.toList_some, List.mem_append, List.mem_singleton]
          rintro (h9 | h9)
          · exact hni h9
          · exact he h9.symm
    · refine W.seq <| W.seq <| W.reg <| OSuf.aop tyOK rfl sm rfl <| OSuf.aop tyOK rfl sm rfl <| OSuf.aop tyOK rfl (so_len (by simp only [aopnds, lk] <;> rfl) (by simp (disch := first | assumption | omega | (simp only [nx] <;> omega) | fail) only [aLenOf, ty36, hpl] <;> rfl)) rfl <| OSuf.aopF tyOK rfl (so_bin (by simp only [lk] <;> rfl) (by simp only [lk] <;> rfl) bi_lss) (fun _ => rfl) (by first | rfl | assumption | ((simp only [bl]) <;> first | done | assumption | omega) | (simp; done) | (simp; omega)) <| OSuf.nil <| SQ.normal ?_
      refine W.no (by simp only [lk] <;> rfl) <| CWp.exit <| SQ.exit <| LQ.exit <| BQ.exit <| ?_
      -- leaf: cut
      exact NQ.normal (L := []) trivial ⟨rfl, by rw [List.take_of_length_le (by omega)] at hni; exact hni, rfl⟩
  rintro L a' h' ha ⟨rfl, hni, rfl⟩
  refine SQ.normal <| CWp.known ha ?_
  simp only [mkA]
  refine W.seq <| W.reg <| OSuf.aopF tyOK rfl (so_assign (by simp only [lk] <;> rfl)) (fun _ => rfl) rfl <| OSuf.nil <| SQ.normal ?_
  refine CWp.ret <| FQ.ret (by simp only [aRet, Try.f32, aResults, aResult, lk, Nat.reduceEqDiff, reduceIte] <;> rfl) ?_
  -- leaf: end
  exact ⟨by simp [hni], rfl⟩
theorem samel_c (h : AHeap) (G : List Int) (b b' : Option Addr) (hb : IntsB h G b) (hb' : IntsB h G b') (hl : G.length ≤ 1000000) : FWp Try.prog 15 [.slice b G.length 0, .slice b' G.length 0] h fun u h' => u = .bool true ∧ h' = h := by
  refine W.enter tyOK Try.func15 rfl rfl ?_
  simp only [entry]
  refine W.seq <| W.reg <| OSuf.aopF tyOK rfl (so_assign (by simp only [lk] <;> rfl)) (fun _ => rfl) rfl <| OSuf.nil <| SQ.normal ?_
  refine W.seq <| W.seq <| W.reg <| OSuf.aop tyOK rfl sm rfl <| OSuf.aop tyOK rfl (so_len (by simp only [aopnds, lk] <;> rfl) (by simp (disch := first | assumption | omega | (simp only [nx] <;> omega) | fail) only [aLenOf, ty36, hpl] <;> rfl)) rfl <| OSuf.aop tyOK rfl sm rfl <| OSuf.aop tyOK rfl (so_len (by simp only [aopnds, lk] <;> rfl) (by simp (disch := first | assumption | omega | (simp only [nx] <;> omega) | fail) only [aLenOf, ty36, hpl] <;> rfl)) rfl <| OSuf.aopF tyOK rfl (so_bin (by simp only [lk] <;> rfl) (by simp only [lk] <;> rfl) bi_neq) (fun _ => rfl) (by simp) <| OSuf.nil <| SQ.normal ?_
  refine W.no (by simp only [lk] <;> rfl) <| CWp.skip <| SQ.normal ?_
  refine W.seq <| W.seq <| W.reg <| OSuf.aop tyOK rfl (so_assign (by simp only [lk] <;> rfl)) rfl <| OSuf.nil <| SQ.normal ?_
  -- leaf: loop
  refine W.cut (fun L h' => h' = h ∧ L = []) (W.block (W.loop (fun n L h' => ∃ i : Nat, n + i = G.length ∧ h' = h ∧ L = [(0, .slice b G.length 0), (1, .slice b' G.length 0), (5, I64 i)]) (n := G.length) ⟨0, by omega, rfl, rfl⟩ ?_ ?_)) ?_
  · simp [HasA, Tr.get_put]
  · rintro n L h' ⟨i, hn, rfl, rfl⟩
    simp only [mkA]
    have w2 : IntKind.i64.wrap ((i : Int) + 1) = ((i + 1 : Nat) : Int) := by rw [wrap_i64 (by omega) (by omega)]; omega
    by_cases hi : (i : Int) < (G.length : Int)
    · obtain ⟨g, hg⟩ : ∃ g, G[i]? = some g := ⟨G[i]'(by omega), by simp⟩
      obtain ⟨y, rfl, y1, y2⟩ := hb.at_ i (by omega)
      obtain ⟨y', rfl, y1', y2'⟩ := hb'.at_ i (by omega)
      have hc : (0 ≤ (i : Int) ∧ (i : Int) < (G.length : Int)) := by omega
      have hgg : (G.map (Value.int .u64))[i]? = some (.int .u64 g) := by simp [hg]
      refine W.seq <| W.seq <| W.reg <| OSuf.aop tyOK rfl sm rfl <| OSuf.aop tyOK rfl sm rfl <| OSuf.aop tyOK rfl (so_len (by simp only [aopnds, lk] <;> rfl) (by simp (disch := first | assumption | omega | (simp only [nx] <;> omega) | fail) only [aLenOf, ty36, hpl, hc, sb, y2, y2', hgg] <;> rfl)) rfl <| OSuf.aopT tyOK rfl (so_bin (by simp only [lk] <;> rfl) (by simp only [lk] <;> rfl) bi_lss) (fun _ => rfl) (by first | rfl | assumption | ((simp only [bl, hc, sb, y2, y2', hgg]) <;> first | done | assumption | omega) | (simp; done) | (simp; omega)) <| OSuf.nil <| SQ.normal ?_
      refine W.yes (by simp only [lk] <;> rfl) <| CWp.skip <| SQ.normal ?_
      refine W.seq <| W.block <| W.seq <| W.regD tyOK mixed (by kernel_rfl) <| SqW.aop rfl sm rfl <| SqW.aop rfl sm rfl <| SqW.aop rfl (so_indexAddr (by simp only [lk] <;> rfl) (by simp only [lk] <;> rfl) (by simp (disch := first | assumption | omega | (simp only [nx] <;> omega) | fail) only [aIndexAddr, ty36, ty29, hpl, hc, sb, y2, y2', hgg] <;> rfl)) rfl <| SqW.aop rfl (so_load (by simp only [lk] <;> rfl) (by simp (disch := first | assumption | omega | (simp only [nx] <;> omega) | fail) only [aLoad, ty29, rowOf, hpl, hc, sb, y2, y2', hgg] <;> rfl)) rfl <| SqW.aop rfl sm rfl <| SqW.aop rfl sm rfl <| SqW.aop rfl (so_indexAddr (by simp only [lk] <;> rfl) (by simp only [lk] <;> rfl) (by simp (disch := first | assumption | omega | (simp only [nx] <;> omega) | fail) only [aIndexAddr, ty36, ty29, hpl, hc, sb, y2, y2', hgg] <;> rfl)) rfl <| SqW.aop rfl (so_load (by simp only [lk] <;> rfl) (by simp (disch := first | assumption | omega | (simp only [nx] <;> omega) | fail) only [aLoad, ty29, rowOf, hpl, hc, sb, y2, y2', hgg] <;> rfl)) rfl <| SqW.aopF rfl (so_bin (by simp only [lk] <;> rfl) (by simp only [lk] <;> rfl) bi_neq) (fun _ => rfl) (by first | rfl | assumption | ((simp only [bl, hc, sb, y2, y2', hgg]) <;> first | done | assumption | omega) | (simp; done) | (simp; omega)) <| SqW.nil <| SQ.normal ?_
      refine W.no (by simp only [lk] <;> rfl) <| CWp.skip <| BQ.normal <| SQ.normal ?_
      refine W.reg <| OSuf.aop tyOK rfl sm rfl <| OSuf.aop tyOK rfl (so_bin (by simp only [lk] <;> rfl) (by simp only [lk] <;> rfl) (bi_w bi_add (by first | (simp only [w2] <;> rfl) | rfl))) rfl <| OSuf.aop tyOK rfl (so_assign (by simp only [lk] <;> rfl)) rfl <| OSuf.nil <| ?_
      -- leaf: round
      refine LQ.normal (m := n - 1) (L := [(0, .slice (some ⟨y, 0, none⟩) G.length 0), (1, .slice (some ⟨y', 0, none⟩) G.length 0), (5, I64 ((i + 1 : Nat) : Int))]) (by omega) ?_ ⟨i + 1, by omega, rfl, rfl⟩
      simp only [HasA, Tr.get_put, Nat.reduceEqDiff, reduceIte, w2, and_self]
    · refine W.seq <| W.seq <| W.reg <| OSuf.aop tyOK rfl sm rfl <| OSuf.aop tyOK rfl sm rfl <| OSuf.aop tyOK rfl (so_len (by simp only [aopnds, lk] <;> rfl) (by simp (disch := first | assumption | omega | (simp only [nx] <;> omega) | fail) only [aLenOf, ty36, hpl] <;> rfl)) rfl <| OSuf.aopF tyOK rfl (so_bin (by simp only [lk] <;> rfl) (by simp only [lk] <;> rfl) bi_lss) (fun _ => rfl) (by first | rfl | assumption | ((simp only [bl]) <;> first | done | assumption | omega) | (simp; done) | (simp; omega)) <| OSuf.nil <| SQ.normal ?_
      refine W.no (by simp only [lk] <;> rfl) <| CWp.exit <| SQ.exit <| LQ.exit <| BQ.exit <| ?_
      -- leaf: cut
      exact NQ.normal (L := []) trivial ⟨rfl, rfl⟩
  rintro L a' h' ha ⟨rfl, rfl⟩
  refine SQ.normal <| CWp.known ha ?_
  simp only [mkA]
  refine W.seq <| W.reg <| OSuf.aopT tyOK rfl (so_assign (by simp only [lk] <;> rfl)) (fun _ => rfl) rfl <| OSuf.nil <| SQ.normal ?_
  refine CWp.ret <| FQ.ret (by simp only [aRet, Try.f15, aResults, aResult, lk, Nat.reduceEqDiff, reduceIte] <;> rfl) ?_
  -- leaf: end
  exact ⟨rfl, rfl⟩
theorem readyr_c (h : AHeap) (s : Nat) (x : Option Nat) (D : List T3) (hB : RD h s x D) (hl : D.length ≤ 1000000) (ts : Int) : FWp Try.prog 21 [P0 s, U64 ts] h fun u h' => u = .bool (!(D.any fun t => decide (t.1.1 = ts))) ∧ h' = h := by
  obtain ⟨b, hv, hat⟩ := hB.val
  have hlt := hB.lt
  refine W.enter tyOK Try.func21 rfl rfl ?_
  simp only [entry]
  refine W.seq <| W.reg <| OSuf.aopF tyOK rfl (so_assign (by simp only [lk] <;> rfl)) (fun _ => rfl) rfl <| OSuf.nil <| SQ.normal ?_
  refine W.seq <| W.seq <| W.reg <| OSuf.aop tyOK rfl (so_assign (by simp only [lk] <;> rfl)) rfl <| OSuf.nil <| SQ.normal ?_
  -- leaf: loop
  refine W.cut (fun L h' => h' = h ∧ (∀ t ∈ D, ¬ t.1.1 = ts) ∧ L = []) (W.block (W.loop (fun n L h' => ∃ i : Nat, n + i = D.length ∧ h' = h ∧ (∀ t ∈ D.take i, ¬ t.1.1 = ts) ∧ L = [(0, P0 s), (1, U64 ts), (5, I64 i)]) (n := D.length) ⟨0, by omega, rfl, by simp, rfl⟩ ?_ ?_)) ?_
  · simp [HasA, Tr.get_put]
  · rintro n L h' ⟨i, hn, rfl, hni, rfl⟩
    simp only [mkA]
    have w2 : IntKind.i64.wrap ((i : Int) + 1) = ((i + 1 : Nat) : Int) := by rw [wrap_i64 (by omega) (by omega)]; omega
    by_cases hi : (i : Int) < (D.length : Int)
    · obtain ⟨t, ht⟩ : ∃ t, D[i]? = some t := ⟨D[i]'(by omega), by simp⟩
      obtain ⟨y, rfl, y1, y2, y3, y4⟩ := hat i (by omega)
      have hc : (0 ≤ (i : Int) ∧ (i : Int) < (D.length : Int)) := by omega
      have hc0 : (flatT D)[i * 3]? = some (U64 t.1.1) := flatT_get 0 ht (by omega)
      have hc0' : (flatT D)[i * 3 + 0]? = some (U64 t.1.1) := flatT_get 0 ht (by omega)
      by_cases he : t.1.1 = ts
      · refine W.seq <| W.seq <| W.reg <| OSuf.aop tyOK rfl sm rfl <| OSuf.aop tyOK rfl sm rfl <| OSuf.aop tyOK rfl (so_nilCheck (by simp only [lk] <;> rfl)) rfl <| OSuf.aop tyOK rfl (so_fieldAddr (by simp only [lk] <;> rfl) (fa_ok (k := 0) ty28 rfl rfl ty26 rfl rfl)) rfl <| OSuf.aop tyOK rfl (so_load (by simp only [lk] <;> rfl) (by simp (disch := first | assumption | omega | (simp only [nx] <;> omega) | fail) only [aLoad, ty26, rowOf, hpl, hv, hc, sb, y4, hc0, hc0'] <;> rfl)) rfl <| OSuf.aop tyOK rfl (so_len (by simp only [aopnds, lk] <;> rfl) (by simp (disch := first | assumption | omega | (simp only [nx] <;> omega) | fail) only [aLenOf, ty26, hpl, hv, hc, sb, y4, hc0, hc0'] <;> rfl)) rfl <| OSuf.aopT tyOK rfl (so_bin (by simp only [lk] <;> rfl) (by simp only [lk] <;> rfl) bi_lss) (fun _ => rfl) (by first | rfl | assumption | ((simp only [bl, hv, hc, sb, y4, hc0, hc0']) <;> first | done | assumption | omega) | (simp; done) | (simp; omega)) <| OSuf.nil <| SQ.normal ?_
        refine W.yes (by simp only [lk] <;> rfl) <| CWp.skip <| SQ.normal ?_
        refine W.seq <| W.block <| W.seq <| W.reg <| OSuf.aop tyOK rfl sm rfl <| OSuf.aop tyOK rfl (so_nilCheck (by simp only [lk] <;> rfl)) rfl <| OSuf.aop tyOK rfl (so_fieldAddr (by simp only [lk] <;> rfl) (fa_ok (k := 0) ty28 rfl rfl ty26 rfl rfl)) rfl <| OSuf.aop tyOK rfl (so_load (by simp only [lk] <;> rfl) (by simp (disch := first | assumption | omega | (simp only [nx] <;> omega) | fail) only [aLoad, ty26, rowOf, hpl, hv, hc, sb, y4, hc0, hc0'] <;> rfl)) rfl <| OSuf.aop tyOK rfl sm rfl <| OSuf.aop tyOK rfl (so_indexAddr (by simp only [lk] <;> rfl) (by simp only [lk] <;> rfl) (by simp (disch := first | assumption | omega | (simp only [nx] <;> omega) | fail) only [aIndexAddr, ty26, ty63, hpl, hv, hc, sb, y4, hc0, hc0'] <;> rfl)) rfl <| OSuf.aop tyOK rfl (so_fieldAddr (by simp only [lk] <;> rfl) (fa_ok (k := 0) ty63 rfl rfl ty29 rfl rfl)) rfl <| OSuf.aop tyOK rfl (so_load (by simp only [lk] <;> rfl) (by simp (disch := first | assumption | omega | (simp only [nx] <;> omega) | fail) only [aLoad, ty29, rowOf, hpl, hv, hc, sb, y4, hc0, hc0'] <;> rfl)) rfl <| OSuf.aop tyOK rfl sm rfl <| OSuf.aopT tyOK rfl (so_bin (by simp only [lk] <;> rfl) (by simp only [lk] <;> rfl) bi_eql) (fun _ => rfl) (by first | rfl | assumption | ((simp only [bl, hv, hc, sb, y4, hc0, hc0']) <;> first | done | assumption | omega) | (simp; done) | (simp; omega)) <| OSuf.nil <| SQ.normal ?_
        refine W.yes (by simp only [lk] <;> rfl) <| W.seq <| W.reg <| OSuf.aopF tyOK rfl (so_assign (by simp only [lk] <;> rfl)) (fun _ => rfl) rfl <| OSuf.nil <| SQ.normal ?_
        refine CWp.ret <| BQ.ret <| SQ.ret <| LQ.ret <| BQ.ret <| NQ.ret <| SQ.ret <| FQ.ret (by simp only [aRet, Try.f21, aResults, aResult, lk, Nat.reduceEqDiff, reduceIte] <;> rfl) ?_
        -- leaf: end
        have : (D.any fun t => decide (t.1.1 = ts)) = true := List.any_eq_true.2 ⟨t, List.mem_of_getElem? ht, by simp [he]⟩
        exact ⟨by rw [this]; rfl, rfl⟩
      · refine W.seq <| W.seq <| W.reg <| OSuf.aop tyOK rfl sm rfl <| OSuf.aop tyOK rfl sm rfl <| OSuf.aop tyOK rfl (so_nilCheck (by simp only [lk] <;> rfl)) rfl <| OSuf.aop tyOK rfl (so_fieldAddr (by simp only [lk] <;> rfl) (fa_ok (k := 0) ty28 rfl rfl ty26 rfl rfl)) rfl <| OSuf.aop tyOK rfl (so_load (by simp only [lk] <;> rfl) (by simp (disch := first | assumption | omega | (simp only [nx] <;> omega) | fail) only [aLoad, ty26, rowOf, hpl, hv, hc, sb, y4, hc0, hc0'] <;> rfl)) rfl <| OSuf.aop tyOK rfl (so_len (by simp only [aopnds, lk] <;> rfl) (by simp (disch := first | assumption | omega | (simp only [nx] <;> omega) | fail) only [aLenOf, ty26, hpl, hv, hc, sb, y4, hc0, hc0'] <;> rfl)) rfl <| OSuf.aopT tyOK rfl (so_bin (by simp only [lk] <;> rfl) (by simp only [lk] <;> rfl) bi_lss) (fun _ => rfl) (by first | rfl | assumption | ((simp only [bl, hv, hc, sb, y4, hc0, hc0']) <;> first | done | assumption | omega) | (simp; done) | (simp; omega)) <| OSuf.nil <| SQ.normal ?_
        refine W.yes (by simp only [lk] <;> rfl) <| CWp.skip <| SQ.normal ?_
        refine W.seq <| W.block <| W.seq <| W.reg <| OSuf.aop tyOK rfl sm rfl <| OSuf.aop tyOK rfl (so_nilCheck (by simp only [lk] <;> rfl)) rfl <| OSuf.aop tyOK rfl (so_fieldAddr (by simp only [lk] <;> rfl) (fa_ok (k := 0) ty28 rfl rfl ty26 rfl rfl)) rfl <| OSuf.aop tyOK rfl (so_load (by simp only [lk] <;> rfl) (by simp (disch := first | assumption | omega | (simp only [nx] <;> omega) | fail) only [aLoad, ty26, rowOf, hpl, hv, hc, sb, y4, hc0, hc0'] <;> rfl)) rfl <| OSuf.aop tyOK rfl sm rfl <| OSuf.aop tyOK rfl (so_indexAddr (by simp only [lk] <;> rfl) (by simp only [lk] <;> rfl) (by simp (disch := first | assumption | omega | (simp only [nx] <;> omega) | fail) only [aIndexAddr, ty26, ty63, hpl, hv, hc, sb, y4, hc0, hc0'] <;> rfl)) rfl <| OSuf.aop tyOK rfl (so_fieldAddr (by simp only [lk] <;> rfl) (fa_ok (k := 0) ty63 rfl rfl ty29 rfl rfl)) rfl <| OSuf.aop tyOK rfl (so_load (by simp only [lk] <;> rfl) (by simp (disch := first | assumption | omega | (simp only [nx] <;> omega) | fail) only [aLoad, ty29, rowOf, hpl, hv, hc, sb, y4, hc0, hc0'] <;> rfl)) rfl <| OSuf.aop tyOK rfl sm rfl <| OSuf.aopF tyOK rfl (so_bin (by simp only [lk] <;> rfl) (by simp only [lk] <;> rfl) bi_eql) (fun _ => rfl) (by first | rfl | assumption | ((simp only [bl, hv, hc, sb, y4, hc0, hc0']) <;> first | done | assumption | omega) | (simp; done) | (simp; omega)) <| OSuf.nil <| SQ.normal ?_
        refine W.no (by simp only [lk] <;> rfl) <| CWp.skip <| BQ.normal <| SQ.normal ?_
        refine W.reg <| OSuf.aop tyOK rfl sm rfl <| OSuf.aop tyOK rfl (so_bin (by simp only [lk] <;> rfl) (by simp only [lk] <;> rfl) (bi_w bi_add (by first | (simp only [w2] <;> rfl) | rfl))) rfl <| OSuf.aop tyOK rfl (so_assign (by simp only [lk] <;> rfl)) rfl <| OSuf.nil <| ?_
        -- leaf: round
        refine LQ.normal (m := n - 1) (L := [(0, P0 s), (1, U64 ts), (5, I64 ((i + 1 : Nat) : Int))]) (by omega) ?_ ⟨i + 1, by omega, rfl, ?_, rfl⟩
        · simp only [HasA, Tr.get_put, Nat.reduceEqDiff, reduceIte, w2, and_self]
        · rw [List.take_add_one, ht]
          intro q hq
          rcases List.mem_append.1 hq with h9 | h9
          · exact hni q h9
          · simp at h9; subst h9; exact he
    · refine W.seq <| W.seq <| W.reg <| OSuf.aop tyOK rfl sm rfl <| OSuf.aop tyOK rfl sm rfl <| OSuf.aop tyOK rfl (so_nilCheck (by simp only [lk] <;> rfl)) rfl <| OSuf.aop tyOK rfl (so_fieldAddr (by simp only [lk] <;> rfl) (fa_ok (k := 0) ty28 rfl rfl ty26 rfl rfl)) rfl <| OSuf.aop tyOK rfl (so_load (by simp only [lk] <;> rfl) (by simp (disch := first | assumption | omega | (simp only [nx] <;> omega) | fail) only [aLoad, ty26, rowOf, hpl, hv] <;> rfl)) rfl <| OSuf.aop tyOK rfl (so_len (by simp only [aopnds, lk] <;> rfl) (by simp (disch := first | assumption | omega | (simp only [nx] <;> omega) | fail) only [aLenOf, ty26, hpl, hv] <;> rfl)) rfl <| OSuf.aopF tyOK rfl (so_bin (by simp only [lk] <;> rfl) (by simp only [lk] <;> rfl) bi_lss) (fun _ => rfl) (by first | rfl | assumption | ((simp only [bl, hv]) <;> first | done | assumption | omega) | (simp; done) | (simp; omega)) <| OSuf.nil <| SQ.normal ?_
      refine W.no (by simp only [lk] <;> rfl) <| CWp.exit <| SQ.exit <| LQ.exit <| BQ.exit <| ?_
      -- leaf: cut
      exact NQ.normal (L := []) trivial ⟨rfl, by rw [List.take_of_length_le (by omega)] at hni; exact hni, rfl⟩
  rintro L a' h' ha ⟨rfl, hni, rfl⟩
  refine SQ.normal <| CWp.known ha ?_
  simp only [mkA]
  refine W.seq <| W.reg <| OSuf.aopT tyOK rfl (so_assign (by simp only [lk] <;> rfl)) (fun _ => rfl) rfl <| OSuf.nil <| SQ.normal ?_
  refine CWp.ret <| FQ.ret (by simp only [aRet, Try.f21, aResults, aResult, lk, Nat.reduceEqDiff, reduceIte] <;> rfl) ?_
  -- leaf: end
  have : (D.any fun t => decide (t.1.1 = ts)) = false := List.any_eq_false.2 fun t ht => by simpa using hni t ht
  exact ⟨by rw [this]; rfl, rfl⟩

/-- The keys, each where it stands first. -/
def fk (D : List T3) : Nat → List (Int × Int)
  | 0 => []
  | i + 1 => fk D i ++ (match D[i]? with | some t => if t.1 ∈ (D.take i).map (·.1) then [] else [t.1] | none => [])
theorem fk_mem (D : List T3) : ∀ (i : Nat) (k : Int × Int), k ∈ fk D i ↔ k ∈ (D.take i).map (·.1)
  | 0, k => by simp [fk]
  | i + 1, k => by
    rw [fk, List.mem_append, fk_mem D i k, List.take_add_one, List.map_append, List.mem_append]
    cases hd : D[i]? with
    | none => simp
    | some t =>
      simp only [Option.toList_some, List.map_cons, List.map_nil, List.mem_singleton]
      split
      · rename_i hm
        constructor
        · rintro (h | h)
          · exact .inl h
          · cases h
        · rintro (h | h)
          · exact .inl h
          · subst h; exact .inl hm
      · simp
theorem fk_nodup (D : List T3) : ∀ i, (fk D i).Nodup
  | 0 => by simp [fk]
  | i + 1 => by
    rw [fk]
    cases hd : D[i]? with
    | none => simpa using fk_nodup D i
    | some t =>
      simp only
      split
      · simpa using fk_nodup D i
      · rename_i hm
        refine List.nodup_append.2 ⟨fk_nodup D i, by simp, fun a ha b hb => ?_⟩
        simp at hb; subst hb
        intro e; subst e
        exact hm ((fk_mem D i _).1 ha)
theorem fk_le (D : List T3) : ∀ i, (fk D i).length ≤ i
  | 0 => Nat.le_refl _
  | i + 1 => by
    have := fk_le D i
    rw [fk, List.length_append]
    cases D[i]? with
    | none => simp; omega
    | some t => simp only; split <;> simp <;> omega
theorem lenr_c (h : AHeap) (s : Nat) (x : Option Nat) (D : List T3) (hB : RD h s x D) (hl : D.length ≤ 1000000) : FWp Try.prog 19 [P0 s] h fun u h' => u = I64 ((fk D D.length).length : Nat) ∧ h' = h := by
  obtain ⟨b, hv, hat⟩ := hB.val
  have hlt := hB.lt
  refine W.enter tyOK Try.func19 rfl rfl ?_
  simp only [entry]
  refine W.seq <| W.reg <| OSuf.aop tyOK rfl (so_assign (by simp only [lk] <;> rfl)) rfl <| OSuf.nil <| SQ.normal ?_
  refine W.seq <| W.reg <| OSuf.aop tyOK rfl (so_assign (by simp only [lk] <;> rfl)) rfl <| OSuf.nil <| SQ.normal ?_
  refine W.seq <| W.seq <| W.reg <| OSuf.aop tyOK rfl (so_assign (by simp only [lk] <;> rfl)) rfl <| OSuf.nil <| SQ.normal ?_
  -- leaf: loop
  refine W.cut (fun L h' => h' = h ∧ L = [(3, I64 ((fk D D.length).length : Nat))]) (W.block (W.loop (fun n L h' => ∃ i : Nat, n + i = D.length ∧ h' = h ∧ L = [(0, P0 s), (3, I64 ((fk D i).length : Nat)), (4, I64 i)]) (n := D.length) ⟨0, by omega, rfl, rfl⟩ ?_ ?_)) ?_
  · simp [HasA, Tr.get_put, fk]
  · rintro n L h' ⟨i, hn, rfl, rfl⟩
    simp only [mkA]
    have w2 : IntKind.i64.wrap ((i : Int) + 1) = ((i + 1 : Nat) : Int) := by rw [wrap_i64 (by omega) (by omega)]; omega
    by_cases hi : (i : Int) < (D.length : Int)
    · obtain ⟨t, ht⟩ : ∃ t, D[i]? = some t := ⟨D[i]'(by omega), by simp⟩
      obtain ⟨y, rfl, y1, y2, y3, y4⟩ := hat i (by omega)
      have hci : (0 ≤ (i : Int) ∧ (i : Int) < (D.length : Int)) := by omega
      have ti0 : (flatT D)[i * 3]? = some (U64 t.1.1) := flatT_get 0 ht (by omega)
      have ti0' : (flatT D)[i * 3 + 0]? = some (U64 t.1.1) := flatT_get 0 ht (by omega)
      have ti1 : (flatT D)[i * 3 + 1]? = some (U64 t.1.2) := flatT_get 1 ht (by omega)
      have hfl := fk_le D i
      refine W.seq <| W.seq <| W.reg <| OSuf.aop tyOK rfl sm rfl <| OSuf.aop tyOK rfl sm rfl <| OSuf.aop tyOK rfl (so_nilCheck (by simp only [lk] <;> rfl)) rfl <| OSuf.aop tyOK rfl (so_fieldAddr (by simp only [lk] <;> rfl) (fa_ok (k := 0) ty28 rfl rfl ty26 rfl rfl)) rfl <| OSuf.aop tyOK rfl (so_load (by simp only [lk] <;> rfl) (by simp (disch := first | assumption | omega | (simp only [nx] <;> omega) | fail) only [aLoad, ty26, rowOf, hpl, hv] <;> rfl)) rfl <| OSuf.aop tyOK rfl (so_len (by simp only [aopnds, lk] <;> rfl) (by simp (disch := first | assumption | omega | (simp only [nx] <;> omega) | fail) only [aLenOf, ty26, hpl, hv] <;> rfl)) rfl <| OSuf.aopT tyOK rfl (so_bin (by simp only [lk] <;> rfl) (by simp only [lk] <;> rfl) bi_lss) (fun _ => rfl) (by first | rfl | assumption | ((simp only [bl, hv]) <;> first | done | assumption | omega) | (simp; done) | (simp; omega)) <| OSuf.nil <| SQ.normal ?_
      refine W.yes (by simp only [lk] <;> rfl) <| CWp.skip <| SQ.normal ?_
      refine W.seq <| W.block <| W.seq <| W.reg <| OSuf.aopT tyOK rfl (so_assign (by simp only [lk] <;> rfl)) (fun _ => rfl) rfl <| OSuf.nil <| SQ.normal ?_
      refine W.seq <| W.seq <| W.reg <| OSuf.aop tyOK rfl (so_assign (by simp only [lk] <;> rfl)) rfl <| OSuf.nil <| SQ.normal ?_
      -- leaf: loop
      refine W.cut (fun L h2 => h2 = h' ∧ L = [(0, P0 s), (3, I64 ((fk D i).length : Nat)), (4, I64 i), (5, .bool (decide (t.1 ∉ (D.take i).map (·.1))))]) (W.block (W.loop (fun n L h2 => ∃ k : Nat, n + k = i ∧ h2 = h' ∧ L = [(0, P0 s), (3, I64 ((fk D i).length : Nat)), (4, I64 i), (5, .bool (decide (t.1 ∉ (D.take k).map (·.1)))), (6, I64 k)]) (n := i) ⟨0, by omega, rfl, rfl⟩ ?_ ?_)) ?_
      · simp [HasA, Tr.get_put]
      · rintro m L h2 ⟨k, hm, rfl, rfl⟩
        simp only [mkA]
        have w3 : IntKind.i64.wrap ((k : Int) + 1) = ((k + 1 : Nat) : Int) := by rw [wrap_i64 (by omega) (by omega)]; omega
        by_cases hk : (k : Int) < (i : Int)
        · obtain ⟨q, hq⟩ : ∃ q, D[k]? = some q := ⟨D[k]'(by omega), by simp⟩
          have hck : (0 ≤ (k : Int) ∧ (k : Int) < (D.length : Int)) := by omega
          have tk0 : (flatT D)[k * 3]? = some (U64 q.1.1) := flatT_get 0 hq (by omega)
          have tk0' : (flatT D)[k * 3 + 0]? = some (U64 q.1.1) := flatT_get 0 hq (by omega)
          have tk1 : (flatT D)[k * 3 + 1]? = some (U64 q.1.2) := flatT_get 1 hq (by omega)
          have htk : (D.take (k + 1)).map (·.1) = (D.take k).map (·.1) ++ [q.1] := by rw [List.take_add_one, hq]; simp
          have fin : ∀ f : Bool, f = decide (t.1 ∉ (D.take (k + 1)).map (·.1)) → ∃ k2 : Nat, m - 1 + k2 = i ∧ h2 = h2 ∧ [(0, P0 s), (3, I64 ((fk D i).length : Nat)), (4, I64 i), (5, .bool f), (6, I64 ((k + 1 : Nat) : Int))] = [(0, P0 s), (3, I64 ((fk D i).length : Nat)), (4, I64 i), (5, .bool (decide (t.1 ∉ (D.take k2).map (·.1)))), (6, I64 k2)] := fun f hf => ⟨k + 1, by omega, rfl, by rw [hf]⟩
          by_cases hin : t.1 ∉ (D.take k).map (·.1)
          · rw [decide_eq_true hin]
            by_cases e1 : q.1.1 = t.1.1
            · by_cases e2 : q.1.2 = t.1.2
              · refine W.seq <| W.seq <| W.reg <| OSuf.aop tyOK rfl sm rfl <| OSuf.aop tyOK rfl sm rfl <| OSuf.aopT tyOK rfl (so_bin (by simp only [lk] <;> rfl) (by simp only [lk] <;> rfl) bi_lss) (fun _ => rfl) (by first | rfl | assumption | ((simp only [bl, hv, hck, hci, sb, y4, tk0, tk0', tk1, ti0, ti0', ti1]) <;> first | done | assumption | omega) | (simp; done) | (simp; omega)) <| OSuf.nil <| SQ.normal ?_
                refine W.yes (by simp only [lk] <;> rfl) <| CWp.skip <| SQ.normal ?_
                refine W.seq <| W.block <| W.regD tyOK mixed (by kernel_rfl) <| SqW.aopT rfl sm (fun _ => rfl) (rfl) <| SqW.aopT rfl sm (fun _ => rfl) rfl <| SqW.aop ag sm rfl <| SqW.aop ag (so_nilCheck (by simp only [lk] <;> rfl)) rfl <| SqW.aop ag (so_fieldAddr (by simp only [lk] <;> rfl) (fa_ok (k := 0) ty28 rfl rfl ty26 rfl rfl)) rfl <| SqW.aop ag (so_load (by simp only [lk] <;> rfl) (by simp (disch := first | assumption | omega | (simp only [nx] <;> omega) | fail) only [aLoad, ty26, rowOf, hpl, hv, hck, hci, sb, y4, tk0, tk0', tk1, ti0, ti0', ti1] <;> rfl)) rfl <| SqW.aop ag sm rfl <| SqW.aop ag (so_indexAddr (by simp only [lk] <;> rfl) (by simp only [lk] <;> rfl) (by simp (disch := first | assumption | omega | (simp only [nx] <;> omega) | fail) only [aIndexAddr, ty26, ty63, hpl, hv, hck, hci, sb, y4, tk0, tk0', tk1, ti0, ti0', ti1] <;> rfl)) rfl <| SqW.aop ag (so_fieldAddr (by simp only [lk] <;> rfl) (fa_ok (k := 0) ty63 rfl rfl ty29 rfl rfl)) rfl <| SqW.aop ag (so_load (by simp only [lk] <;> rfl) (by simp (disch := first | assumption | omega | (simp only [nx] <;> omega) | fail) only [aLoad, ty29, rowOf, hpl, hv, hck, hci, sb, y4, tk0, tk0', tk1, ti0, ti0', ti1] <;> rfl)) rfl <| SqW.aop ag sm rfl <| SqW.aop ag (so_nilCheck (by simp only [lk] <;> rfl)) rfl <| SqW.aop ag (so_fieldAddr (by simp only [lk] <;> rfl) (fa_ok (k := 0) ty28 rfl rfl ty26 rfl rfl)) rfl <| SqW.aop ag (so_load (by simp only [lk] <;> rfl) (by simp (disch := first | assumption | omega | (simp only [nx] <;> omega) | fail) only [aLoad, ty26, rowOf, hpl, hv, hck, hci, sb, y4, tk0, tk0', tk1, ti0, ti0', ti1] <;> rfl)) rfl <| SqW.aop ag sm rfl <| SqW.aop ag (so_indexAddr (by simp only [lk] <;> rfl) (by simp only [lk] <;> rfl) (by simp (disch := first | assumption | omega | (simp only [nx] <;> omega) | fail) only [aIndexAddr, ty26, ty63, hpl, hv, hck, hci, sb, y4, tk0, tk0', tk1, ti0, ti0', ti1] <;> rfl)) rfl <| SqW.aop ag (so_fieldAddr (by simp only [lk] <;> rfl) (fa_ok (k := 0) ty63 rfl rfl ty29 rfl rfl)) rfl <| SqW.aop ag (so_load (by simp only [lk] <;> rfl) (by simp (disch := first | assumption | omega | (simp only [nx] <;> omega) | fail) only [aLoad, ty29, rowOf, hpl, hv, hck, hci, sb, y4, tk0, tk0', tk1, ti0, ti0', ti1] <;> rfl)) rfl <| SqW.aopF ag (so_bin (by simp only [lk] <;> rfl) (by simp only [lk] <;> rfl) bi_neq) (fun _ => rfl) (by first | rfl | assumption | ((simp only [bl, hv, hck, hci, sb, y4, tk0, tk0', tk1, ti0, ti0', ti1]) <;> first | done | assumption | omega) | (simp; done) | (simp; omega)) <| SqW.aopF ag sm (fun _ => rfl) rfl <| SqW.aop ag sm rfl <| SqW.aop ag (so_nilCheck (by simp only [lk] <;> rfl)) rfl <| SqW.aop ag (so_fieldAddr (by simp only [lk] <;> rfl) (fa_ok (k := 0) ty28 rfl rfl ty26 rfl rfl)) rfl <| SqW.aop ag (so_load (by simp only [lk] <;> rfl) (by simp (disch := first | assumption | omega | (simp only [nx] <;> omega) | fail) only [aLoad, ty26, rowOf, hpl, hv, hck, hci, sb, y4, tk0, tk0', tk1, ti0, ti0', ti1] <;> rfl)) rfl <| SqW.aop ag sm rfl <| SqW.aop ag (so_indexAddr (by simp only [lk] <;> rfl) (by simp only [lk] <;> rfl) (by simp (disch := first | assumption | omega | (simp only [nx] <;> omega) | fail) only [aIndexAddr, ty26, ty63, hpl, hv, hck, hci, sb, y4, tk0, tk0', tk1, ti0, ti0', ti1] <;> rfl)) rfl <| SqW.aop ag (so_fieldAddr (by simp only [lk] <;> rfl) (fa_ok (k := 1) ty63 rfl rfl ty29 rfl rfl)) rfl <| SqW.aop ag (so_load (by simp only [lk] <;> rfl) (by simp (disch := first | assumption | omega | (simp only [nx] <;> omega) | fail) only [aLoad, ty29, rowOf, hpl, hv, hck, hci, sb, y4, tk0, tk0', tk1, ti0, ti0', ti1] <;> rfl)) rfl <| SqW.aop ag sm rfl <| SqW.aop ag (so_nilCheck (by simp only [lk] <;> rfl)) rfl <| SqW.aop ag (so_fieldAddr (by simp only [lk] <;> rfl) (fa_ok (k := 0) ty28 rfl rfl ty26 rfl rfl)) rfl <| SqW.aop ag (so_load (by simp only [lk] <;> rfl) (by simp (disch := first | assumption | omega | (simp only [nx] <;> omega) | fail) only [aLoad, ty26, rowOf, hpl, hv, hck, hci, sb, y4, tk0, tk0', tk1, ti0, ti0', ti1] <;> rfl)) rfl <| SqW.aop ag sm rfl <| SqW.aop ag (so_indexAddr (by simp only [lk] <;> rfl) (by simp only [lk] <;> rfl) (by simp (disch := first | assumption | omega | (simp only [nx] <;> omega) | fail) only [aIndexAddr, ty26, ty63, hpl, hv, hck, hci, sb, y4, tk0, tk0', tk1, ti0, ti0', ti1] <;> rfl)) rfl <| SqW.aop ag (so_fieldAddr (by simp only [lk] <;> rfl) (fa_ok (k := 1) ty63 rfl rfl ty29 rfl rfl)) rfl <| SqW.aop ag (so_load (by simp only [lk] <;> rfl) (by simp (disch := first | assumption | omega | (simp only [nx] <;> omega) | fail) only [aLoad, ty29, rowOf, hpl, hv, hck, hci, sb, y4, tk0, tk0', tk1, ti0, ti0', ti1] <;> rfl)) rfl <| SqW.aopF ag (so_bin (by simp only [lk] <;> rfl) (by simp only [lk] <;> rfl) bi_neq) (fun _ => rfl) (by first | rfl | assumption | ((simp only [bl, hv, hck, hci, sb, y4, tk0, tk0', tk1, ti0, ti0', ti1]) <;> first | done | assumption | omega) | (simp; done) | (simp; omega)) <| SqW.aopF ag (so_pick (by simp only [lk] <;> rfl) (by simp only [lk, cond_true, cond_false] <;> rfl)) (fun _ => rfl) rfl <| SqW.aopF rfl (so_pick (by simp only [lk] <;> rfl) (by simp only [lk, cond_true, cond_false] <;> rfl)) (fun _ => rfl) rfl <| SqW.aopF rfl (so_assign (by simp only [lk] <;> rfl)) (fun _ => rfl) rfl <| SqW.nil <| BQ.normal <| SQ.normal ?_
                refine W.reg <| OSuf.aop tyOK rfl sm rfl <| OSuf.aop tyOK rfl (so_bin (by simp only [lk] <;> rfl) (by simp only [lk] <;> rfl) (bi_w bi_add (by first | (simp only [w3] <;> rfl) | rfl))) rfl <| OSuf.aop tyOK rfl (so_assign (by simp only [lk] <;> rfl)) rfl <| OSuf.nil <| ?_
                -- leaf: round
                refine LQ.normal (m := m - 1) (L := [(0, P0 s), (3, I64 ((fk D i).length : Nat)), (4, I64 i), (5, .bool false), (6, I64 ((k + 1 : Nat) : Int))]) (by omega) ?_ (fin false ?_)
                · simp only [HasA, Tr.get_put, Nat.reduceEqDiff, reduceIte, w3, and_self]
                · rw [htk]; simp [Prod.ext e1 e2]
              · refine W.seq <| W.seq <| W.reg <| OSuf.aop tyOK rfl sm rfl <| OSuf.aop tyOK rfl sm rfl <| OSuf.aopT tyOK rfl (so_bin (by simp only [lk] <;> rfl) (by simp only [lk] <;> rfl) bi_lss) (fun _ => rfl) (by first | rfl | assumption | ((simp only [bl, hv, hck, hci, sb, y4, tk0, tk0', tk1, ti0, ti0', ti1]) <;> first | done | assumption | omega) | (simp; done) | (simp; omega)) <| OSuf.nil <| SQ.normal ?_
                refine W.yes (by simp only [lk] <;> rfl) <| CWp.skip <| SQ.normal ?_
                refine W.seq <| W.block <| W.regD tyOK mixed (by kernel_rfl) <| SqW.aopT rfl sm (fun _ => rfl) (rfl) <| SqW.aopT rfl sm (fun _ => rfl) rfl <| SqW.aop ag sm rfl <| SqW.aop ag (so_nilCheck (by simp only [lk] <;> rfl)) rfl <| SqW.aop ag (so_fieldAddr (by simp only [lk] <;> rfl) (fa_ok (k := 0) ty28 rfl rfl ty26 rfl rfl)) rfl <| SqW.aop ag (so_load (by simp only [lk] <;> rfl) (by simp (disch := first | assumption | omega | (simp only [nx] <;> omega) | fail) only [aLoad, ty26, rowOf, hpl, hv, hck, hci, sb, y4, tk0, tk0', tk1, ti0, ti0', ti1] <;> rfl)) rfl <| SqW.aop ag sm rfl <| SqW.aop ag (so_indexAddr (by simp only [lk] <;> rfl) (by simp only [lk] <;> rfl) (by simp (disch := first | assumption | omega | (simp only [nx] <;> omega) | fail) only [aIndexAddr, ty26, ty63, hpl, hv, hck, hci, sb, y4, tk0, tk0', tk1, ti0, ti0', ti1] <;> rfl)) rfl <| SqW.aop ag (so_fieldAddr (by simp only [lk] <;> rfl) (fa_ok (k := 0) ty63 rfl rfl ty29 rfl rfl)) rfl <| SqW.aop ag (so_load (by simp only [lk] <;> rfl) (by simp (disch := first | assumption | omega | (simp only [nx] <;> omega) | fail) only [aLoad, ty29, rowOf, hpl, hv, hck, hci, sb, y4, tk0, tk0', tk1, ti0, ti0', ti1] <;> rfl)) rfl <| SqW.aop ag sm rfl <| SqW.aop ag (so_nilCheck (by simp only [lk] <;> rfl)) rfl <| SqW.aop ag (so_fieldAddr (by simp only [lk] <;> rfl) (fa_ok (k := 0) ty28 rfl rfl ty26 rfl rfl)) rfl <| SqW.aop ag (so_load (by simp only [lk] <;> rfl) (by simp (disch := first | assumption | omega | (simp only [nx] <;> omega) | fail) only [aLoad, ty26, rowOf, hpl, hv, hck, hci, sb, y4, tk0, tk0', tk1, ti0, ti0', ti1] <;> rfl)) rfl <| SqW.aop ag sm rfl <| SqW.aop ag (so_indexAddr (by simp only [lk] <;> rfl) (by simp only [lk] <;> rfl) (by simp (disch := first | assumption | omega | (simp only [nx] <;> omega) | fail) only [aIndexAddr, ty26, ty63, hpl, hv, hck, hci, sb, y4, tk0, tk0', tk1, ti0, ti0', ti1] <;> rfl)) rfl <| SqW.aop ag (so_fieldAddr (by simp only [lk] <;> rfl) (fa_ok (k := 0) ty63 rfl rfl ty29 rfl rfl)) rfl <| SqW.aop ag (so_load (by simp only [lk] <;> rfl) (by simp (disch := first | assumption | omega | (simp only [nx] <;> omega) | fail) only [aLoad, ty29, rowOf, hpl, hv, hck, hci, sb, y4, tk0, tk0', tk1, ti0, ti0', ti1] <;> rfl)) rfl <| SqW.aopF ag (so_bin (by simp only [lk] <;> rfl) (by simp only [lk] <;> rfl) bi_neq) (fun _ => rfl) (by first | rfl | assumption | ((simp only [bl, hv, hck, hci, sb, y4, tk0, tk0', tk1, ti0, ti0', ti1]) <;> first | done | assumption | omega) | (simp; done) | (simp; omega)) <| SqW.aopF ag sm (fun _ => rfl) rfl <| SqW.aop ag sm rfl <| SqW.aop ag (so_nilCheck (by simp only [lk] <;> rfl)) rfl <| SqW.aop ag (so_fieldAddr (by simp only [lk] <;> rfl) (fa_ok (k := 0) ty28 rfl rfl ty26 rfl rfl)) rfl <| SqW.aop ag (so_load (by simp only [lk] <;> rfl) (by simp (disch := first | assumption | omega | (simp only [nx] <;> omega) | fail) only [aLoad, ty26, rowOf, hpl, hv, hck, hci, sb, y4, tk0, tk0', tk1, ti0, ti0', ti1] <;> rfl)) rfl <| SqW.aop ag sm rfl <| SqW.aop ag (so_indexAddr (by simp only [lk] <;> rfl) (by simp only [lk] <;> rfl) (by simp (disch := first | assumption | omega | (simp only [nx] <;> omega) | fail) only [aIndexAddr, ty26, ty63, hpl, hv, hck, hci, sb, y4, tk0, tk0', tk1, ti0, ti0', ti1] <;> rfl)) rfl <| SqW.aop ag (so_fieldAddr (by simp only [lk] <;> rfl) (fa_ok (k := 1) ty63 rfl rfl ty29 rfl rfl)) rfl <| SqW.aop ag (so_load (by simp only [lk] <;> rfl) (by simp (disch := first | assumption | omega | (simp only [nx] <;> omega) | fail) only [aLoad, ty29, rowOf, hpl, hv, hck, hci, sb, y4, tk0, tk0', tk1, ti0, ti0', ti1] <;> rfl)) rfl <| SqW.aop ag sm rfl <| SqW.aop ag (so_nilCheck (by simp only [lk] <;> rfl)) rfl <| SqW.aop ag (so_fieldAddr (by simp only [lk] <;> rfl) (fa_ok (k := 0) ty28 rfl rfl ty26 rfl rfl)) rfl <| SqW.aop ag (so_load (by simp only [lk] <;> rfl) (by simp (disch := first | assumption | omega | (simp only [nx] <;> omega) | fail) only [aLoad, ty26, rowOf, hpl, hv, hck, hci, sb, y4, tk0, tk0', tk1, ti0, ti0', ti1] <;> rfl)) rfl <| SqW.aop ag sm rfl <| SqW.aop ag (so_indexAddr (by simp only [lk] <;> rfl) (by simp only [lk] <;> rfl) (by simp (disch := first | assumption | omega | (simp only [nx] <;> omega) | fail) only [aIndexAddr, ty26, ty63, hpl, hv, hck, hci, sb, y4, tk0, tk0', tk1, ti0, ti0', ti1] <;> rfl)) rfl <| SqW.aop ag (so_fieldAddr (by simp only [lk] <;> rfl) (fa_ok (k := 1) ty63 rfl rfl ty29 rfl rfl)) rfl <| SqW.aop ag (so_load (by simp only [lk] <;> rfl) (by simp (disch := first | assumption | omega | (simp only [nx] <;> omega) | fail) only [aLoad, ty29, rowOf, hpl, hv, hck, hci, sb, y4, tk0, tk0', tk1, ti0, ti0', ti1] <;> rfl)) rfl <| SqW.aopT ag (so_bin (by simp only [lk] <;> rfl) (by simp only [lk] <;> rfl) bi_neq) (fun _ => rfl) (by first | rfl | assumption | ((simp only [bl, hv, hck, hci, sb, y4, tk0, tk0', tk1, ti0, ti0', ti1]) <;> first | done | assumption | omega) | (simp; done) | (simp; omega)) <| SqW.aopT ag (so_pick (by simp only [lk] <;> rfl) (by simp only [lk, cond_true, cond_false] <;> rfl)) (fun _ => rfl) rfl <| SqW.aopT rfl (so_pick (by simp only [lk] <;> rfl) (by simp only [lk, cond_true, cond_false] <;> rfl)) (fun _ => rfl) rfl <| SqW.aopT rfl (so_assign (by simp only [lk] <;> rfl)) (fun _ => rfl) rfl <| SqW.nil <| BQ.normal <| SQ.normal ?_
                refine W.reg <| OSuf.aop tyOK rfl sm rfl <| OSuf.aop tyOK rfl (so_bin (by simp only [lk] <;> rfl) (by simp only [lk] <;> rfl) (bi_w bi_add (by first | (simp only [w3] <;> rfl) | rfl))) rfl <| OSuf.aop tyOK rfl (so_assign (by simp only [lk] <;> rfl)) rfl <| OSuf.nil <| ?_
                -- leaf: round
                refine LQ.normal (m := m - 1) (L := [(0, P0 s), (3, I64 ((fk D i).length : Nat)), (4, I64 i), (5, .bool true), (6, I64 ((k + 1 : Nat) : Int))]) (by omega) ?_ (fin true ?_)
                · simp only [HasA, Tr.get_put, Nat.reduceEqDiff, reduceIte, w3, and_self]
                · rw [htk]
                  suffices e9 : t.1 ∉ (D.take k).map (·.1) ++ [q.1] from (decide_eq_true e9).symm
                  intro h9
                  rcases List.mem_append.1 h9 with h9 | h9
                  · exact hin h9
                  · simp at h9; exact e2 (by rw [h9])
            · refine W.seq <| W.seq <| W.reg <| OSuf.aop tyOK rfl sm rfl <| OSuf.aop tyOK rfl sm rfl <| OSuf.aopT tyOK rfl (so_bin (by simp only [lk] <;> rfl) (by simp only [lk] <;> rfl) bi_lss) (fun _ => rfl) (by first | rfl | assumption | ((simp only [bl, hv, hck, hci, sb, y4, tk0, tk0', tk1, ti0, ti0', ti1]) <;> first | done | assumption | omega) | (simp; done) | (simp; omega)) <| OSuf.nil <| SQ.normal ?_
              refine W.yes (by simp only [lk] <;> rfl) <| CWp.skip <| SQ.normal ?_
              refine W.seq <| W.block <| W.regD tyOK mixed (by kernel_rfl) <| SqW.aopT rfl sm (fun _ => rfl) (rfl) <| SqW.aopT rfl sm (fun _ => rfl) rfl <| SqW.aop ag sm rfl <| SqW.aop ag (so_nilCheck (by simp only [lk] <;> rfl)) rfl <| SqW.aop ag (so_fieldAddr (by simp only [lk] <;> rfl) (fa_ok (k := 0) ty28 rfl rfl ty26 rfl rfl)) rfl <| SqW.aop ag (so_load (by simp only [lk] <;> rfl) (by simp (disch := first | assumption | omega | (simp only [nx] <;> omega) | fail) only [aLoad, ty26, rowOf, hpl, hv, hck, hci, sb, y4, tk0, tk0', tk1, ti0, ti0', ti1] <;> rfl)) rfl <| SqW.aop ag sm rfl <| SqW.aop ag (so_indexAddr (by simp only [lk] <;> rfl) (by simp only [lk] <;> rfl) (by simp (disch := first | assumption | omega | (simp only [nx] <;> omega) | fail) only [aIndexAddr, ty26, ty63, hpl, hv, hck, hci, sb, y4, tk0, tk0', tk1, ti0, ti0', ti1] <;> rfl)) rfl <| SqW.aop ag (so_fieldAddr (by simp only [lk] <;> rfl) (fa_ok (k := 0) ty63 rfl rfl ty29 rfl rfl)) rfl <| SqW.aop ag (so_load (by simp only [lk] <;> rfl) (by simp (disch := first | assumption | omega | (simp only [nx] <;> omega) | fail) only [aLoad, ty29, rowOf, hpl, hv, hck, hci, sb, y4, tk0, tk0', tk1, ti0, ti0', ti1] <;> rfl)) rfl <| SqW.aop ag sm rfl <| SqW.aop ag (so_nilCheck (by simp only [lk] <;> rfl)) rfl <| SqW.aop ag (so_fieldAddr (by simp only [lk] <;> rfl) (fa_ok (k := 0) ty28 rfl rfl ty26 rfl rfl)) rfl <| SqW.aop ag (so_load (by simp only [lk] <;> rfl) (by simp (disch := first | assumption | omega | (simp only [nx] <;> omega) | fail) only [aLoad, ty26, rowOf, hpl, hv, hck, hci, sb, y4, tk0, tk0', tk1, ti0, ti0', ti1] <;> rfl)) rfl <| SqW.aop ag sm rfl <| SqW.aop ag (so_indexAddr (by simp only [lk] <;> rfl) (by simp only [lk] <;> rfl) (by simp (disch := first | assumption | omega | (simp only [nx] <;> omega) | fail) only [aIndexAddr, ty26, ty63, hpl, hv, hck, hci, sb, y4, tk0, tk0', tk1, ti0, ti0', ti1] <;> rfl)) rfl <| SqW.aop ag (so_fieldAddr (by simp only [lk] <;> rfl) (fa_ok (k := 0) ty63 rfl rfl ty29 rfl rfl)) rfl <| SqW.aop ag (so_load (by simp only [lk] <;> rfl) (by simp (disch := first | assumption | omega | (simp only [nx] <;> omega) | fail) only [aLoad, ty29, rowOf, hpl, hv, hck, hci, sb, y4, tk0, tk0', tk1, ti0, ti0', ti1] <;> rfl)) rfl <| SqW.aopT ag (so_bin (by simp only [lk] <;> rfl) (by simp only [lk] <;> rfl) bi_neq) (fun _ => rfl) (by first | rfl | assumption | ((simp only [bl, hv, hck, hci, sb, y4, tk0, tk0', tk1, ti0, ti0', ti1]) <;> first | done | assumption | omega) | (simp; done) | (simp; omega)) <| SqW.aopT ag sm (fun _ => rfl) rfl <| SqW.pass ag rfl <| SqW.pass ag rfl <| SqW.pass ag rfl <| SqW.pass ag rfl <| SqW.pass ag rfl <| SqW.pass ag rfl <| SqW.pass ag rfl <| SqW.pass ag rfl <| SqW.pass ag rfl <| SqW.pass ag rfl <| SqW.pass ag rfl <| SqW.pass ag rfl <| SqW.pass ag rfl <| SqW.pass ag rfl <| SqW.pass ag rfl <| SqW.pass ag rfl <| SqW.pass ag rfl <| SqW.aopT ag (so_pick (by simp only [lk] <;> rfl) (by simp only [lk, cond_true, cond_false] <;> rfl)) (fun _ => rfl) rfl <| SqW.aopT rfl (so_pick (by simp only [lk] <;> rfl) (by simp only [lk, cond_true, cond_false] <;> rfl)) (fun _ => rfl) rfl <| SqW.aopT rfl (so_assign (by simp only [lk] <;> rfl)) (fun _ => rfl) rfl <| SqW.nil <| BQ.normal <| SQ.normal ?_
              refine W.reg <| OSuf.aop tyOK rfl sm rfl <| OSuf.aop tyOK rfl (so_bin (by simp only [lk] <;> rfl) (by simp only [lk] <;> rfl) (bi_w bi_add (by first | (simp only [w3] <;> rfl) | rfl))) rfl <| OSuf.aop tyOK rfl (so_assign (by simp only [lk] <;> rfl)) rfl <| OSuf.nil <| ?_
              -- leaf: round
              refine LQ.normal (m := m - 1) (L := [(0, P0 s), (3, I64 ((fk D i).length : Nat)), (4, I64 i), (5, .bool true), (6, I64 ((k + 1 : Nat) : Int))]) (by omega) ?_ (fin true ?_)
              · simp only [HasA, Tr.get_put, Nat.reduceEqDiff, reduceIte, w3, and_self]
              · rw [htk]
                suffices e9 : t.1 ∉ (D.take k).map (·.1) ++ [q.1] from (decide_eq_true e9).symm
                intro h9
                rcases List.mem_append.1 h9 with h9 | h9
                · exact hin h9
                · simp at h9; exact e1 (by rw [h9])
          · rw [decide_eq_false hin]
            refine W.seq <| W.seq <| W.reg <| OSuf.aop tyOK rfl sm rfl <| OSuf.aop tyOK rfl sm rfl <| OSuf.aopT tyOK rfl (so_bin (by simp only [lk] <;> rfl) (by simp only [lk] <;> rfl) bi_lss) (fun _ => rfl) (by first | rfl | assumption | ((simp only [bl, hv]) <;> first | done | assumption | omega) | (simp; done) | (simp; omega)) <| OSuf.nil <| SQ.normal ?_
            refine W.yes (by simp only [lk] <;> rfl) <| CWp.skip <| SQ.normal ?_
            refine W.seq <| W.block <| W.regD tyOK mixed (by kernel_rfl) <| SqW.aopF rfl sm (fun _ => rfl) (rfl) <| SqW.aopF rfl sm (fun _ => rfl) rfl <| SqW.pass ag rfl <| SqW.pass ag rfl <| SqW.pass ag rfl <| SqW.pass ag rfl <| SqW.pass ag rfl <| SqW.pass ag rfl <| SqW.pass ag rfl <| SqW.pass ag rfl <| SqW.pass ag rfl <| SqW.pass ag rfl <| SqW.pass ag rfl <| SqW.pass ag rfl <| SqW.pass ag rfl <| SqW.pass ag rfl <| SqW.pass ag rfl <| SqW.pass ag rfl <| SqW.pass ag rfl <| SqW.pass ag rfl <| SqW.pass (aguard_un rfl rfl (by simp only [lk] <;> rfl)) rfl <| SqW.pass (aguard_un rfl rfl (by simp only [lk] <;> rfl)) rfl <| SqW.pass (aguard_un rfl rfl (by simp only [lk] <;> rfl)) rfl <| SqW.pass (aguard_un rfl rfl (by simp only [lk] <;> rfl)) rfl <| SqW.pass (aguard_un rfl rfl (by simp only [lk] <;> rfl)) rfl <| SqW.pass (aguard_un rfl rfl (by simp only [lk] <;> rfl)) rfl <| SqW.pass (aguard_un rfl rfl (by simp only [lk] <;> rfl)) rfl <| SqW.pass (aguard_un rfl rfl (by simp only [lk] <;> rfl)) rfl <| SqW.pass (aguard_un rfl rfl (by simp only [lk] <;> rfl)) rfl <| SqW.pass (aguard_un rfl rfl (by simp only [lk] <;> rfl)) rfl <| SqW.pass (aguard_un rfl rfl (by simp only [lk] <;> rfl)) rfl <| SqW.pass (aguard_un rfl rfl (by simp only [lk] <;> rfl)) rfl <| SqW.pass (aguard_un rfl rfl (by simp only [lk] <;> rfl)) rfl <| SqW.pass (aguard_un rfl rfl (by simp only [lk] <;> rfl)) rfl <| SqW.pass (aguard_un rfl rfl (by simp only [lk] <;> rfl)) rfl <| SqW.pass (aguard_un rfl rfl (by simp only [lk] <;> rfl)) rfl <| SqW.pass (aguard_un rfl rfl (by simp only [lk] <;> rfl)) rfl <| SqW.pass ag rfl <| SqW.aopF rfl (so_pick (by simp only [lk] <;> rfl) (by simp only [lk, cond_true, cond_false] <;> rfl)) (fun _ => rfl) rfl <| SqW.aopF rfl (so_assign (by simp only [lk] <;> rfl)) (fun _ => rfl) rfl <| SqW.nil <| BQ.normal <| SQ.normal ?_
            refine W.reg <| OSuf.aop tyOK rfl sm rfl <| OSuf.aop tyOK rfl (so_bin (by simp only [lk] <;> rfl) (by simp only [lk] <;> rfl) (bi_w bi_add (by first | (simp only [w3] <;> rfl) | rfl))) rfl <| OSuf.aop tyOK rfl (so_assign (by simp only [lk] <;> rfl)) rfl <| OSuf.nil <| ?_
            -- leaf: round
            refine LQ.normal (m := m - 1) (L := [(0, P0 s), (3, I64 ((fk D i).length : Nat)), (4, I64 i), (5, .bool false), (6, I64 ((k + 1 : Nat) : Int))]) (by omega) ?_ (fin false ?_)
            · simp only [HasA, Tr.get_put, Nat.reduceEqDiff, reduceIte, w3, and_self]
            · rw [htk]
              have e9 : ¬ (t.1 ∉ (D.take k).map (·.1) ++ [q.1]) := fun h9 => hin fun h8 => h9 (List.mem_append.2 (.inl h8))
              exact (decide_eq_false e9).symm
        · refine W.seq <| W.seq <| W.reg <| OSuf.aop tyOK rfl sm rfl <| OSuf.aop tyOK rfl sm rfl <| OSuf.aopF tyOK rfl (so_bin (by simp only [lk] <;> rfl) (by simp only [lk] <;> rfl) bi_lss) (fun _ => rfl) (by first | rfl | assumption | ((simp only [bl]) <;> first | done | assumption | omega) | (simp; done) | (simp; omega)) <| OSuf.nil <| SQ.normal ?_
          refine W.no (by simp only [lk] <;> rfl) <| CWp.exit <| SQ.exit <| LQ.exit <| BQ.exit <| ?_
          -- leaf: cut
          have : k = i := by omega
          subst this
          refine NQ.normal (L := [(0, P0 s), (3, I64 ((fk D k).length : Nat)), (4, I64 k), (5, .bool (decide (t.1 ∉ (D.take k).map (·.1))))]) ?_ ⟨rfl, rfl⟩
          simp only [HasA, Tr.get_put, Nat.reduceEqDiff, reduceIte, and_self]
      rintro L a' h2 ha ⟨rfl, rfl⟩
      by_cases hin : t.1 ∈ (D.take i).map (·.1)
      · have e : fk D (i + 1) = fk D i := by rw [fk, ht]; simp only; rw [if_pos hin, List.append_nil]
        have hin' : ¬ (t.1 ∉ (D.take i).map (·.1)) := fun h9 => h9 hin
        rw [decide_eq_false hin'] at ha
        refine SQ.normal <| CWp.known ha ?_
        simp only [mkA]
        refine W.seq <| W.reg <| OSuf.aopF tyOK rfl sm (fun _ => rfl) (rfl) <| OSuf.nil <| SQ.normal ?_
        refine W.no (by simp only [lk] <;> rfl) <| CWp.skip <| BQ.normal <| SQ.normal ?_
        refine W.reg <| OSuf.aop tyOK rfl sm rfl <| OSuf.aop tyOK rfl (so_bin (by simp only [lk] <;> rfl) (by simp only [lk] <;> rfl) (bi_w bi_add (by first | (simp only [w2] <;> rfl) | rfl))) rfl <| OSuf.aop tyOK rfl (so_assign (by simp only [lk] <;> rfl)) rfl <| OSuf.nil <| ?_
        -- leaf: round
        refine LQ.normal (m := n - 1) (L := [(0, P0 s), (3, I64 ((fk D i).length : Nat)), (4, I64 ((i + 1 : Nat) : Int))]) (by omega) ?_ ⟨i + 1, by omega, rfl, by rw [e]⟩
        simp only [HasA, Tr.get_put, Nat.reduceEqDiff, reduceIte, w2, and_self]
      · have e : (fk D (i + 1)).length = (fk D i).length + 1 := by rw [fk, ht]; simp only; rw [if_neg hin]; simp
        have w4 : IntKind.i64.wrap (((fk D i).length : Int) + 1) = (((fk D i).length + 1 : Nat) : Int) := by rw [wrap_i64 (by omega) (by omega)]; omega
        rw [decide_eq_true hin] at ha
        refine SQ.normal <| CWp.known ha ?_
        simp only [mkA]
        refine W.seq <| W.reg <| OSuf.aopT tyOK rfl sm (fun _ => rfl) (rfl) <| OSuf.nil <| SQ.normal ?_
        refine W.yes (by simp only [lk] <;> rfl) <| W.reg <| OSuf.aop tyOK rfl sm rfl <| OSuf.aop tyOK rfl (so_bin (by simp only [lk] <;> rfl) (by simp only [lk] <;> rfl) (bi_w bi_add (by first | (simp only [w2, w4] <;> rfl) | rfl))) rfl <| OSuf.aop tyOK rfl (so_assign (by simp only [lk] <;> rfl)) rfl <| OSuf.nil <| BQ.normal <| SQ.normal ?_
        refine W.reg <| OSuf.aop tyOK rfl sm rfl <| OSuf.aop tyOK rfl (so_bin (by simp only [lk] <;> rfl) (by simp only [lk] <;> rfl) (bi_w bi_add (by first | (simp only [w2, w4] <;> rfl) | rfl))) rfl <| OSuf.aop tyOK rfl (so_assign (by simp only [lk] <;> rfl)) rfl <| OSuf.nil <| ?_
        -- leaf: round
        refine LQ.normal (m := n - 1) (L := [(0, P0 s), (3, I64 (((fk D i).length + 1 : Nat) : Int)), (4, I64 ((i + 1 : Nat) : Int))]) (by omega) ?_ ⟨i + 1, by omega, rfl, by rw [e]⟩
        simp only [HasA, Tr.get_put, Nat.reduceEqDiff, reduceIte, w2, w4, and_self]
    · refine W.seq <| W.seq <| W.reg <| OSuf.aop tyOK rfl sm rfl <| OSuf.aop tyOK rfl sm rfl <| OSuf.aop tyOK rfl (so_nilCheck (by simp only [lk] <;> rfl)) rfl <| OSuf.aop tyOK rfl (so_fieldAddr (by simp only [lk] <;> rfl) (fa_ok (k := 0) ty28 rfl rfl ty26 rfl rfl)) rfl <| OSuf.aop tyOK rfl (so_load (by simp only [lk] <;> rfl) (by simp (disch := first | assumption | omega | (simp only [nx] <;> omega) | fail) only [aLoad, ty26, rowOf, hpl, hv] <;> rfl)) rfl <| OSuf.aop tyOK rfl (so_len (by simp only [aopnds, lk] <;> rfl) (by simp (disch := first | assumption | omega | (simp only [nx] <;> omega) | fail) only [aLenOf, ty26, hpl, hv] <;> rfl)) rfl <| OSuf.aopF tyOK rfl (so_bin (by simp only [lk] <;> rfl) (by simp only [lk] <;> rfl) bi_lss) (fun _ => rfl) (by first | rfl | assumption | ((simp only [bl, hv]) <;> first | done | assumption | omega) | (simp; done) | (simp; omega)) <| OSuf.nil <| SQ.normal ?_
      refine W.no (by simp only [lk] <;> rfl) <| CWp.exit <| SQ.exit <| LQ.exit <| BQ.exit <| ?_
      -- leaf: cut
      have : i = D.length := by omega
      subst this
      refine NQ.normal (L := [(3, I64 ((fk D D.length).length : Nat))]) ?_ ⟨rfl, rfl⟩
      simp only [HasA, Tr.get_put, Nat.reduceEqDiff, reduceIte, and_self]
  rintro L a' h' ha ⟨rfl, rfl⟩
  refine SQ.normal <| CWp.known ha ?_
  simp only [mkA]
  refine W.seq <| W.reg <| OSuf.aop tyOK rfl sm rfl <| OSuf.aop tyOK rfl (so_assign (by simp only [lk] <;> rfl)) rfl <| OSuf.nil <| SQ.normal ?_
  refine CWp.ret <| FQ.ret (by simp only [aRet, Try.f19, aResults, aResult, lk, Nat.reduceEqDiff, reduceIte] <;> rfl) ?_
  -- leaf: end
  exact ⟨rfl, rfl⟩

/-! A pair is put. -/
theorem eqt3 (a b d e : Int) (c f : Bool) : pureRun Try.prog (Op.equal 63 (.agg #[.int .u64 a, .int .u64 b, .bool c]) (.agg #[.int .u64 d, .int .u64 e, .bool f])) = some (a == d && (b == e && c == f)) := by
  have u1 : Try.prog.underlying 63 = some (.struct #[{ name := "Ts", type := 29, offset := 0, embedded := false, tag := "", pkgPath := "", byteOffset := 0 }, { name := "On", type := 29, offset := 1, embedded := false, tag := "", pkgPath := "", byteOffset := 8 }, { name := "Hangs", type := 4, offset := 2, embedded := false, tag := "", pkgPath := "", byteOffset := 16 }]) := by kernel_rfl
  have u2 : Try.prog.underlying 29 = some (.int .u64) := by kernel_rfl
  have u4 : Try.prog.underlying 4 = some .bool := by kernel_rfl
  have u3 : Try.prog.stoodInHeld 63 = false := by kernel_rfl
  have p1 : ∀ x y z : Value, pureRun Try.prog (part 29 #[x, y, z] 0) = some x := fun x y z => by kernel_rfl
  have p2 : ∀ x y z : Value, pureRun Try.prog (part 29 #[x, y, z] 1) = some y := fun x y z => by kernel_rfl
  have p3 : ∀ x y z : Value, pureRun Try.prog (part 4 #[x, y, z] 2) = some z := fun x y z => by kernel_rfl
  have e1 : ∀ k (x y : Int), pureRun Try.prog (Op.equalIn (k + 1) 29 (.int .u64 x) (.int .u64 y)) = some (x == y) := fun k x y => by
    simp only [Op.equalIn, underlying, bind_assoc, pureRun_program, u2, pure_bind, pureRun_pure, if_true]
  have e2 : ∀ k (x y : Bool), pureRun Try.prog (Op.equalIn (k + 1) 4 (.bool x) (.bool y)) = some (x == y) := fun k x y => by
    simp only [Op.equalIn, underlying, bind_assoc, pureRun_program, u4, pure_bind, pureRun_pure, if_true]
  show pureRun Try.prog (Op.equalIn (9998 + 1 + 1) 63 _ _) = _
  generalize 9998 = k
  rw [Op.equalIn]
  simp only [underlying, bind_assoc, pureRun_program, u1, pure_bind, u3, Bool.false_eq_true, if_false]
  rw [← Array.forIn_toList]
  simp only [List.forIn_cons, bind_assoc]
  rw [if_pos (by decide)]
  simp only [bind_assoc]
  rw [pureRun_bind (p1 _ _ _), pureRun_bind (p1 _ _ _), pureRun_bind (e1 _ _ _)]
  cases hac : a == d
  · simp [pureRun_pure]
  · simp only [Bool.not_true, Bool.false_eq_true, if_false, pure_bind, bind_assoc]
    rw [if_pos (by decide)]
    simp only [bind_assoc]
    rw [pureRun_bind (p2 _ _ _), pureRun_bind (p2 _ _ _), pureRun_bind (e1 _ _ _)]
    cases hbd : b == e
    · simp [pureRun_pure]
    · simp only [Bool.not_true, Bool.false_eq_true, if_false, pure_bind, bind_assoc]
      rw [if_pos (by decide)]
      simp only [bind_assoc]
      rw [pureRun_bind (p3 _ _ _), pureRun_bind (p3 _ _ _), pureRun_bind (e2 _ _ _)]
      cases hcf : c == f <;> simp [pureRun_pure]
theorem eqt {x y : Operand} (a b d e : Int) (c f : Bool) : aBin Try.prog T .eql 63 x y (.agg #[.int .u64 a, .int .u64 b, .bool c]) (.agg #[.int .u64 d, .int .u64 e, .bool f]) = some (.bool (a == d && (b == e && c == f))) := by
  have gt : Try.prog.eqGuardType Try.prog.depth 63 = false := by kernel_rfl
  have hg : pureRun Try.prog (eqGuard .eql 63 x y (.agg #[.int .u64 a, .int .u64 b, .bool c]) (.agg #[.int .u64 d, .int .u64 e, .bool f])) = some () := by
    simp only [eqGuard, pureRun_program, bind_assoc, pure_bind, gt]
    simp [pureRun_program, gt, pureRun_pure]
  have ee : pureRun Try.prog (do eqGuard .eql 63 x y (.agg #[.int .u64 a, .int .u64 b, .bool c]) (.agg #[.int .u64 d, .int .u64 e, .bool f]); binOp .eql 63 (.agg #[.int .u64 a, .int .u64 b, .bool c]) (.agg #[.int .u64 d, .int .u64 e, .bool f])) = some (.bool (a == d && (b == e && c == f))) := by
    rw [pureRun_bind hg]
    show pureRun Try.prog (Op.equal 63 _ _ >>= fun r => pure (Value.bool r)) = _
    rw [pureRun_bind (eqt3 a b d e c f)]; rfl
  have hf : (flat (.agg #[.int .u64 a, .int .u64 b, .bool c]) && flat (.agg #[.int .u64 d, .int .u64 e, .bool f])) = true := rfl
  simp only [aBin, hf, cond_true, ee]; rfl
theorem putr_arg (h : AHeap) (s : Nat) (t : T3) (hlt : t.1.1 ≤ t.1.2) : FWp Try.prog 25 [P0 s, .agg #[U64 t.1.1, U64 t.1.2, .bool t.2]] h fun u h' => u = I64 2 ∧ h' = h := by
  refine FWp.gcs (BV.flat rfl) (W.enter tyOK Try.func25 rfl rfl ?_)
  simp only [entry]
  refine W.seq <| W.reg <| OSuf.aop tyOK rfl (so_box (by simp only [lk] <;> rfl)) rfl <| OSuf.aop tyOK rfl (so_assign (by simp only [lk] <;> rfl)) rfl <| OSuf.nil <| SQ.normal ?_
  refine W.seq <| W.seq <| W.reg <| OSuf.aop tyOK rfl (so_fieldAddr (by simp only [lk] <;> rfl) (fa_ok (k := 1) ty63 rfl rfl ty29 rfl rfl)) rfl <| OSuf.aop tyOK rfl (so_load (by simp only [lk] <;> rfl) (by simp (disch := first | assumption | omega | (simp only [nx] <;> omega) | fail) only [aLoad, ty29, rowOf, hpl, Value.cells] <;> rfl)) rfl <| OSuf.aop tyOK rfl (so_fieldAddr (by simp only [lk] <;> rfl) (fa_ok (k := 0) ty63 rfl rfl ty29 rfl rfl)) rfl <| OSuf.aop tyOK rfl (so_load (by simp only [lk] <;> rfl) (by simp (disch := first | assumption | omega | (simp only [nx] <;> omega) | fail) only [aLoad, ty29, rowOf, hpl, Value.cells] <;> rfl)) rfl <| OSuf.aopT tyOK rfl (so_bin (by simp only [lk] <;> rfl) (by simp only [lk] <;> rfl) bi_geq) (fun _ => rfl) (by first | rfl | assumption | ((simp only [bl, Value.cells]) <;> first | done | assumption | omega) | (simp; done) | (simp; omega)) <| OSuf.nil <| SQ.normal ?_
  refine W.yes (by simp only [lk] <;> rfl) <| W.seq <| W.reg <| OSuf.aop tyOK rfl (so_assign (by simp only [lk] <;> rfl)) rfl <| OSuf.nil <| SQ.normal ?_
  refine CWp.ret <| SQ.ret <| FQ.ret (by simp only [aRet, Try.f25, aResults, aResult, lk, Nat.reduceEqDiff, reduceIte] <;> rfl) ?_
  -- leaf: end
  exact ⟨rfl, fun r o hr ho => by simp (disch := first | assumption | omega | (simp only [nx] <;> omega) | fail) only [hpl]; exact ho⟩
theorem putr_in (h : AHeap) (s : Nat) (x : Option Nat) (D : List T3) (hB : RD h s x D) (hl : D.length ≤ 1000000) (t : T3) (hlt : t.1.2 < t.1.1) (hin : t ∈ D) : FWp Try.prog 25 [P0 s, .agg #[U64 t.1.1, U64 t.1.2, .bool t.2]] h fun u h' => u = I64 0 ∧ h' = h := by
  obtain ⟨b, hv, hat⟩ := hB.val
  have hlts := hB.lt
  have hlt' : ¬ t.1.1 ≤ t.1.2 := by omega
  refine FWp.gcs (BV.flat rfl) (W.enter tyOK Try.func25 rfl rfl ?_)
  simp only [entry]
  refine W.seq <| W.reg <| OSuf.aop tyOK rfl (so_box (by simp only [lk] <;> rfl)) rfl <| OSuf.aop tyOK rfl (so_assign (by simp only [lk] <;> rfl)) rfl <| OSuf.nil <| SQ.normal ?_
  refine W.seq <| W.seq <| W.reg <| OSuf.aop tyOK rfl (so_fieldAddr (by simp only [lk] <;> rfl) (fa_ok (k := 1) ty63 rfl rfl ty29 rfl rfl)) rfl <| OSuf.aop tyOK rfl (so_load (by simp only [lk] <;> rfl) (by simp (disch := first | assumption | omega | (simp only [nx] <;> omega) | fail) only [aLoad, ty29, rowOf, hpl, Value.cells] <;> rfl)) rfl <| OSuf.aop tyOK rfl (so_fieldAddr (by simp only [lk] <;> rfl) (fa_ok (k := 0) ty63 rfl rfl ty29 rfl rfl)) rfl <| OSuf.aop tyOK rfl (so_load (by simp only [lk] <;> rfl) (by simp (disch := first | assumption | omega | (simp only [nx] <;> omega) | fail) only [aLoad, ty29, rowOf, hpl, Value.cells] <;> rfl)) rfl <| OSuf.aopF tyOK rfl (so_bin (by simp only [lk] <;> rfl) (by simp only [lk] <;> rfl) bi_geq) (fun _ => rfl) (by first | rfl | assumption | ((simp only [bl, Value.cells]) <;> first | done | assumption | omega) | (simp; done) | (simp; omega)) <| OSuf.nil <| SQ.normal ?_
  refine W.no (by simp only [lk] <;> rfl) <| CWp.skip <| SQ.normal ?_
  refine W.seq <| W.seq <| W.reg <| OSuf.aop tyOK rfl (so_assign (by simp only [lk] <;> rfl)) rfl <| OSuf.nil <| SQ.normal ?_
  -- leaf: loop
  refine W.cut (fun L h' => False) (W.block (W.loop (fun n L h' => ∃ i : Nat, n + i = D.length ∧ h' = h.new (.cells (t3cs t) 1) ∧ t ∉ D.take i ∧ L = [(0, P0 s), (3, P0 h.next), (5, I64 i)]) (n := D.length) ⟨0, by omega, rfl, by simp, rfl⟩ ?_ ?_)) ?_
  · simp [HasA, Tr.get_put]
  · rintro n L h' ⟨i, hn, rfl, hni, rfl⟩
    simp only [mkA]
    have w2 : IntKind.i64.wrap ((i : Int) + 1) = ((i + 1 : Nat) : Int) := by rw [wrap_i64 (by omega) (by omega)]; omega
    by_cases hi : (i : Int) < (D.length : Int)
    · obtain ⟨q, hq⟩ : ∃ q, D[i]? = some q := ⟨D[i]'(by omega), by simp⟩
      obtain ⟨y, rfl, y1, y2, y3, y4⟩ := hat i (by omega)
      have hc : (0 ≤ (i : Int) ∧ (i : Int) < (D.length : Int)) := by omega
      have hcell := flatT_cell hq
      simp only [t3cs] at hcell
      by_cases he : q = t
      · have he' : (q.1.1 == t.1.1 && (q.1.2 == t.1.2 && q.2 == t.2)) = true := by rw [he]; simp
        refine W.seq <| W.seq <| W.reg <| OSuf.aop tyOK rfl sm rfl <| OSuf.aop tyOK rfl sm rfl <| OSuf.aop tyOK rfl (so_nilCheck (by simp only [lk] <;> rfl)) rfl <| OSuf.aop tyOK rfl (so_fieldAddr (by simp only [lk] <;> rfl) (fa_ok (k := 0) ty28 rfl rfl ty26 rfl rfl)) rfl <| OSuf.aop tyOK rfl (so_load (by simp only [lk] <;> rfl) (by simp (disch := first | assumption | omega | (simp only [nx] <;> omega) | fail) only [aLoad, ty26, rowOf, hpl, hv, hc, sb, y4, hcell, t3cs] <;> rfl)) rfl <| OSuf.aop tyOK rfl (so_len (by simp only [aopnds, lk] <;> rfl) (by simp (disch := first | assumption | omega | (simp only [nx] <;> omega) | fail) only [aLenOf, ty26, hpl, hv, hc, sb, y4, hcell, t3cs] <;> rfl)) rfl <| OSuf.aopT tyOK rfl (so_bin (by simp only [lk] <;> rfl) (by simp only [lk] <;> rfl) bi_lss) (fun _ => rfl) (by first | rfl | assumption | ((simp only [bl, hv, hc, sb, y4, hcell, t3cs]) <;> first | done | assumption | omega) | (simp; done) | (simp; omega)) <| OSuf.nil <| SQ.normal ?_
        refine W.yes (by simp only [lk] <;> rfl) <| CWp.skip <| SQ.normal ?_
        refine W.seq <| W.block <| W.seq <| W.regD tyOK mixed (by kernel_rfl) <| SqW.aop rfl sm rfl <| SqW.aop rfl (so_nilCheck (by simp only [lk] <;> rfl)) rfl <| SqW.aop rfl (so_fieldAddr (by simp only [lk] <;> rfl) (fa_ok (k := 0) ty28 rfl rfl ty26 rfl rfl)) rfl <| SqW.aop rfl (so_load (by simp only [lk] <;> rfl) (by simp (disch := first | assumption | omega | (simp only [nx] <;> omega) | fail) only [aLoad, ty26, rowOf, hpl, hv, hc, sb, y4, hcell, t3cs] <;> rfl)) rfl <| SqW.aop rfl sm rfl <| SqW.aop rfl (so_indexAddr (by simp only [lk] <;> rfl) (by simp only [lk] <;> rfl) (by simp (disch := first | assumption | omega | (simp only [nx] <;> omega) | fail) only [aIndexAddr, ty26, ty63, hpl, hv, hc, sb, y4, hcell, t3cs] <;> rfl)) rfl <| SqW.aop rfl (so_load (by simp only [lk] <;> rfl) (by simp (disch := first | assumption | omega | (simp only [nx] <;> omega) | fail) only [aLoad, ty63, rowOf, hpl, hv, hc, sb, y4, hcell, t3cs] <;> rfl)) rfl <| SqW.aop rfl (so_load (by simp only [lk] <;> rfl) (by simp (disch := first | assumption | omega | (simp only [nx] <;> omega) | fail) only [aLoad, ty63, rowOf, hpl, hv, hc, sb, y4, hcell, t3cs] <;> rfl)) rfl <| SqW.aopT rfl (so_bin (by simp only [lk] <;> rfl) (by simp only [lk] <;> rfl) (eqt _ _ _ _ _ _)) (fun _ => rfl) (he') <| SqW.nil <| SQ.normal ?_
        refine W.yes (by simp only [lk] <;> rfl) <| W.seq <| W.reg <| OSuf.aop tyOK rfl (so_assign (by simp only [lk] <;> rfl)) rfl <| OSuf.nil <| SQ.normal ?_
        refine CWp.ret <| BQ.ret <| SQ.ret <| LQ.ret <| BQ.ret <| NQ.ret <| SQ.ret <| FQ.ret (by simp only [aRet, Try.f25, aResults, aResult, lk, Nat.reduceEqDiff, reduceIte] <;> rfl) ?_
        -- leaf: end
        exact ⟨rfl, fun r o hr ho => by simp (disch := first | assumption | omega | (simp only [nx] <;> omega) | fail) only [hpl]; exact ho⟩
      · have he' : (q.1.1 == t.1.1 && (q.1.2 == t.1.2 && q.2 == t.2)) = false := by
          cases hb : (q.1.1 == t.1.1 && (q.1.2 == t.1.2 && q.2 == t.2)) with
          | false => rfl
          | true =>
            simp only [Bool.and_eq_true, beq_iff_eq] at hb
            exact (he (Prod.ext (Prod.ext hb.1 hb.2.1) hb.2.2)).elim
        refine W.seq <| W.seq <| W.reg <| OSuf.aop tyOK rfl sm rfl <| OSuf.aop tyOK rfl sm rfl <| OSuf.aop tyOK rfl (so_nilCheck (by simp only [lk] <;> rfl)) rfl <| OSuf.aop tyOK rfl (so_fieldAddr (by simp only [lk] <;> rfl) (fa_ok (k := 0) ty28 rfl rfl ty26 rfl rfl)) rfl <| OSuf.aop tyOK rfl (so_load (by simp only [lk] <;> rfl) (by simp (disch := first | assumption | omega | (simp only [nx] <;> omega) | fail) only [aLoad, ty26, rowOf, hpl, hv, hc, sb, y4, hcell, t3cs] <;> rfl)) rfl <| OSuf.aop tyOK rfl (so_len (by simp only [aopnds, lk] <;> rfl) (by simp (disch := first | assumption | omega | (simp only [nx] <;> omega) | fail) only [aLenOf, ty26, hpl, hv, hc, sb, y4, hcell, t3cs] <;> rfl)) rfl <| OSuf.aopT tyOK rfl (so_bin (by simp only [lk] <;> rfl) (by simp only [lk] <;> rfl) bi_lss) (fun _ => rfl) (by first | rfl | assumption | ((simp only [bl, hv, hc, sb, y4, hcell, t3cs]) <;> first | done | assumption | omega) | (simp; done) | (simp; omega)) <| OSuf.nil <| SQ.normal ?_
        refine W.yes (by simp only [lk] <;> rfl) <| CWp.skip <| SQ.normal ?_
        refine W.seq <| W.block <| W.seq <| W.regD tyOK mixed (by kernel_rfl) <| SqW.aop rfl sm rfl <| SqW.aop rfl (so_nilCheck (by simp only [lk] <;> rfl)) rfl <| SqW.aop rfl (so_fieldAddr (by simp only [lk] <;> rfl) (fa_ok (k := 0) ty28 rfl rfl ty26 rfl rfl)) rfl <| SqW.aop rfl (so_load (by simp only [lk] <;> rfl) (by simp (disch := first | assumption | omega | (simp only [nx] <;> omega) | fail) only [aLoad, ty26, rowOf, hpl, hv, hc, sb, y4, hcell, t3cs] <;> rfl)) rfl <| SqW.aop rfl sm rfl <| SqW.aop rfl (so_indexAddr (by simp only [lk] <;> rfl) (by simp only [lk] <;> rfl) (by simp (disch := first | assumption | omega | (simp only [nx] <;> omega) | fail) only [aIndexAddr, ty26, ty63, hpl, hv, hc, sb, y4, hcell, t3cs] <;> rfl)) rfl <| SqW.aop rfl (so_load (by simp only [lk] <;> rfl) (by simp (disch := first | assumption | omega | (simp only [nx] <;> omega) | fail) only [aLoad, ty63, rowOf, hpl, hv, hc, sb, y4, hcell, t3cs] <;> rfl)) rfl <| SqW.aop rfl (so_load (by simp only [lk] <;> rfl) (by simp (disch := first | assumption | omega | (simp only [nx] <;> omega) | fail) only [aLoad, ty63, rowOf, hpl, hv, hc, sb, y4, hcell, t3cs] <;> rfl)) rfl <| SqW.aopF rfl (so_bin (by simp only [lk] <;> rfl) (by simp only [lk] <;> rfl) (eqt _ _ _ _ _ _)) (fun _ => rfl) (he') <| SqW.nil <| SQ.normal ?_
        refine W.no (by simp only [lk] <;> rfl) <| CWp.skip <| BQ.normal <| SQ.normal ?_
        refine W.reg <| OSuf.aop tyOK rfl sm rfl <| OSuf.aop tyOK rfl (so_bin (by simp only [lk] <;> rfl) (by simp only [lk] <;> rfl) (bi_w bi_add (by first | (simp only [w2] <;> rfl) | rfl))) rfl <| OSuf.aop tyOK rfl (so_assign (by simp only [lk] <;> rfl)) rfl <| OSuf.nil <| ?_
        -- leaf: round
        refine LQ.normal (m := n - 1) (L := [(0, P0 s), (3, P0 h.next), (5, I64 ((i + 1 : Nat) : Int))]) (by omega) ?_ ⟨i + 1, by omega, rfl, ?_, rfl⟩
        · simp only [HasA, Tr.get_put, Nat.reduceEqDiff, reduceIte, w2, and_self]
        · rw [List.take_add_one, hq]
          intro h9
          rcases List.mem_append.1 h9 with h9 | h9
          · exact hni h9
          · simp at h9; exact he h9.symm
    · rw [List.take_of_length_le (by omega)] at hni
      exact (hni hin).elim
  rintro L a' h' ha hF
  exact hF.elim
theorem putr_new (h : AHeap) (s : Nat) (x : Option Nat) (D : List T3) (hB : RD h s x D) (hl : D.length ≤ 1000000) (t : T3) (hlt : t.1.2 < t.1.1) (hin : t ∉ D) :
    ∃ H y, FWp Try.prog 25 [P0 s, .agg #[U64 t.1.1, U64 t.1.2, .bool t.2]] h (fun u h' => u = I64 0 ∧ h' = H) ∧ RD H s (some y) (D ++ [t]) ∧ FrT h H s x ∧ h.next ≤ y := by
  obtain ⟨b, hv, hat⟩ := hB.val
  have hlts := hB.lt
  have hlt' : ¬ t.1.1 ≤ t.1.2 := by omega
  obtain ⟨_, ⟨v, hv1, hsv, hrow⟩, hsx⟩ := hB
  have ev : v = .slice b D.length 0 := by
    rw [hv] at hv1; injection hv1 with h1; injection h1 with h2 _; injection h2 with h3 _; exact h3.symm
  subst ev
  have hsv2 : SV ((h.new (.cells (t3cs t) 1)).new (.cells (t3cs t) 3)) 3 0 (flatT D) (.slice b D.length 0) := hsv.mono (by simp only [nx]; omega) (fun z hz _ => by simp (disch := first | assumption | omega | (simp only [nx] <;> omega) | fail) only [hpl])
  obtain ⟨v', h1, e1, s1, n1, n1', k1, r1, l1⟩ := ap_any (k := 1) (x := .slice (some ⟨h.next + 1, 0, none⟩) 1 2) hsv2 rfl (B := t3cs t) (aCells_part (vs := t3cs t) (by simp (disch := first | assumption | omega | (simp only [nx] <;> omega) | fail) only [rowOf, hpl]) (Nat.le_refl _) rfl) rfl rfl (by simp only [vLen]; omega) (Nat.zero_le _)
  simp only [nx] at n1 n1'
  have hs1 : h1.get s = some (.cells [.slice b D.length 0] 1) := by
    rw [k1 s (by simp only [nx]; omega) (fun e => (hsx s (by rw [← hrow]; exact e)).1 rfl)]
    simp (disch := first | assumption | omega | (simp only [nx] <;> omega) | fail) only [hpl]; exact hv
  have hy : svRow v' = some (h.next + 2) := by
    rcases r1 with ⟨_, r1⟩ | r1
    · cases r1
    · exact r1
  obtain ⟨y, hyd⟩ : ∃ y, y = h.next + 2 := ⟨_, rfl⟩
  rw [← hyd] at hy
  obtain ⟨_, g3, _, ev', _⟩ := s1.row hy
  have hyb : h.next ≤ y := by omega
  obtain ⟨n', hn'⟩ : ∃ n', n' = vLen v' := ⟨_, rfl⟩
  rw [← hn'] at ev'
  subst ev'
  refine ⟨h1.set s (.cells [.slice (some ⟨y, 0, none⟩) n' 0] 1), y, ?_, ⟨by simp only [nx]; omega, ⟨_, AHeap.get_set_same _ _ _, ?_, hy⟩, ?_⟩, ⟨by simp only [nx]; omega, fun z hz g1 g2 => ?_⟩, hyb⟩
  · refine W.enter tyOK Try.func25 rfl rfl ?_
    simp only [entry]
    refine W.seq <| W.reg <| OSuf.aop tyOK rfl (so_box (by simp only [lk] <;> rfl)) rfl <| OSuf.aop tyOK rfl (so_assign (by simp only [lk] <;> rfl)) rfl <| OSuf.nil <| SQ.normal ?_
    refine W.seq <| W.seq <| W.reg <| OSuf.aop tyOK rfl (so_fieldAddr (by simp only [lk] <;> rfl) (fa_ok (k := 1) ty63 rfl rfl ty29 rfl rfl)) rfl <| OSuf.aop tyOK rfl (so_load (by simp only [lk] <;> rfl) (by simp (disch := first | assumption | omega | (simp only [nx] <;> omega) | fail) only [aLoad, ty29, rowOf, hpl, Value.cells] <;> rfl)) rfl <| OSuf.aop tyOK rfl (so_fieldAddr (by simp only [lk] <;> rfl) (fa_ok (k := 0) ty63 rfl rfl ty29 rfl rfl)) rfl <| OSuf.aop tyOK rfl (so_load (by simp only [lk] <;> rfl) (by simp (disch := first | assumption | omega | (simp only [nx] <;> omega) | fail) only [aLoad, ty29, rowOf, hpl, Value.cells] <;> rfl)) rfl <| OSuf.aopF tyOK rfl (so_bin (by simp only [lk] <;> rfl) (by simp only [lk] <;> rfl) bi_geq) (fun _ => rfl) (by first | rfl | assumption | ((simp only [bl, Value.cells]) <;> first | done | assumption | omega) | (simp; done) | (simp; omega)) <| OSuf.nil <| SQ.normal ?_
    refine W.no (by simp only [lk] <;> rfl) <| CWp.skip <| SQ.normal ?_
    refine W.seq <| W.seq <| W.reg <| OSuf.aop tyOK rfl (so_assign (by simp only [lk] <;> rfl)) rfl <| OSuf.nil <| SQ.normal ?_
    -- leaf: loop
    refine W.cut (fun L h' => h' = h.new (.cells (t3cs t) 1) ∧ L = [(0, P0 s), (3, P0 h.next)]) (W.block (W.loop (fun n L h' => ∃ i : Nat, n + i = D.length ∧ h' = h.new (.cells (t3cs t) 1) ∧ L = [(0, P0 s), (3, P0 h.next), (5, I64 i)]) (n := D.length) ⟨0, by omega, rfl, rfl⟩ ?_ ?_)) ?_
    · simp [HasA, Tr.get_put]
    · rintro n L h' ⟨i, hn, rfl, rfl⟩
      simp only [mkA]
      have w2 : IntKind.i64.wrap ((i : Int) + 1) = ((i + 1 : Nat) : Int) := by rw [wrap_i64 (by omega) (by omega)]; omega
      by_cases hi : (i : Int) < (D.length : Int)
      · obtain ⟨q, hq⟩ : ∃ q, D[i]? = some q := ⟨D[i]'(by omega), by simp⟩
        obtain ⟨y, rfl, y1, y2, y3, y4⟩ := hat i (by omega)
        have hc : (0 ≤ (i : Int) ∧ (i : Int) < (D.length : Int)) := by omega
        have hcell := flatT_cell hq
        simp only [t3cs] at hcell
        have he : ¬ q = t := fun e => hin (by rw [← e]; exact List.mem_of_getElem? hq)
        have he' : (q.1.1 == t.1.1 && (q.1.2 == t.1.2 && q.2 == t.2)) = false := by
          cases hb : (q.1.1 == t.1.1 && (q.1.2 == t.1.2 && q.2 == t.2)) with
          | false => rfl
          | true =>
            simp only [Bool.and_eq_true, beq_iff_eq] at hb
            exact (he (Prod.ext (Prod.ext hb.1 hb.2.1) hb.2.2)).elim
        refine W.seq <| W.seq <| W.reg <| OSuf.aop tyOK rfl sm rfl <| OSuf.aop tyOK rfl sm rfl <| OSuf.aop tyOK rfl (so_nilCheck (by simp only [lk] <;> rfl)) rfl <| OSuf.aop tyOK rfl (so_fieldAddr (by simp only [lk] <;> rfl) (fa_ok (k := 0) ty28 rfl rfl ty26 rfl rfl)) rfl <| OSuf.aop tyOK rfl (so_load (by simp only [lk] <;> rfl) (by simp (disch := first | assumption | omega | (simp only [nx] <;> omega) | fail) only [aLoad, ty26, rowOf, hpl, hv, hc, sb, y4, hcell, t3cs] <;> rfl)) rfl <| OSuf.aop tyOK rfl (so_len (by simp only [aopnds, lk] <;> rfl) (by simp (disch := first | assumption | omega | (simp only [nx] <;> omega) | fail) only [aLenOf, ty26, hpl, hv, hc, sb, y4, hcell, t3cs] <;> rfl)) rfl <| OSuf.aopT tyOK rfl (so_bin (by simp only [lk] <;> rfl) (by simp only [lk] <;> rfl) bi_lss) (fun _ => rfl) (by first | rfl | assumption | ((simp only [bl, hv, hc, sb, y4, hcell, t3cs]) <;> first | done | assumption | omega) | (simp; done) | (simp; omega)) <| OSuf.nil <| SQ.normal ?_
        refine W.yes (by simp only [lk] <;> rfl) <| CWp.skip <| SQ.normal ?_
        refine W.seq <| W.block <| W.seq <| W.regD tyOK mixed (by kernel_rfl) <| SqW.aop rfl sm rfl <| SqW.aop rfl (so_nilCheck (by simp only [lk] <;> rfl)) rfl <| SqW.aop rfl (so_fieldAddr (by simp only [lk] <;> rfl) (fa_ok (k := 0) ty28 rfl rfl ty26 rfl rfl)) rfl <| SqW.aop rfl (so_load (by simp only [lk] <;> rfl) (by simp (disch := first | assumption | omega | (simp only [nx] <;> omega) | fail) only [aLoad, ty26, rowOf, hpl, hv, hc, sb, y4, hcell, t3cs] <;> rfl)) rfl <| SqW.aop rfl sm rfl <| SqW.aop rfl (so_indexAddr (by simp only [lk] <;> rfl) (by simp only [lk] <;> rfl) (by simp (disch := first | assumption | omega | (simp only [nx] <;> omega) | fail) only [aIndexAddr, ty26, ty63, hpl, hv, hc, sb, y4, hcell, t3cs] <;> rfl)) rfl <| SqW.aop rfl (so_load (by simp only [lk] <;> rfl) (by simp (disch := first | assumption | omega | (simp only [nx] <;> omega) | fail) only [aLoad, ty63, rowOf, hpl, hv, hc, sb, y4, hcell, t3cs] <;> rfl)) rfl <| SqW.aop rfl (so_load (by simp only [lk] <;> rfl) (by simp (disch := first | assumption | omega | (simp only [nx] <;> omega) | fail) only [aLoad, ty63, rowOf, hpl, hv, hc, sb, y4, hcell, t3cs] <;> rfl)) rfl <| SqW.aopF rfl (so_bin (by simp only [lk] <;> rfl) (by simp only [lk] <;> rfl) (eqt _ _ _ _ _ _)) (fun _ => rfl) (he') <| SqW.nil <| SQ.normal ?_
        refine W.no (by simp only [lk] <;> rfl) <| CWp.skip <| BQ.normal <| SQ.normal ?_
        refine W.reg <| OSuf.aop tyOK rfl sm rfl <| OSuf.aop tyOK rfl (so_bin (by simp only [lk] <;> rfl) (by simp only [lk] <;> rfl) (bi_w bi_add (by first | (simp only [w2] <;> rfl) | rfl))) rfl <| OSuf.aop tyOK rfl (so_assign (by simp only [lk] <;> rfl)) rfl <| OSuf.nil <| ?_
        -- leaf: round
        refine LQ.normal (m := n - 1) (L := [(0, P0 s), (3, P0 h.next), (5, I64 ((i + 1 : Nat) : Int))]) (by omega) ?_ ⟨i + 1, by omega, rfl, rfl⟩
        simp only [HasA, Tr.get_put, Nat.reduceEqDiff, reduceIte, w2, and_self]
      · refine W.seq <| W.seq <| W.reg <| OSuf.aop tyOK rfl sm rfl <| OSuf.aop tyOK rfl sm rfl <| OSuf.aop tyOK rfl (so_nilCheck (by simp only [lk] <;> rfl)) rfl <| OSuf.aop tyOK rfl (so_fieldAddr (by simp only [lk] <;> rfl) (fa_ok (k := 0) ty28 rfl rfl ty26 rfl rfl)) rfl <| OSuf.aop tyOK rfl (so_load (by simp only [lk] <;> rfl) (by simp (disch := first | assumption | omega | (simp only [nx] <;> omega) | fail) only [aLoad, ty26, rowOf, hpl, hv] <;> rfl)) rfl <| OSuf.aop tyOK rfl (so_len (by simp only [aopnds, lk] <;> rfl) (by simp (disch := first | assumption | omega | (simp only [nx] <;> omega) | fail) only [aLenOf, ty26, hpl, hv] <;> rfl)) rfl <| OSuf.aopF tyOK rfl (so_bin (by simp only [lk] <;> rfl) (by simp only [lk] <;> rfl) bi_lss) (fun _ => rfl) (by first | rfl | assumption | ((simp only [bl, hv]) <;> first | done | assumption | omega) | (simp; done) | (simp; omega)) <| OSuf.nil <| SQ.normal ?_
        refine W.no (by simp only [lk] <;> rfl) <| CWp.exit <| SQ.exit <| LQ.exit <| BQ.exit <| ?_
        -- leaf: cut
        refine NQ.normal (L := [(0, P0 s), (3, P0 h.next)]) ?_ ⟨rfl, rfl⟩
        simp only [HasA, Tr.get_put, Nat.reduceEqDiff, reduceIte, and_self]
    rintro L a' h' ha ⟨rfl, rfl⟩
    refine SQ.normal <| CWp.known ha ?_
    simp only [mkA]
    refine W.seq <| CWp.sqd tyOK mixed (ms := [0, 0, 2, 6, 14, 0, 32, 126, 255, 511, 1023]) (by kernel_rfl) (
        .free rfl rfl sm rfl <| .free rfl rfl sm rfl <| .free rfl rfl (so_nilCheck (by simp only [lk] <;> rfl)) rfl <| .free rfl rfl (so_fieldAddr (by simp only [lk] <;> rfl) (fa_ok (k := 0) ty28 rfl rfl ty26 rfl rfl)) rfl <| .read rfl rfl (so_load (by simp only [lk] <;> rfl) (by simp (disch := first | assumption | omega | (simp only [nx] <;> omega) | fail) only [aLoad, ty26, rowOf, hpl, hv, t3cs, Value.cells, hs1] <;> rfl)) (by first | rfl | (simp [veq, veq1, veqs]; done) | (simp [veq, veq1, veqs, splice]; done)) trivial rfl <| .read rfl rfl (so_load (by simp only [lk] <;> rfl) (by simp (disch := first | assumption | omega | (simp only [nx] <;> omega) | fail) only [aLoad, ty63, rowOf, hpl, hv, t3cs, Value.cells, hs1] <;> rfl)) (by first | rfl | (simp [veq, veq1, veqs]; done) | (simp [veq, veq1, veqs, splice]; done)) trivial rfl <| .change rfl rfl (so_buildSlice (by simp only [aparts, lk] <;> rfl) (by simp (disch := first | assumption | omega | (simp only [nx] <;> omega) | fail) only [aBuildSlice, ty26, ty63, hpl, hv, t3cs, Value.cells, hs1] <;> rfl)) rfl ⟨.inl rfl, .inr (so_load (by simp only [lk] <;> rfl) (by simp (disch := first | assumption | omega | (simp only [nx] <;> omega) | fail) only [aLoad, ty26, rowOf, hpl, hv, t3cs, Value.cells, hs1] <;> rfl)), trivial⟩ rfl <| .change rfl rfl (so_append (by simp only [aopnds, lk] <;> rfl) (e1 _ _ (by simp only [appT, ty26, ty63] <;> rfl) rfl (by decide))) rfl ⟨.inl rfl, .inl rfl, trivial⟩ rfl <| .free rfl rfl (so_nilCheck (by simp only [lk] <;> rfl)) rfl <| .free rfl rfl (so_fieldAddr (by simp only [lk] <;> rfl) (fa_ok (k := 0) ty28 rfl rfl ty26 rfl rfl)) rfl <| .change rfl rfl (so_store (by simp only [lk] <;> rfl) (by simp only [lk] <;> rfl) (by simp (disch := first | assumption | omega | (simp only [nx] <;> omega) | fail) only [aStore, ty26, writeRow, hpl, hv, t3cs, Value.cells, hs1] <;> rfl)) rfl ⟨.inl rfl, .inl rfl, trivial⟩ rfl <| .nil) <| SQ.normal ?_
    refine W.seq <| W.reg <| OSuf.aop tyOK rfl (so_assign (by simp only [lk] <;> rfl)) rfl <| OSuf.nil <| SQ.normal ?_
    refine CWp.ret <| FQ.ret (by simp only [aRet, Try.f25, aResults, aResult, lk, Nat.reduceEqDiff, reduceIte] <;> rfl) ?_
    -- leaf: end
    exact ⟨rfl, rfl⟩
  · have : flatT (D ++ [t]) = flatT D ++ t3cs t := by rw [flatT_append]; simp [flatT]
    rw [this]
    exact s1.mono (by simp only [nx]; omega) (fun z hz hzz => AHeap.get_set_ne (fun e9 => by have h8 : y = z := Option.some.inj hzz; omega))
  · intro z hz; cases hz
    exact ⟨by omega, by simp only [nx]; exact g3⟩
  · rw [AHeap.get_set_ne g1, k1 z (by simp only [nx]; omega) (fun e => g2 z (by rw [← hrow]; exact e) rfl)]
    simp (disch := first | assumption | omega | (simp only [nx] <;> omega) | fail) only [hpl]

theorem Ext.rename {μ μ' : Emb} {h h' H : AHeap} {w w' : World} (x : Ext μ h w μ' h' w') (ρ : Nat → Nat) (hn : h.next ≤ H.next) (hρ : ∀ r, r < h.next → ρ r = r)
    (hget : ∀ r o, H.get r = some o → r < H.next ∧ ∃ o', h'.get (ρ r) = some o' ∧ o'.own = o.own ∧ ∀ e c, ORel μ' h'.next e c o' → ORel (fun r => μ' (ρ r)) H.next e c o)
    (hinj : ∀ r q o p, H.get r = some o → H.get q = some p → ρ r = ρ q → r = q) : Ext μ h w (fun r => μ' (ρ r)) H w' := by
  refine ⟨hn, fun r hr => ?_, x.size, x.os, x.output, fun b hb hf => ⟨(x.frame b hb hf).1, fun r o e hr ho hm => ?_⟩, fun b hb hf r o e hr hm => ?_, ⟨fun r o hr => ?_, fun r q o p e f hr ho hq hm hm' hbb => ?_⟩⟩
  · show μ' (ρ r) = μ r
    rw [hρ r hr]; exact x.agree r hr
  · obtain ⟨_, o', h1, h2, _⟩ := hget r o hr
    exact (x.frame b hb hf).2 (ρ r) o' e h1 (by rw [h2]; exact ho) hm
  · obtain ⟨_, o', h1, h2, _⟩ := hget r o hr
    exact x.free b hb hf (ρ r) o' e h1 hm
  · obtain ⟨h0, o', h1, h2, h3⟩ := hget r o hr
    obtain ⟨_, e, c, g1, g2, g3⟩ := x.st.live (ρ r) o' h1
    exact ⟨h0, e, c, g1, g2, h3 e c g3⟩
  · obtain ⟨_, o', h1, h2, _⟩ := hget r o hr
    obtain ⟨_, p', h1', h2', _⟩ := hget q p hq
    exact hinj r q o p hr hq (x.st.apart (ρ r) (ρ q) o' p' e f h1 (by rw [h2]; exact ho) h1' hm hm' hbb)
/-- How a row looks under its new number. -/
inductive RowOK (ρ : Nat → Nat) (h h' H : AHeap) (r : Nat) (o : AObj) : Prop
  | old (h1 : h.get r = some o) (h2 : r < h.next → h'.get r = some o)
  | flat (hr : r < H.next) (h1 : h'.get (ρ r) = some o) (hb : BO h.next o)
  | slice {a n : Nat} (hr : r < H.next) (e : o = .cells [.slice (some ⟨a, 0, none⟩) n 0] 1) (ha : a < H.next) (h1 : h'.get (ρ r) = some (.cells [.slice (some ⟨ρ a, 0, none⟩) n 0] 1))
inductive ValOK (ρ : Nat → Nat) (h H : AHeap) (u u0 : Value) : Prop
  | flat (e : u = u0) (hb : BV h.next u0)
  | slice {a n : Nat} (e0 : u0 = .slice (some ⟨a, 0, none⟩) n 0) (ha : a < H.next) (e : u = .slice (some ⟨ρ a, 0, none⟩) n 0)
theorem vr_slice {μ : Emb} {ρ : Nat → Nat} {n m a k : Nat} {v : Value} (ha : a < m) (hv : VRel μ n (.slice (some ⟨ρ a, 0, none⟩) k 0) v) : VRel (fun r => μ (ρ r)) m (.slice (some ⟨a, 0, none⟩) k 0) v := by
  cases hv with
  | sliceU h1 h2 h3 h4 => exact .sliceU (μ := fun r => μ (ρ r)) ha h2 h3 h4
  | sliceZ h1 h2 => exact .sliceZ (μ := fun r => μ (ρ r)) ha h2
theorem gcR {P : Program} {f : FuncId} {args : List Value} {h H : AHeap} {u0 : Value} {K0 : Value → AHeap → Prop} (hn : h.next ≤ H.next) (hf : FWp P f args h K0)
    (hk : ∀ u h', K0 u h' → ∃ ρ : Nat → Nat, (∀ r, r < h.next → ρ r = r) ∧ (∀ r q, r < H.next → q < H.next → ρ r = ρ q → r = q) ∧ (∀ r o, H.get r = some o → RowOK ρ h h' H r o) ∧ ValOK ρ h H u u0) : FWp P f args h fun u h' => u = u0 ∧ h' = H := by
  intro μ args' w hl st
  refine (hf μ args' w hl st).mono ?_
  rintro e w' ⟨u, v', h', μ', rfl, hK, ex, hr⟩
  obtain ⟨ρ, r1, r2, r3, r4⟩ := hk u h' hK
  have ag : Agree h.next μ' (fun r => μ' (ρ r)) := fun r hr => by show μ' (ρ r) = μ' r; rw [r1 r hr]
  have rlt : ∀ r o, H.get r = some o → r < H.next := fun r o ho => by
    cases r3 r o ho with
    | old h1 h2 => have := (st.live r o h1).1; omega
    | flat hr _ _ => exact hr
    | slice hr _ _ _ => exact hr
  refine ⟨u0, v', H, fun r => μ' (ρ r), rfl, ⟨rfl, rfl⟩, Ext.rename ex ρ hn r1 (fun r o ho => ?_) (fun r q o p hr hq hh => r2 r q (rlt r o hr) (rlt q p hq) hh), ?_⟩
  · refine ⟨rlt r o ho, ?_⟩
    cases r3 r o ho with
    | old h1 h2 =>
      obtain ⟨hr, e0, c0, k1, k2, k3⟩ := st.live r o h1
      exact ⟨o, by rw [r1 r hr]; exact h2 hr, rfl, fun e c g => (g.narrow k3.below).mono ag hn⟩
    | flat _ h1 hb => exact ⟨o, h1, rfl, fun e c g => (g.narrow hb).mono ag hn⟩
    | @slice a n _ e ha h1 =>
      subst e
      refine ⟨_, h1, rfl, fun e c g => ?_⟩
      obtain ⟨g1, cs, t, fz, k1, k2, k3, k4, k5⟩ := g
      refine ⟨g1, cs, t, fz, k1, k2, k3, k4, fun i v hv => ?_⟩
      cases i with
      | zero =>
        simp at hv; subst hv
        obtain ⟨v', a1, a2⟩ := k5 0 _ rfl
        exact ⟨v', a1, vr_slice ha a2⟩
      | succ i => simp at hv
  · cases r4 with
    | flat e hb =>
      subst e
      obtain ⟨_, _, g⟩ := hb
      exact VRel.mono ag hn (g.narrow hr)
    | @slice a n e0 ha e =>
      subst e0 e
      exact vr_slice ha hr

theorem SV.low {h : AHeap} {sz lo lo' : Nat} {vs : List Value} {v : Value} (s : SV h sz lo vs v) (hl : lo' ≤ lo) : SV h sz lo' vs v := by
  cases s with
  | nil => exact .nil
  | some a1 a2 a3 a4 a5 => exact .some a1 (by omega) a3 a4 a5
/-! Hang and Over. -/
theorem hangr_of {h : AHeap} {s : Nat} {ts on : Int} {v : Value} {H : AHeap} (hp : FWp Try.prog 25 [P0 s, .agg #[U64 ts, U64 on, .bool true]] h fun u h' => u = v ∧ h' = H) : FWp Try.prog 10 [P0 s, U64 ts, U64 on] h fun u h' => u = v ∧ h' = H := by
  refine W.enter tyOK Try.func10 rfl rfl ?_
  simp only [entry]
  refine W.seq <| W.reg <| OSuf.aop tyOK rfl (so_assign (by simp only [lk] <;> rfl)) rfl <| OSuf.nil <| SQ.normal ?_
  refine W.seq <| W.reg <| OSuf.aop tyOK rfl sm rfl <| OSuf.aop tyOK rfl sm rfl <| OSuf.aop tyOK rfl sm rfl <| OSuf.aop tyOK rfl (so_build (by simp only [aparts, lk] <;> rfl) (by simp (disch := first | assumption | omega | (simp only [nx] <;> omega) | fail) only [aBuild, ty63, hpl, places, ty63] <;> rfl)) rfl <| OSuf.callD rfl (by simp only [aopnds, lk] <;> rfl) en25 (hp) rfl <| OSuf.aop tyOK rfl (so_assign (by simp only [lk] <;> rfl)) rfl <| OSuf.nil <| SQ.normal ?_
  refine CWp.ret <| FQ.ret (by simp only [aRet, Try.f10, aResults, aResult, lk, Nat.reduceEqDiff, reduceIte] <;> rfl) ?_
  -- leaf: end
  exact ⟨rfl, rfl⟩
theorem overr_of {h : AHeap} {s : Nat} {ts on : Int} {v : Value} {H : AHeap} (hp : FWp Try.prog 25 [P0 s, .agg #[U64 ts, U64 on, .bool false]] h fun u h' => u = v ∧ h' = H) : FWp Try.prog 12 [P0 s, U64 ts, U64 on] h fun u h' => u = v ∧ h' = H := by
  refine W.enter tyOK Try.func12 rfl rfl ?_
  simp only [entry]
  refine W.seq <| W.reg <| OSuf.aop tyOK rfl (so_assign (by simp only [lk] <;> rfl)) rfl <| OSuf.nil <| SQ.normal ?_
  refine W.seq <| W.reg <| OSuf.aop tyOK rfl sm rfl <| OSuf.aop tyOK rfl sm rfl <| OSuf.aop tyOK rfl sm rfl <| OSuf.aop tyOK rfl (so_build (by simp only [aparts, lk] <;> rfl) (by simp (disch := first | assumption | omega | (simp only [nx] <;> omega) | fail) only [aBuild, ty63, hpl, places, ty63] <;> rfl)) rfl <| OSuf.callD rfl (by simp only [aopnds, lk] <;> rfl) en25 (hp) rfl <| OSuf.aop tyOK rfl (so_assign (by simp only [lk] <;> rfl)) rfl <| OSuf.nil <| SQ.normal ?_
  refine CWp.ret <| FQ.ret (by simp only [aRet, Try.f12, aResults, aResult, lk, Nat.reduceEqDiff, reduceIte] <;> rfl) ?_
  -- leaf: end
  exact ⟨rfl, rfl⟩
/-- What the document keeps of pairs that are put. -/
def putD (t : T3) (D : List T3) : List T3 := if t ∈ D then D else D ++ [t]
theorem putr_x (h : AHeap) (s : Nat) (x : Option Nat) (D : List T3) (hB : RD h s x D) (hl : D.length ≤ 1000000) (t : T3) (hlt : t.1.2 < t.1.1) :
    ∃ H x', FWp Try.prog 25 [P0 s, .agg #[U64 t.1.1, U64 t.1.2, .bool t.2]] h (fun u h' => u = I64 0 ∧ h' = H) ∧ RD H s x' (putD t D) ∧ FrT h H s x ∧ (x' = x ∨ ∀ y, x' = some y → h.next ≤ y) := by
  by_cases hin : t ∈ D
  · exact ⟨h, x, putr_in h s x D hB hl t hlt hin, by rw [putD, if_pos hin]; exact hB, ⟨Nat.le_refl _, fun _ _ _ _ => rfl⟩, .inl rfl⟩
  · obtain ⟨H, y, h1, h2, h3, h4⟩ := putr_new h s x D hB hl t hlt hin
    exact ⟨H, some y, h1, by rw [putD, if_neg hin]; exact h2, h3, .inr fun z hz => by cases hz; exact h4⟩

/-! Logged. -/
theorem flatT_ones : ∀ t : T3, oneCells (t3cs t) = true := fun t => rfl
theorem loggedr_c (h : AHeap) (s : Nat) (x : Option Nat) (D : List T3) (hB : RD h s x D) (hl : D.length ≤ 1000000) (ts : Int) :
    FWp Try.prog 14 [P0 s, U64 ts] h fun u h' => ∃ x', RD h' s x' (D.filter fun t => !decide (t.1.2 = ts)) ∧ FrT h h' s x ∧ ∀ y, x' = some y → h.next ≤ y := by
  obtain ⟨b, hv, hat⟩ := hB.val
  have hlt := hB.lt
  refine W.enter tyOK Try.func14 rfl rfl ?_
  simp only [entry]
  refine W.seq <| W.reg <| OSuf.aop tyOK rfl (so_assign (by simp only [lk] <;> rfl)) rfl <| OSuf.nil <| SQ.normal ?_
  refine W.seq <| W.seq <| W.reg <| OSuf.aop tyOK rfl (so_assign (by simp only [lk] <;> rfl)) rfl <| OSuf.nil <| SQ.normal ?_
  -- leaf: loop
  refine W.cut (fun L h' => ∃ lv, SV h' 3 h.next (flatT (D.filter fun t => !decide (t.1.2 = ts))) lv ∧ h.next ≤ h'.next ∧ (∀ z, z < h.next → h'.get z = h.get z) ∧ L = [(0, P0 s), (4, lv)]) (W.block (W.loop (fun n L h' => ∃ (i : Nat) (lv : Value), n + i = D.length ∧ SV h' 3 h.next (flatT ((D.take i).filter fun t => !decide (t.1.2 = ts))) lv ∧ h.next ≤ h'.next ∧ (∀ z, z < h.next → h'.get z = h.get z) ∧ vLen lv ≤ i ∧ L = [(0, P0 s), (1, U64 ts), (4, lv), (5, I64 i)]) (n := D.length) ⟨0, _, by omega, .nil, Nat.le_refl _, fun _ _ => rfl, by simp [vLen], rfl⟩ ?_ ?_)) ?_
  · simp [HasA, Tr.get_put]
  · rintro n L h' ⟨i, lv, hn, hsv, hnx, hk, hvl, rfl⟩
    simp only [mkA]
    have w2 : IntKind.i64.wrap ((i : Int) + 1) = ((i + 1 : Nat) : Int) := by rw [wrap_i64 (by omega) (by omega)]; omega
    have hv' : h'.get s = some (.cells [.slice b D.length 0] 1) := by rw [hk s hlt]; exact hv
    by_cases hi : (i : Int) < (D.length : Int)
    · obtain ⟨t, ht⟩ : ∃ t, D[i]? = some t := ⟨D[i]'(by omega), by simp⟩
      obtain ⟨y, rfl, y1, y2, y3, y4⟩ := hat i (by omega)
      have y4' : h'.get y = some (.cells (flatT D) 3) := by rw [hk y y1]; exact y4
      have hc : (0 ≤ (i : Int) ∧ (i : Int) < (D.length : Int)) := by omega
      have hcell := flatT_cell ht
      simp only [t3cs] at hcell
      have tc1 : (flatT D)[i * 3 + 1]? = some (U64 t.1.2) := flatT_get 1 ht (by omega)
      have htk : (D.take (i + 1)).filter (fun t => !decide (t.1.2 = ts)) = (D.take i).filter (fun t => !decide (t.1.2 = ts)) ++ (if t.1.2 = ts then [] else [t]) := by
        rw [List.take_add_one, ht, List.filter_append]
        by_cases e : t.1.2 = ts <;> simp [e]
      by_cases he : t.1.2 = ts
      · rw [if_pos he, List.append_nil] at htk
        refine W.seq <| W.seq <| W.reg <| OSuf.aop tyOK rfl sm rfl <| OSuf.aop tyOK rfl sm rfl <| OSuf.aop tyOK rfl (so_nilCheck (by simp only [lk] <;> rfl)) rfl <| OSuf.aop tyOK rfl (so_fieldAddr (by simp only [lk] <;> rfl) (fa_ok (k := 0) ty28 rfl rfl ty26 rfl rfl)) rfl <| OSuf.aop tyOK rfl (so_load (by simp only [lk] <;> rfl) (by simp (disch := first | assumption | omega | (simp only [nx] <;> omega) | fail) only [aLoad, ty26, rowOf, hpl, hv', hc, sb, y4', tc1] <;> rfl)) rfl <| OSuf.aop tyOK rfl (so_len (by simp only [aopnds, lk] <;> rfl) (by simp (disch := first | assumption | omega | (simp only [nx] <;> omega) | fail) only [aLenOf, ty26, hpl, hv', hc, sb, y4', tc1] <;> rfl)) rfl <| OSuf.aopT tyOK rfl (so_bin (by simp only [lk] <;> rfl) (by simp only [lk] <;> rfl) bi_lss) (fun _ => rfl) (by first | rfl | assumption | ((simp only [bl, hv', hc, sb, y4', tc1]) <;> first | done | assumption | omega) | (simp; done) | (simp; omega)) <| OSuf.nil <| SQ.normal ?_
        refine W.yes (by simp only [lk] <;> rfl) <| CWp.skip <| SQ.normal ?_
        refine W.seq <| W.block <| W.seq <| W.reg <| OSuf.aop tyOK rfl sm rfl <| OSuf.aop tyOK rfl (so_nilCheck (by simp only [lk] <;> rfl)) rfl <| OSuf.aop tyOK rfl (so_fieldAddr (by simp only [lk] <;> rfl) (fa_ok (k := 0) ty28 rfl rfl ty26 rfl rfl)) rfl <| OSuf.aop tyOK rfl (so_load (by simp only [lk] <;> rfl) (by simp (disch := first | assumption | omega | (simp only [nx] <;> omega) | fail) only [aLoad, ty26, rowOf, hpl, hv', hc, sb, y4', tc1] <;> rfl)) rfl <| OSuf.aop tyOK rfl sm rfl <| OSuf.aop tyOK rfl (so_indexAddr (by simp only [lk] <;> rfl) (by simp only [lk] <;> rfl) (by simp (disch := first | assumption | omega | (simp only [nx] <;> omega) | fail) only [aIndexAddr, ty26, ty63, hpl, hv', hc, sb, y4', tc1] <;> rfl)) rfl <| OSuf.aop tyOK rfl (so_fieldAddr (by simp only [lk] <;> rfl) (fa_ok (k := 1) ty63 rfl rfl ty29 rfl rfl)) rfl <| OSuf.aop tyOK rfl (so_load (by simp only [lk] <;> rfl) (by simp (disch := first | assumption | omega | (simp only [nx] <;> omega) | fail) only [aLoad, ty29, rowOf, hpl, hv', hc, sb, y4', tc1] <;> rfl)) rfl <| OSuf.aop tyOK rfl sm rfl <| OSuf.aopF tyOK rfl (so_bin (by simp only [lk] <;> rfl) (by simp only [lk] <;> rfl) bi_neq) (fun _ => rfl) (by first | rfl | assumption | ((simp only [bl, hv', hc, sb, y4', tc1]) <;> first | done | assumption | omega) | (simp; done) | (simp; omega)) <| OSuf.nil <| SQ.normal ?_
        refine W.no (by simp only [lk] <;> rfl) <| CWp.skip <| BQ.normal <| SQ.normal ?_
        refine W.reg <| OSuf.aop tyOK rfl sm rfl <| OSuf.aop tyOK rfl (so_bin (by simp only [lk] <;> rfl) (by simp only [lk] <;> rfl) (bi_w bi_add (by first | (simp only [w2] <;> rfl) | rfl))) rfl <| OSuf.aop tyOK rfl (so_assign (by simp only [lk] <;> rfl)) rfl <| OSuf.nil <| ?_
        -- leaf: round
        refine LQ.normal (m := n - 1) (L := [(0, P0 s), (1, U64 ts), (4, lv), (5, I64 ((i + 1 : Nat) : Int))]) (by omega) ?_ ⟨i + 1, lv, by omega, by rw [htk]; exact hsv, hnx, hk, by omega, rfl⟩
        simp only [HasA, Tr.get_put, Nat.reduceEqDiff, reduceIte, w2, and_self]
      · rw [if_neg he] at htk
        have hsv2 : SV (h'.new (.cells (t3cs t) 3)) 3 h.next (flatT ((D.take i).filter fun t => !decide (t.1.2 = ts))) lv := hsv.mono (by simp only [nx]; omega) (fun z hz _ => by simp (disch := first | assumption | omega | (simp only [nx] <;> omega) | fail) only [hpl])
        obtain ⟨v', h1, e1, s1, n1, n1', k1, r1, l1⟩ := ap_any (k := 1) (x := .slice (some ⟨h'.next, 0, none⟩) 1 2) hsv2 rfl (B := t3cs t) (aCells_part (vs := t3cs t) (by simp (disch := first | assumption | omega | (simp only [nx] <;> omega) | fail) only [rowOf, hpl]) (Nat.le_refl _) rfl) rfl rfl (by omega) (by simp only [nx]; omega)
        simp only [nx] at n1 n1'
        refine W.seq <| W.seq <| W.reg <| OSuf.aop tyOK rfl sm rfl <| OSuf.aop tyOK rfl sm rfl <| OSuf.aop tyOK rfl (so_nilCheck (by simp only [lk] <;> rfl)) rfl <| OSuf.aop tyOK rfl (so_fieldAddr (by simp only [lk] <;> rfl) (fa_ok (k := 0) ty28 rfl rfl ty26 rfl rfl)) rfl <| OSuf.aop tyOK rfl (so_load (by simp only [lk] <;> rfl) (by simp (disch := first | assumption | omega | (simp only [nx] <;> omega) | fail) only [aLoad, ty26, rowOf, hpl, hv', hc, sb, y4', tc1, hcell, Value.cells, t3cs] <;> rfl)) rfl <| OSuf.aop tyOK rfl (so_len (by simp only [aopnds, lk] <;> rfl) (by simp (disch := first | assumption | omega | (simp only [nx] <;> omega) | fail) only [aLenOf, ty26, hpl, hv', hc, sb, y4', tc1, hcell, Value.cells, t3cs] <;> rfl)) rfl <| OSuf.aopT tyOK rfl (so_bin (by simp only [lk] <;> rfl) (by simp only [lk] <;> rfl) bi_lss) (fun _ => rfl) (by first | rfl | assumption | ((simp only [bl, hv', hc, sb, y4', tc1, hcell, Value.cells, t3cs]) <;> first | done | assumption | omega) | (simp; done) | (simp; omega)) <| OSuf.nil <| SQ.normal ?_
        refine W.yes (by simp only [lk] <;> rfl) <| CWp.skip <| SQ.normal ?_
        refine W.seq <| W.block <| W.seq <| W.reg <| OSuf.aop tyOK rfl sm rfl <| OSuf.aop tyOK rfl (so_nilCheck (by simp only [lk] <;> rfl)) rfl <| OSuf.aop tyOK rfl (so_fieldAddr (by simp only [lk] <;> rfl) (fa_ok (k := 0) ty28 rfl rfl ty26 rfl rfl)) rfl <| OSuf.aop tyOK rfl (so_load (by simp only [lk] <;> rfl) (by simp (disch := first | assumption | omega | (simp only [nx] <;> omega) | fail) only [aLoad, ty26, rowOf, hpl, hv', hc, sb, y4', tc1, hcell, Value.cells, t3cs] <;> rfl)) rfl <| OSuf.aop tyOK rfl sm rfl <| OSuf.aop tyOK rfl (so_indexAddr (by simp only [lk] <;> rfl) (by simp only [lk] <;> rfl) (by simp (disch := first | assumption | omega | (simp only [nx] <;> omega) | fail) only [aIndexAddr, ty26, ty63, hpl, hv', hc, sb, y4', tc1, hcell, Value.cells, t3cs] <;> rfl)) rfl <| OSuf.aop tyOK rfl (so_fieldAddr (by simp only [lk] <;> rfl) (fa_ok (k := 1) ty63 rfl rfl ty29 rfl rfl)) rfl <| OSuf.aop tyOK rfl (so_load (by simp only [lk] <;> rfl) (by simp (disch := first | assumption | omega | (simp only [nx] <;> omega) | fail) only [aLoad, ty29, rowOf, hpl, hv', hc, sb, y4', tc1, hcell, Value.cells, t3cs] <;> rfl)) rfl <| OSuf.aop tyOK rfl sm rfl <| OSuf.aopT tyOK rfl (so_bin (by simp only [lk] <;> rfl) (by simp only [lk] <;> rfl) bi_neq) (fun _ => rfl) (by first | rfl | assumption | ((simp only [bl, hv', hc, sb, y4', tc1, hcell, Value.cells, t3cs]) <;> first | done | assumption | omega) | (simp; done) | (simp; omega)) <| OSuf.nil <| SQ.normal ?_
        refine W.yes (by simp only [lk] <;> rfl) <| W.reg <| OSuf.aop tyOK rfl sm rfl <| OSuf.aop tyOK rfl sm rfl <| OSuf.aop tyOK rfl (so_nilCheck (by simp only [lk] <;> rfl)) rfl <| OSuf.aop tyOK rfl (so_fieldAddr (by simp only [lk] <;> rfl) (fa_ok (k := 0) ty28 rfl rfl ty26 rfl rfl)) rfl <| OSuf.aop tyOK rfl (so_load (by simp only [lk] <;> rfl) (by simp (disch := first | assumption | omega | (simp only [nx] <;> omega) | fail) only [aLoad, ty26, rowOf, hpl, hv', hc, sb, y4', tc1, hcell, Value.cells, t3cs] <;> rfl)) rfl <| OSuf.aop tyOK rfl sm rfl <| OSuf.aop tyOK rfl (so_indexAddr (by simp only [lk] <;> rfl) (by simp only [lk] <;> rfl) (by simp (disch := first | assumption | omega | (simp only [nx] <;> omega) | fail) only [aIndexAddr, ty26, ty63, hpl, hv', hc, sb, y4', tc1, hcell, Value.cells, t3cs] <;> rfl)) rfl <| OSuf.aop tyOK rfl (so_load (by simp only [lk] <;> rfl) (by simp (disch := first | assumption | omega | (simp only [nx] <;> omega) | fail) only [aLoad, ty63, rowOf, hpl, hv', hc, sb, y4', tc1, hcell, Value.cells, t3cs] <;> rfl)) rfl <| OSuf.aop tyOK rfl (so_buildSlice (by simp only [aparts, lk] <;> rfl) (by simp (disch := first | assumption | omega | (simp only [nx] <;> omega) | fail) only [aBuildSlice, ty26, ty63, hpl, hv', hc, sb, y4', tc1, hcell, Value.cells, t3cs] <;> rfl)) rfl <| OSuf.aop tyOK rfl (so_append (by simp only [aopnds, lk] <;> rfl) (e1 _ _ (by simp only [appT, ty26, ty63] <;> rfl) rfl (by decide))) rfl <| OSuf.aop tyOK rfl (so_assign (by simp only [lk] <;> rfl)) rfl <| OSuf.nil <| BQ.normal <| SQ.normal ?_
        refine W.reg <| OSuf.aop tyOK rfl sm rfl <| OSuf.aop tyOK rfl (so_bin (by simp only [lk] <;> rfl) (by simp only [lk] <;> rfl) (bi_w bi_add (by first | (simp only [w2] <;> rfl) | rfl))) rfl <| OSuf.aop tyOK rfl (so_assign (by simp only [lk] <;> rfl)) rfl <| OSuf.nil <| ?_
        -- leaf: round
        refine LQ.normal (m := n - 1) (L := [(0, P0 s), (1, U64 ts), (4, v'), (5, I64 ((i + 1 : Nat) : Int))]) (by omega) ?_ ⟨i + 1, v', by omega, ?_, by omega, fun z hz => ?_, by omega, rfl⟩
        · simp only [HasA, Tr.get_put, Nat.reduceEqDiff, reduceIte, w2, and_self]
        · rw [htk, flatT_append]; simpa [flatT] using s1
        · rw [k1 z (by simp only [nx]; omega) (fun e => by have := (hsv2.row e).1; omega)]
          simp (disch := first | assumption | omega | (simp only [nx] <;> omega) | fail) only [hpl]; exact hk z hz
    · refine W.seq <| W.seq <| W.reg <| OSuf.aop tyOK rfl sm rfl <| OSuf.aop tyOK rfl sm rfl <| OSuf.aop tyOK rfl (so_nilCheck (by simp only [lk] <;> rfl)) rfl <| OSuf.aop tyOK rfl (so_fieldAddr (by simp only [lk] <;> rfl) (fa_ok (k := 0) ty28 rfl rfl ty26 rfl rfl)) rfl <| OSuf.aop tyOK rfl (so_load (by simp only [lk] <;> rfl) (by simp (disch := first | assumption | omega | (simp only [nx] <;> omega) | fail) only [aLoad, ty26, rowOf, hpl, hv'] <;> rfl)) rfl <| OSuf.aop tyOK rfl (so_len (by simp only [aopnds, lk] <;> rfl) (by simp (disch := first | assumption | omega | (simp only [nx] <;> omega) | fail) only [aLenOf, ty26, hpl, hv'] <;> rfl)) rfl <| OSuf.aopF tyOK rfl (so_bin (by simp only [lk] <;> rfl) (by simp only [lk] <;> rfl) bi_lss) (fun _ => rfl) (by first | rfl | assumption | ((simp only [bl, hv']) <;> first | done | assumption | omega) | (simp; done) | (simp; omega)) <| OSuf.nil <| SQ.normal ?_
      refine W.no (by simp only [lk] <;> rfl) <| CWp.exit <| SQ.exit <| LQ.exit <| BQ.exit <| ?_
      -- leaf: cut
      rw [List.take_of_length_le (by omega)] at hsv
      refine NQ.normal (L := [(0, P0 s), (4, lv)]) ?_ ⟨lv, hsv, hnx, hk, rfl⟩
      simp only [HasA, Tr.get_put, Nat.reduceEqDiff, reduceIte, and_self]
  rintro L a' h' ha ⟨lv, hsv, hnx, hk, rfl⟩
  have hv' : h'.get s = some (.cells [.slice b D.length 0] 1) := by rw [hk s hlt]; exact hv
  obtain ⟨bb, eb, _, hrow⟩ := hsv.form
  obtain ⟨nn, hnn⟩ : ∃ nn, nn = vLen lv := ⟨_, rfl⟩
  rw [← hnn] at eb
  subst eb
  refine SQ.normal <| CWp.known ha ?_
  simp only [mkA]
  refine W.reg <| OSuf.aop tyOK rfl sm rfl <| OSuf.aop tyOK rfl sm rfl <| OSuf.aop tyOK rfl (so_nilCheck (by simp only [lk] <;> rfl)) rfl <| OSuf.aop tyOK rfl (so_fieldAddr (by simp only [lk] <;> rfl) (fa_ok (k := 0) ty28 rfl rfl ty26 rfl rfl)) rfl <| OSuf.aop tyOK rfl (so_store (by simp only [lk] <;> rfl) (by simp only [lk] <;> rfl) (by simp (disch := first | assumption | omega | (simp only [nx] <;> omega) | fail) only [aStore, ty26, writeRow, hpl, hv', Value.cells] <;> rfl)) rfl <| OSuf.nil <| FQ.normal (by simp only [aRet, Try.f14, aResults, aResult, lk, Nat.reduceEqDiff, reduceIte] <;> rfl) ?_
  -- leaf: end
  refine ⟨svRow (.slice bb nn 0), ⟨by simp only [nx]; omega, ⟨_, AHeap.get_set_same _ _ _, ?_, rfl⟩, fun y hy => ?_⟩, ⟨by simp only [nx]; omega, fun z hz g1 g2 => by rw [AHeap.get_set_ne g1]; exact hk z hz⟩, fun y hy => (hsv.row hy).1⟩
  · exact SV.mono (h := h') (hsv.low (Nat.zero_le _)) (by simp only [nx]; omega) (fun z hz hzz => AHeap.get_set_ne (by have := (hsv.row hzz).1; omega))
  · obtain ⟨q1, q2, _⟩ := hsv.row hy
    exact ⟨by omega, by simp only [nx]; omega⟩

inductive RchD (D : List T3) (x : Int) : Int → Prop
  | refl : RchD D x x
  | step {t : T3} (hr : RchD D x t.1.2) (ht : t ∈ D) (hh : t.2 = true) : RchD D x t.1.1
structure W1 (D : List T3) (ts : Int) (W : List Int) : Prop where
  hd : W[0]? = some ts
  nd : W.Nodup
  re : ∀ y ∈ W, RchD D ts y
  sub : ∀ y ∈ W, y = ts ∨ ∃ t ∈ D, t.1.1 = y
theorem W1.len {D : List T3} {ts : Int} {W : List Int} (w : W1 D ts W) : W.length ≤ D.length + 1 := by
  have := nodup_lenI (b := ts :: D.map (·.1.1)) w.nd fun y hy => by
    rcases w.sub y hy with h | ⟨t, ht, h⟩
    · rw [h]; exact List.mem_cons_self
    · exact List.mem_cons_of_mem _ (List.mem_map.2 ⟨t, ht, h⟩)
  simpa using this
def Dn (D : List T3) (W : List Int) (i : Nat) : Prop := ∀ j y, j < i → W[j]? = some y → ∀ t ∈ D, t.2 = true → t.1.2 = y → t.1.1 ∈ W
def Dk (D : List T3) (W : List Int) (g : Int) (k : Nat) : Prop := ∀ t ∈ D.take k, t.2 = true → t.1.2 = g → t.1.1 ∈ W
theorem W1.add {D : List T3} {ts n : Int} {W : List Int} (w : W1 D ts W) (hn : n ∉ W) (hr : RchD D ts n) (hs : ∃ t ∈ D, t.1.1 = n) : W1 D ts (W ++ [n]) := by
  have h0 : 0 < W.length := (List.getElem?_eq_some_iff.1 w.hd).1
  refine ⟨by rw [List.getElem?_append_left h0]; exact w.hd, List.nodup_append.2 ⟨w.nd, by simp, fun a ha b hb => ?_⟩, fun y hy => ?_, fun y hy => ?_⟩
  · simp at hb; subst hb; intro e; subst e; exact hn ha
  · rcases List.mem_append.1 hy with h | h
    · exact w.re y h
    · simp at h; subst h; exact hr
  · rcases List.mem_append.1 hy with h | h
    · exact w.sub y h
    · simp at h; subst h; exact .inr hs
theorem Dn.add {D : List T3} {W : List Int} {i : Nat} {n : Int} (d : Dn D W i) (hi : i ≤ W.length) : Dn D (W ++ [n]) i := fun j y hj hy t ht h1 h2 => by
  rw [List.getElem?_append_left (by omega)] at hy
  exact List.mem_append.2 (.inl (d j y hj hy t ht h1 h2))
theorem Dk.add {D : List T3} {W : List Int} {g : Int} {k : Nat} {n : Int} (d : Dk D W g k) : Dk D (W ++ [n]) g k := fun t ht h1 h2 => List.mem_append.2 (.inl (d t ht h1 h2))
theorem Dk.next {D : List T3} {W : List Int} {g : Int} {k : Nat} {t : T3} (d : Dk D W g k) (ht : D[k]? = some t) (h : t.2 = true → t.1.2 = g → t.1.1 ∈ W) : Dk D W g (k + 1) := fun q hq h1 h2 => by
  rw [List.take_add_one, ht] at hq
  rcases List.mem_append.1 hq with h9 | h9
  · exact d q h9 h1 h2
  · simp at h9; subst h9; exact h h1 h2
theorem Dn.next {D : List T3} {W : List Int} {i : Nat} {g : Int} (d : Dn D W i) (hg : W[i]? = some g) (k : Dk D W g D.length) : Dn D W (i + 1) := fun j y hj hy t ht h1 h2 => by
  by_cases e : j = i
  · subst e
    rw [hg] at hy; cases hy
    exact k t (by rw [List.take_of_length_le (Nat.le_refl _)]; exact ht) h1 h2
  · exact d j y (by omega) hy t ht h1 h2
theorem W1.all {D : List T3} {ts : Int} {W : List Int} (w : W1 D ts W) (d : Dn D W W.length) {y : Int} : y ∈ W ↔ RchD D ts y := by
  refine ⟨w.re y, fun h => ?_⟩
  induction h with
  | refl => exact List.mem_of_getElem? w.hd
  | @step t hr ht hh ih =>
    obtain ⟨j, hj⟩ := List.mem_iff_getElem?.1 ih
    exact d j _ (List.getElem?_eq_some_iff.1 hj).1 hj t ht hh rfl
/-- The work list, where it lies. -/
structure WA (h0 h : AHeap) (W : List Int) (g c : Nat) : Prop where
  cap : c = 0 ∨ c = W.length + 1
  lo : h0.next ≤ g
  lt : g < h.next
  row : h.get g = some (.cells (W.map (Value.int .u64)) 1)
theorem ones_ints (l : List Int) : oneCells (l.map (Value.int .u64)) = true := by
  simp only [oneCells, List.all_eq_true]
  intro x hx
  obtain ⟨y, _, rfl⟩ := List.mem_map.1 hx
  rfl
/-- One more for the work list. -/
theorem WA.app {h0 h : AHeap} {W : List Int} {g c : Nat} {n : Int} (w : WA h0 h W g c) (hl : W.length ≤ 1000000) (x : Value) (hx : aLen x = some 1) (hx2 : aCells h 1 1 x = some [Value.int .u64 n]) :
    ∃ h', (∀ ats A', appT T ats = some A' → A'.size = 1 → A'.bytes ≤ 100 → aAppend T ats (.slice (some ⟨g, 0, none⟩) W.length c) x h = some (.slice (some ⟨h.next, 0, none⟩) (W.length + 1) 0, h')) ∧ WA h0 h' (W ++ [n]) h.next 0 ∧ h'.next = h.next + 1 ∧ ∀ z, z < h0.next → h'.get z = h.get z := by
  have hg := w.lo
  have hgl := w.lt
  have hc : cellsOf (W.map (Value.int .u64)) 0 (W.length * 1) = some (W.map (Value.int .u64)) := cellsOf_all (by simp)
  rcases w.cap with rfl | rfl
  · refine ⟨(h.kill g).new (.cells (W.map (Value.int .u64) ++ [Value.int .u64 n]) 1), fun ats A' h1 h2 h3 => ?_, ⟨.inl rfl, by omega, by simp only [nx]; omega, by rw [AHeap.get_new_at (by simp only [nx]; omega)]; simp⟩, by simp only [nx], fun z hz => ?_⟩
    · have e : (2 * (W.length + 1) + 256) * A'.bytes ≤ 7000000 * 100 := Nat.mul_le_mul (by omega) h3
      have := ap_u (T := T) (h := h) (r := g) (off := 0) (len := W.length) h1 hx (by rw [h2]; exact hx2) (by omega) rfl (by rw [h2]; exact w.row) rfl (by rw [h2]; exact hc)
      rw [h2] at this; exact this
    · simp (disch := first | assumption | omega | (simp only [nx] <;> omega) | fail) only [hpl]
  · refine ⟨h.new (.cells (W.map (Value.int .u64) ++ [Value.int .u64 n]) 1), fun ats A' h1 h2 h3 => ?_, ⟨.inl rfl, by omega, by simp only [nx]; omega, by rw [AHeap.get_new_at (by omega)]; simp⟩, by simp only [nx], fun z hz => ?_⟩
    · have e : (2 * (W.length + 1) + 256) * A'.bytes ≤ 7000000 * 100 := Nat.mul_le_mul (by omega) h3
      have hb : Nat.ble ((2 * (W.length + 1) + 256) * A'.bytes) 281474976710656 = true := Nat.ble_eq_true_of_le (by omega)
      have hle : Nat.ble (W.length + 1) W.length = false := by
        cases hb : Nat.ble (W.length + 1) W.length with
        | false => rfl
        | true => have := Nat.le_of_ble_eq_true hb; omega
      have hs : sCells h 1 (.slice (some ⟨g, 0, none⟩) W.length (W.length + 1)) = some (W.map (Value.int .u64)) := by
        simp only [sCells]
        exact aCells_part (vs := W.map (Value.int .u64)) (by simp only [rowOf, w.row]) (Nat.le_refl _) hc
      simp only [aAppend, h1, hx, h2, hx2, vLen, hb, cond_true, hle, cond_false, hs]
    · simp (disch := first | assumption | omega | (simp only [nx] <;> omega) | fail) only [hpl]
theorem has_in {h : AHeap} {G : List Int} {b : Option Addr} {c : Nat} {n : Int} (hb : IntsB h G b) (hl : G.length ≤ 1000000) (hn : n ∈ G) : FWp Try.prog 32 [.slice b G.length c, U64 n] h fun u h' => u = .bool true ∧ h' = h := by
  have := has_c h G b c n hb hl
  rw [decide_eq_true hn] at this; exact this
theorem has_out {h : AHeap} {G : List Int} {b : Option Addr} {c : Nat} {n : Int} (hb : IntsB h G b) (hl : G.length ≤ 1000000) (hn : n ∉ G) : FWp Try.prog 32 [.slice b G.length c, U64 n] h fun u h' => u = .bool false ∧ h' = h := by
  have := has_c h G b c n hb hl
  rw [decide_eq_false hn] at this; exact this
theorem WA.ints {h0 h : AHeap} {W : List Int} {g c : Nat} (w : WA h0 h W g c) : IntsB h W (some ⟨g, 0, none⟩) := ⟨fun i hi => ⟨g, rfl, w.lt, w.row⟩⟩

/-! Parts of a slice of numbers. -/
theorem sl_hi {h : AHeap} {vs : List Value} {v : Value} {lo k : Nat} (s : SV h 1 lo vs v) (hk : k ≤ vLen v) : ∃ sv, aSlice T 36 v none (some (.int .i64 (k : Int))) none h = some sv ∧ aLen sv = some k ∧ aCells h 1 k sv = some (vs.take k) := by
  cases s with
  | nil =>
    have : k = 0 := by simp only [vLen] at hk; omega
    subst this
    exact ⟨_, sl_0 ty36 rfl ty29 (bounds_hi (Nat.le_refl _)), rfl, rfl⟩
  | @some y n _ h1 h2 h3 h4 =>
    simp only [vLen] at hk
    refine ⟨_, sl_u ty36 rfl ty29 (bounds_hi hk) h4, rfl, ?_⟩
    refine aCells_part (vs := vs) (by simp only [rowOf, h4]) (by omega) ?_
    have := cellsOf_mk (vs := vs) (off := 0) (n := k) (by omega)
    simpa using this
theorem sl_lo {h : AHeap} {vs : List Value} {v : Value} {lo k : Nat} (s : SV h 1 lo vs v) (hk : k ≤ vLen v) : ∃ sv, aSlice T 36 v (some (.int .i64 (k : Int))) none none h = some sv ∧ aLen sv = some (vLen v - k) ∧ aCells h 1 (vLen v - k) sv = some (vs.drop k) := by
  cases s with
  | nil =>
    have : k = 0 := by simp only [vLen] at hk; omega
    subst this
    exact ⟨_, sl_0 ty36 rfl ty29 (bounds_lo (Nat.le_refl _)), rfl, rfl⟩
  | @some y n _ h1 h2 h3 h4 =>
    simp only [vLen] at hk ⊢
    refine ⟨_, sl_u ty36 rfl ty29 (bounds_lo hk) h4, rfl, ?_⟩
    refine aCells_part (vs := vs) (by simp only [rowOf, h4]) (Nat.le_refl _) ?_
    have := cellsOf_mk (vs := vs) (off := k) (n := n - k) (by omega)
    rw [List.take_of_length_le (by simp; omega)] at this
    simpa using this
theorem ins_sorted {out : List Int} {a : Nat} {n : Int} (hs : out.Pairwise (· < ·)) (h1 : ∀ j y, j < a → out[j]? = some y → y < n) (h2 : a = out.length ∨ ∃ y, out[a]? = some y ∧ n ≤ y) (hn : n ∉ out) : (out.take a ++ [n] ++ out.drop a).Pairwise (· < ·) := by
  have hlt : ∀ y ∈ out.take a, y < n := fun y hy => by
    obtain ⟨j, hj⟩ := List.mem_iff_getElem?.1 hy
    rw [List.getElem?_take] at hj
    split at hj
    · exact h1 j y (by assumption) hj
    · cases hj
  have hgt : ∀ y ∈ out.drop a, n < y := fun y hy => by
    rcases h2 with h2 | ⟨z, hz, hnz⟩
    · rw [h2, List.drop_length] at hy; cases hy
    · have hal := (List.getElem?_eq_some_iff.1 hz).1
      have hd : out.drop a = z :: out.drop (a + 1) := by rw [List.drop_eq_getElem_cons hal]; congr 1; exact (List.getElem?_eq_some_iff.1 hz).2
      have hzn : n < z := by
        rcases Int.lt_or_eq_of_le hnz with h | h
        · exact h
        · exact (hn (by rw [h]; exact List.mem_of_getElem? hz)).elim
      have hp : (out.drop a).Pairwise (· < ·) := hs.sublist (List.drop_sublist _ _)
      rw [hd] at hp hy
      cases hy with
      | head => exact hzn
      | tail _ hy => have := (List.pairwise_cons.1 hp).1 y hy; omega
  refine List.pairwise_append.2 ⟨List.pairwise_append.2 ⟨hs.sublist (List.take_sublist _ _), by simp, fun x hx y hy => ?_⟩, hs.sublist (List.drop_sublist _ _), fun x hx y hy => ?_⟩
  · simp at hy; subst hy; exact hlt x hx
  · rcases List.mem_append.1 hx with h | h
    · have := hlt x h; have := hgt y hy; omega
    · simp at h; subst h; exact hgt y hy
def kpW (W : List Int) (t : T3) : Bool := !decide (t.1.1 ∈ W) && !decide (t.1.2 ∈ W)
end Go.Proofs.Ytfbfihfmlenklaa
