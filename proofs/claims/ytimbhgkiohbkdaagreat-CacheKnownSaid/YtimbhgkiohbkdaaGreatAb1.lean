/-
  An abstract view of the model's memory: rows by number, each lying somewhere in the world. What a value, a row, a world is under such a view; what a step may change. A world that an abstract heap is a view of; what a step may change (Ext); the steps of memory: a new row, a row that is written, one that grows in its place. The operations of a program under the view: values, fields, cells that are loaded and stored, new rows. The operations of a program under the view: fields, elements, aggregates, slices of slices. The operations of a program under the view: slices. The operations of a program under the view: append, copy, clear, len; bytes and strings. The operations of a program under the view: copy, clear, len, cap; bytes and strings; what asks nothing of memory; comparisons with nil. The operations of a program under the view: bytes and strings; what asks nothing of memory; comparisons with nil.
-/
import Derived.Calls
import Derived.Laws.Cells
import Derived.Laws.BytesString
namespace Go.Ab
set_option maxRecDepth 100000
set_option linter.unusedSimpArgs false
set_option linter.unusedVariables false
structure N8 (β : Type) where
  c0 : β
  c1 : β
  c2 : β
  c3 : β
  c4 : β
  c5 : β
  c6 : β
  c7 : β
inductive D8 where
  | o0 | o1 | o2 | o3 | o4 | o5 | o6 | o7
deriving DecidableEq
namespace D8
noncomputable def num : D8 → Nat
  | o0 => 0 | o1 => 1 | o2 => 2 | o3 => 3 | o4 => 4 | o5 => 5 | o6 => 6 | o7 => 7
noncomputable def of : Nat → D8 := @Nat.rec (fun _ => D8) o0 (fun n _ => @Nat.rec (fun _ => D8) o1 (fun n _ => @Nat.rec (fun _ => D8) o2 (fun n _ => @Nat.rec (fun _ => D8) o3 (fun n _ => @Nat.rec (fun _ => D8) o4 (fun n _ => @Nat.rec (fun _ => D8) o5 (fun n _ => @Nat.rec (fun _ => D8) o6 (fun _ _ => o7) n) n) n) n) n) n)
theorem num_of : ∀ n, n < 8 → (of n).num = n
  | 0, _ => rfl | 1, _ => rfl | 2, _ => rfl | 3, _ => rfl | 4, _ => rfl | 5, _ => rfl | 6, _ => rfl | 7, _ => rfl
  | n + 8, h => by omega
end D8
namespace N8
variable {β : Type}
noncomputable def sel : D8 → N8 β → β := @D8.rec (fun _ => N8 β → β) (fun t => t.c0) (fun t => t.c1) (fun t => t.c2) (fun t => t.c3) (fun t => t.c4) (fun t => t.c5) (fun t => t.c6) (fun t => t.c7)
noncomputable def upd : D8 → (β → β) → N8 β → N8 β := @D8.rec (fun _ => (β → β) → N8 β → N8 β) (fun f t => @N8.rec β (fun _ => (β → β) → N8 β) (fun c0 c1 c2 c3 c4 c5 c6 c7 f => ⟨f c0, c1, c2, c3, c4, c5, c6, c7⟩) t f) (fun f t => @N8.rec β (fun _ => (β → β) → N8 β) (fun c0 c1 c2 c3 c4 c5 c6 c7 f => ⟨c0, f c1, c2, c3, c4, c5, c6, c7⟩) t f) (fun f t => @N8.rec β (fun _ => (β → β) → N8 β) (fun c0 c1 c2 c3 c4 c5 c6 c7 f => ⟨c0, c1, f c2, c3, c4, c5, c6, c7⟩) t f) (fun f t => @N8.rec β (fun _ => (β → β) → N8 β) (fun c0 c1 c2 c3 c4 c5 c6 c7 f => ⟨c0, c1, c2, f c3, c4, c5, c6, c7⟩) t f) (fun f t => @N8.rec β (fun _ => (β → β) → N8 β) (fun c0 c1 c2 c3 c4 c5 c6 c7 f => ⟨c0, c1, c2, c3, f c4, c5, c6, c7⟩) t f) (fun f t => @N8.rec β (fun _ => (β → β) → N8 β) (fun c0 c1 c2 c3 c4 c5 c6 c7 f => ⟨c0, c1, c2, c3, c4, f c5, c6, c7⟩) t f) (fun f t => @N8.rec β (fun _ => (β → β) → N8 β) (fun c0 c1 c2 c3 c4 c5 c6 c7 f => ⟨c0, c1, c2, c3, c4, c5, f c6, c7⟩) t f) (fun f t => @N8.rec β (fun _ => (β → β) → N8 β) (fun c0 c1 c2 c3 c4 c5 c6 c7 f => ⟨c0, c1, c2, c3, c4, c5, c6, f c7⟩) t f)
noncomputable def con (x : β) : N8 β := ⟨x, x, x, x, x, x, x, x⟩
theorem sel_upd (f : β → β) (t : N8 β) (d e : D8) : sel e (upd d f t) = if d = e then f (sel e t) else sel e t := by
  obtain ⟨c0, c1, c2, c3, c4, c5, c6, c7⟩ := t
  cases d <;> cases e <;> rfl
theorem sel_con (x : β) (d : D8) : sel d (con x) = x := by cases d <;> rfl
theorem upd_upd {f g k : β → β} (h : ∀ c, f (g c) = k c) (t : N8 β) (d : D8) : upd d f (upd d g t) = upd d k t := by
  obtain ⟨c0, c1, c2, c3, c4, c5, c6, c7⟩ := t
  cases d <;> simp only [upd, h]
theorem upd_self {f : β → β} {t : N8 β} {d : D8} (h : f (sel d t) = sel d t) : upd d f t = t := by
  obtain ⟨c0, c1, c2, c3, c4, c5, c6, c7⟩ := t
  cases d <;> simp only [sel] at h <;> simp only [upd, h]
end N8
inductive TPath where
  | p2 (d0 d1 : D8)
  | p4 (d0 d1 d2 d3 : D8)
  | p6 (d0 d1 d2 d3 d4 d5 : D8)
  | far (n : Nat)
deriving DecidableEq
namespace TPath
noncomputable def num : TPath → Nat
  | .p2 d0 d1 => d0.num + 8 * (d1.num)
  | .p4 d0 d1 d2 d3 => d0.num + 8 * (d1.num + 8 * (d2.num + 8 * (d3.num)))
  | .p6 d0 d1 d2 d3 d4 d5 => d0.num + 8 * (d1.num + 8 * (d2.num + 8 * (d3.num + 8 * (d4.num + 8 * (d5.num)))))
  | .far n => n
@[irreducible] noncomputable def of (n : Nat) : TPath := @Bool.rec (fun _ => TPath) (@Bool.rec (fun _ => TPath) (@Bool.rec (fun _ => TPath) (.far n) (.p6 (D8.of (Nat.mod n 8)) (D8.of (Nat.mod (Nat.div n 8) 8)) (D8.of (Nat.mod (Nat.div n 64) 8)) (D8.of (Nat.mod (Nat.div n 512) 8)) (D8.of (Nat.mod (Nat.div n 4096) 8)) (D8.of (Nat.mod (Nat.div n 32768) 8))) (Nat.ble n 262143)) (.p4 (D8.of (Nat.mod n 8)) (D8.of (Nat.mod (Nat.div n 8) 8)) (D8.of (Nat.mod (Nat.div n 64) 8)) (D8.of (Nat.mod (Nat.div n 512) 8))) (Nat.ble n 4095)) (.p2 (D8.of (Nat.mod n 8)) (D8.of (Nat.mod (Nat.div n 8) 8))) (Nat.ble n 63)
theorem num_of (n : Nat) : (of n).num = n := by
  unfold of
  cases h1 : Nat.ble n 63
  · cases h2 : Nat.ble n 4095
    · cases h3 : Nat.ble n 262143
      · rfl
      · skip
        have hn : n ≤ 262143 := Nat.le_of_ble_eq_true h3
        simp only [num]
        rw [D8.num_of _ (by show n % 8 < 8; omega), D8.num_of _ (by show n / 8 % 8 < 8; omega), D8.num_of _ (by show n / 64 % 8 < 8; omega), D8.num_of _ (by show n / 512 % 8 < 8; omega), D8.num_of _ (by show n / 4096 % 8 < 8; omega), D8.num_of _ (by show n / 32768 % 8 < 8; omega)]
        show n % 8 + 8 * (n / 8 % 8 + 8 * (n / 64 % 8 + 8 * (n / 512 % 8 + 8 * (n / 4096 % 8 + 8 * (n / 32768 % 8))))) = n
        omega
    · skip
      have hn : n ≤ 4095 := Nat.le_of_ble_eq_true h2
      simp only [num]
      rw [D8.num_of _ (by show n % 8 < 8; omega), D8.num_of _ (by show n / 8 % 8 < 8; omega), D8.num_of _ (by show n / 64 % 8 < 8; omega), D8.num_of _ (by show n / 512 % 8 < 8; omega)]
      show n % 8 + 8 * (n / 8 % 8 + 8 * (n / 64 % 8 + 8 * (n / 512 % 8))) = n
      omega
  · skip
    have hn : n ≤ 63 := Nat.le_of_ble_eq_true h1
    simp only [num]
    rw [D8.num_of _ (by show n % 8 < 8; omega), D8.num_of _ (by show n / 8 % 8 < 8; omega)]
    show n % 8 + 8 * (n / 8 % 8) = n
    omega
theorem of_inj {n m : Nat} (h : of n = of m) : n = m := by rw [← num_of n, h, num_of m]
end TPath
structure Tr (α : Type) where full ::
  s : N8 (N8 (Option α))
  b : N8 (N8 (N8 (N8 (Option α))))
  c : N8 (N8 (N8 (N8 (N8 (N8 (Option α))))))
  r : Nat → Option α
namespace Tr
variable {α : Type}
noncomputable def at_ : TPath → N8 (N8 (Option α)) → N8 (N8 (N8 (N8 (Option α)))) → N8 (N8 (N8 (N8 (N8 (N8 (Option α)))))) → (Nat → Option α) → Option α := @TPath.rec (fun _ => N8 (N8 (Option α)) → N8 (N8 (N8 (N8 (Option α)))) → N8 (N8 (N8 (N8 (N8 (N8 (Option α)))))) → (Nat → Option α) → Option α) (fun d0 d1 s _ _ _ => N8.sel d1 (N8.sel d0 s)) (fun d0 d1 d2 d3 _ b _ _ => N8.sel d3 (N8.sel d2 (N8.sel d1 (N8.sel d0 b)))) (fun d0 d1 d2 d3 d4 d5 _ _ c _ => N8.sel d5 (N8.sel d4 (N8.sel d3 (N8.sel d2 (N8.sel d1 (N8.sel d0 c)))))) (fun n _ _ _ r => r n)
noncomputable def to_ : TPath → Option α → N8 (N8 (Option α)) → N8 (N8 (N8 (N8 (Option α)))) → N8 (N8 (N8 (N8 (N8 (N8 (Option α)))))) → (Nat → Option α) → Tr α := @TPath.rec (fun _ => Option α → N8 (N8 (Option α)) → N8 (N8 (N8 (N8 (Option α)))) → N8 (N8 (N8 (N8 (N8 (N8 (Option α)))))) → (Nat → Option α) → Tr α) (fun d0 d1 x s b c r => .full (N8.upd d0 (N8.upd d1 (fun _ => x)) s) b c r) (fun d0 d1 d2 d3 x s b c r => .full s (N8.upd d0 (N8.upd d1 (N8.upd d2 (N8.upd d3 (fun _ => x)))) b) c r) (fun d0 d1 d2 d3 d4 d5 x s b c r => .full s b (N8.upd d0 (N8.upd d1 (N8.upd d2 (N8.upd d3 (N8.upd d4 (N8.upd d5 (fun _ => x)))))) c) r) (fun n x s b c r => .full s b c (fun m => @Bool.rec (fun _ => Option α) (r m) x (Nat.beq n m)))
noncomputable def e2 : N8 (N8 (Option α)) := (N8.con (N8.con none))
noncomputable def e4 : N8 (N8 (N8 (N8 (Option α)))) := (N8.con (N8.con (N8.con (N8.con none))))
noncomputable def e6 : N8 (N8 (N8 (N8 (N8 (N8 (Option α)))))) := (N8.con (N8.con (N8.con (N8.con (N8.con (N8.con none))))))
noncomputable def leaf : Tr α := .full e2 e4 e6 (fun _ => none)
noncomputable def get : Tr α → Nat → Option α := @Tr.rec α (fun _ => Nat → Option α) (fun s b c r n => at_ (TPath.of n) s b c r)
noncomputable def put : Tr α → Nat → Option α → Tr α := @Tr.rec α (fun _ => Nat → Option α → Tr α) (fun s b c r n x => to_ (TPath.of n) x s b c r)
theorem g2 (t : N8 (N8 (Option α))) (x : Option α) (d0 d1 e0 e1 : D8) : N8.sel e1 (N8.sel e0 (N8.upd d0 (N8.upd d1 (fun _ => x)) t)) = if d0 = e0 ∧ d1 = e1 then x else N8.sel e1 (N8.sel e0 t) := by
  by_cases h0 : d0 = e0
  · subst h0
    rw [N8.sel_upd, if_pos rfl]
    by_cases h1 : d1 = e1
    · subst h1
      rw [N8.sel_upd, if_pos rfl]
      simp
    · rw [N8.sel_upd, if_neg h1, if_neg (fun h => h1 h.2)]
  · rw [N8.sel_upd, if_neg h0, if_neg (fun h => h0 h.1)]
theorem s2 {t : N8 (N8 (Option α))} {x : Option α} {d0 d1 : D8} (h : N8.sel d1 (N8.sel d0 t) = x) : N8.upd d0 (N8.upd d1 (fun _ => x)) t = t := (N8.upd_self (N8.upd_self h.symm))
theorem u2 (t : N8 (N8 (Option α))) (x y : Option α) (d0 d1 : D8) : N8.upd d0 (N8.upd d1 (fun _ => y)) (N8.upd d0 (N8.upd d1 (fun _ => x)) t) = N8.upd d0 (N8.upd d1 (fun _ => y)) t := (fun t => N8.upd_upd (fun t => N8.upd_upd (fun _ => rfl) t d1) t d0) t
theorem z2 (d0 d1 : D8) : N8.sel d1 (N8.sel d0 e2) = (none : Option α) := by
  unfold e2; rw [N8.sel_con, N8.sel_con]
theorem g4 (t : N8 (N8 (N8 (N8 (Option α))))) (x : Option α) (d0 d1 d2 d3 e0 e1 e2 e3 : D8) : N8.sel e3 (N8.sel e2 (N8.sel e1 (N8.sel e0 (N8.upd d0 (N8.upd d1 (N8.upd d2 (N8.upd d3 (fun _ => x)))) t)))) = if d0 = e0 ∧ d1 = e1 ∧ d2 = e2 ∧ d3 = e3 then x else N8.sel e3 (N8.sel e2 (N8.sel e1 (N8.sel e0 t))) := by
  by_cases h0 : d0 = e0
  · subst h0
    rw [N8.sel_upd, if_pos rfl]
    by_cases h1 : d1 = e1
    · subst h1
      rw [N8.sel_upd, if_pos rfl]
      by_cases h2 : d2 = e2
      · subst h2
        rw [N8.sel_upd, if_pos rfl]
        by_cases h3 : d3 = e3
        · subst h3
          rw [N8.sel_upd, if_pos rfl]
          simp
        · rw [N8.sel_upd, if_neg h3, if_neg (fun h => h3 h.2.2.2)]
      · rw [N8.sel_upd, if_neg h2, if_neg (fun h => h2 h.2.2.1)]
    · rw [N8.sel_upd, if_neg h1, if_neg (fun h => h1 h.2.1)]
  · rw [N8.sel_upd, if_neg h0, if_neg (fun h => h0 h.1)]
theorem s4 {t : N8 (N8 (N8 (N8 (Option α))))} {x : Option α} {d0 d1 d2 d3 : D8} (h : N8.sel d3 (N8.sel d2 (N8.sel d1 (N8.sel d0 t))) = x) : N8.upd d0 (N8.upd d1 (N8.upd d2 (N8.upd d3 (fun _ => x)))) t = t := (N8.upd_self (N8.upd_self (N8.upd_self (N8.upd_self h.symm))))
theorem u4 (t : N8 (N8 (N8 (N8 (Option α))))) (x y : Option α) (d0 d1 d2 d3 : D8) : N8.upd d0 (N8.upd d1 (N8.upd d2 (N8.upd d3 (fun _ => y)))) (N8.upd d0 (N8.upd d1 (N8.upd d2 (N8.upd d3 (fun _ => x)))) t) = N8.upd d0 (N8.upd d1 (N8.upd d2 (N8.upd d3 (fun _ => y)))) t := (fun t => N8.upd_upd (fun t => N8.upd_upd (fun t => N8.upd_upd (fun t => N8.upd_upd (fun _ => rfl) t d3) t d2) t d1) t d0) t
theorem z4 (d0 d1 d2 d3 : D8) : N8.sel d3 (N8.sel d2 (N8.sel d1 (N8.sel d0 e4))) = (none : Option α) := by
  unfold e4; rw [N8.sel_con, N8.sel_con, N8.sel_con, N8.sel_con]
theorem g6 (t : N8 (N8 (N8 (N8 (N8 (N8 (Option α))))))) (x : Option α) (d0 d1 d2 d3 d4 d5 e0 e1 e2 e3 e4 e5 : D8) : N8.sel e5 (N8.sel e4 (N8.sel e3 (N8.sel e2 (N8.sel e1 (N8.sel e0 (N8.upd d0 (N8.upd d1 (N8.upd d2 (N8.upd d3 (N8.upd d4 (N8.upd d5 (fun _ => x)))))) t)))))) = if d0 = e0 ∧ d1 = e1 ∧ d2 = e2 ∧ d3 = e3 ∧ d4 = e4 ∧ d5 = e5 then x else N8.sel e5 (N8.sel e4 (N8.sel e3 (N8.sel e2 (N8.sel e1 (N8.sel e0 t))))) := by
  by_cases h0 : d0 = e0
  · subst h0
    rw [N8.sel_upd, if_pos rfl]
    by_cases h1 : d1 = e1
    · subst h1
      rw [N8.sel_upd, if_pos rfl]
      by_cases h2 : d2 = e2
      · subst h2
        rw [N8.sel_upd, if_pos rfl]
        by_cases h3 : d3 = e3
        · subst h3
          rw [N8.sel_upd, if_pos rfl]
          by_cases h4 : d4 = e4
          · subst h4
            rw [N8.sel_upd, if_pos rfl]
            by_cases h5 : d5 = e5
            · subst h5
              rw [N8.sel_upd, if_pos rfl]
              simp
            · rw [N8.sel_upd, if_neg h5, if_neg (fun h => h5 h.2.2.2.2.2)]
          · rw [N8.sel_upd, if_neg h4, if_neg (fun h => h4 h.2.2.2.2.1)]
        · rw [N8.sel_upd, if_neg h3, if_neg (fun h => h3 h.2.2.2.1)]
      · rw [N8.sel_upd, if_neg h2, if_neg (fun h => h2 h.2.2.1)]
    · rw [N8.sel_upd, if_neg h1, if_neg (fun h => h1 h.2.1)]
  · rw [N8.sel_upd, if_neg h0, if_neg (fun h => h0 h.1)]
theorem s6 {t : N8 (N8 (N8 (N8 (N8 (N8 (Option α))))))} {x : Option α} {d0 d1 d2 d3 d4 d5 : D8} (h : N8.sel d5 (N8.sel d4 (N8.sel d3 (N8.sel d2 (N8.sel d1 (N8.sel d0 t))))) = x) : N8.upd d0 (N8.upd d1 (N8.upd d2 (N8.upd d3 (N8.upd d4 (N8.upd d5 (fun _ => x)))))) t = t := (N8.upd_self (N8.upd_self (N8.upd_self (N8.upd_self (N8.upd_self (N8.upd_self h.symm))))))
theorem u6 (t : N8 (N8 (N8 (N8 (N8 (N8 (Option α))))))) (x y : Option α) (d0 d1 d2 d3 d4 d5 : D8) : N8.upd d0 (N8.upd d1 (N8.upd d2 (N8.upd d3 (N8.upd d4 (N8.upd d5 (fun _ => y)))))) (N8.upd d0 (N8.upd d1 (N8.upd d2 (N8.upd d3 (N8.upd d4 (N8.upd d5 (fun _ => x)))))) t) = N8.upd d0 (N8.upd d1 (N8.upd d2 (N8.upd d3 (N8.upd d4 (N8.upd d5 (fun _ => y)))))) t := (fun t => N8.upd_upd (fun t => N8.upd_upd (fun t => N8.upd_upd (fun t => N8.upd_upd (fun t => N8.upd_upd (fun t => N8.upd_upd (fun _ => rfl) t d5) t d4) t d3) t d2) t d1) t d0) t
theorem z6 (d0 d1 d2 d3 d4 d5 : D8) : N8.sel d5 (N8.sel d4 (N8.sel d3 (N8.sel d2 (N8.sel d1 (N8.sel d0 e6))))) = (none : Option α) := by
  unfold e6; rw [N8.sel_con, N8.sel_con, N8.sel_con, N8.sel_con, N8.sel_con, N8.sel_con]
theorem at_to (s : N8 (N8 (Option α))) (b : N8 (N8 (N8 (N8 (Option α))))) (c : N8 (N8 (N8 (N8 (N8 (N8 (Option α))))))) (r : Nat → Option α) (x : Option α) (p q : TPath) : (match to_ p x s b c r with | .full s b c r => at_ q s b c r) = if p = q then x else at_ q s b c r := by
  cases p <;> cases q
  · refine (g2 _ _ _ _ _ _).trans ?_
    simp only [TPath.p2.injEq]; rfl
  · rw [if_neg (fun h => by cases h)]; rfl
  · rw [if_neg (fun h => by cases h)]; rfl
  · rw [if_neg (fun h => by cases h)]; rfl
  · rw [if_neg (fun h => by cases h)]; rfl
  · refine (g4 _ _ _ _ _ _ _ _ _ _).trans ?_
    simp only [TPath.p4.injEq]; rfl
  · rw [if_neg (fun h => by cases h)]; rfl
  · rw [if_neg (fun h => by cases h)]; rfl
  · rw [if_neg (fun h => by cases h)]; rfl
  · rw [if_neg (fun h => by cases h)]; rfl
  · refine (g6 _ _ _ _ _ _ _ _ _ _ _ _ _ _).trans ?_
    simp only [TPath.p6.injEq]; rfl
  · rw [if_neg (fun h => by cases h)]; rfl
  · rw [if_neg (fun h => by cases h)]; rfl
  · rw [if_neg (fun h => by cases h)]; rfl
  · rw [if_neg (fun h => by cases h)]; rfl
  · rename_i n m
    show @Bool.rec (fun _ => Option α) (r m) x (Nat.beq n m) = _
    by_cases h : n = m
    · subst h; rw [if_pos rfl, show Nat.beq n n = true from Nat.beq_refl n]
    · rw [if_neg (fun e => h (by cases e; rfl))]
      cases hb : Nat.beq n m
      · rfl
      · exact (h (Nat.eq_of_beq_eq_true hb)).elim
theorem get_to (s : N8 (N8 (Option α))) (b : N8 (N8 (N8 (N8 (Option α))))) (c : N8 (N8 (N8 (N8 (N8 (N8 (Option α))))))) (r : Nat → Option α) (x : Option α) (p : TPath) (m : Nat) : (to_ p x s b c r).get m = if p = TPath.of m then x else at_ (TPath.of m) s b c r := by
  rw [← at_to]; cases p <;> rfl
theorem at_e (q : TPath) : at_ q e2 e4 e6 (fun _ => none) = (none : Option α) := by
  cases q
  · exact z2 _ _
  · exact z4 _ _ _ _
  · exact z6 _ _ _ _ _ _
  · rfl
theorem get_leaf (n : Nat) : (Tr.leaf : Tr α).get n = none := at_e (TPath.of n)
theorem of_iff (n m : Nat) : TPath.of n = TPath.of m ↔ n = m := ⟨TPath.of_inj, fun h => by rw [h]⟩
theorem get_put (x : Option α) (t : Tr α) (n m : Nat) : (t.put n x).get m = if n = m then x else t.get m := by
  obtain ⟨s, b, c, r⟩ := t
  refine (get_to _ _ _ _ _ _ _).trans ?_
  simp only [of_iff]; rfl
theorem to_to (s : N8 (N8 (Option α))) (b : N8 (N8 (N8 (N8 (Option α))))) (c : N8 (N8 (N8 (N8 (N8 (N8 (Option α))))))) (r : Nat → Option α) (x y : Option α) (n : Nat) : (to_ (TPath.of n) x s b c r).put n y = to_ (TPath.of n) y s b c r := by
  have h : ∀ p : TPath, TPath.of n = p → (to_ p x s b c r).put n y = to_ p y s b c r := by
    intro p hp
    cases p <;> (show to_ (TPath.of n) y _ _ _ _ = _) <;> rw [hp]
    · exact congrArg (fun t => Tr.full t b c r) (u2 _ _ _ _ _)
    · exact congrArg (fun t => Tr.full s t c r) (u4 _ _ _ _ _ _ _)
    · exact congrArg (fun t => Tr.full s b t r) (u6 _ _ _ _ _ _ _ _ _)
    · refine congrArg (Tr.full s b c) (funext fun m => ?_)
      rename_i n'
      show @Bool.rec (fun _ => Option α) (@Bool.rec (fun _ => Option α) (r m) x (Nat.beq n' m)) y (Nat.beq n' m) = @Bool.rec (fun _ => Option α) (r m) y (Nat.beq n' m)
      cases Nat.beq n' m <;> rfl
  exact h _ rfl
theorem put_put (x y : Option α) (t : Tr α) (n : Nat) : (t.put n x).put n y = t.put n y := by
  obtain ⟨s, b, c, r⟩ := t
  exact to_to _ _ _ _ _ _ _
theorem put_self {x : α} {t : Tr α} {n : Nat} (h : t.get n = some x) : t.put n (some x) = t := by
  cases t with
  | full s b c r =>
    have g : ∀ p : TPath, at_ p s b c r = some x → to_ p (some x) s b c r = .full s b c r := by
      intro p hp
      cases p
      · exact congrArg (fun t => Tr.full t b c r) (s2 hp)
      · exact congrArg (fun t => Tr.full s t c r) (s4 hp)
      · exact congrArg (fun t => Tr.full s b t r) (s6 hp)
      · refine congrArg (Tr.full s b c) (funext fun m => ?_)
        rename_i n'
        cases hb : Nat.beq n' m
        · rfl
        · rw [← Nat.eq_of_beq_eq_true hb]; exact hp.symm
    exact g _ h
theorem get_put_same (x : Option α) (t : Tr α) (n : Nat) : (t.put n x).get n = x := by rw [get_put, if_pos rfl]
end Tr
structure ALoop where
  state : LoopState
  pending : Option Code
  fn : FuncId
  nt : Nat
  tmps : Tr Value
  params : Array Tmp
  assign : Code
  body : Code
structure AEnt where
  key : Value
  val : Value
  born : Nat
inductive AObj where
  | cells (vs : List Value) (sz : Nat)
  | ro (vs : List Value)
  | map (es : List AEnt) (clock : Nat)
  | mapIter (m : Option Nat) (since : Nat) (seen : Array Nat) (stepped : Nat)
  | strIter (s : ByteArray) (pos : Nat)
  | loop (l : ALoop)
  | tcells (vs : List Value) (t : TypeId)
  | umap (es : List AEnt)
namespace Tr
noncomputable def selO1 : D8 → N8 (Option AObj) → Option AObj := @D8.rec (fun _ => N8 (Option AObj) → Option AObj) (fun t => t.c0) (fun t => t.c1) (fun t => t.c2) (fun t => t.c3) (fun t => t.c4) (fun t => t.c5) (fun t => t.c6) (fun t => t.c7)
noncomputable def updO1 : D8 → (Option AObj → Option AObj) → N8 (Option AObj) → N8 (Option AObj) := @D8.rec (fun _ => (Option AObj → Option AObj) → N8 (Option AObj) → N8 (Option AObj)) (fun f t => @N8.rec (Option AObj) (fun _ => (Option AObj → Option AObj) → N8 (Option AObj)) (fun c0 c1 c2 c3 c4 c5 c6 c7 f => ⟨f c0, c1, c2, c3, c4, c5, c6, c7⟩) t f) (fun f t => @N8.rec (Option AObj) (fun _ => (Option AObj → Option AObj) → N8 (Option AObj)) (fun c0 c1 c2 c3 c4 c5 c6 c7 f => ⟨c0, f c1, c2, c3, c4, c5, c6, c7⟩) t f) (fun f t => @N8.rec (Option AObj) (fun _ => (Option AObj → Option AObj) → N8 (Option AObj)) (fun c0 c1 c2 c3 c4 c5 c6 c7 f => ⟨c0, c1, f c2, c3, c4, c5, c6, c7⟩) t f) (fun f t => @N8.rec (Option AObj) (fun _ => (Option AObj → Option AObj) → N8 (Option AObj)) (fun c0 c1 c2 c3 c4 c5 c6 c7 f => ⟨c0, c1, c2, f c3, c4, c5, c6, c7⟩) t f) (fun f t => @N8.rec (Option AObj) (fun _ => (Option AObj → Option AObj) → N8 (Option AObj)) (fun c0 c1 c2 c3 c4 c5 c6 c7 f => ⟨c0, c1, c2, c3, f c4, c5, c6, c7⟩) t f) (fun f t => @N8.rec (Option AObj) (fun _ => (Option AObj → Option AObj) → N8 (Option AObj)) (fun c0 c1 c2 c3 c4 c5 c6 c7 f => ⟨c0, c1, c2, c3, c4, f c5, c6, c7⟩) t f) (fun f t => @N8.rec (Option AObj) (fun _ => (Option AObj → Option AObj) → N8 (Option AObj)) (fun c0 c1 c2 c3 c4 c5 c6 c7 f => ⟨c0, c1, c2, c3, c4, c5, f c6, c7⟩) t f) (fun f t => @N8.rec (Option AObj) (fun _ => (Option AObj → Option AObj) → N8 (Option AObj)) (fun c0 c1 c2 c3 c4 c5 c6 c7 f => ⟨c0, c1, c2, c3, c4, c5, c6, f c7⟩) t f)
noncomputable def selO2 : D8 → N8 (N8 (Option AObj)) → N8 (Option AObj) := @D8.rec (fun _ => N8 (N8 (Option AObj)) → N8 (Option AObj)) (fun t => t.c0) (fun t => t.c1) (fun t => t.c2) (fun t => t.c3) (fun t => t.c4) (fun t => t.c5) (fun t => t.c6) (fun t => t.c7)
noncomputable def updO2 : D8 → (N8 (Option AObj) → N8 (Option AObj)) → N8 (N8 (Option AObj)) → N8 (N8 (Option AObj)) := @D8.rec (fun _ => (N8 (Option AObj) → N8 (Option AObj)) → N8 (N8 (Option AObj)) → N8 (N8 (Option AObj))) (fun f t => @N8.rec (N8 (Option AObj)) (fun _ => (N8 (Option AObj) → N8 (Option AObj)) → N8 (N8 (Option AObj))) (fun c0 c1 c2 c3 c4 c5 c6 c7 f => ⟨f c0, c1, c2, c3, c4, c5, c6, c7⟩) t f) (fun f t => @N8.rec (N8 (Option AObj)) (fun _ => (N8 (Option AObj) → N8 (Option AObj)) → N8 (N8 (Option AObj))) (fun c0 c1 c2 c3 c4 c5 c6 c7 f => ⟨c0, f c1, c2, c3, c4, c5, c6, c7⟩) t f) (fun f t => @N8.rec (N8 (Option AObj)) (fun _ => (N8 (Option AObj) → N8 (Option AObj)) → N8 (N8 (Option AObj))) (fun c0 c1 c2 c3 c4 c5 c6 c7 f => ⟨c0, c1, f c2, c3, c4, c5, c6, c7⟩) t f) (fun f t => @N8.rec (N8 (Option AObj)) (fun _ => (N8 (Option AObj) → N8 (Option AObj)) → N8 (N8 (Option AObj))) (fun c0 c1 c2 c3 c4 c5 c6 c7 f => ⟨c0, c1, c2, f c3, c4, c5, c6, c7⟩) t f) (fun f t => @N8.rec (N8 (Option AObj)) (fun _ => (N8 (Option AObj) → N8 (Option AObj)) → N8 (N8 (Option AObj))) (fun c0 c1 c2 c3 c4 c5 c6 c7 f => ⟨c0, c1, c2, c3, f c4, c5, c6, c7⟩) t f) (fun f t => @N8.rec (N8 (Option AObj)) (fun _ => (N8 (Option AObj) → N8 (Option AObj)) → N8 (N8 (Option AObj))) (fun c0 c1 c2 c3 c4 c5 c6 c7 f => ⟨c0, c1, c2, c3, c4, f c5, c6, c7⟩) t f) (fun f t => @N8.rec (N8 (Option AObj)) (fun _ => (N8 (Option AObj) → N8 (Option AObj)) → N8 (N8 (Option AObj))) (fun c0 c1 c2 c3 c4 c5 c6 c7 f => ⟨c0, c1, c2, c3, c4, c5, f c6, c7⟩) t f) (fun f t => @N8.rec (N8 (Option AObj)) (fun _ => (N8 (Option AObj) → N8 (Option AObj)) → N8 (N8 (Option AObj))) (fun c0 c1 c2 c3 c4 c5 c6 c7 f => ⟨c0, c1, c2, c3, c4, c5, c6, f c7⟩) t f)
noncomputable def selO3 : D8 → N8 (N8 (N8 (Option AObj))) → N8 (N8 (Option AObj)) := @D8.rec (fun _ => N8 (N8 (N8 (Option AObj))) → N8 (N8 (Option AObj))) (fun t => t.c0) (fun t => t.c1) (fun t => t.c2) (fun t => t.c3) (fun t => t.c4) (fun t => t.c5) (fun t => t.c6) (fun t => t.c7)
noncomputable def updO3 : D8 → (N8 (N8 (Option AObj)) → N8 (N8 (Option AObj))) → N8 (N8 (N8 (Option AObj))) → N8 (N8 (N8 (Option AObj))) := @D8.rec (fun _ => (N8 (N8 (Option AObj)) → N8 (N8 (Option AObj))) → N8 (N8 (N8 (Option AObj))) → N8 (N8 (N8 (Option AObj)))) (fun f t => @N8.rec (N8 (N8 (Option AObj))) (fun _ => (N8 (N8 (Option AObj)) → N8 (N8 (Option AObj))) → N8 (N8 (N8 (Option AObj)))) (fun c0 c1 c2 c3 c4 c5 c6 c7 f => ⟨f c0, c1, c2, c3, c4, c5, c6, c7⟩) t f) (fun f t => @N8.rec (N8 (N8 (Option AObj))) (fun _ => (N8 (N8 (Option AObj)) → N8 (N8 (Option AObj))) → N8 (N8 (N8 (Option AObj)))) (fun c0 c1 c2 c3 c4 c5 c6 c7 f => ⟨c0, f c1, c2, c3, c4, c5, c6, c7⟩) t f) (fun f t => @N8.rec (N8 (N8 (Option AObj))) (fun _ => (N8 (N8 (Option AObj)) → N8 (N8 (Option AObj))) → N8 (N8 (N8 (Option AObj)))) (fun c0 c1 c2 c3 c4 c5 c6 c7 f => ⟨c0, c1, f c2, c3, c4, c5, c6, c7⟩) t f) (fun f t => @N8.rec (N8 (N8 (Option AObj))) (fun _ => (N8 (N8 (Option AObj)) → N8 (N8 (Option AObj))) → N8 (N8 (N8 (Option AObj)))) (fun c0 c1 c2 c3 c4 c5 c6 c7 f => ⟨c0, c1, c2, f c3, c4, c5, c6, c7⟩) t f) (fun f t => @N8.rec (N8 (N8 (Option AObj))) (fun _ => (N8 (N8 (Option AObj)) → N8 (N8 (Option AObj))) → N8 (N8 (N8 (Option AObj)))) (fun c0 c1 c2 c3 c4 c5 c6 c7 f => ⟨c0, c1, c2, c3, f c4, c5, c6, c7⟩) t f) (fun f t => @N8.rec (N8 (N8 (Option AObj))) (fun _ => (N8 (N8 (Option AObj)) → N8 (N8 (Option AObj))) → N8 (N8 (N8 (Option AObj)))) (fun c0 c1 c2 c3 c4 c5 c6 c7 f => ⟨c0, c1, c2, c3, c4, f c5, c6, c7⟩) t f) (fun f t => @N8.rec (N8 (N8 (Option AObj))) (fun _ => (N8 (N8 (Option AObj)) → N8 (N8 (Option AObj))) → N8 (N8 (N8 (Option AObj)))) (fun c0 c1 c2 c3 c4 c5 c6 c7 f => ⟨c0, c1, c2, c3, c4, c5, f c6, c7⟩) t f) (fun f t => @N8.rec (N8 (N8 (Option AObj))) (fun _ => (N8 (N8 (Option AObj)) → N8 (N8 (Option AObj))) → N8 (N8 (N8 (Option AObj)))) (fun c0 c1 c2 c3 c4 c5 c6 c7 f => ⟨c0, c1, c2, c3, c4, c5, c6, f c7⟩) t f)
noncomputable def selO4 : D8 → N8 (N8 (N8 (N8 (Option AObj)))) → N8 (N8 (N8 (Option AObj))) := @D8.rec (fun _ => N8 (N8 (N8 (N8 (Option AObj)))) → N8 (N8 (N8 (Option AObj)))) (fun t => t.c0) (fun t => t.c1) (fun t => t.c2) (fun t => t.c3) (fun t => t.c4) (fun t => t.c5) (fun t => t.c6) (fun t => t.c7)
noncomputable def updO4 : D8 → (N8 (N8 (N8 (Option AObj))) → N8 (N8 (N8 (Option AObj)))) → N8 (N8 (N8 (N8 (Option AObj)))) → N8 (N8 (N8 (N8 (Option AObj)))) := @D8.rec (fun _ => (N8 (N8 (N8 (Option AObj))) → N8 (N8 (N8 (Option AObj)))) → N8 (N8 (N8 (N8 (Option AObj)))) → N8 (N8 (N8 (N8 (Option AObj))))) (fun f t => @N8.rec (N8 (N8 (N8 (Option AObj)))) (fun _ => (N8 (N8 (N8 (Option AObj))) → N8 (N8 (N8 (Option AObj)))) → N8 (N8 (N8 (N8 (Option AObj))))) (fun c0 c1 c2 c3 c4 c5 c6 c7 f => ⟨f c0, c1, c2, c3, c4, c5, c6, c7⟩) t f) (fun f t => @N8.rec (N8 (N8 (N8 (Option AObj)))) (fun _ => (N8 (N8 (N8 (Option AObj))) → N8 (N8 (N8 (Option AObj)))) → N8 (N8 (N8 (N8 (Option AObj))))) (fun c0 c1 c2 c3 c4 c5 c6 c7 f => ⟨c0, f c1, c2, c3, c4, c5, c6, c7⟩) t f) (fun f t => @N8.rec (N8 (N8 (N8 (Option AObj)))) (fun _ => (N8 (N8 (N8 (Option AObj))) → N8 (N8 (N8 (Option AObj)))) → N8 (N8 (N8 (N8 (Option AObj))))) (fun c0 c1 c2 c3 c4 c5 c6 c7 f => ⟨c0, c1, f c2, c3, c4, c5, c6, c7⟩) t f) (fun f t => @N8.rec (N8 (N8 (N8 (Option AObj)))) (fun _ => (N8 (N8 (N8 (Option AObj))) → N8 (N8 (N8 (Option AObj)))) → N8 (N8 (N8 (N8 (Option AObj))))) (fun c0 c1 c2 c3 c4 c5 c6 c7 f => ⟨c0, c1, c2, f c3, c4, c5, c6, c7⟩) t f) (fun f t => @N8.rec (N8 (N8 (N8 (Option AObj)))) (fun _ => (N8 (N8 (N8 (Option AObj))) → N8 (N8 (N8 (Option AObj)))) → N8 (N8 (N8 (N8 (Option AObj))))) (fun c0 c1 c2 c3 c4 c5 c6 c7 f => ⟨c0, c1, c2, c3, f c4, c5, c6, c7⟩) t f) (fun f t => @N8.rec (N8 (N8 (N8 (Option AObj)))) (fun _ => (N8 (N8 (N8 (Option AObj))) → N8 (N8 (N8 (Option AObj)))) → N8 (N8 (N8 (N8 (Option AObj))))) (fun c0 c1 c2 c3 c4 c5 c6 c7 f => ⟨c0, c1, c2, c3, c4, f c5, c6, c7⟩) t f) (fun f t => @N8.rec (N8 (N8 (N8 (Option AObj)))) (fun _ => (N8 (N8 (N8 (Option AObj))) → N8 (N8 (N8 (Option AObj)))) → N8 (N8 (N8 (N8 (Option AObj))))) (fun c0 c1 c2 c3 c4 c5 c6 c7 f => ⟨c0, c1, c2, c3, c4, c5, f c6, c7⟩) t f) (fun f t => @N8.rec (N8 (N8 (N8 (Option AObj)))) (fun _ => (N8 (N8 (N8 (Option AObj))) → N8 (N8 (N8 (Option AObj)))) → N8 (N8 (N8 (N8 (Option AObj))))) (fun c0 c1 c2 c3 c4 c5 c6 c7 f => ⟨c0, c1, c2, c3, c4, c5, c6, f c7⟩) t f)
noncomputable def selO5 : D8 → N8 (N8 (N8 (N8 (N8 (Option AObj))))) → N8 (N8 (N8 (N8 (Option AObj)))) := @D8.rec (fun _ => N8 (N8 (N8 (N8 (N8 (Option AObj))))) → N8 (N8 (N8 (N8 (Option AObj))))) (fun t => t.c0) (fun t => t.c1) (fun t => t.c2) (fun t => t.c3) (fun t => t.c4) (fun t => t.c5) (fun t => t.c6) (fun t => t.c7)
noncomputable def updO5 : D8 → (N8 (N8 (N8 (N8 (Option AObj)))) → N8 (N8 (N8 (N8 (Option AObj))))) → N8 (N8 (N8 (N8 (N8 (Option AObj))))) → N8 (N8 (N8 (N8 (N8 (Option AObj))))) := @D8.rec (fun _ => (N8 (N8 (N8 (N8 (Option AObj)))) → N8 (N8 (N8 (N8 (Option AObj))))) → N8 (N8 (N8 (N8 (N8 (Option AObj))))) → N8 (N8 (N8 (N8 (N8 (Option AObj)))))) (fun f t => @N8.rec (N8 (N8 (N8 (N8 (Option AObj))))) (fun _ => (N8 (N8 (N8 (N8 (Option AObj)))) → N8 (N8 (N8 (N8 (Option AObj))))) → N8 (N8 (N8 (N8 (N8 (Option AObj)))))) (fun c0 c1 c2 c3 c4 c5 c6 c7 f => ⟨f c0, c1, c2, c3, c4, c5, c6, c7⟩) t f) (fun f t => @N8.rec (N8 (N8 (N8 (N8 (Option AObj))))) (fun _ => (N8 (N8 (N8 (N8 (Option AObj)))) → N8 (N8 (N8 (N8 (Option AObj))))) → N8 (N8 (N8 (N8 (N8 (Option AObj)))))) (fun c0 c1 c2 c3 c4 c5 c6 c7 f => ⟨c0, f c1, c2, c3, c4, c5, c6, c7⟩) t f) (fun f t => @N8.rec (N8 (N8 (N8 (N8 (Option AObj))))) (fun _ => (N8 (N8 (N8 (N8 (Option AObj)))) → N8 (N8 (N8 (N8 (Option AObj))))) → N8 (N8 (N8 (N8 (N8 (Option AObj)))))) (fun c0 c1 c2 c3 c4 c5 c6 c7 f => ⟨c0, c1, f c2, c3, c4, c5, c6, c7⟩) t f) (fun f t => @N8.rec (N8 (N8 (N8 (N8 (Option AObj))))) (fun _ => (N8 (N8 (N8 (N8 (Option AObj)))) → N8 (N8 (N8 (N8 (Option AObj))))) → N8 (N8 (N8 (N8 (N8 (Option AObj)))))) (fun c0 c1 c2 c3 c4 c5 c6 c7 f => ⟨c0, c1, c2, f c3, c4, c5, c6, c7⟩) t f) (fun f t => @N8.rec (N8 (N8 (N8 (N8 (Option AObj))))) (fun _ => (N8 (N8 (N8 (N8 (Option AObj)))) → N8 (N8 (N8 (N8 (Option AObj))))) → N8 (N8 (N8 (N8 (N8 (Option AObj)))))) (fun c0 c1 c2 c3 c4 c5 c6 c7 f => ⟨c0, c1, c2, c3, f c4, c5, c6, c7⟩) t f) (fun f t => @N8.rec (N8 (N8 (N8 (N8 (Option AObj))))) (fun _ => (N8 (N8 (N8 (N8 (Option AObj)))) → N8 (N8 (N8 (N8 (Option AObj))))) → N8 (N8 (N8 (N8 (N8 (Option AObj)))))) (fun c0 c1 c2 c3 c4 c5 c6 c7 f => ⟨c0, c1, c2, c3, c4, f c5, c6, c7⟩) t f) (fun f t => @N8.rec (N8 (N8 (N8 (N8 (Option AObj))))) (fun _ => (N8 (N8 (N8 (N8 (Option AObj)))) → N8 (N8 (N8 (N8 (Option AObj))))) → N8 (N8 (N8 (N8 (N8 (Option AObj)))))) (fun c0 c1 c2 c3 c4 c5 c6 c7 f => ⟨c0, c1, c2, c3, c4, c5, f c6, c7⟩) t f) (fun f t => @N8.rec (N8 (N8 (N8 (N8 (Option AObj))))) (fun _ => (N8 (N8 (N8 (N8 (Option AObj)))) → N8 (N8 (N8 (N8 (Option AObj))))) → N8 (N8 (N8 (N8 (N8 (Option AObj)))))) (fun c0 c1 c2 c3 c4 c5 c6 c7 f => ⟨c0, c1, c2, c3, c4, c5, c6, f c7⟩) t f)
noncomputable def selO6 : D8 → N8 (N8 (N8 (N8 (N8 (N8 (Option AObj)))))) → N8 (N8 (N8 (N8 (N8 (Option AObj))))) := @D8.rec (fun _ => N8 (N8 (N8 (N8 (N8 (N8 (Option AObj)))))) → N8 (N8 (N8 (N8 (N8 (Option AObj)))))) (fun t => t.c0) (fun t => t.c1) (fun t => t.c2) (fun t => t.c3) (fun t => t.c4) (fun t => t.c5) (fun t => t.c6) (fun t => t.c7)
noncomputable def updO6 : D8 → (N8 (N8 (N8 (N8 (N8 (Option AObj))))) → N8 (N8 (N8 (N8 (N8 (Option AObj)))))) → N8 (N8 (N8 (N8 (N8 (N8 (Option AObj)))))) → N8 (N8 (N8 (N8 (N8 (N8 (Option AObj)))))) := @D8.rec (fun _ => (N8 (N8 (N8 (N8 (N8 (Option AObj))))) → N8 (N8 (N8 (N8 (N8 (Option AObj)))))) → N8 (N8 (N8 (N8 (N8 (N8 (Option AObj)))))) → N8 (N8 (N8 (N8 (N8 (N8 (Option AObj))))))) (fun f t => @N8.rec (N8 (N8 (N8 (N8 (N8 (Option AObj)))))) (fun _ => (N8 (N8 (N8 (N8 (N8 (Option AObj))))) → N8 (N8 (N8 (N8 (N8 (Option AObj)))))) → N8 (N8 (N8 (N8 (N8 (N8 (Option AObj))))))) (fun c0 c1 c2 c3 c4 c5 c6 c7 f => ⟨f c0, c1, c2, c3, c4, c5, c6, c7⟩) t f) (fun f t => @N8.rec (N8 (N8 (N8 (N8 (N8 (Option AObj)))))) (fun _ => (N8 (N8 (N8 (N8 (N8 (Option AObj))))) → N8 (N8 (N8 (N8 (N8 (Option AObj)))))) → N8 (N8 (N8 (N8 (N8 (N8 (Option AObj))))))) (fun c0 c1 c2 c3 c4 c5 c6 c7 f => ⟨c0, f c1, c2, c3, c4, c5, c6, c7⟩) t f) (fun f t => @N8.rec (N8 (N8 (N8 (N8 (N8 (Option AObj)))))) (fun _ => (N8 (N8 (N8 (N8 (N8 (Option AObj))))) → N8 (N8 (N8 (N8 (N8 (Option AObj)))))) → N8 (N8 (N8 (N8 (N8 (N8 (Option AObj))))))) (fun c0 c1 c2 c3 c4 c5 c6 c7 f => ⟨c0, c1, f c2, c3, c4, c5, c6, c7⟩) t f) (fun f t => @N8.rec (N8 (N8 (N8 (N8 (N8 (Option AObj)))))) (fun _ => (N8 (N8 (N8 (N8 (N8 (Option AObj))))) → N8 (N8 (N8 (N8 (N8 (Option AObj)))))) → N8 (N8 (N8 (N8 (N8 (N8 (Option AObj))))))) (fun c0 c1 c2 c3 c4 c5 c6 c7 f => ⟨c0, c1, c2, f c3, c4, c5, c6, c7⟩) t f) (fun f t => @N8.rec (N8 (N8 (N8 (N8 (N8 (Option AObj)))))) (fun _ => (N8 (N8 (N8 (N8 (N8 (Option AObj))))) → N8 (N8 (N8 (N8 (N8 (Option AObj)))))) → N8 (N8 (N8 (N8 (N8 (N8 (Option AObj))))))) (fun c0 c1 c2 c3 c4 c5 c6 c7 f => ⟨c0, c1, c2, c3, f c4, c5, c6, c7⟩) t f) (fun f t => @N8.rec (N8 (N8 (N8 (N8 (N8 (Option AObj)))))) (fun _ => (N8 (N8 (N8 (N8 (N8 (Option AObj))))) → N8 (N8 (N8 (N8 (N8 (Option AObj)))))) → N8 (N8 (N8 (N8 (N8 (N8 (Option AObj))))))) (fun c0 c1 c2 c3 c4 c5 c6 c7 f => ⟨c0, c1, c2, c3, c4, f c5, c6, c7⟩) t f) (fun f t => @N8.rec (N8 (N8 (N8 (N8 (N8 (Option AObj)))))) (fun _ => (N8 (N8 (N8 (N8 (N8 (Option AObj))))) → N8 (N8 (N8 (N8 (N8 (Option AObj)))))) → N8 (N8 (N8 (N8 (N8 (N8 (Option AObj))))))) (fun c0 c1 c2 c3 c4 c5 c6 c7 f => ⟨c0, c1, c2, c3, c4, c5, f c6, c7⟩) t f) (fun f t => @N8.rec (N8 (N8 (N8 (N8 (N8 (Option AObj)))))) (fun _ => (N8 (N8 (N8 (N8 (N8 (Option AObj))))) → N8 (N8 (N8 (N8 (N8 (Option AObj)))))) → N8 (N8 (N8 (N8 (N8 (N8 (Option AObj))))))) (fun c0 c1 c2 c3 c4 c5 c6 c7 f => ⟨c0, c1, c2, c3, c4, c5, c6, f c7⟩) t f)
noncomputable def atO : TPath → N8 (N8 (Option AObj)) → N8 (N8 (N8 (N8 (Option AObj)))) → N8 (N8 (N8 (N8 (N8 (N8 (Option AObj)))))) → (Nat → Option AObj) → Option AObj := @TPath.rec (fun _ => N8 (N8 (Option AObj)) → N8 (N8 (N8 (N8 (Option AObj)))) → N8 (N8 (N8 (N8 (N8 (N8 (Option AObj)))))) → (Nat → Option AObj) → Option AObj) (fun d0 d1 s _ _ _ => selO1 d1 (selO2 d0 s)) (fun d0 d1 d2 d3 _ b _ _ => selO1 d3 (selO2 d2 (selO3 d1 (selO4 d0 b)))) (fun d0 d1 d2 d3 d4 d5 _ _ c _ => selO1 d5 (selO2 d4 (selO3 d3 (selO4 d2 (selO5 d1 (selO6 d0 c)))))) (fun n _ _ _ r => r n)
noncomputable def toO : TPath → Option AObj → N8 (N8 (Option AObj)) → N8 (N8 (N8 (N8 (Option AObj)))) → N8 (N8 (N8 (N8 (N8 (N8 (Option AObj)))))) → (Nat → Option AObj) → Tr AObj := @TPath.rec (fun _ => Option AObj → N8 (N8 (Option AObj)) → N8 (N8 (N8 (N8 (Option AObj)))) → N8 (N8 (N8 (N8 (N8 (N8 (Option AObj)))))) → (Nat → Option AObj) → Tr AObj) (fun d0 d1 x s b c r => .full (updO2 d0 (updO1 d1 (fun _ => x)) s) b c r) (fun d0 d1 d2 d3 x s b c r => .full s (updO4 d0 (updO3 d1 (updO2 d2 (updO1 d3 (fun _ => x)))) b) c r) (fun d0 d1 d2 d3 d4 d5 x s b c r => .full s b (updO6 d0 (updO5 d1 (updO4 d2 (updO3 d3 (updO2 d4 (updO1 d5 (fun _ => x)))))) c) r) (fun n x s b c r => .full s b c (fun m => @Bool.rec (fun _ => Option AObj) (r m) x (Nat.beq n m)))
noncomputable def getO : Tr AObj → Nat → Option AObj := @Tr.rec AObj (fun _ => Nat → Option AObj) (fun s b c r n => atO (TPath.of n) s b c r)
noncomputable def putO : Tr AObj → Nat → Option AObj → Tr AObj := @Tr.rec AObj (fun _ => Nat → Option AObj → Tr AObj) (fun s b c r n x => toO (TPath.of n) x s b c r)
end Tr
noncomputable def AObj.own : AObj → Bool
  | .ro _ => false
  | _ => true
structure AHeap where
  next : Nat
  rows : Tr AObj
namespace AHeap
noncomputable def get (h : AHeap) (r : Nat) : Option AObj := Tr.getO h.rows r
noncomputable def set (h : AHeap) (r : Nat) (o : AObj) : AHeap := { h with rows := Tr.putO h.rows r (some o) }
noncomputable def kill (h : AHeap) (r : Nat) : AHeap := { h with rows := Tr.putO h.rows r none }
noncomputable def new (h : AHeap) (o : AObj) : AHeap := { next := h.next + 1, rows := Tr.putO h.rows h.next (some o) }
theorem get_set (h : AHeap) (r q : Nat) (o : AObj) : (h.set r o).get q = if r = q then some o else h.get q := Tr.get_put _ _ _ _
theorem get_kill (h : AHeap) (r q : Nat) : (h.kill r).get q = if r = q then none else h.get q := Tr.get_put _ _ _ _
theorem get_new (h : AHeap) (q : Nat) (o : AObj) : (h.new o).get q = if h.next = q then some o else h.get q := Tr.get_put _ _ _ _
@[simp] theorem next_set (h : AHeap) (r : Nat) (o : AObj) : (h.set r o).next = h.next := rfl
@[simp] theorem next_kill (h : AHeap) (r : Nat) : (h.kill r).next = h.next := rfl
@[simp] theorem next_new (h : AHeap) (o : AObj) : (h.new o).next = h.next + 1 := rfl
end AHeap
structure Ent where
  b : Nat
  d : Nat
  ext : Nat
  sz : Nat
noncomputable def Emb : Type := Nat → Option Ent
mutual
inductive VRel (μ : Emb) (n : Nat) : Value → Value → Prop
  | bool (b : Bool) : VRel μ n (.bool b) (.bool b)
  | int (k : IntKind) (i : Int) : VRel μ n (.int k i) (.int k i)
  | float (k : FloatKind) (x : Nat) : VRel μ n (.float k x) (.float k x)
  | complex (k : FloatKind) (x y : Nat) : VRel μ n (.complex k x y) (.complex k x y)
  | string (s : ByteArray) : VRel μ n (.string s) (.string s)
  | ptr0 : VRel μ n (.pointer none) (.pointer none)
  | ptr {r off : Nat} {e : Ent} (hr : r < n) (hm : μ r = some e) : VRel μ n (.pointer (some ⟨r, off, none⟩)) (.pointer (some ⟨e.b, e.d + off, none⟩))
  | slice0 : VRel μ n (.slice none 0 0) (.slice none 0 0)
  | sliceK {r off len c : Nat} {e : Ent} (hr : r < n) (hm : μ r = some e) : VRel μ n (.slice (some ⟨r, off, none⟩) len (c + 1)) (.slice (some ⟨e.b, e.d + off, none⟩) len c)
  | sliceU {r off len cap : Nat} {e : Ent} (hr : r < n) (hm : μ r = some e) (hl : len ≤ cap) (hc : off + cap * e.sz ≤ e.ext) :
      VRel μ n (.slice (some ⟨r, off, none⟩) len 0) (.slice (some ⟨e.b, e.d + off, none⟩) len cap)
  | sliceZ {r off x : Nat} {sp : Option Nat} {e : Ent} (hr : r < n) (hm : μ r = some e) : VRel μ n (.slice (some ⟨r, off, none⟩) 0 0) (.slice (some ⟨e.b, x, sp⟩) 0 0)
  | sliceKZ {r off x : Nat} {sp : Option Nat} {e : Ent} (hr : r < n) (hm : μ r = some e) : VRel μ n (.slice (some ⟨r, off, none⟩) 0 1) (.slice (some ⟨e.b, x, sp⟩) 0 0)
  | map0 : VRel μ n (.map none) (.map none)
  | map {r : Nat} {e : Ent} (hr : r < n) (hm : μ r = some e) : VRel μ n (.map (some r)) (.map (some e.b))
  | func {f : Fn} {a a' c c' : Array Value} (hf : ∀ l, f ≠ .yield l) (ha : LRel μ n a.toList a'.toList) (hc : LRel μ n c.toList c'.toList) : VRel μ n (.func f a c) (.func f a' c')
  | yield {l : Nat} {e : Ent} (hr : l < n) (hm : μ l = some e) : VRel μ n (.func (.yield l) #[] #[]) (.func (.yield e.b) #[] #[])
  | nilFunc : VRel μ n .nilFunc .nilFunc
  | iface {t : TypeId} {v v' : Value} (h : VRel μ n v v') : VRel μ n (.iface t v) (.iface t v')
  | nilIface : VRel μ n .nilIface .nilIface
  | agg {a a' : Array Value} (h : LRel μ n a.toList a'.toList) : VRel μ n (.agg a) (.agg a')
  | tuple {a a' : Array Value} (h : LRel μ n a.toList a'.toList) : VRel μ n (.tuple a) (.tuple a')
inductive LRel (μ : Emb) (n : Nat) : List Value → List Value → Prop
  | nil : LRel μ n [] []
  | cons {v v' : Value} {l l' : List Value} (h : VRel μ n v v') (t : LRel μ n l l') : LRel μ n (v :: l) (v' :: l')
end
noncomputable def Agree (n : Nat) (μ μ' : Emb) : Prop := ∀ r, r < n → μ' r = μ r
theorem Agree.refl (n : Nat) (μ : Emb) : Agree n μ μ := fun _ _ => rfl
theorem Agree.mono {n m : Nat} {μ μ' : Emb} (h : Agree m μ μ') (hn : n ≤ m) : Agree n μ μ' := fun r hr => h r (by omega)
theorem Agree.trans {n m : Nat} {μ μ' μ'' : Emb} (h : Agree n μ μ') (h' : Agree m μ' μ'') (hn : n ≤ m) : Agree n μ μ'' :=
  fun r hr => (h' r (by omega)).trans (h r hr)
mutual
theorem VRel.mono {μ μ' : Emb} {n m : Nat} (ha : Agree n μ μ') (hn : n ≤ m) : ∀ {v v' : Value}, VRel μ n v v' → VRel μ' m v v'
  | _, _, .bool b => .bool b
  | _, _, .int k i => .int k i
  | _, _, .float k x => .float k x
  | _, _, .complex k x y => .complex k x y
  | _, _, .string s => .string s
  | _, _, .ptr0 => .ptr0
  | _, _, .ptr hr hm => .ptr (by omega) ((ha _ hr).trans hm)
  | _, _, .slice0 => .slice0
  | _, _, .sliceK hr hm => .sliceK (by omega) ((ha _ hr).trans hm)
  | _, _, .sliceU hr hm hl hc => .sliceU (by omega) ((ha _ hr).trans hm) hl hc
  | _, _, .sliceZ hr hm => .sliceZ (by omega) ((ha _ hr).trans hm)
  | _, _, .sliceKZ hr hm => .sliceKZ (by omega) ((ha _ hr).trans hm)
  | _, _, .map0 => .map0
  | _, _, .map hr hm => .map (by omega) ((ha _ hr).trans hm)
  | _, _, .func hf h1 h2 => .func hf (LRel.mono ha hn h1) (LRel.mono ha hn h2)
  | _, _, .yield hr hm => .yield (by omega) ((ha _ hr).trans hm)
  | _, _, .nilFunc => .nilFunc
  | _, _, .iface h => .iface (VRel.mono ha hn h)
  | _, _, .nilIface => .nilIface
  | _, _, .agg h => .agg (LRel.mono ha hn h)
  | _, _, .tuple h => .tuple (LRel.mono ha hn h)
theorem LRel.mono {μ μ' : Emb} {n m : Nat} (ha : Agree n μ μ') (hn : n ≤ m) : ∀ {l l' : List Value}, LRel μ n l l' → LRel μ' m l l'
  | _, _, .nil => .nil
  | _, _, .cons h t => .cons (VRel.mono ha hn h) (LRel.mono ha hn t)
end
namespace LRel
variable {μ : Emb} {n : Nat}
theorem length : ∀ {l l' : List Value}, LRel μ n l l' → l.length = l'.length
  | _, _, .nil => rfl
  | _, _, .cons _ t => by simp [length t]
theorem getElem? : ∀ {l l' : List Value}, LRel μ n l l' → ∀ (i : Nat) {v : Value}, l[i]? = some v → ∃ v', l'[i]? = some v' ∧ VRel μ n v v'
  | _, _, .nil, i, v, h => by simp at h
  | _, _, .cons h t, i, v, hv => by
    cases i with
    | zero => simp at hv; subst hv; exact ⟨_, by simp, h⟩
    | succ i => simp at hv; obtain ⟨v', h1, h2⟩ := getElem? t i hv; exact ⟨v', by simpa using h1, h2⟩
theorem of_getElem? : ∀ {l l' : List Value}, l.length = l'.length → (∀ (i : Nat) (v v' : Value), l[i]? = some v → l'[i]? = some v' → VRel μ n v v') → LRel μ n l l'
  | [], [], _, _ => .nil
  | [], _ :: _, h, _ => by simp at h
  | _ :: _, [], h, _ => by simp at h
  | v :: l, v' :: l', h, hv => .cons (hv 0 v v' (by simp) (by simp)) (of_getElem? (by simpa using h) fun i a b ha hb => hv (i + 1) a b (by simpa using ha) (by simpa using hb))
theorem append : ∀ {l l' m m' : List Value}, LRel μ n l l' → LRel μ n m m' → LRel μ n (l ++ m) (l' ++ m')
  | _, _, _, _, .nil, h => h
  | _, _, _, _, .cons h t, hm => .cons h (append t hm)
theorem take : ∀ {l l' : List Value} (k : Nat), LRel μ n l l' → LRel μ n (l.take k) (l'.take k)
  | _, _, _, .nil => by simp; exact .nil
  | _, _, k, .cons h t => by
    cases k with
    | zero => simp; exact .nil
    | succ k => simp; exact .cons h (take k t)
theorem drop : ∀ {l l' : List Value} (k : Nat), LRel μ n l l' → LRel μ n (l.drop k) (l'.drop k)
  | _, _, _, .nil => by simp; exact .nil
  | _, _, k, .cons h t => by
    cases k with
    | zero => simp; exact .cons h t
    | succ k => simp; exact drop k t
theorem set : ∀ {l l' : List Value} (i : Nat) {v v' : Value}, LRel μ n l l' → VRel μ n v v' → LRel μ n (l.set i v) (l'.set i v')
  | _, _, _, _, _, .nil, _ => by simp; exact .nil
  | _, _, i, _, _, .cons h t, hv => by
    cases i with
    | zero => simp; exact .cons hv t
    | succ i => simp; exact .cons h (set i t hv)
end LRel
noncomputable def flat1 : Value → Bool
  | .bool _ | .int _ _ | .float _ _ | .complex _ _ _ | .string _ | .pointer none | .slice none 0 0 | .map none | .nilFunc | .nilIface => true
  | _ => false
noncomputable def flat : Value → Bool
  | .agg cs => cs.toList.all flat1
  | .tuple cs => cs.toList.all flat1
  | v => flat1 v
theorem VRel.flat1_eq {μ : Emb} {n : Nat} {v v' : Value} (h : VRel μ n v v') (hf : flat1 v = true) : v' = v := by
  cases h <;> first | rfl | simp [flat1] at hf
theorem LRel.flat1_eq {μ : Emb} {n : Nat} : ∀ {l l' : List Value}, LRel μ n l l' → l.all flat1 = true → l' = l
  | _, _, .nil, _ => rfl
  | _, _, .cons h t, hf => by
    simp only [List.all_cons, Bool.and_eq_true] at hf
    rw [h.flat1_eq hf.1, LRel.flat1_eq t hf.2]
theorem VRel.flat_eq {μ : Emb} {n : Nat} {v v' : Value} (h : VRel μ n v v') (hf : flat v = true) : v' = v := by
  cases h with
  | agg h => exact congrArg Value.agg (Array.toList_inj.1 (h.flat1_eq (by simpa [flat] using hf)))
  | tuple h => exact congrArg Value.tuple (Array.toList_inj.1 (h.flat1_eq (by simpa [flat] using hf)))
  | _ => first | rfl | simp [flat, flat1] at hf
theorem VRel.of_flat1 (μ : Emb) (n : Nat) {v : Value} (hf : flat1 v = true) : VRel μ n v v := by
  unfold flat1 at hf
  split at hf <;> first | constructor | simp at hf
theorem LRel.of_flat1 (μ : Emb) (n : Nat) : ∀ {l : List Value}, l.all flat1 = true → LRel μ n l l
  | [], _ => .nil
  | v :: l, hf => by
    simp only [List.all_cons, Bool.and_eq_true] at hf
    exact .cons (.of_flat1 μ n hf.1) (LRel.of_flat1 μ n hf.2)
theorem VRel.of_flat (μ : Emb) (n : Nat) {v : Value} (hf : flat v = true) : VRel μ n v v := by
  unfold flat at hf
  split at hf
  · exact .agg (.of_flat1 μ n hf)
  · exact .tuple (.of_flat1 μ n hf)
  · exact .of_flat1 μ n hf
end Go.Ab
namespace Go.Ab
set_option linter.unusedSimpArgs false
set_option linter.unusedVariables false
noncomputable def Emb.upd (μ : Emb) (r : Nat) (e : Ent) : Emb := fun q => if q = r then some e else μ q
theorem Emb.upd_same (μ : Emb) (r : Nat) (e : Ent) : μ.upd r e r = some e := by simp [Emb.upd]
theorem Emb.upd_ne (μ : Emb) {r q : Nat} (e : Ent) (h : q ≠ r) : μ.upd r e q = μ q := by simp [Emb.upd, h]
theorem Agree.upd (μ : Emb) {n r : Nat} (e : Ent) (h : n ≤ r) : Agree n μ (μ.upd r e) := fun _ hq => Emb.upd_ne μ e (by omega)
noncomputable def ActRel (μ : Emb) (n : Nat) (a : Tr Value) (tmps : Array Value) : Prop :=
  ∀ (t : Nat) (v : Value), a.get t = some v → ∃ v', tmps[t]? = some v' ∧ VRel μ n v v'
theorem ActRel.mono {μ μ' : Emb} {n m : Nat} {a : Tr Value} {tmps : Array Value} (h : ActRel μ n a tmps) (ha : Agree n μ μ') (hn : n ≤ m) : ActRel μ' m a tmps :=
  fun t v hv => let ⟨v', h1, h2⟩ := h t v hv; ⟨v', h1, h2.mono ha hn⟩
structure ERel (μ : Emb) (n : Nat) (e : AEnt) (m : MapEntry) : Prop where
  key : m.key = e.key
  kflat : flat e.key = true
  val : VRel μ n e.val m.val
  born : m.born = e.born
theorem ERel.mono {μ μ' : Emb} {n m : Nat} {e : AEnt} {x : MapEntry} (h : ERel μ n e x) (ha : Agree n μ μ') (hn : n ≤ m) : ERel μ' m e x :=
  ⟨h.key, h.kflat, h.val.mono ha hn, h.born⟩
inductive EsRel (μ : Emb) (n : Nat) : List AEnt → List MapEntry → Prop
  | nil : EsRel μ n [] []
  | cons {e : AEnt} {m : MapEntry} {l : List AEnt} {l' : List MapEntry} (h : ERel μ n e m) (t : EsRel μ n l l') : EsRel μ n (e :: l) (m :: l')
theorem EsRel.mono {μ μ' : Emb} {n m : Nat} (ha : Agree n μ μ') (hn : n ≤ m) : ∀ {l : List AEnt} {l' : List MapEntry}, EsRel μ n l l' → EsRel μ' m l l'
  | _, _, .nil => .nil
  | _, _, .cons h t => .cons (h.mono ha hn) (t.mono ha hn)
theorem EsRel.length {μ : Emb} {n : Nat} : ∀ {l : List AEnt} {l' : List MapEntry}, EsRel μ n l l' → l'.length = l.length
  | _, _, .nil => rfl
  | _, _, .cons _ t => by simp [t.length]
noncomputable def CellsAt (μ : Emb) (n : Nat) (e : Ent) (c : Obj) (vs : List Value) : Prop :=
  ∃ cs t fz, c = .cells cs t fz ∧ vs.length ≤ e.ext ∧ e.d + e.ext ≤ cs.size ∧ (∀ i, i < e.ext → ¬ (fz.1 ≤ e.d + i ∧ e.d + i < fz.2)) ∧
    ∀ (i : Nat) (v : Value), vs[i]? = some v → ∃ v', cs[e.d + i]? = some v' ∧ VRel μ n v v'
noncomputable def UM (es : List AEnt) (ms : List MapEntry) : Prop :=
  (∀ a ∈ es, ∃ m ∈ ms, m.key = a.key ∧ m.val = a.val) ∧ ∀ m ∈ ms, ∃ a ∈ es, m.key = a.key ∧ m.val = a.val
noncomputable def ORel (μ : Emb) (n : Nat) (e : Ent) (c : Obj) : AObj → Prop
  | .cells vs sz => e.sz = sz ∧ CellsAt μ n e c vs
  | .ro vs => ∃ cs t fz, c = .cells cs t fz ∧ ∀ (i : Nat) (v : Value), vs[i]? = some v → ∃ v', cs[e.d + i]? = some v' ∧ VRel μ n v v'
  | .map es clock => e.d = 0 ∧ ∃ ms, c = .map ms clock ∧ EsRel μ n es ms.toList
  | .mapIter m since seen stepped => e.d = 0 ∧ ∃ m', c = .mapIter m' since seen stepped ∧ (match m, m' with
      | none, none => True
      | some r, some b => r < n ∧ ∃ f, μ r = some f ∧ f.b = b
      | _, _ => False)
  | .strIter s pos => e.d = 0 ∧ c = .stringIter s pos
  | .loop l => e.d = 0 ∧ ∃ r, c = .loop r ∧ r.state = l.state ∧ r.pending = l.pending ∧ r.fn = l.fn ∧ r.tmps.size = l.nt ∧ ActRel μ n l.tmps r.tmps ∧ r.params = l.params ∧ r.assign = l.assign ∧ r.body = l.body
  | .tcells vs T => (e.d = 0 ∧ e.sz = 1) ∧ (∃ cs fz, c = .cells cs T fz) ∧ CellsAt μ n e c vs
  | .umap es => e.d = 0 ∧ ∃ ms clock, c = .map ms clock ∧ UM es ms.toList
theorem CellsAt.mono {μ μ' : Emb} {n m : Nat} {e : Ent} {c : Obj} {vs : List Value} (h : CellsAt μ n e c vs) (ha : Agree n μ μ') (hn : n ≤ m) : CellsAt μ' m e c vs := by
  obtain ⟨cs, t, fz, h1, h2, h3, h4, h5⟩ := h
  exact ⟨cs, t, fz, h1, h2, h3, h4, fun i v hv => let ⟨v', a, b⟩ := h5 i v hv; ⟨v', a, b.mono ha hn⟩⟩
theorem ORel.mono {μ μ' : Emb} {n m : Nat} {e : Ent} {c : Obj} {o : AObj} (h : ORel μ n e c o) (ha : Agree n μ μ') (hn : n ≤ m) : ORel μ' m e c o := by
  cases o with
  | cells vs sz => exact ⟨h.1, h.2.mono ha hn⟩
  | ro vs =>
    obtain ⟨cs, t, fz, h1, h5⟩ := h
    exact ⟨cs, t, fz, h1, fun i v hv => let ⟨v', a, b⟩ := h5 i v hv; ⟨v', a, b.mono ha hn⟩⟩
  | map es clock => obtain ⟨h0, ms, h1, h2⟩ := h; exact ⟨h0, ms, h1, h2.mono ha hn⟩
  | mapIter m since seen stepped =>
    obtain ⟨h0, m', h1, h2⟩ := h
    refine ⟨h0, m', h1, ?_⟩
    cases m <;> cases m' <;> first | exact h2 | skip
    obtain ⟨a, f, b, c⟩ := h2
    exact ⟨by omega, f, (ha _ a).trans b, c⟩
  | strIter s pos => exact h
  | loop l =>
    obtain ⟨h0, r, h1, h2, h3, h4, h7, h5, h6⟩ := h
    exact ⟨h0, r, h1, h2, h3, h4, h7, h5.mono ha hn, h6⟩
  | tcells vs T => exact ⟨h.1, h.2.1, h.2.2.mono ha hn⟩
  | umap es => exact h
structure StRel (μ : Emb) (h : AHeap) (w : World) : Prop where
  live : ∀ r o, h.get r = some o → r < h.next ∧ ∃ e c, μ r = some e ∧ w.heap[e.b]? = some c ∧ ORel μ h.next e c o
  apart : ∀ r q o p e f, h.get r = some o → o.own = true → h.get q = some p → μ r = some e → μ q = some f → e.b = f.b → r = q
structure Ext (μ : Emb) (h : AHeap) (w : World) (μ' : Emb) (h' : AHeap) (w' : World) : Prop where
  next : h.next ≤ h'.next
  agree : Agree h.next μ μ'
  size : w.heap.size ≤ w'.heap.size
  os : w'.os = w.os
  output : w'.output = w.output
  frame : ∀ b, b < w.heap.size → (∀ r o e, h.get r = some o → o.own = true → μ r = some e → e.b ≠ b) →
    w'.heap[b]? = w.heap[b]? ∧ ∀ r o e, h'.get r = some o → o.own = true → μ' r = some e → e.b ≠ b
  free : ∀ b, b < w.heap.size → (∀ r o e, h.get r = some o → μ r = some e → e.b ≠ b) → ∀ r o e, h'.get r = some o → μ' r = some e → e.b ≠ b
  st : StRel μ' h' w'
theorem Ext.refl {μ : Emb} {h : AHeap} {w : World} (st : StRel μ h w) : Ext μ h w μ h w :=
  ⟨Nat.le_refl _, Agree.refl _ _, Nat.le_refl _, rfl, rfl, fun _ _ hb => ⟨rfl, hb⟩, fun _ _ hb => hb, st⟩
theorem Ext.trans {μ μ' μ'' : Emb} {h h' h'' : AHeap} {w w' w'' : World} (a : Ext μ h w μ' h' w') (b : Ext μ' h' w' μ'' h'' w'') : Ext μ h w μ'' h'' w'' :=
  ⟨Nat.le_trans a.next b.next, a.agree.trans b.agree a.next, Nat.le_trans a.size b.size, b.os.trans a.os, b.output.trans a.output, fun x hx hb =>
    have ⟨h1, h2⟩ := a.frame x hx hb
    have ⟨h3, h4⟩ := b.frame x (Nat.lt_of_lt_of_le hx a.size) h2
    ⟨h3.trans h1, h4⟩, fun x hx hb => b.free x (Nat.lt_of_lt_of_le hx a.size) (a.free x hx hb), b.st⟩
theorem lt_of_heap {w : World} {b : Nat} {c : Obj} (h : w.heap[b]? = some c) : b < w.heap.size := by
  rcases Nat.lt_or_ge b w.heap.size with h' | h'
  · exact h'
  · rw [Array.getElem?_eq_none h'] at h; cases h
theorem StRel.same {μ : Emb} {h : AHeap} {w w' : World} (st : StRel μ h w) (e : w'.heap = w.heap) : StRel μ h w' :=
  ⟨fun r o hr => by rw [e]; exact st.live r o hr, st.apart⟩
theorem Ext.same {μ : Emb} {h : AHeap} {w w' : World} (st : StRel μ h w) (e : w'.heap = w.heap) (h1 : w'.os = w.os) (h2 : w'.output = w.output) : Ext μ h w μ h w' :=
  ⟨Nat.le_refl _, Agree.refl _ _, by rw [e]; exact Nat.le_refl _, h1, h2, fun _ _ hb => ⟨by rw [e], hb⟩, fun _ _ hb => hb, st.same e⟩
theorem Ext.alloc {μ : Emb} {h : AHeap} {w : World} (st : StRel μ h w) (c : Obj) : Ext μ h w μ h { w with heap := w.heap.push c } := by
  refine ⟨Nat.le_refl _, Agree.refl _ _, by simp, rfl, rfl, fun b hb hf => ⟨?_, hf⟩, fun _ _ hf => hf, ⟨fun r o hr => ?_, st.apart⟩⟩
  · simp only [Array.getElem?_push]; rw [if_neg (by omega)]
  · obtain ⟨h1, e, c', h2, h3, h4⟩ := st.live r o hr
    have := lt_of_heap h3
    exact ⟨h1, e, c', h2, by simp only [Array.getElem?_push]; rw [if_neg (by omega)]; exact h3, h4⟩
theorem Ext.new {μ : Emb} {h : AHeap} {w : World} (st : StRel μ h w) (c : Obj) (e : Ent) (o : AObj) (hb : e.b = w.heap.size)
    (ho : ORel (μ.upd h.next e) (h.next + 1) e c o) : Ext μ h w (μ.upd h.next e) (h.new o) { w with heap := w.heap.push c } := by
  have hag : Agree h.next μ (μ.upd h.next e) := Agree.upd μ e (Nat.le_refl _)
  have old : ∀ r p, h.get r = some p → r ≠ h.next := fun r p hr => by have := (st.live r p hr).1; omega
  refine ⟨by simp, hag, by simp, rfl, rfl, fun b hb' hf => ⟨?_, ?_⟩, fun b hb' hf => ?_, ⟨?_, ?_⟩⟩
  · simp only [Array.getElem?_push]; rw [if_neg (by omega)]
  · intro r p f hr hp hm
    rw [AHeap.get_new] at hr
    split at hr
    · rename_i hq; subst hq; rw [Emb.upd_same] at hm; cases hm; omega
    · rename_i hq; rw [Emb.upd_ne _ _ (Ne.symm hq)] at hm; exact hf r p f hr hp hm
  · intro r p f hr hm
    rw [AHeap.get_new] at hr
    split at hr
    · rename_i hq; subst hq; rw [Emb.upd_same] at hm; cases hm; omega
    · rename_i hq; rw [Emb.upd_ne _ _ (Ne.symm hq)] at hm; exact hf r p f hr hm
  · intro r p hr
    rw [AHeap.get_new] at hr
    split at hr
    · rename_i hq; subst hq; cases hr
      exact ⟨by simp, e, c, Emb.upd_same _ _ _, by simp [hb], ho⟩
    · rename_i hq
      obtain ⟨h1, f, c', h2, h3, h4⟩ := st.live r p hr
      have := lt_of_heap h3
      exact ⟨by simp; omega, f, c', by rw [Emb.upd_ne _ _ (Ne.symm hq)]; exact h2, by simp only [Array.getElem?_push]; rw [if_neg (by omega)]; exact h3, h4.mono hag (by simp)⟩
  · intro r q p s f g hr hp hq hm hn hfg
    rw [AHeap.get_new] at hr hq
    split at hr <;> split at hq
    · rename_i a b; omega
    · rename_i a b; subst a; rw [Emb.upd_same] at hm; cases hm
      obtain ⟨h1, f', c', h2, h3, h4⟩ := st.live q s hq
      rw [Emb.upd_ne _ _ (Ne.symm b)] at hn; rw [h2] at hn; cases hn
      have := lt_of_heap h3; omega
    · rename_i a b; subst b; rw [Emb.upd_same] at hn; cases hn
      obtain ⟨h1, f', c', h2, h3, h4⟩ := st.live r p hr
      rw [Emb.upd_ne _ _ (Ne.symm a)] at hm; rw [h2] at hm; cases hm
      have := lt_of_heap h3; omega
    · rename_i a b
      rw [Emb.upd_ne _ _ (Ne.symm a)] at hm
      rw [Emb.upd_ne _ _ (Ne.symm b)] at hn
      exact st.apart r q p s f g hr hp hq hm hn hfg
theorem Ext.set {μ : Emb} {h : AHeap} {w w' : World} (st : StRel μ h w) {r : Nat} {o o' : AObj} {e : Ent} {c' : Obj} (hr : h.get r = some o) (ho : o.own = true) (hm : μ r = some e)
    (hsz : w'.heap.size = w.heap.size) (hoth : ∀ b, b ≠ e.b → w'.heap[b]? = w.heap[b]?) (hc : w'.heap[e.b]? = some c') (h1 : w'.os = w.os) (h2 : w'.output = w.output)
    (hor : ORel μ h.next e c' o') : Ext μ h w μ (h.set r o') w' := by
  refine ⟨Nat.le_refl _, Agree.refl _ _, by omega, h1, h2, fun b hb hf => ⟨hoth b ?_, ?_⟩, fun b hb hf => ?_, ⟨?_, ?_⟩⟩
  · exact fun hbe => hf r o e hr ho hm hbe.symm
  · intro q p f hq hp hn
    rw [AHeap.get_set] at hq
    split at hq
    · rename_i a; subst a; exact hf r o f hr ho hn
    · exact hf q p f hq hp hn
  · intro q p f hq hn
    rw [AHeap.get_set] at hq
    split at hq
    · rename_i a; subst a; exact hf r o f hr hn
    · exact hf q p f hq hn
  · intro q p hq
    rw [AHeap.get_set] at hq
    split at hq
    · rename_i a; subst a; cases hq
      exact ⟨(st.live r o hr).1, e, c', hm, hc, hor⟩
    · rename_i a
      obtain ⟨h3, f, c, h4, h5, h6⟩ := st.live q p hq
      refine ⟨h3, f, c, h4, ?_, h6⟩
      rw [hoth f.b fun hbe => a (st.apart r q o p e f hr ho hq hm h4 hbe.symm)]
      exact h5
  · intro q s p t f g hq hp hs hf hg hfg
    rw [AHeap.get_set] at hq hs
    split at hq <;> split at hs
    · omega
    · rename_i a b; subst a; rw [hm] at hf; cases hf; exact st.apart r s o t e g hr ho hs hm hg hfg
    · rename_i a b; subst b; exact st.apart q r p o f g hq hp hr hf hg hfg
    · exact st.apart q s p t f g hq hp hs hf hg hfg
theorem Ext.rebase {μ : Emb} {h : AHeap} {w w' : World} (st : StRel μ h w) {r : Nat} {o o' : AObj} {e e' : Ent} {c' : Obj} (hr : h.get r = some o) (ho : o.own = true) (hm : μ r = some e)
    (hsz : w'.heap.size = w.heap.size) (hoth : ∀ b, b ≠ e.b → w'.heap[b]? = w.heap[b]?) (hc : w'.heap[e.b]? = some c') (h1 : w'.os = w.os) (h2 : w'.output = w.output) (he : e'.b = e.b)
    (hor : ORel (μ.upd h.next e') (h.next + 1) e' c' o') : Ext μ h w (μ.upd h.next e') ((h.kill r).new o') w' := by
  have hag : Agree h.next μ (μ.upd h.next e') := Agree.upd μ e' (Nat.le_refl _)
  have hrn : r < h.next := (st.live r o hr).1
  have get' : ∀ q, ((h.kill r).new o').get q = if h.next = q then some o' else if r = q then none else h.get q := fun q => by
    rw [AHeap.get_new, AHeap.get_kill]; rfl
  refine ⟨by simp, hag, by omega, h1, h2, fun b hb hf => ⟨hoth b ?_, ?_⟩, fun b hb hf => ?_, ⟨?_, ?_⟩⟩
  · exact fun hbe => hf r o e hr ho hm hbe.symm
  · intro q p f hq hp hn
    rw [get'] at hq
    split at hq
    · rename_i a; subst a; rw [Emb.upd_same] at hn; cases hn; rw [he]; exact hf r o e hr ho hm
    · rename_i a
      split at hq
      · cases hq
      · rw [Emb.upd_ne _ _ (Ne.symm a)] at hn; exact hf q p f hq hp hn
  · intro q p f hq hn
    rw [get'] at hq
    split at hq
    · rename_i a; subst a; rw [Emb.upd_same] at hn; cases hn; rw [he]; exact hf r o e hr hm
    · rename_i a
      split at hq
      · cases hq
      · rw [Emb.upd_ne _ _ (Ne.symm a)] at hn; exact hf q p f hq hn
  · intro q p hq
    rw [get'] at hq
    split at hq
    · rename_i a; subst a; cases hq
      exact ⟨by simp, e', c', Emb.upd_same _ _ _, by rw [he]; exact hc, hor⟩
    · rename_i a
      split at hq
      · cases hq
      · rename_i b
        obtain ⟨h3, f, c, h4, h5, h6⟩ := st.live q p hq
        refine ⟨by simp; omega, f, c, by rw [Emb.upd_ne _ _ (Ne.symm a)]; exact h4, ?_, h6.mono hag (by simp)⟩
        rw [hoth f.b fun hbe => b (st.apart r q o p e f hr ho hq hm h4 hbe.symm)]
        exact h5
  · intro q s p t f g hq hp hs hf hg hfg
    rw [get'] at hq hs
    split at hq <;> split at hs
    · omega
    · rename_i a b; subst a; rw [Emb.upd_same] at hf; cases hf
      split at hs
      · cases hs
      · rename_i d
        rw [Emb.upd_ne _ _ (Ne.symm b)] at hg
        exact absurd (st.apart r s o t e g hr ho hs hm hg (by rw [← he]; exact hfg)) d
    · rename_i a b; subst b; rw [Emb.upd_same] at hg; cases hg
      split at hq
      · cases hq
      · rename_i d
        rw [Emb.upd_ne _ _ (Ne.symm a)] at hf
        exact absurd (st.apart r q o p e f hr ho hq hm hf (by rw [← he]; exact hfg.symm)) d
    · rename_i a b
      split at hq
      · cases hq
      · split at hs
        · cases hs
        · rw [Emb.upd_ne _ _ (Ne.symm a)] at hf
          rw [Emb.upd_ne _ _ (Ne.symm b)] at hg
          exact st.apart q s p t f g hq hp hs hf hg hfg
theorem Ext.adopt {μ : Emb} {h : AHeap} {w : World} (st : StRel μ h w) {c : Obj} (e : Ent) (o : AObj) (hc : w.heap[e.b]? = some c) (hfree : ∀ r p f, h.get r = some p → μ r = some f → f.b ≠ e.b)
    (ho : ORel (μ.upd h.next e) (h.next + 1) e c o) : StRel (μ.upd h.next e) (h.new o) w := by
  have hag : Agree h.next μ (μ.upd h.next e) := Agree.upd μ e (Nat.le_refl _)
  refine ⟨?_, ?_⟩
  · intro r p hr
    rw [AHeap.get_new] at hr
    split at hr
    · rename_i hq; subst hq; cases hr
      exact ⟨by simp, e, c, Emb.upd_same _ _ _, hc, ho⟩
    · rename_i hq
      obtain ⟨h1, f, c', h2, h3, h4⟩ := st.live r p hr
      exact ⟨by simp; omega, f, c', by rw [Emb.upd_ne _ _ (Ne.symm hq)]; exact h2, h3, h4.mono hag (by simp)⟩
  · intro r q p s f g hr hp hq hm hn hfg
    rw [AHeap.get_new] at hr hq
    split at hr <;> split at hq
    · rename_i a b; omega
    · rename_i a b; subst a; rw [Emb.upd_same] at hm; cases hm
      rw [Emb.upd_ne _ _ (Ne.symm b)] at hn
      exact (hfree q s g hq hn hfg.symm).elim
    · rename_i a b; subst b; rw [Emb.upd_same] at hn; cases hn
      rw [Emb.upd_ne _ _ (Ne.symm a)] at hm
      exact (hfree r p f hr hm hfg).elim
    · rename_i a b
      rw [Emb.upd_ne _ _ (Ne.symm a)] at hm
      rw [Emb.upd_ne _ _ (Ne.symm b)] at hn
      exact st.apart r q p s f g hr hp hq hm hn hfg
theorem Ext.kill {μ : Emb} {h : AHeap} {w : World} (st : StRel μ h w) (r : Nat) : Ext μ h w μ (h.kill r) w := by
  refine ⟨Nat.le_refl _, Agree.refl _ _, Nat.le_refl _, rfl, rfl, fun b _ hf => ⟨rfl, ?_⟩, fun b _ hf => ?_, ⟨?_, ?_⟩⟩
  · intro q p f hq hp hn
    rw [AHeap.get_kill] at hq
    split at hq
    · cases hq
    · exact hf q p f hq hp hn
  · intro q p f hq hn
    rw [AHeap.get_kill] at hq
    split at hq
    · cases hq
    · exact hf q p f hq hn
  · intro q p hq
    rw [AHeap.get_kill] at hq
    split at hq
    · cases hq
    · exact st.live q p hq
  · intro q s p t f g hq hp hs hf hg hfg
    rw [AHeap.get_kill] at hq hs
    split at hq
    · cases hq
    · split at hs
      · cases hs
      · exact st.apart q s p t f g hq hp hs hf hg hfg
theorem Ext.adoptE {μ0 μ : Emb} {h0 h : AHeap} {w0 w : World} (x : Ext μ0 h0 w0 μ h w) {c : Obj} (e : Ent) (o : AObj) (hc : w.heap[e.b]? = some c) (hfree : ∀ r p f, h.get r = some p → μ r = some f → f.b ≠ e.b)
    (f1 : ∀ b, b < w0.heap.size → (∀ r o f, h0.get r = some o → o.own = true → μ0 r = some f → f.b ≠ b) → e.b ≠ b) (f2 : ∀ b, b < w0.heap.size → (∀ r o f, h0.get r = some o → μ0 r = some f → f.b ≠ b) → e.b ≠ b)
    (ho : ORel (μ.upd h.next e) (h.next + 1) e c o) : Ext μ0 h0 w0 (μ.upd h.next e) (h.new o) w := by
  have hag : Agree h.next μ (μ.upd h.next e) := Agree.upd μ e (Nat.le_refl _)
  have hnx := x.next
  refine ⟨by simp; omega, x.agree.trans hag hnx, x.size, x.os, x.output, fun b hb hf => ?_, fun b hb hf => ?_, Ext.adopt x.st e o hc hfree ho⟩
  · obtain ⟨y1, y2⟩ := x.frame b hb hf
    refine ⟨y1, fun r p f hr hp hm => ?_⟩
    rw [AHeap.get_new] at hr
    split at hr
    · rename_i hq; subst hq; rw [Emb.upd_same] at hm; cases hm; exact f1 b hb hf
    · rename_i hq; rw [Emb.upd_ne _ _ (Ne.symm hq)] at hm; exact y2 r p f hr hp hm
  · intro r p f hr hm
    rw [AHeap.get_new] at hr
    split at hr
    · rename_i hq; subst hq; rw [Emb.upd_same] at hm; cases hm; exact f2 b hb hf
    · rename_i hq; rw [Emb.upd_ne _ _ (Ne.symm hq)] at hm; exact x.free b hb hf r p f hr hm
end Go.Ab
namespace Go.Ab
set_option linter.unusedSimpArgs false
set_option linter.unusedVariables false
noncomputable def GoodV (P : Program) (μ : Emb) (h : AHeap) (w : World) (s : Sem Value) (v : Value) (h' : AHeap) : Prop :=
  ∃ v' w' μ', s.run P w = .ok v' w' ∧ Ext μ h w μ' h' w' ∧ VRel μ' h'.next v v'
noncomputable def GoodU (P : Program) (μ : Emb) (h : AHeap) (w : World) (s : Sem Unit) (h' : AHeap) : Prop :=
  ∃ w' μ', s.run P w = .ok () w' ∧ Ext μ h w μ' h' w'
noncomputable def pureRun {α : Type} (P : Program) : Sem α → Option α
  | .pure a => some a
  | .program k => pureRun P (k P)
  | .mark _ k => pureRun P k
  | _ => none
theorem pureRun_run {α : Type} {P : Program} : ∀ (s : Sem α) {a : α} (w : World), pureRun P s = some a → s.run P w = .ok a w := by
  intro s
  induction s with
  | pure a => intro b w h; simp [pureRun] at h; subst h; rfl
  | program k ih => intro b w h; simp only [pureRun] at h; simp only [Sem.run]; exact ih P w h
  | mark m k ih => intro b w h; simp only [pureRun] at h; simp only [Sem.run]; exact ih w h
  | _ => intro b w h; simp [pureRun] at h
structure TI where
  size : Nat
  bytes : Nat
  und : TypeDesc
  zero : Option Value
noncomputable def TI.agg (t : TI) : Bool := match t.und with | .struct _ | .array _ _ => true | _ => false
structure TyOK (P : Program) (T : Tr TI) : Prop where
  ok : ∀ t ti, T.get t = some ti → ∃ i, P.info? t = some i ∧ i.size = ti.size ∧ i.bytes = ti.bytes ∧ i.zero = ti.zero ∧ P.underlying t = some ti.und
section types
variable {P : Program} {T : Tr TI} (ok : TyOK P T) {t : TypeId} {ti : TI} (ht : T.get t = some ti) (w : World)
include ok ht
theorem run_underlying : (underlying t).run P w = .ok ti.und w := by
  obtain ⟨i, h1, h2, h3, h4, h5⟩ := ok.ok t ti ht
  simp [underlying, h5]
theorem run_typeInfo : ∃ i, (typeInfo t).run P w = .ok i w ∧ i.size = ti.size ∧ i.bytes = ti.bytes ∧ i.zero = ti.zero := by
  obtain ⟨i, h1, h2, h3, h4, h5⟩ := ok.ok t ti ht
  exact ⟨i, by simp [typeInfo, h1], h2, h3, h4⟩
theorem run_sizeOf : (sizeOf t).run P w = .ok ti.size w := by
  obtain ⟨i, h1, h2, h3, h4⟩ := run_typeInfo ok ht w
  simp [sizeOf, h1, h2]
theorem run_isAgg : (isAgg t).run P w = .ok ti.agg w := by
  simp only [isAgg, Sem.run_bind, run_underlying ok ht, Result.andThen_ok, TI.agg]
  split <;> rename_i hx <;> simp_all
theorem run_zeroValue {z : Value} (hz : ti.zero = some z) : (zeroValue t).run P w = .ok z w := by
  obtain ⟨i, h1, h2, h3, h4⟩ := run_typeInfo ok ht w
  rw [hz] at h4
  simp [zeroValue, h1, h4]
end types
@[simp] theorem add_none (b o n : Nat) : (Addr.mk b o none).add n = ⟨b, o + n, none⟩ := by
  unfold Addr.add; split
  · rename_i h; subst h; rfl
  · rfl
noncomputable def rowOf (h : AHeap) (r : Nat) : Option (List Value) :=
  match h.get r with
  | some (.cells vs _) => some vs
  | some (.ro vs) => some vs
  | some (.tcells vs _) => some vs
  | _ => none
theorem StRel.cell {μ : Emb} {h : AHeap} {w : World} (st : StRel μ h w) {r : Nat} {vs : List Value} (hr : rowOf h r = some vs) {e : Ent} (hm : μ r = some e) {i : Nat} {v : Value} (hv : vs[i]? = some v) :
    ∃ v', w.cell? ⟨e.b, e.d + i, none⟩ = some v' ∧ VRel μ h.next v v' := by
  unfold rowOf at hr
  split at hr
  · rename_i vs' sz hg
    cases hr
    obtain ⟨_, e', c, h2, h3, _, cs, t, fz, rfl, _, _, _, h8⟩ := st.live r _ hg
    rw [hm] at h2; cases h2
    obtain ⟨v', h9, h10⟩ := h8 i v hv
    exact ⟨v', by simp [World.cell?, h3, h9], h10⟩
  · rename_i vs' hg
    cases hr
    obtain ⟨_, e', c, h2, h3, cs, t, fz, rfl, h8⟩ := st.live r _ hg
    rw [hm] at h2; cases h2
    obtain ⟨v', h9, h10⟩ := h8 i v hv
    exact ⟨v', by simp [World.cell?, h3, h9], h10⟩
  · rename_i vs' T hg
    cases hr
    obtain ⟨_, e', c, h2, h3, _, _, cs, t, fz, rfl, _, _, _, h8⟩ := st.live r _ hg
    rw [hm] at h2; cases h2
    obtain ⟨v', h9, h10⟩ := h8 i v hv
    exact ⟨v', by simp [World.cell?, h3, h9], h10⟩
  · cases hr
noncomputable def cellsOf (vs : List Value) (off n : Nat) : Option (List Value) :=
  bif Nat.ble (off + n) vs.length then some ((vs.drop off).take n) else none
theorem cellsOf_some {vs l : List Value} {off n : Nat} (h : cellsOf vs off n = some l) : off + n ≤ vs.length ∧ l = (vs.drop off).take n ∧ l.length = n := by
  unfold cellsOf at h
  cases hb : Nat.ble (off + n) vs.length
  · simp [hb] at h
  · rw [hb] at h
    simp at h
    have : off + n ≤ vs.length := Nat.le_of_ble_eq_true hb
    subst h
    exact ⟨this, rfl, by simp; omega⟩
theorem StRel.loadCells {P : Program} {μ : Emb} {h : AHeap} {w : World} (st : StRel μ h w) {r : Nat} {vs : List Value} (hr : rowOf h r = some vs) {e : Ent} (hm : μ r = some e) {off n : Nat} {l : List Value}
    (hl : cellsOf vs off n = some l) : ∃ l', (loadCells ⟨e.b, e.d + off, none⟩ n).run P w = .ok l'.toArray w ∧ LRel μ h.next l l' := by
  obtain ⟨h1, rfl, h3⟩ := cellsOf_some hl
  have hex : ∀ j, j < n → ∃ v', w.cell? ⟨e.b, e.d + off + j, none⟩ = some v' ∧ ∀ v, vs[off + j]? = some v → VRel μ h.next v v' := by
    intro j hj
    have hlt : off + j < vs.length := by omega
    obtain ⟨v', h4, h5⟩ := st.cell hr hm (List.getElem?_eq_getElem hlt)
    exact ⟨v', by rw [← h4, Nat.add_assoc], fun v hv => by rw [List.getElem?_eq_getElem hlt] at hv; cases hv; exact h5⟩
  have hch : ∃ f : Nat → Value, ∀ j, j < n → w.cell? ⟨e.b, e.d + off + j, none⟩ = some (f j) ∧ ∀ v, vs[off + j]? = some v → VRel μ h.next v (f j) :=
    ⟨fun j => if hj : j < n then (hex j hj).choose else undef, fun j hj => by simp only [dif_pos hj]; exact (hex j hj).choose_spec⟩
  obtain ⟨f, hf⟩ := hch
  refine ⟨(List.range n).map f, run_loadCells w _ n f (fun j hj => by simpa using (hf j hj).1), LRel.of_getElem? (by simp; omega) ?_⟩
  intro i v v' hv hv'
  have hi : i < n := by
    have := (List.getElem?_eq_some_iff.1 hv').1
    simpa using this
  simp only [List.getElem?_take, hi, if_true, List.getElem?_drop] at hv
  simp only [List.getElem?_map, List.getElem?_range hi, Option.map_some] at hv'
  cases hv'
  exact (hf i hi).2 v hv
theorem StRel.loadVar {P : Program} {T : Tr TI} (ok : TyOK P T) {t : TypeId} {ti : TI} (ht : T.get t = some ti) {μ : Emb} {h : AHeap} {w : World} (st : StRel μ h w) {r : Nat} {vs : List Value}
    (hr : rowOf h r = some vs) {e : Ent} (hm : μ r = some e) {off : Nat} {v : Value}
    (hv : (bif ti.agg then (cellsOf vs off ti.size).map (fun l => Value.agg l.toArray) else vs[off]?) = some v) :
    ∃ v', (loadVar t ⟨e.b, e.d + off, none⟩).run P w = .ok v' w ∧ VRel μ h.next v v' := by
  cases ha : ti.agg
  · rw [ha] at hv
    simp only [cond_false] at hv
    obtain ⟨v', h1, h2⟩ := st.cell hr hm hv
    exact ⟨v', by simp [Go.loadVar, run_isAgg ok ht, ha, h1], h2⟩
  · rw [ha] at hv
    simp only [cond_true, Option.map_eq_some_iff] at hv
    obtain ⟨l, hl, rfl⟩ := hv
    obtain ⟨l', h1, h2⟩ := st.loadCells (P := P) hr hm hl
    exact ⟨.agg l'.toArray, by simp [Go.loadVar, run_isAgg ok ht, ha, run_sizeOf ok ht, h1], .agg (by simpa using h2)⟩
noncomputable def splice : List Value → Nat → List Value → List Value
  | vs, _, [] => vs
  | [], _, _ => []
  | _ :: vs, 0, x :: xs => x :: splice vs 0 xs
  | v :: vs, off + 1, xs => v :: splice vs off xs
theorem splice_length : ∀ (vs : List Value) (off : Nat) (xs : List Value), (splice vs off xs).length = vs.length
  | vs, _, [] => by cases vs <;> simp [splice]
  | [], _, _ :: _ => by simp [splice]
  | _ :: vs, 0, x :: xs => by simp [splice, splice_length vs 0 xs]
  | v :: vs, off + 1, x :: xs => by simp [splice, splice_length vs off (x :: xs)]
theorem splice_get : ∀ (vs : List Value) (off : Nat) (xs : List Value) (i : Nat), off + xs.length ≤ vs.length → (splice vs off xs)[i]? = if off ≤ i ∧ i < off + xs.length then xs[i - off]? else vs[i]?
  | vs, off, [], i, _ => by
    have : splice vs off [] = vs := by cases vs <;> simp [splice]
    rw [this, if_neg (by simp)]
  | [], off, x :: xs, i, h => by simp at h
  | v :: vs, 0, x :: xs, i, h => by
    cases i with
    | zero => simp [splice]
    | succ i =>
      have ih := splice_get vs 0 xs i (by simp at h ⊢; omega)
      simp only [splice, List.getElem?_cons_succ, ih]
      simp
  | v :: vs, off + 1, x :: xs, i, h => by
    cases i with
    | zero => simp [splice]
    | succ i =>
      have ih := splice_get vs off (x :: xs) i (by simp at h ⊢; omega)
      simp only [splice, List.getElem?_cons_succ, ih]
      simp only [List.length_cons]
      by_cases hc : off ≤ i ∧ i < off + (xs.length + 1)
      · rw [if_pos hc, if_pos (by omega)]; congr 1; omega
      · rw [if_neg hc, if_neg (by omega)]
theorem run_storeCells {P : Program} (b o : Nat) (t : TypeId) (fz : Nat × Nat) : ∀ (xs : List Value) (i : Nat) (cs : Array Value) (w : World), w.heap[b]? = some (.cells cs t fz) → o + i + xs.length ≤ cs.size →
    (∀ j, j < xs.length → ¬ (fz.1 ≤ o + i + j ∧ o + i + j < fz.2)) → (∀ x ∈ xs, x.oneCell' = true) →
    ∃ w' cs', (storeCells ⟨b, o, none⟩ xs i).run P w = .ok () w' ∧ w'.heap.size = w.heap.size ∧ (∀ q, q ≠ b → w'.heap[q]? = w.heap[q]?) ∧ w'.heap[b]? = some (.cells cs' t fz) ∧ cs'.size = cs.size ∧
      (∀ k, cs'[k]? = if o + i ≤ k ∧ k < o + i + xs.length then xs[k - (o + i)]? else cs[k]?) ∧ w'.os = w.os ∧ w'.output = w.output
  | [], i, cs, w, hb, _, _, _ => ⟨w, cs, rfl, rfl, fun _ _ => rfl, hb, rfl, fun k => by rw [if_neg (by simp)], rfl, rfl⟩
  | x :: xs, i, cs, w, hb, hsz, hfz, hone => by
    simp only [List.length_cons] at hsz
    have hlt : o + i < cs.size := by omega
    have hcell : w.cell? ⟨b, o + i, none⟩ = some cs[o + i] := by simp [World.cell?, hb, Array.getElem?_eq_getElem hlt]
    have hfr : w.frozen? ⟨b, o + i, none⟩ = false := by
      have := hfz 0 (by simp)
      simp only [World.frozen?, hb]
      simp only [Nat.add_zero] at this
      by_cases h1 : fz.1 ≤ o + i <;> by_cases h2 : o + i < fz.2 <;> simp_all
    have hb1 : (w.setCell ⟨b, o + i, none⟩ x).heap[b]? = some (.cells (cs.setIfInBounds (o + i) x) t fz) := by
      simp [World.setCell, Array.getElem?_modify, hb]
    obtain ⟨w', cs', h1, h2, h3, h4, h5, h6, h7, h8⟩ := run_storeCells (P := P) b o t fz xs (i + 1) (cs.setIfInBounds (o + i) x) (w.setCell ⟨b, o + i, none⟩ x) hb1 (by simp; omega)
      (fun j hj => by have := hfz (j + 1) (by simpa using hj); rwa [show o + i + (j + 1) = o + (i + 1) + j by omega] at this) (fun y hy => hone y (List.mem_cons_of_mem _ hy))
    refine ⟨w', cs', ?_, by simpa using h2, fun q hq => ?_, h4, by simpa using h5, fun k => ?_, h7, h8⟩
    · simp only [storeCells, Sem.run_bind, add_none, run_store P w _ x _ (hone x List.mem_cons_self), hcell, hfr]
      exact h1
    · rw [h3 q hq]
      simp [World.setCell, Array.getElem?_modify, Ne.symm hq]
    · rw [h6 k]
      simp only [List.length_cons]
      by_cases hk : k = o + i
      · subst hk
        rw [if_neg (by omega), if_pos (by omega)]
        simp [hlt]
      · by_cases hc : o + (i + 1) ≤ k ∧ k < o + (i + 1) + xs.length
        · rw [if_pos hc, if_pos (by omega), show k - (o + i) = (k - (o + (i + 1))) + 1 by omega, List.getElem?_cons_succ]
        · rw [if_neg hc, if_neg (by omega), Array.getElem?_setIfInBounds_ne (Ne.symm hk)]
noncomputable def oneCells (xs : List Value) : Bool := xs.all Value.oneCell'
theorem VRel.oneCell {μ : Emb} {n : Nat} {v v' : Value} (h : VRel μ n v v') : v'.oneCell' = v.oneCell' := by cases h <;> rfl
theorem LRel.oneCells {μ : Emb} {n : Nat} : ∀ {l l' : List Value}, LRel μ n l l' → Ab.oneCells l = true → ∀ x ∈ l', x.oneCell' = true
  | _, _, .nil, _ => by simp
  | _, _, .cons h t, ho => by
    simp only [Ab.oneCells, List.all_cons, Bool.and_eq_true] at ho
    intro x hx
    cases hx with
    | head => rw [h.oneCell]; exact ho.1
    | tail _ hx => exact LRel.oneCells t ho.2 x hx
theorem VRel.cells {μ : Emb} {n : Nat} {v v' : Value} (h : VRel μ n v v') : LRel μ n v.cells.toList v'.cells.toList := by
  cases h <;> first | assumption | exact .cons (by constructor <;> assumption) .nil
noncomputable def writeRow (h : AHeap) (r off : Nat) (xs : List Value) : Option AHeap :=
  match h.get r with
  | some (.cells vs sz) => bif Nat.ble (off + xs.length) vs.length && oneCells xs then some (h.set r (.cells (splice vs off xs) sz)) else none
  | some (.tcells vs T) => bif Nat.ble (off + xs.length) vs.length && oneCells xs then some (h.set r (.tcells (splice vs off xs) T)) else none
  | _ => none
theorem StRel.storeCells {P : Program} {μ : Emb} {h h' : AHeap} {w : World} (st : StRel μ h w) {r off : Nat} {xs xs' : List Value} (hw : writeRow h r off xs = some h') {e : Ent} (hm : μ r = some e)
    (hx : LRel μ h.next xs xs') : ∃ w', (storeCells ⟨e.b, e.d + off, none⟩ xs').run P w = .ok () w' ∧ Ext μ h w μ h' w' := by
  unfold writeRow at hw
  split at hw
  · rename_i vs sz hg
    cases hb : Nat.ble (off + xs.length) vs.length && Ab.oneCells xs
    · simp [hb] at hw
    · rw [hb] at hw
      simp only [cond_true, Option.some.injEq] at hw
      subst hw
      simp only [Bool.and_eq_true] at hb
      have hle : off + xs.length ≤ vs.length := Nat.le_of_ble_eq_true hb.1
      obtain ⟨hrn, e', c, h2, h3, hsz, cs, t, fz, rfl, h5, h6, h7, h8⟩ := st.live r _ hg
      rw [hm] at h2; cases h2
      have hlen := hx.length
      obtain ⟨w', cs', a1, a2, a3, a4, a5, a6, a7, a8⟩ := run_storeCells (P := P) e.b (e.d + off) t fz xs' 0 cs w h3 (by omega)
        (fun j hj => by have := h7 (off + j) (by omega); rwa [show e.d + off + 0 + j = e.d + (off + j) by omega]) (hx.oneCells hb.2)
      refine ⟨w', a1, Ext.set st hg rfl hm a2 a3 a4 a7 a8 ⟨hsz, cs', t, fz, rfl, by rw [splice_length]; exact h5, by omega, h7, ?_⟩⟩
      intro i v hv
      rw [splice_get _ _ _ _ hle] at hv
      rw [a6 (e.d + i)]
      by_cases hc : off ≤ i ∧ i < off + xs.length
      · rw [if_pos hc] at hv
        rw [if_pos (by omega)]
        obtain ⟨v', h9, h10⟩ := hx.getElem? _ hv
        exact ⟨v', by rw [← h9]; congr 1; omega, h10⟩
      · rw [if_neg hc] at hv
        rw [if_neg (by omega)]
        exact h8 i v hv
  · rename_i vs T hg
    cases hb : Nat.ble (off + xs.length) vs.length && Ab.oneCells xs
    · simp [hb] at hw
    · rw [hb] at hw
      simp only [cond_true, Option.some.injEq] at hw
      subst hw
      simp only [Bool.and_eq_true] at hb
      have hle : off + xs.length ≤ vs.length := Nat.le_of_ble_eq_true hb.1
      obtain ⟨hrn, e', c, h2, h3, hd, ⟨cs0, fz0, hc0⟩, cs, t, fz, rfl, h5, h6, h7, h8⟩ := st.live r _ hg
      rw [hm] at h2; cases h2
      obtain rfl : t = T := by cases hc0; rfl
      have hlen := hx.length
      obtain ⟨w', cs', a1, a2, a3, a4, a5, a6, a7, a8⟩ := run_storeCells (P := P) e.b (e.d + off) t fz xs' 0 cs w h3 (by omega)
        (fun j hj => by have := h7 (off + j) (by omega); rwa [show e.d + off + 0 + j = e.d + (off + j) by omega]) (hx.oneCells hb.2)
      refine ⟨w', a1, Ext.set st hg rfl hm a2 a3 a4 a7 a8 ⟨hd, ⟨cs', fz, rfl⟩, cs', t, fz, rfl, by rw [splice_length]; exact h5, by omega, h7, ?_⟩⟩
      intro i v hv
      rw [splice_get _ _ _ _ hle] at hv
      rw [a6 (e.d + i)]
      by_cases hc : off ≤ i ∧ i < off + xs.length
      · rw [if_pos hc] at hv
        rw [if_pos (by omega)]
        obtain ⟨v', h9, h10⟩ := hx.getElem? _ hv
        exact ⟨v', by rw [← h9]; congr 1; omega, h10⟩
      · rw [if_neg hc] at hv
        rw [if_neg (by omega)]
        exact h8 i v hv
  · cases hw
theorem StRel.newRow {P : Program} {μ : Emb} {h : AHeap} {w : World} (st : StRel μ h w) (t : TypeId) (xs : List Value) (xs' : Array Value) (sz : Nat) (hx : LRel μ h.next xs xs'.toList) :
    ∃ w' μ' b, (newRow t xs').run P w = .ok ⟨b, 0, none⟩ w' ∧ Ext μ h w μ' (h.new (.cells xs sz)) w' ∧ μ' h.next = some ⟨b, 0, xs.length, sz⟩ := by
  have hlen := hx.length
  refine ⟨_, _, w.heap.size, ?_, Ext.new st (.cells xs' t) ⟨w.heap.size, 0, xs.length, sz⟩ (.cells xs sz) rfl ⟨rfl, xs', t, (0, 0), rfl, Nat.le_refl _, by simp at hlen ⊢; omega, fun i _ => by omega, ?_⟩, Emb.upd_same _ _ _⟩
  · simp [Go.newRow]
  · intro i v hv
    obtain ⟨v', h1, h2⟩ := hx.getElem? i hv
    exact ⟨v', by simpa using h1, h2.mono (Agree.upd μ _ (Nat.le_refl _)) (by omega)⟩
theorem StRel.newRowT {P : Program} {μ : Emb} {h : AHeap} {w : World} (st : StRel μ h w) (t : TypeId) (xs : List Value) (xs' : Array Value) (hx : LRel μ h.next xs xs'.toList) :
    ∃ w' μ' b, (Go.newRow t xs').run P w = .ok ⟨b, 0, none⟩ w' ∧ Ext μ h w μ' (h.new (.tcells xs t)) w' ∧ μ' h.next = some ⟨b, 0, xs.length, 1⟩ := by
  have hlen := hx.length
  simp only [Array.length_toList] at hlen
  refine ⟨_, _, w.heap.size, ?_, Ext.new st (.cells xs' t) ⟨w.heap.size, 0, xs.length, 1⟩ (.tcells xs t) rfl ⟨⟨rfl, rfl⟩, ⟨xs', (0, 0), rfl⟩, xs', t, (0, 0), rfl, Nat.le_refl _, by simp only; omega, fun i _ => by omega, ?_⟩, Emb.upd_same _ _ _⟩
  · simp [Go.newRow]
  · intro i v hv
    obtain ⟨v', h1, h2⟩ := hx.getElem? i hv
    exact ⟨v', by simpa using h1, h2.mono (Agree.upd μ _ (Nat.le_refl _)) (by omega)⟩
end Go.Ab
namespace Go.Ab
set_option linter.unusedSimpArgs false
set_option linter.unusedVariables false
section ops
variable {P : Program} {T : Tr TI} {μ : Emb} {h h' : AHeap} {w : World}
noncomputable def selfPtr (T : Tr TI) (t : TypeId) : Bool :=
  match T.get t with
  | some ti => match ti.und with
    | .struct fs => match fs.toList with
      | f :: _ => match T.get f.type with
        | some ui => match ui.und with
          | .pointer u => Nat.beq u t
          | _ => false
        | none => false
      | [] => false
    | _ => false
  | none => false
noncomputable def aAlloc (T : Tr TI) (t : TypeId) (h : AHeap) : Option (Value × AHeap) :=
  match T.get t with
  | some ti => match ti.zero with
    | some z => bif z.cells.toList.all flat1 then some (.pointer (some ⟨h.next, 0, none⟩), h.new (bif selfPtr T t then .tcells z.cells.toList t else .cells z.cells.toList 1)) else none
    | none => none
  | none => none
noncomputable def aBox (v : Value) (h : AHeap) : Value × AHeap := (.pointer (some ⟨h.next, 0, none⟩), h.new (.cells v.cells.toList 1))
theorem box_good (st : StRel μ h w) (t : TypeId) {v v' : Value} (hv : VRel μ h.next v v') : GoodV P μ h w (Instr.box t v') (aBox v h).1 (aBox v h).2 := by
  obtain ⟨w', μ', b, h1, h2, h3⟩ := st.newRow (P := P) t v.cells.toList v'.cells 1 hv.cells
  refine ⟨.pointer (some ⟨b, 0, none⟩), w', μ', by simp only [Instr.box, newVar, Sem.run_bind, h1, Result.andThen_ok, Sem.run_pure], h2, ?_⟩
  exact VRel.ptr (off := 0) (by simp [aBox]) h3
theorem alloc_good (ok : TyOK P T) (st : StRel μ h w) {t : TypeId} {v : Value} (ha : aAlloc T t h = some (v, h')) : GoodV P μ h w (Instr.alloc t true (.tuple #[])) v h' := by
  unfold aAlloc at ha
  split at ha
  · rename_i ti ht
    split at ha
    · rename_i z hz
      cases hf : z.cells.toList.all flat1
      · simp [hf] at ha
      · rw [hf] at ha
        simp only [cond_true, Option.some.injEq, Prod.mk.injEq] at ha
        obtain ⟨rfl, rfl⟩ := ha
        cases hsp : selfPtr T t
        · obtain ⟨w', μ', b, h1, h2, h3⟩ := st.newRow (P := P) t z.cells.toList z.cells 1 (LRel.of_flat1 _ _ hf)
          refine ⟨.pointer (some ⟨b, 0, none⟩), w', μ', by simp only [Instr.alloc, newVar, Sem.run_bind, run_zeroValue ok ht w hz, h1, Result.andThen_ok, Sem.run_pure], h2, ?_⟩
          exact VRel.ptr (off := 0) (by simp) h3
        · obtain ⟨w', μ', b, h1, h2, h3⟩ := st.newRowT (P := P) t z.cells.toList z.cells (LRel.of_flat1 _ _ hf)
          refine ⟨.pointer (some ⟨b, 0, none⟩), w', μ', by simp only [Instr.alloc, newVar, Sem.run_bind, run_zeroValue ok ht w hz, h1, Result.andThen_ok, Sem.run_pure], h2, ?_⟩
          exact VRel.ptr (off := 0) (by simp) h3
    · cases ha
  · cases ha
noncomputable def aLoad (T : Tr TI) (t : TypeId) (x : Value) (h : AHeap) : Option Value :=
  match x with
  | .pointer (some ⟨r, off, none⟩) => match T.get t, rowOf h r with
    | some ti, some vs => bif ti.agg then (cellsOf vs off ti.size).map (fun l => Value.agg l.toArray) else vs[off]?
    | _, _ => none
  | _ => none
theorem load_good (ok : TyOK P T) (st : StRel μ h w) {t : TypeId} {x x' v : Value} (hx : VRel μ h.next x x') (ha : aLoad T t x h = some v) :
    ∃ v', (Instr.loadAt t x').run P w = .ok v' w ∧ VRel μ h.next v v' := by
  unfold aLoad at ha
  split at ha
  · rename_i r off
    split at ha
    · rename_i ti vs ht hr
      cases hx with
      | ptr hlt hm =>
        obtain ⟨v', h1, h2⟩ := st.loadVar ok ht hr hm ha
        exact ⟨v', by simp only [Instr.loadAt, Instr.sureAddr, Sem.run_bind, Sem.run_pure, Result.andThen_ok, h1], h2⟩
    · cases ha
  · cases ha
noncomputable def aStore (T : Tr TI) (t : TypeId) (x v : Value) (h : AHeap) : Option AHeap :=
  match x with
  | .pointer (some ⟨r, off, none⟩) => match T.get t with
    | some ti => bif Nat.beq v.cells.size ti.size then writeRow h r off v.cells.toList else none
    | _ => none
  | _ => none
theorem store_good (ok : TyOK P T) (st : StRel μ h w) {t : TypeId} {x x' v v' : Value} (hx : VRel μ h.next x x') (hv : VRel μ h.next v v') (ha : aStore T t x v h = some h') :
    GoodU P μ h w (Instr.storeAt t x' v') h' := by
  unfold aStore at ha
  split at ha
  · rename_i r off
    split at ha
    · rename_i ti ht
      cases hb : Nat.beq v.cells.size ti.size
      · simp [hb] at ha
      · rw [hb] at ha
        simp only [cond_true] at ha
        cases hx with
        | ptr hlt hm =>
          have hl := hv.cells
          obtain ⟨w', h1, h2⟩ := st.storeCells (P := P) ha hm hl
          have hsz : v'.cells.size = ti.size := by
            have := hl.length
            simp only [Array.length_toList] at this
            have := Nat.eq_of_beq_eq_true hb
            omega
          exact ⟨w', μ, by simp only [Instr.storeAt, Instr.sureAddr, storeVar, Sem.run_bind, Sem.run_pure, Result.andThen_ok, run_sizeOf ok ht, hsz, ne_eq, not_true_eq_false, Sem.run_ite, if_false, h1], h2⟩
    · cases ha
  · cases ha
noncomputable def aFieldAddr (T : Tr TI) (s : TypeId) (x : Value) (f : Nat) : Option Value :=
  match x with
  | .pointer (some ⟨r, off, none⟩) => match T.get s with
    | some ti => match ti.und with
      | .struct fields => match fields[f]? with
        | some fd => match T.get fd.type with
          | some fi => bif Nat.beq fi.size 0 then none else some (.pointer (some ⟨r, off + fd.offset, none⟩))
          | none => none
        | none => none
      | _ => none
    | none => none
  | _ => none
theorem fieldAddr_good (ok : TyOK P T) {n : Nat} {s : TypeId} {x x' v : Value} {f : Nat} (hx : VRel μ n x x') (ha : aFieldAddr T s x f = some v) (w : World) :
    ∃ v', (Instr.fieldAt s x' f).run P w = .ok v' w ∧ VRel μ n v v' := by
  unfold aFieldAddr at ha
  split at ha
  · rename_i r off
    split at ha
    · rename_i ti ht
      split at ha
      · rename_i fields hu
        split at ha
        · rename_i fd hf
          split at ha
          · rename_i fi hfi
            cases hb : Nat.beq fi.size 0
            · rw [hb] at ha
              simp only [cond_false, Option.some.injEq] at ha
              subst ha
              cases hx with
              | ptr hlt hm =>
                have hsz : ¬ fi.size = 0 := fun hz => by rw [hz] at hb; cases hb
                rename_i e
                refine ⟨.pointer (some ⟨e.b, e.d + (off + fd.offset), none⟩), ?_, .ptr hlt hm⟩
                simp only [Instr.fieldAt, Sem.run_bind, run_underlying ok ht, hu, Result.andThen_ok, hf, Instr.sureAddr, Sem.run_pure, fieldPlace, run_sizeOf ok hfi, hsz, if_false, add_none]
                rw [Nat.add_assoc]
            · rw [hb] at ha; cases ha
          · cases ha
        · cases ha
      · cases ha
    · cases ha
  · cases ha
noncomputable def aIndexAddr (T : Tr TI) (t : TypeId) (x i : Value) : Option Value :=
  match T.get t, i with
  | some ti, .int _ i => match ti.und, x with
    | .array len elem, .pointer (some ⟨r, off, none⟩) => match T.get elem with
      | some ei => if 0 ≤ i ∧ i < len then some (.pointer (some ⟨r, off + i.toNat * ei.size, none⟩)) else none
      | none => none
    | .slice elem, .slice (some ⟨r, off, none⟩) len _ => match T.get elem with
      | some ei => if 0 ≤ i ∧ i < len then some (.pointer (some ⟨r, off + i.toNat * ei.size, none⟩)) else none
      | none => none
    | _, _ => none
  | _, _ => none
theorem indexAddr_good (ok : TyOK P T) {n : Nat} {t : TypeId} {x x' i i' v : Value} (hx : VRel μ n x x') (hi : VRel μ n i i') (ha : aIndexAddr T t x i = some v) (w : World) :
    ∃ v', (Instr.indexAt t x' i').run P w = .ok v' w ∧ VRel μ n v v' := by
  unfold aIndexAddr at ha
  split at ha
  · rename_i ti k i ht
    cases hi
    split at ha
    · rename_i len elem r off hu
      split at ha
      · rename_i ei he
        split at ha
        · rename_i hc
          cases ha
          cases hx with
          | ptr hlt hm =>
            rename_i e
            refine ⟨.pointer (some ⟨e.b, e.d + (off + i.toNat * ei.size), none⟩), ?_, .ptr hlt hm⟩
            simp only [Instr.indexAt, Sem.run_bind, asIntOf, Sem.run_pure, run_underlying ok ht, hu, Result.andThen_ok, Instr.sureAddr, hc, and_self, if_true, run_sizeOf ok he, add_none]
            rw [Nat.add_assoc]
        · cases ha
      · cases ha
    · rename_i elem r off len c hu
      split at ha
      · rename_i ei he
        split at ha
        · rename_i hc
          cases ha
          have key : ∀ (e : Ent) (cap : Nat), (Instr.indexAt t (.slice (some ⟨e.b, e.d + off, none⟩) len cap) (.int k i)).run P w = .ok (.pointer (some ⟨e.b, e.d + (off + i.toNat * ei.size), none⟩)) w := by
            intro e cap
            simp only [Instr.indexAt, Sem.run_bind, asIntOf, Sem.run_pure, run_underlying ok ht, hu, Result.andThen_ok, hc, and_self, if_true, run_sizeOf ok he, add_none]
            rw [Nat.add_assoc]
          cases hx with
          | sliceK hlt hm => exact ⟨_, key _ _, .ptr hlt hm⟩
          | sliceU hlt hm hl hcap => exact ⟨_, key _ _, .ptr hlt hm⟩
          | sliceZ hlt hm => omega
          | sliceKZ hlt hm => omega
        · cases ha
      · cases ha
    · cases ha
  · cases ha
noncomputable def aPart (T : Tr TI) (t : TypeId) (cs : List Value) (off : Nat) : Option Value :=
  match T.get t with
  | some ti => bif ti.agg then some (.agg ((cs.drop off).take ti.size).toArray) else cs[off]?
  | none => none
theorem part_good (ok : TyOK P T) {n : Nat} {t : TypeId} {cs cs' : Array Value} {off : Nat} {v : Value} (hx : LRel μ n cs.toList cs'.toList) (ha : aPart T t cs.toList off = some v) (w : World) :
    ∃ v', (part t cs' off).run P w = .ok v' w ∧ VRel μ n v v' := by
  unfold aPart at ha
  split at ha
  · rename_i ti ht
    cases hg : ti.agg
    · rw [hg] at ha
      simp only [cond_false] at ha
      obtain ⟨v', h1, h2⟩ := hx.getElem? _ ha
      rw [Array.getElem?_toList] at h1
      exact ⟨v', by simp [part, run_isAgg ok ht, hg, h1], h2⟩
    · rw [hg] at ha
      simp only [cond_true, Option.some.injEq] at ha
      subst ha
      refine ⟨.agg (cs'.extract off (off + ti.size)), by simp [part, run_isAgg ok ht, hg, run_sizeOf ok ht], .agg ?_⟩
      simp only [Array.toList_extract, List.extract_eq_take_drop, Nat.add_sub_cancel_left]
      exact LRel.take _ (LRel.drop _ hx)
  · cases ha
noncomputable def aField (T : Tr TI) (s : TypeId) (x : Value) (f : Nat) : Option Value :=
  match x, T.get s with
  | .agg cs, some ti => match ti.und with
    | .struct fields => match fields[f]? with
      | some fd => aPart T fd.type cs.toList fd.offset
      | none => none
    | _ => none
  | _, _ => none
theorem field_good (ok : TyOK P T) {n : Nat} {s : TypeId} {x x' v : Value} {f : Nat} (hx : VRel μ n x x') (ha : aField T s x f = some v) (w : World) :
    ∃ v', (Instr.field s x' f).run P w = .ok v' w ∧ VRel μ n v v' := by
  unfold aField at ha
  split at ha
  · rename_i cs ti ht
    split at ha
    · rename_i fields hu
      split at ha
      · rename_i fd hf
        cases hx with
        | agg hl =>
          obtain ⟨v', h1, h2⟩ := part_good ok hl ha w
          exact ⟨v', by simp only [Instr.field, Sem.run_bind, run_underlying ok ht, hu, Result.andThen_ok, hf, asAgg, Sem.run_pure, h1], h2⟩
      · cases ha
    · cases ha
  · cases ha
noncomputable def aIndex (T : Tr TI) (t : TypeId) (x i : Value) : Option Value :=
  match x, i, T.get t with
  | .agg cs, .int _ i, some ti => match ti.und with
    | .array len elem => match T.get elem with
      | some ei => if 0 ≤ i ∧ i < len then aPart T elem cs.toList (i.toNat * ei.size) else none
      | none => none
    | _ => none
  | .string s, .int _ i, some ti => match ti.und with
    | .string => if 0 ≤ i then (s.data.toList[i.toNat]?).map (fun b => Value.int .u8 b.toNat) else none
    | _ => none
  | _, _, _ => none
theorem index_good (ok : TyOK P T) {n : Nat} {t : TypeId} {x x' i i' v : Value} (hx : VRel μ n x x') (hi : VRel μ n i i') (ha : aIndex T t x i = some v) (w : World) :
    ∃ v', (Instr.index t x' i').run P w = .ok v' w ∧ VRel μ n v v' := by
  unfold aIndex at ha
  split at ha
  · rename_i cs k i ti ht
    cases hi
    split at ha
    · rename_i len elem hu
      split at ha
      · rename_i ei he
        split at ha
        · rename_i hc
          cases hx with
          | agg hl =>
            obtain ⟨v', h1, h2⟩ := part_good ok hl ha w
            exact ⟨v', by simp only [Instr.index, Sem.run_bind, asIntOf, Sem.run_pure, run_underlying ok ht, hu, Result.andThen_ok, hc, and_self, if_true, run_sizeOf ok he, h1], h2⟩
        · cases ha
      · cases ha
    · cases ha
  · rename_i s k i ti ht
    cases hi
    cases hx
    split at ha
    · rename_i hu
      split at ha
      · rename_i hc
        simp only [Option.map_eq_some_iff] at ha
        obtain ⟨b, hb, rfl⟩ := ha
        refine ⟨_, ?_, VRel.int _ _⟩
        have hb' : s[i.toNat]? = some b := by
          obtain ⟨h1, h2⟩ := List.getElem?_eq_some_iff.1 hb
          have h3 : i.toNat < s.size := by simpa using h1
          rw [getElem?_pos s i.toNat h3]
          exact congrArg some h2
        simp only [Instr.index, Sem.run_bind, asIntOf, Sem.run_pure, run_underlying ok ht, hu, Result.andThen_ok, hc, if_true, hb']
      · cases ha
    · cases ha
  · cases ha
noncomputable def aExtract (x : Value) (i : Nat) : Option Value :=
  match x with
  | .tuple vs => vs.toList[i]?
  | _ => none
theorem extract_good {n : Nat} {x x' v : Value} {i : Nat} (hx : VRel μ n x x') (ha : aExtract x i = some v) (w : World) :
    ∃ v', (Instr.extract x' i).run P w = .ok v' w ∧ VRel μ n v v' := by
  unfold aExtract at ha
  split at ha
  · cases hx with
    | tuple hl =>
      obtain ⟨v', h1, h2⟩ := hl.getElem? _ ha
      rw [Array.getElem?_toList] at h1
      exact ⟨v', by simp [Instr.extract, h1], h2⟩
  · cases ha
noncomputable def fillL (place : Nat → Option (Nat × Nat)) (cells : List Value) : List (Nat × Value) → Option (List Value)
  | [] => some cells
  | (i, v) :: rest => match place i with
    | none => none
    | some (off, size) => bif Nat.beq v.cells.size size && Nat.ble (off + size) cells.length then fillL place (splice cells off v.cells.toList) rest else none
theorem foldl_set_get (off : Nat) : ∀ (xs : List Value) (k : Nat) (cs : Array Value), (∀ i, ((xs.zipIdx k).foldl (fun cs (x : Value × Nat) => cs.setIfInBounds (off + x.2) x.1) cs)[i]? =
    if off + k ≤ i ∧ i < off + k + xs.length ∧ i < cs.size then xs[i - (off + k)]? else cs[i]?) ∧
    ((xs.zipIdx k).foldl (fun cs (x : Value × Nat) => cs.setIfInBounds (off + x.2) x.1) cs).size = cs.size
  | [], k, cs => ⟨fun i => by rw [if_neg (by simp; omega)]; rfl, by simp⟩
  | x :: xs, k, cs => by
    obtain ⟨ih1, ih2⟩ := foldl_set_get off xs (k + 1) (cs.setIfInBounds (off + k) x)
    refine ⟨fun i => ?_, by simp only [List.zipIdx_cons, List.foldl_cons]; rw [ih2]; simp⟩
    simp only [List.zipIdx_cons, List.foldl_cons]
    rw [ih1 i]
    simp only [Array.size_setIfInBounds, List.length_cons]
    by_cases hk : i = off + k
    · subst hk
      rw [if_neg (by omega)]
      by_cases hs : off + k < cs.size
      · rw [if_pos (by omega)]; simp [hs]
      · rw [if_neg (by omega)]; simp [hs]
    · by_cases hc : off + (k + 1) ≤ i ∧ i < off + (k + 1) + xs.length ∧ i < cs.size
      · rw [if_pos hc, if_pos (by omega), show i - (off + k) = (i - (off + (k + 1))) + 1 by omega, List.getElem?_cons_succ]
      · rw [if_neg hc, if_neg (by omega), Array.getElem?_setIfInBounds_ne (Ne.symm hk)]
inductive PRel (μ : Emb) (n : Nat) : List (Nat × Value) → List (Nat × Value) → Prop
  | nil : PRel μ n [] []
  | cons {i : Nat} {v v' : Value} {l l' : List (Nat × Value)} (h : VRel μ n v v') (t : PRel μ n l l') : PRel μ n ((i, v) :: l) ((i, v') :: l')
theorem fill_good {n : Nat} (place : Nat → Option (Nat × Nat)) : ∀ {ps ps' : List (Nat × Value)}, PRel μ n ps ps' → ∀ {cs : List Value} {cs' : Array Value} {r : List Value}, LRel μ n cs cs'.toList → fillL place cs ps = some r →
    ∃ r', Instr.fill place cs' ps' = some r' ∧ LRel μ n r r'.toList
  | _, _, .nil, cs, cs', r, hl, hf => by
    simp only [fillL, Option.some.injEq] at hf; subst hf; exact ⟨cs', rfl, hl⟩
  | _, _, .cons (i := i) (v := v) (v' := v') h t, cs, cs', r, hl, hf => by
    simp only [fillL] at hf
    split at hf
    · cases hf
    · rename_i off size hp
      cases hb : Nat.beq v.cells.size size && Nat.ble (off + size) cs.length
      · simp [hb] at hf
      · rw [hb] at hf
        simp only [cond_true] at hf
        simp only [Bool.and_eq_true] at hb
        have e1 := Nat.eq_of_beq_eq_true hb.1
        have e2 : off + size ≤ cs.length := Nat.le_of_ble_eq_true hb.2
        have hvl := h.cells.length
        simp only [Array.length_toList] at hvl
        have hcl := hl.length
        simp only [Array.length_toList] at hcl
        obtain ⟨g1, g2⟩ := foldl_set_get off v'.cells.toList 0 cs'
        have hfold : v'.cells.zipIdx.foldl (fun cs (x : Value × Nat) => cs.setIfInBounds (off + x.2) x.1) cs' = (v'.cells.toList.zipIdx 0).foldl (fun cs (x : Value × Nat) => cs.setIfInBounds (off + x.2) x.1) cs' := by
          rw [← Array.foldl_toList, Array.toList_zipIdx]
        have hl2 : LRel μ n (splice cs off v.cells.toList) (v'.cells.zipIdx.foldl (fun cs (x : Value × Nat) => cs.setIfInBounds (off + x.2) x.1) cs').toList := by
          rw [hfold]
          refine LRel.of_getElem? (by rw [splice_length, Array.length_toList]; exact hcl.trans g2.symm) ?_
          intro j a b ha hb'
          rw [splice_get _ _ _ _ (by simp; omega)] at ha
          rw [Array.getElem?_toList, g1 j] at hb'
          simp only [Array.length_toList, Nat.add_zero] at ha hb'
          by_cases hc : off ≤ j ∧ j < off + v.cells.size
          · rw [if_pos hc] at ha
            rw [if_pos (by omega)] at hb'
            obtain ⟨v2, h3, h4⟩ := h.cells.getElem? _ ha
            rw [hb'] at h3; cases h3; exact h4
          · rw [if_neg hc] at ha
            rw [if_neg (by omega)] at hb'
            obtain ⟨v2, h3, h4⟩ := hl.getElem? _ ha
            rw [Array.getElem?_toList, hb'] at h3; cases h3; exact h4
        obtain ⟨r', h5, h6⟩ := fill_good place t hl2 hf
        refine ⟨r', ?_, h6⟩
        have hcond : ¬ (v'.cells.size ≠ size || decide (off + v'.cells.size > cs'.size)) = true := by
          simp; omega
        simp only [Instr.fill, hp]
        rw [if_neg (by simpa using hcond)]
        exact h5
noncomputable def places (T : Tr TI) : List Field → Option (List (Nat × Nat))
  | [] => some []
  | f :: fs => match T.get f.type, places T fs with
    | some ti, some l => some ((f.offset, ti.size) :: l)
    | _, _ => none
theorem run_places (ok : TyOK P T) : ∀ {fs : List Field} {l : List (Nat × Nat)} (_ : places T fs = some l) (w : World),
    (List.mapM (fun (f : Field) => do pure (f.offset, ← sizeOf f.type)) fs : Sem (List (Nat × Nat))).run P w = .ok l w
  | [], l, h, w => by simp only [places, Option.some.injEq] at h; subst h; rfl
  | f :: fs, l, h, w => by
    simp only [places] at h
    split at h
    · rename_i ti l' ht hl
      cases h
      have ih := run_places ok hl w
      simp only [List.mapM_cons, Sem.run_bind, run_sizeOf ok ht, Result.andThen_ok, Sem.run_pure]
      rw [ih]
      rfl
    · cases h
noncomputable def aBuild (T : Tr TI) (t : TypeId) (parts : List (Nat × Value)) : Option Value :=
  match T.get t with
  | some ti => match ti.zero with
    | some z => bif z.cells.toList.all flat1 then match ti.und with
      | .struct fields => match places T fields.toList with
        | some l => (fillL (fun i => l[i]?) z.cells.toList parts).map fun r => Value.agg r.toArray
        | none => none
      | .array _ elem => match T.get elem with
        | some ei => (fillL (fun i => some (i * ei.size, ei.size)) z.cells.toList parts).map fun r => Value.agg r.toArray
        | none => none
      | _ => none
      else none
    | none => none
  | none => none
theorem build_good (ok : TyOK P T) {n : Nat} {t : TypeId} {ps : List (Nat × Value)} {ps' : Array (Nat × Value)} {v : Value} (hp : PRel μ n ps ps'.toList) (ha : aBuild T t ps = some v) (w : World) :
    ∃ v', (Instr.build t ps').run P w = .ok v' w ∧ VRel μ n v v' := by
  unfold aBuild at ha
  split at ha
  · rename_i ti ht
    split at ha
    · rename_i z hz
      cases hf : z.cells.toList.all flat1
      · simp [hf] at ha
      · rw [hf] at ha
        simp only [cond_true] at ha
        split at ha
        · rename_i fields hu
          split at ha
          · rename_i l hl
            simp only [Option.map_eq_some_iff] at ha
            obtain ⟨r, hr, rfl⟩ := ha
            obtain ⟨r', h1, h2⟩ := fill_good (fun i => l[i]?) hp (LRel.of_flat1 μ n hf) hr
            refine ⟨.agg r', ?_, .agg (by simpa using h2)⟩
            have hm : (fields.mapM (fun (f : Field) => do pure (f.offset, ← sizeOf f.type)) : Sem (Array (Nat × Nat))).run P w = .ok l.toArray w := by
              rw [Array.mapM_eq_mapM_toList, Sem.run_map, run_places ok hl w]
              rfl
            simp only [Instr.build, Sem.run_bind, run_zeroValue ok ht w hz, run_underlying ok ht, hu, Result.andThen_ok]
            rw [hm]
            simp only [Result.andThen_ok, List.getElem?_toArray, h1, Sem.run_pure]
          · cases ha
        · rename_i len elem hu
          split at ha
          · rename_i ei he
            simp only [Option.map_eq_some_iff] at ha
            obtain ⟨r, hr, rfl⟩ := ha
            obtain ⟨r', h1, h2⟩ := fill_good (fun i => some (i * ei.size, ei.size)) hp (LRel.of_flat1 μ n hf) hr
            refine ⟨.agg r', ?_, .agg (by simpa using h2)⟩
            simp only [Instr.build, Sem.run_bind, run_zeroValue ok ht w hz, run_underlying ok ht, hu, Result.andThen_ok, run_sizeOf ok he, h1, Sem.run_pure]
          · cases ha
        · cases ha
    · cases ha
  · cases ha
end ops
end Go.Ab
namespace Go.Ab
set_option linter.unusedSimpArgs false
set_option linter.unusedVariables false
section ops
variable {P : Program} {T : Tr TI} {μ : Emb} {h h' : AHeap} {w : World}
noncomputable def zeros (z : List Value) : Nat → List Value
  | 0 => []
  | n + 1 => z ++ zeros z n
theorem zeros_length (z : List Value) : ∀ n, (zeros z n).length = n * z.length
  | 0 => by simp [zeros]
  | n + 1 => by simp [zeros, zeros_length z n, Nat.add_mul]; omega
theorem zeros_get (z : List Value) : ∀ (n i : Nat), i < n * z.length → (zeros z n)[i]? = z[i % z.length]?
  | 0, i, h => by simp at h
  | n + 1, i, h => by
    simp only [zeros]
    by_cases hi : i < z.length
    · rw [List.getElem?_append_left hi, Nat.mod_eq_of_lt hi]
    · rw [List.getElem?_append_right (by omega), zeros_get z n (i - z.length) (by rw [Nat.add_mul] at h; omega)]
      congr 1
      exact (Nat.mod_eq_sub_mod (by omega)).symm
theorem zeros_flat {z : List Value} (hz : z.all flat1 = true) : ∀ n, (zeros z n).all flat1 = true
  | 0 => rfl
  | n + 1 => by simp only [zeros, List.all_append, hz, zeros_flat hz n, Bool.and_self]
theorem zeros_eq (z : Array Value) (n : Nat) : ((Array.range (n * z.size)).map fun i => z[i % z.size]!).toList = zeros z.toList n := by
  apply List.ext_getElem?
  intro i
  by_cases hi : i < n * z.size
  · rw [zeros_get _ _ _ (by simpa using hi)]
    have hpos : 0 < z.size := by
      rcases Nat.eq_zero_or_pos z.size with h | h
      · rw [h] at hi; simp at hi
      · exact h
    have hm : i % z.size < z.size := Nat.mod_lt _ hpos
    simp [hi, hm, getElem!_pos]
  · rw [List.getElem?_eq_none (l := zeros z.toList n) (by rw [zeros_length]; simpa using hi), List.getElem?_eq_none (by simpa using hi)]
theorem zeros_pick (z : Array Value) (n s : Nat) (hzs : z.size = s) : ∃ zz : Array Value, (n * s = 0 → zz = #[]) ∧ (¬ n * s = 0 → zz = z) ∧
    ((Array.range (n * s)).map (fun i => zz[i % zz.size]!)).toList = zeros z.toList n := by
  by_cases h0 : n * s = 0
  · refine ⟨#[], fun _ => rfl, fun h => (h h0).elim, ?_⟩
    have : (zeros z.toList n).length = 0 := by rw [zeros_length, Array.length_toList, hzs]; exact h0
    rw [List.length_eq_zero_iff.1 this]; simp [h0]
  · refine ⟨z, fun h => (h0 h).elim, fun _ => rfl, ?_⟩
    rw [← hzs]; exact zeros_eq _ _
noncomputable def aBuildSlice (T : Tr TI) (t : TypeId) (len : Nat) (parts : List (Nat × Value)) (h : AHeap) : Option (Value × AHeap) :=
  match T.get t with
  | some ti => match ti.und with
    | .slice elem => match T.get elem with
      | some ei => match ei.zero with
        | some z => bif z.cells.toList.all flat1 && (Nat.ble (len * ei.size) 16777216 && Nat.beq z.cells.size ei.size) then
            match fillL (fun i => some (i * ei.size, ei.size)) (zeros z.cells.toList len) parts with
            | some r => some (.slice (some ⟨h.next, 0, none⟩) len (len + 1), h.new (.cells r ei.size))
            | none => none
          else none
        | none => none
      | none => none
    | _ => none
  | none => none
theorem buildSlice_good (ok : TyOK P T) (st : StRel μ h w) {t : TypeId} {len : Nat} {ps : List (Nat × Value)} {ps' : Array (Nat × Value)} {v : Value} (hp : PRel μ h.next ps ps'.toList)
    (ha : aBuildSlice T t len ps h = some (v, h')) : GoodV P μ h w (Instr.buildSlice t len ps') v h' := by
  unfold aBuildSlice at ha
  split at ha
  · rename_i ti ht
    split at ha
    · rename_i elem hu
      split at ha
      · rename_i ei he
        split at ha
        · rename_i z hz
          cases hb : z.cells.toList.all flat1 && (Nat.ble (len * ei.size) 16777216 && Nat.beq z.cells.size ei.size)
          · rw [hb, cond_false] at ha; cases ha
          · rw [hb] at ha
            simp only [cond_true] at ha
            simp only [Bool.and_eq_true] at hb
            obtain ⟨hf, hble, hbeq⟩ := hb
            have hle : len * ei.size ≤ 16777216 := Nat.le_of_ble_eq_true hble
            have hzs : z.cells.size = ei.size := Nat.eq_of_beq_eq_true hbeq
            split at ha
            · rename_i r hr
              simp only [Option.some.injEq, Prod.mk.injEq] at ha
              obtain ⟨rfl, rfl⟩ := ha
              obtain ⟨zz, hz0, hz1, hz2⟩ := zeros_pick z.cells len ei.size hzs
              have hl0 : LRel μ h.next (zeros z.cells.toList len) ((Array.range (len * ei.size)).map (fun i => zz[i % zz.size]!)).toList := by
                rw [hz2]; exact LRel.of_flat1 _ _ (zeros_flat hf _)
              obtain ⟨r', h1, h2⟩ := fill_good (fun i => some (i * ei.size, ei.size)) hp hl0 hr
              obtain ⟨w', μ', b, h3, h4, h5⟩ := st.newRow (P := P) elem r r' ei.size h2
              refine ⟨.slice (some ⟨b, 0, none⟩) len len, w', μ', ?_, h4, ?_⟩
              · have hng : ¬ len * ei.size > 2 ^ 24 := by omega
                by_cases h0 : len * ei.size = 0
                · have e := hz0 h0; subst e
                  rw [h0] at h1
                  simp only [Instr.buildSlice, Sem.run_bind, run_underlying ok ht, hu, Result.andThen_ok, run_sizeOf ok he, h0, if_true, if_false, Nat.not_lt_zero, gt_iff_lt, Sem.run_pure, h1, h3]
                · have e := hz1 h0; subst e
                  simp only [Instr.buildSlice, Sem.run_bind, run_underlying ok ht, hu, Result.andThen_ok, run_sizeOf ok he, hng, h0, if_false, Sem.run_pure, run_zeroValue ok he w hz, h1, h3]
              · exact VRel.sliceK (off := 0) (by simp) h5
            · cases ha
        · cases ha
      · cases ha
    · cases ha
  · cases ha
noncomputable def aMakeSlice (T : Tr TI) (t : TypeId) (len cap : Value) (h : AHeap) : Option (Value × AHeap) :=
  match T.get t, len, cap with
  | some ti, .int _ l, .int _ c => match ti.und with
    | .slice elem => match T.get elem with
      | some ei => match ei.zero with
        | some z => if z.cells.toList.all flat1 = true ∧ z.cells.size = ei.size ∧ 0 ≤ l ∧ l ≤ c ∧ c ≤ 9223372036854775807 ∧ (ei.bytes : Int) * c ≤ 281474976710656 then
            some (.slice (some ⟨h.next, 0, none⟩) l.toNat (c.toNat + 1), h.new (.cells (zeros z.cells.toList c.toNat) ei.size))
          else none
        | none => none
      | none => none
    | _ => none
  | _, _, _ => none
theorem wrap_small {n : Int} (h0 : 0 ≤ n) (h1 : n ≤ 9223372036854775807) : IntKind.i64.wrap n = n := by
  simp only [IntKind.wrap, IntKind.bits, IntKind.signed]
  have e : (2 : Int) ^ 64 = 18446744073709551616 := by decide
  have e2 : (2 : Int) ^ (64 - 1) = 9223372036854775808 := by decide
  simp only [e, e2]
  rw [Int.emod_eq_of_lt h0 (by omega)]
  simp; omega
theorem makeSlice_good (ok : TyOK P T) (st : StRel μ h w) {t : TypeId} {l l' c c' v : Value} (hl : VRel μ h.next l l') (hc : VRel μ h.next c c') (ha : aMakeSlice T t l c h = some (v, h')) :
    GoodV P μ h w (Instr.makeSlice t l' c') v h' := by
  unfold aMakeSlice at ha
  split at ha
  · rename_i ti k l k' c ht
    cases hl; cases hc
    split at ha
    · rename_i elem hu
      split at ha
      · rename_i ei he
        split at ha
        · rename_i z hz
          split at ha
          · rename_i hcnd
            obtain ⟨hf, hzs, h0, hlc, hcm, hbm⟩ := hcnd
            simp only [Option.some.injEq, Prod.mk.injEq] at ha
            obtain ⟨rfl, rfl⟩ := ha
            have wl := wrap_small h0 (by omega)
            have wc := wrap_small (n := c) (by omega) hcm
            obtain ⟨i, hi1, hi2, hi3, hi4⟩ := run_typeInfo ok he w
            obtain ⟨zz, hz0, hz1, hz2⟩ := zeros_pick z.cells c.toNat ei.size hzs
            obtain ⟨w', μ', b, h3, h4, h5⟩ := st.newRow (P := P) elem (zeros z.cells.toList c.toNat) ((Array.range (c.toNat * ei.size)).map (fun i => zz[i % zz.size]!)) ei.size
              (by rw [hz2]; exact LRel.of_flat1 _ _ (zeros_flat hf _))
            refine ⟨.slice (some ⟨b, 0, none⟩) l.toNat c.toNat, w', μ', ?_, h4, VRel.sliceK (off := 0) (by simp) h5⟩
            have htl : (decide (c < 0) || decide ((ei.bytes : Int) * c > 2 ^ 48)) = false := by
              have e : (2 : Int) ^ 48 = 281474976710656 := by decide
              rw [e]; simp; omega
            have hnl : (decide (l < 0) || decide (l > c)) = false := by simp; omega
            by_cases h0 : c.toNat * ei.size = 0
            · have e := hz0 h0; subst e
              rw [h0] at h3
              simp only [Instr.makeSlice, Sem.run_bind, run_underlying ok ht, hu, Result.andThen_ok, asInt, asIntOf, Sem.run_pure, hi1, wl, wc, hi3, htl, Bool.false_or, hnl, Bool.or_false, Bool.false_eq_true, if_false, run_askRoom, run_sizeOf ok he, h0, if_true, h3]
            · have e := hz1 h0; subst e
              simp only [Instr.makeSlice, Sem.run_bind, run_underlying ok ht, hu, Result.andThen_ok, asInt, asIntOf, Sem.run_pure, hi1, wl, wc, hi3, htl, Bool.false_or, hnl, Bool.or_false, Bool.false_eq_true, if_false, run_askRoom, run_sizeOf ok he, h0, run_zeroValue ok he w hz, h3]
          · cases ha
        · cases ha
      · cases ha
    · cases ha
  · cases ha
noncomputable def bnd (v : Option Value) (d y : Nat) : Option Nat :=
  match v with
  | none => some d
  | some (.int _ i) => if 0 ≤ i ∧ i.toNat ≤ y then some i.toNat else none
  | _ => none
noncomputable def bounds (len cap : Nat) (lo hi mx : Option Value) : Option (Nat × Nat × Nat) :=
  match mx, hi with
  | some _, none => none
  | _, _ => match bnd mx cap cap with
    | none => none
    | some m => match bnd hi len m with
      | none => none
      | some h => match bnd lo 0 h with
        | none => none
        | some l => some (l, h, m)
noncomputable def OV (μ : Emb) (n : Nat) : Option Value → Option Value → Prop
  | none, none => True
  | some v, some v' => VRel μ n v v'
  | _, _ => False
theorem run_sliceBound {n : Nat} {v v' : Value} (hv : VRel μ n v v') {d y m : Nat} (hb : bnd (some v) d y = some m) {y' : Nat} (hy : y ≤ y') (code : BoundsCode) (w : World) :
    (Instr.sliceBound v' y' code).run P w = .ok m w ∧ m ≤ y := by
  unfold bnd at hb
  split at hb
  · rename_i hx; cases hx
  · rename_i k i hx
    cases hx
    cases hv
    split at hb
    · rename_i hc
      cases hb
      refine ⟨?_, by omega⟩
      simp only [Instr.sliceBound, Sem.run_bind, asIntOf, Sem.run_pure, Result.andThen_ok]
      rw [if_pos (by omega)]
      rfl
    · cases hb
  · cases hb
theorem bound_pick {n : Nat} {v v' : Option Value} (hv : OV μ n v v') {d y m : Nat} (hb : bnd v d y = some m) {y' : Nat} (hy : y ≤ y') (w : World) :
    (v = none ∧ v' = none ∧ m = d) ∨ ∃ x x', v = some x ∧ v' = some x' ∧ m ≤ y ∧ ∀ code, (Instr.sliceBound x' y' code).run P w = .ok m w := by
  cases v with
  | none => cases v' with
    | none => simp only [bnd, Option.some.injEq] at hb; exact .inl ⟨rfl, rfl, hb.symm⟩
    | some _ => exact hv.elim
  | some x => cases v' with
    | none => exact hv.elim
    | some x' => exact .inr ⟨x, x', rfl, rfl, (run_sliceBound (P := P) hv hb hy .index w).2, fun code => (run_sliceBound (P := P) hv hb hy code w).1⟩
theorem run_sliceBounds {n : Nat} {lo lo' hi hi' mx mx' : Option Value} (hlo : OV μ n lo lo') (hhi : OV μ n hi hi') (hmx : OV μ n mx mx') {len cap l hh m : Nat} (hb : bounds len cap lo hi mx = some (l, hh, m))
    (hlc : len ≤ cap) {cap' : Nat} (hc : cap ≤ cap') (isS : Bool) (w : World) :
    (Instr.sliceBounds isS len cap' lo' hi' mx').run P w = .ok (l, hh, if mx.isSome then m else cap') w ∧ l ≤ hh ∧ hh ≤ m ∧ m ≤ cap ∧ (mx = none → m = cap) := by
  unfold bounds at hb
  split at hb
  · cases hb
  · rename_i hno
    split at hb
    · cases hb
    · rename_i m0 hm0
      split at hb
      · cases hb
      · rename_i h0 hh0
        split at hb
        · cases hb
        · rename_i l0 hl0
          simp only [Option.some.injEq, Prod.mk.injEq] at hb
          obtain ⟨rfl, rfl, rfl⟩ := hb
          rcases bound_pick (P := P) hmx hm0 hc w with ⟨rfl, rfl, rfl⟩ | ⟨x, x', rfl, rfl, m1, m2⟩ <;>
          rcases bound_pick (P := P) hlo hl0 (Nat.le_refl _) w with ⟨rfl, rfl, rfl⟩ | ⟨z, z', rfl, rfl, l1, l2⟩ <;>
          first
            | (rcases bound_pick (P := P) hhi hh0 hc w with ⟨rfl, rfl, rfl⟩ | ⟨y, y', rfl, rfl, h1, h2⟩ <;>
                refine ⟨?_, by omega, by omega, by omega, by simp⟩ <;>
                simp only [Instr.sliceBounds, Sem.run_bind, Sem.run_pure, Result.andThen_ok, Option.isSome_none, Bool.false_eq_true, if_false, *])
            | (rcases bound_pick (P := P) hhi hh0 (Nat.le_refl _) w with ⟨rfl, rfl, rfl⟩ | ⟨y, y', rfl, rfl, h1, h2⟩ <;>
                first
                  | exact (hno _ rfl rfl).elim
                  | (refine ⟨?_, by omega, by omega, by omega, by simp⟩
                     simp only [Instr.sliceBounds, Sem.run_bind, Sem.run_pure, Result.andThen_ok, Option.isSome_some, if_true, *]))
noncomputable def rowSz (h : AHeap) (r : Nat) : Option Nat :=
  match h.get r with
  | some (.cells _ sz) => some sz
  | _ => none
noncomputable def aSlice (T : Tr TI) (t : TypeId) (x : Value) (lo hi mx : Option Value) (h : AHeap) : Option Value :=
  match T.get t with
  | some ti => match ti.und, x with
    | .slice elem, .slice none 0 0 => match T.get elem with
      | some _ => match bounds 0 0 lo hi mx with
        | some _ => some (.slice none 0 0)
        | none => none
      | none => none
    | .slice elem, .slice (some ⟨r, off, none⟩) len 0 => match T.get elem with
      | some ei => match bounds len len lo hi mx with
        | some (l, hh, m) => match mx with
          | none => bif Nat.beq l 0 then some (.slice (some ⟨r, off, none⟩) hh 0) else match rowSz h r with
            | some sz => bif Nat.beq sz ei.size then some (.slice (some ⟨r, off + l * ei.size, none⟩) (hh - l) 0) else none
            | none => none
          | some _ => bif Nat.beq m l then some (.slice (some ⟨r, off, none⟩) (hh - l) (m - l + 1)) else some (.slice (some ⟨r, off + l * ei.size, none⟩) (hh - l) (m - l + 1))
        | none => none
      | none => none
    | .slice elem, .slice (some ⟨r, off, none⟩) len (c + 1) => match T.get elem with
      | some ei => if len ≤ c then match bounds len c lo hi mx with
        | some (l, hh, m) => bif Nat.beq m l then some (.slice (some ⟨r, off, none⟩) (hh - l) (m - l + 1)) else some (.slice (some ⟨r, off + l * ei.size, none⟩) (hh - l) (m - l + 1))
        | none => none
        else none
      | none => none
    | .array n elem, .pointer (some ⟨r, off, none⟩) => match T.get elem with
      | some ei => match bounds n n lo hi mx with
        | some (l, hh, m) => bif Nat.beq m l then some (.slice (some ⟨r, off, none⟩) (hh - l) (m - l + 1)) else some (.slice (some ⟨r, off + l * ei.size, none⟩) (hh - l) (m - l + 1))
        | none => none
      | none => none
    | .string, .string s => match mx with
      | some _ => none
      | none => match bounds s.size s.size lo hi none with
        | some (l, hh, _) => some (.string (s.extract l hh))
        | none => none
    | _, _ => none
  | none => none
theorem slice_good (ok : TyOK P T) (st : StRel μ h w) {t : TypeId} {x x' v : Value} {lo lo' hi hi' mx mx' : Option Value} (hx : VRel μ h.next x x') (hlo : OV μ h.next lo lo') (hhi : OV μ h.next hi hi') (hmx : OV μ h.next mx mx')
    (ha : aSlice T t x lo hi mx h = some v) : ∃ v', (Instr.sliceAt t x' lo' hi' mx').run P w = .ok v' w ∧ VRel μ h.next v v' := by
  unfold aSlice at ha
  split at ha
  · rename_i ti ht
    split at ha
    · rename_i elem hu
      split at ha
      · rename_i ei he
        split at ha
        · rename_i b hb
          cases ha
          obtain ⟨l, hh, m⟩ := b
          cases hx
          obtain ⟨h1, h2, h3, h4, h5⟩ := run_sliceBounds (P := P) hlo hhi hmx hb (Nat.le_refl _) (Nat.le_refl _) true w
          have e1 : l = 0 := by omega
          have e2 : hh = 0 := by omega
          have e3 : (if mx.isSome then m else 0) = 0 := by split <;> omega
          rw [e1, e2, e3] at h1
          refine ⟨.slice none 0 0, ?_, .slice0⟩
          simp only [Instr.sliceAt, Sem.run_bind, run_underlying ok ht, hu, Result.andThen_ok, Instr.slice, h1, run_sizeOf ok he, if_true, Sem.run_pure, Nat.sub_self]
        · cases ha
      · cases ha
    · rename_i elem r off len hu
      split at ha
      · rename_i ei he
        split at ha
        · rename_i l hh m hb
          have key : ∀ (a : Addr) (cap : Nat), len ≤ cap → (Instr.sliceAt t (.slice (some a) len cap) lo' hi' mx').run P w =
              .ok (.slice (if (if mx.isSome then m else cap) = l then some a else some (a.add (l * ei.size))) (hh - l) ((if mx.isSome then m else cap) - l)) w ∧ l ≤ hh ∧ hh ≤ m ∧ m ≤ len ∧ (mx = none → m = len) := by
            intro a cap hcap
            obtain ⟨h1, h2, h3, h4, h5⟩ := run_sliceBounds (P := P) hlo hhi hmx hb (Nat.le_refl _) hcap true w
            refine ⟨?_, h2, h3, h4, h5⟩
            simp only [Instr.sliceAt, Sem.run_bind, run_underlying ok ht, hu, Result.andThen_ok, Instr.slice, h1, run_sizeOf ok he, Option.map_some, Sem.run_pure]
          cases mx with
          | none =>
            simp only at ha
            cases hbl : Nat.beq l 0
            rotate_left
            · rw [hbl, cond_true] at ha
              cases ha
              have el := Nat.eq_of_beq_eq_true hbl
              subst el
              cases hx with
              | sliceU hlt hm hl hcp =>
                rename_i cap e
                obtain ⟨k1, k2, k3, k4, k5⟩ := key ⟨e.b, e.d + off, none⟩ cap hl
                simp only [Option.isSome_none, Bool.false_eq_true, if_false, Nat.sub_zero, Nat.zero_mul] at k1
                refine ⟨_, k1, ?_⟩
                by_cases hcl : cap = 0
                · rw [if_pos hcl]
                  have e0 : hh = 0 := by omega
                  rw [e0, hcl]
                  exact .sliceZ hlt hm
                · rw [if_neg hcl, add_none, Nat.add_zero]
                  exact .sliceU hlt hm (by omega) hcp
              | sliceZ hlt hm =>
                rename_i xo sp e
                obtain ⟨k1, k2, k3, k4, k5⟩ := key ⟨e.b, xo, sp⟩ 0 (Nat.le_refl _)
                have e2 : hh = 0 := by omega
                subst e2
                simp only [Option.isSome_none, Bool.false_eq_true, if_false, if_true, Nat.sub_self] at k1
                exact ⟨_, k1, .sliceZ hlt hm⟩
            rw [hbl, cond_false] at ha
            split at ha
            · rename_i sz hsz
              cases hbq : Nat.beq sz ei.size
              · rw [hbq, cond_false] at ha; cases ha
              · rw [hbq, cond_true] at ha
                cases ha
                have esz : sz = ei.size := Nat.eq_of_beq_eq_true hbq
                cases hx with
                | sliceU hlt hm hl hcp =>
                  rename_i cap e
                  obtain ⟨k1, k2, k3, k4, k5⟩ := key ⟨e.b, e.d + off, none⟩ cap hl
                  have k6 := k5 rfl
                  simp only [Option.isSome_none, Bool.false_eq_true, if_false] at k1
                  refine ⟨_, k1, ?_⟩
                  have hes : e.sz = ei.size := by
                    unfold rowSz at hsz
                    split at hsz
                    · rename_i vs sz' hg
                      cases hsz
                      obtain ⟨_, e', c, a2, a3, a4, _⟩ := st.live r _ hg
                      rw [hm] at a2; cases a2; omega
                    · cases hsz
                  by_cases hcl : cap = l
                  · rw [if_pos hcl]
                    have e0 : hh - l = 0 := by omega
                    have e1 : cap - l = 0 := by omega
                    rw [e0, e1]
                    exact .sliceZ hlt hm
                  · rw [if_neg hcl, add_none, Nat.add_assoc]
                    refine .sliceU hlt hm (by omega) ?_
                    have : l * ei.size + (cap - l) * ei.size = cap * ei.size := by rw [← Nat.add_mul]; congr 1; omega
                    rw [hes] at hcp ⊢
                    omega
                | sliceZ hlt hm =>
                  rename_i xo sp e
                  obtain ⟨k1, k2, k3, k4, k5⟩ := key ⟨e.b, xo, sp⟩ 0 (Nat.le_refl _)
                  have e1 : l = 0 := by omega
                  have e2 : hh = 0 := by omega
                  subst e1 e2
                  simp only [Option.isSome_none, Bool.false_eq_true, if_false, if_true, Nat.sub_self] at k1
                  exact ⟨_, k1, .sliceZ hlt hm⟩
            · cases ha
          | some y =>
            simp only at ha
            cases hx with
            | sliceU hlt hm hl hcp =>
              rename_i cap e
              obtain ⟨k1, k2, k3, k4, k5⟩ := key ⟨e.b, e.d + off, none⟩ cap hl
              simp only [Option.isSome_some, if_true] at k1
              refine ⟨_, k1, ?_⟩
              cases hbq : Nat.beq m l
              · rw [hbq, cond_false] at ha; cases ha
                have : ¬ m = l := fun h => by rw [h, Nat.beq_refl] at hbq; cases hbq
                rw [if_neg this, add_none, Nat.add_assoc]
                exact .sliceK hlt hm
              · rw [hbq, cond_true] at ha; cases ha
                rw [if_pos (Nat.eq_of_beq_eq_true hbq)]
                exact .sliceK hlt hm
            | sliceZ hlt hm =>
              rename_i xo sp e
              obtain ⟨k1, k2, k3, k4, k5⟩ := key ⟨e.b, xo, sp⟩ 0 (Nat.le_refl _)
              have e1 : l = 0 := by omega
              have e2 : hh = 0 := by omega
              have e3 : m = 0 := by omega
              subst e1 e2 e3
              simp only [Option.isSome_some, if_true, Nat.sub_self] at k1
              refine ⟨_, k1, ?_⟩
              simp only [Nat.beq_refl, cond_true, Option.some.injEq] at ha
              subst ha
              exact .sliceKZ hlt hm
        · cases ha
      · cases ha
    · rename_i elem r off len c hu
      split at ha
      · rename_i ei he
        split at ha
        · rename_i hlen
          split at ha
          · rename_i l hh m hb
            have key : ∀ (a : Addr), (Instr.sliceAt t (.slice (some a) len c) lo' hi' mx').run P w =
                .ok (.slice (if m = l then some a else some (a.add (l * ei.size))) (hh - l) (m - l)) w ∧ l ≤ hh ∧ hh ≤ m ∧ m ≤ c := by
              intro a
              obtain ⟨h1, h2, h3, h4, h5⟩ := run_sliceBounds (P := P) hlo hhi hmx hb hlen (Nat.le_refl _) true w
              have e : (if mx.isSome then m else c) = m := by
                cases mx with
                | none => simp only [Option.isSome_none, Bool.false_eq_true, if_false]; exact (h5 rfl).symm
                | some _ => rfl
              rw [e] at h1
              refine ⟨?_, h2, h3, h4⟩
              simp only [Instr.sliceAt, Sem.run_bind, run_underlying ok ht, hu, Result.andThen_ok, Instr.slice, h1, run_sizeOf ok he, Option.map_some, Sem.run_pure]
            cases hx with
            | sliceK hlt hm =>
              obtain ⟨k1, k2, k3, k4⟩ := key _
              refine ⟨_, k1, ?_⟩
              cases hbq : Nat.beq m l
              · rw [hbq, cond_false] at ha; cases ha
                have : ¬ m = l := fun h => by rw [h, Nat.beq_refl] at hbq; cases hbq
                rw [if_neg this, add_none, Nat.add_assoc]
                exact .sliceK hlt hm
              · rw [hbq, cond_true] at ha; cases ha
                rw [if_pos (Nat.eq_of_beq_eq_true hbq)]
                exact .sliceK hlt hm
            | sliceKZ hlt hm =>
              rename_i xo sp e
              obtain ⟨k1, k2, k3, k4⟩ := key ⟨e.b, xo, sp⟩
              have e1 : l = 0 := by omega
              have e2 : hh = 0 := by omega
              have e3 : m = 0 := by omega
              subst e1 e2 e3
              simp only [if_true, Nat.sub_self] at k1
              refine ⟨_, k1, ?_⟩
              simp only [Nat.beq_refl, cond_true, Option.some.injEq] at ha
              subst ha
              exact .sliceKZ hlt hm
          · cases ha
        · cases ha
      · cases ha
    · rename_i n elem r off hu
      split at ha
      · rename_i ei he
        split at ha
        · rename_i l hh m hb
          cases hx with
          | ptr hlt hm =>
            rename_i e
            obtain ⟨h1, h2, h3, h4, h5⟩ := run_sliceBounds (P := P) hlo hhi hmx hb (Nat.le_refl _) (Nat.le_refl _) false w
            have e0 : (if mx.isSome then m else n) = m := by
              cases mx with
              | none => simp only [Option.isSome_none, Bool.false_eq_true, if_false]; exact (h5 rfl).symm
              | some _ => rfl
            rw [e0] at h1
            have k1 : (Instr.sliceAt t (.pointer (some ⟨e.b, e.d + off, none⟩)) lo' hi' mx').run P w =
                .ok (.slice (some (if m = l then ⟨e.b, e.d + off, none⟩ else (Addr.mk e.b (e.d + off) none).add (l * ei.size))) (hh - l) (m - l)) w := by
              simp only [Instr.sliceAt, Sem.run_bind, run_underlying ok ht, hu, Result.andThen_ok, Instr.sureAddr, h1, run_sizeOf ok he, Sem.run_pure]
            refine ⟨_, k1, ?_⟩
            cases hbq : Nat.beq m l
            · rw [hbq, cond_false] at ha; cases ha
              have : ¬ m = l := fun h => by rw [h, Nat.beq_refl] at hbq; cases hbq
              rw [if_neg this, add_none, Nat.add_assoc]
              exact .sliceK hlt hm
            · rw [hbq, cond_true] at ha; cases ha
              rw [if_pos (Nat.eq_of_beq_eq_true hbq)]
              exact .sliceK hlt hm
        · cases ha
      · cases ha
    · rename_i s hu
      cases mx with
      | some _ => cases ha
      | none =>
        cases mx' with
        | some _ => exact hmx.elim
        | none =>
          simp only at ha
          split at ha
          · rename_i l hh m hb
            cases ha
            cases hx
            obtain ⟨h1, h2, h3, h4, h5⟩ := run_sliceBounds (P := P) (mx' := none) hlo hhi hmx hb (Nat.le_refl _) (Nat.le_refl _) false w
            refine ⟨_, ?_, .string _⟩
            simp only [Instr.sliceAt, Sem.run_bind, run_underlying ok ht, hu, Result.andThen_ok, Instr.slice, h1, Option.isSome_none, Bool.false_eq_true, if_false, Sem.run_pure]
          · cases ha
    · cases ha
  · cases ha
end ops
end Go.Ab
namespace Go.Ab
set_option linter.unusedSimpArgs false
set_option linter.unusedVariables false
section ops
variable {P : Program} {T : Tr TI} {μ : Emb} {h h' : AHeap} {w : World}
noncomputable def byteVals (s : ByteArray) : List Value := s.data.toList.map fun b => Value.int .u8 b.toNat
noncomputable def aCells (h : AHeap) (size n : Nat) (x : Value) : Option (List Value) :=
  match x with
  | .slice none 0 0 => some []
  | .slice (some ⟨r, off, none⟩) len _ => bif Nat.beq (n * size) 0 then some [] else bif Nat.ble n len then match rowOf h r with
    | some vs => cellsOf vs off (n * size)
    | none => none
    else none
  | .string s => bif Nat.beq size 1 then some ((byteVals s).take n) else none
  | _ => none
noncomputable def aLen (x : Value) : Option Nat :=
  match x with
  | .slice _ n _ => some n
  | .string s => some s.size
  | _ => none
theorem lenOf_good {n : Nat} {x x' : Value} {k : Nat} (hx : VRel μ n x x') (ha : aLen x = some k) (w : World) : (Builtin.lenOf x').run P w = .ok k w := by
  cases hx <;> simp only [aLen, Option.some.injEq] at ha <;> first | (subst ha; rfl) | cases ha
theorem firstCells_good (st : StRel μ h w) {size n : Nat} {x x' : Value} {l : List Value} (hx : VRel μ h.next x x') (ha : aCells h size n x = some l) :
    ∃ l', (Builtin.firstCells size n x').run P w = .ok l' w ∧ LRel μ h.next l l'.toList := by
  unfold aCells at ha
  split at ha
  · cases ha; cases hx
    exact ⟨#[], rfl, .nil⟩
  · rename_i r off len c
    cases hz : Nat.beq (n * size) 0
    · rw [hz, cond_false] at ha
      have hz' : ¬ n * size = 0 := fun e => by rw [e] at hz; cases hz
      cases hn : Nat.ble n len
      · rw [hn, cond_false] at ha; cases ha
      · rw [hn, cond_true] at ha
        have hn' : n ≤ len := Nat.le_of_ble_eq_true hn
        split at ha
        · rename_i vs hr
          have key : ∀ (e : Ent) (c' : Nat), μ r = some e → ∃ l', (Builtin.firstCells size n (.slice (some ⟨e.b, e.d + off, none⟩) len c')).run P w = .ok l' w ∧ LRel μ h.next l l'.toList := by
            intro e c' hm
            obtain ⟨l', h1, h2⟩ := st.loadCells (P := P) hr hm ha
            exact ⟨l'.toArray, h1, by simpa using h2⟩
          cases hx with
          | sliceK hlt hm => exact key _ _ hm
          | sliceU hlt hm hl hc => exact key _ _ hm
          | sliceZ hlt hm => exfalso; have : n = 0 := by omega
                             subst this; simp at hz'
          | sliceKZ hlt hm => exfalso; have : n = 0 := by omega
                              subst this; simp at hz'
        · cases ha
    · rw [hz, cond_true] at ha
      cases ha
      have hz' : n * size = 0 := Nat.eq_of_beq_eq_true hz
      have key : ∀ (a : Addr) (len c' : Nat), ∃ l', (Builtin.firstCells size n (.slice (some a) len c')).run P w = .ok l' w ∧ LRel μ h.next [] l'.toList := by
        intro a len c'
        refine ⟨#[], ?_, .nil⟩
        simp only [Builtin.firstCells, hz']
        rfl
      cases hx <;> exact key _ _ _
  · rename_i s
    cases hs1 : Nat.beq size 1
    · rw [hs1, cond_false] at ha; cases ha
    rw [hs1, cond_true] at ha
    cases ha; cases hx
    refine ⟨_, rfl, ?_⟩
    have e : ((s.extract 0 n).data.map fun b => Value.int .u8 b.toNat).toList = (byteVals s).take n := by
      simp [byteVals, ByteArray.extract, ByteArray.copySlice, List.map_take]
    rw [e]
    refine LRel.of_flat1 _ _ ?_
    simp only [byteVals, List.all_eq_true]
    intro x hx
    have := List.mem_of_mem_take hx
    simp only [List.mem_map] at this
    obtain ⟨b, _, rfl⟩ := this
    rfl
  · cases ha
theorem growBy_le (need : Nat) : ∀ (k c : Nat), c < need → Builtin.growBy need k c ≤ 2 * need + 256
  | 0, c, h => by simp [Builtin.growBy]; omega
  | k + 1, c, h => by
    simp only [Builtin.growBy]
    split
    · omega
    · by_cases hc : c + (c + 768) / 4 < need
      · exact growBy_le need k _ hc
      · cases k with
        | zero => simp [Builtin.growBy]; omega
        | succ k => simp only [Builtin.growBy]; rw [if_pos (by omega)]; omega
theorem nextslicecap_le {need cap : Nat} (h : cap < need) : Builtin.nextslicecap need cap ≤ 2 * need + 256 := by
  unfold Builtin.nextslicecap
  split
  · omega
  · split
    · omega
    · exact growBy_le need 4 cap h
structure AppT where
  elem : TypeId
  size : Nat
  bytes : Nat
  z : List Value
noncomputable def appT (T : Tr TI) (argTypes : Array TypeId) : Option AppT :=
  match argTypes.toList with
  | [t, u] => match T.get t, T.get u with
    | some ti, some ui => match ti.und, ui.und with
      | .slice _, .int _ => none
      | .slice elem, _ => match T.get elem with
        | some ei => match ei.zero with
          | some z => bif Nat.beq z.cells.size ei.size && Nat.ble 1 ei.bytes then some ⟨elem, ei.size, ei.bytes, z.cells.toList⟩ else none
          | none => none
        | none => none
      | _, _ => none
    | _, _ => none
  | _ => none
noncomputable def sCells (h : AHeap) (size : Nat) (s : Value) : Option (List Value) :=
  match s with
  | .slice _ len _ => aCells h size len s
  | _ => none
noncomputable def vLen : Value → Nat
  | .slice _ n _ => n
  | _ => 0
noncomputable def aAppend (T : Tr TI) (argTypes : Array TypeId) (s x : Value) (h : AHeap) : Option (Value × AHeap) :=
  match appT T argTypes, aLen x with
  | some at_, some n => match aCells h at_.size n x with
    | some new => bif Nat.ble ((2 * (vLen s + n) + 256) * at_.bytes) 281474976710656 then
      match s with
      | .slice none 0 0 => bif Nat.beq n 0 then some (s, h) else some (.slice (some ⟨h.next, 0, none⟩) n 0, h.new (.cells new at_.size))
      | .slice (some ⟨r, off, none⟩) len (c + 1) =>
        bif Nat.ble (len + n) c then
          bif Nat.beq n 0 then some (s, h) else bif Nat.ble 1 c then match writeRow h r (off + len * at_.size) new with
            | some h' => some (.slice (some ⟨r, off, none⟩) (len + n) (c + 1), h')
            | none => none
          else none
        else match sCells h at_.size s with
          | some old => some (.slice (some ⟨h.next, 0, none⟩) (len + n) 0, h.new (.cells (old ++ new) at_.size))
          | none => none
      | .slice (some ⟨r, off, none⟩) len 0 =>
        bif Nat.beq n 0 then some (s, h) else match h.get r with
          | some (.cells vs sz) => bif Nat.beq sz at_.size && oneCells new then match cellsOf vs off (len * sz) with
            | some old => some (.slice (some ⟨h.next, 0, none⟩) (len + n) 0, (h.kill r).new (.cells (old ++ new) sz))
            | none => none
            else none
          | _ => none
      | _ => none
      else none
    | none => none
  | _, _ => none
theorem appT_run (ok : TyOK P T) {argTypes : Array TypeId} {a : AppT} (ha : appT T argTypes = some a) : ∃ t u ti ui ei z, argTypes[0]? = some t ∧ argTypes[1]? = some u ∧ T.get t = some ti ∧ T.get u = some ui ∧
    ti.und = .slice a.elem ∧ (∀ k, ui.und ≠ .int k) ∧ T.get a.elem = some ei ∧ ei.size = a.size ∧ ei.bytes = a.bytes ∧ ei.zero = some z ∧ z.cells.size = a.size ∧ 1 ≤ a.bytes := by
  unfold appT at ha
  split at ha
  · rename_i t u hat
    have h0 : argTypes[0]? = some t := by rw [← Array.getElem?_toList, hat]; rfl
    have h1 : argTypes[1]? = some u := by rw [← Array.getElem?_toList, hat]; rfl
    split at ha
    · rename_i ti ui ht hu
      split at ha
      · cases ha
      · rename_i elem hni hti
        split at ha
        · rename_i ei he
          split at ha
          · rename_i z hz
            cases hb : Nat.beq z.cells.size ei.size && Nat.ble 1 ei.bytes
            · rw [hb, cond_false] at ha; cases ha
            · rw [hb, cond_true] at ha
              cases ha
              simp only [Bool.and_eq_true] at hb
              exact ⟨t, u, ti, ui, ei, z, h0, h1, ht, hu, hni, fun k e => hti k e, he, rfl, rfl, hz, Nat.eq_of_beq_eq_true hb.1, Nat.le_of_ble_eq_true hb.2⟩
          · cases ha
        · cases ha
      · cases ha
    · cases ha
  · cases ha
theorem not_int {d : TypeDesc} (hd : ∀ k, d ≠ .int k) : (d matches .int _) = false := by
  cases d <;> first | rfl | exact (hd _ rfl).elim
theorem append_grow (ok : TyOK P T) {argTypes : Array TypeId} {at_ : AppT} (ha : appT T argTypes = some at_) (ty : TypeId) {base' : Option Addr} {len cap n : Nat} {x' : Value} {l' o' : Array Value}
    (hn : (Builtin.lenOf x').run P w = .ok n w) (hold : (Builtin.firstCells at_.size len (.slice base' len cap)).run P { w with drawn := w.drawn + 1 } = .ok o' { w with drawn := w.drawn + 1 })
    (hnew : (Builtin.firstCells at_.size n x').run P { w with drawn := w.drawn + 1 } = .ok l' { w with drawn := w.drawn + 1 }) (hgt : ¬ len + n ≤ cap) (hroom : (2 * (len + n) + 256) * at_.bytes ≤ 281474976710656)
    (ho : o'.size = len * at_.size) (hl : l'.size = n * at_.size) :
    ∃ ncap cs, len + n ≤ ncap ∧ (Builtin.append_ argTypes ty #[.slice base' len cap, x']).run P w = .ok (.slice (some ⟨w.heap.size, 0, none⟩) (len + n) ncap) { w with drawn := w.drawn + 1, heap := w.heap.push (.cells cs at_.elem) } ∧
      cs.size = ncap * at_.size ∧ ∃ rest, cs.toList = o'.toList ++ l'.toList ++ rest := by
  obtain ⟨t, u, ti, ui, ei, z, h0, h1, ht, hu, hti, hui, he, hs, hby, hz, hzs, hb1⟩ := appT_run ok ha
  obtain ⟨i, hi0, hi2, hi3, hi4, _⟩ := ok.ok _ _ he
  have hi1 : ∀ w : World, (typeInfo at_.elem).run P w = .ok i w := fun w' => by simp [typeInfo, hi0]
  have hcap : ¬ Builtin.nextslicecap (len + n) cap * i.bytes > 2 ^ 48 := by
    have h2 := nextslicecap_le (need := len + n) (cap := cap) (by omega)
    have h3 := Nat.mul_le_mul_right i.bytes h2
    rw [hi3, hby] at h3 ⊢
    omega
  have hnz : ¬ i.bytes = 0 := by rw [hi3, hby]; omega
  generalize hq : (Question.appendCap (len + n) cap at_.elem).cut (w.tape w.drawn (Question.appendCap (len + n) cap at_.elem)) = ncap
  have hge : len + n ≤ ncap := by rw [← hq]; simp [Question.cut]
  refine ⟨ncap, o' ++ l' ++ Builtin.zeroCells z.cells (ncap - (len + n)), hge, ?_, ?_, _, by simp; rfl⟩
  · have hu2 := not_int hui
    simp only [Builtin.append_, h0, h1, List.getElem?_toArray, List.getElem?_cons_zero, List.getElem?_cons_succ, Sem.run_bind, run_underlying ok ht, hti, Result.andThen_ok, run_sizeOf ok he, hs]
    simp only [Result.andThen_ok, Sem.run_pure, run_underlying ok hu, hu2, Bool.false_eq_true, if_false, Bool.not_false, if_true, hn, Sem.run_ite, hgt, hi1, hnz, false_or, and_false, hcap, run_choose, Question.forced, hq, run_askRoom, hold, hnew, Sem.run_bind,
      run_zeroValue ok he _ hz, Go.newRow, run_newObj, Sem.run_pure]
  · simp only [Array.size_append, ho, hl, Builtin.zeroCells, Array.size_map, Array.size_range, hzs]
    rw [← Nat.add_mul, ← Nat.add_mul]
    congr 1
    omega
theorem append_stay (ok : TyOK P T) {argTypes : Array TypeId} {at_ : AppT} (ha : appT T argTypes = some at_) (ty : TypeId) {base' : Option Addr} {len cap n : Nat} {x' : Value} {l' : Array Value}
    (hn : (Builtin.lenOf x').run P w = .ok n w) (hnew : (Builtin.firstCells at_.size n x').run P w = .ok l' w) (hle : len + n ≤ cap) {w' : World}
    (hst : ∀ a, base' = some a → (storeCells (a.add (len * at_.size)) l'.toList).run P w = .ok () w') (hno : base' = none → w' = w) :
    (Builtin.append_ argTypes ty #[.slice base' len cap, x']).run P w = .ok (.slice base' (len + n) cap) w' := by
  obtain ⟨t, u, ti, ui, ei, z, h0, h1, ht, hu, hti, hui, he, hs, hby, hz, hzs, hb1⟩ := appT_run ok ha
  have hu2 := not_int hui
  simp only [Builtin.append_, h0, h1, List.getElem?_toArray, List.getElem?_cons_zero, List.getElem?_cons_succ, Sem.run_bind, run_underlying ok ht, hti, Result.andThen_ok, run_sizeOf ok he, hs]
  simp only [Result.andThen_ok, Sem.run_pure, run_underlying ok hu, hu2, Bool.false_eq_true, if_false, Bool.not_false, if_true, hn, Sem.run_ite, hle, Sem.run_bind, hnew]
  cases base' with
  | none => simp only [Sem.run_pure]; rw [hno rfl]
  | some a => simp only [Sem.run_bind, hst a rfl, Result.andThen_ok, Sem.run_pure]
theorem storeNil {P : Program} (a : Addr) (w : World) : (storeCells a []).run P w = .ok () w := rfl
theorem aCells_length {size n : Nat} {x : Value} {l : List Value} (hn : aLen x = some n) (ha : aCells h size n x = some l) : l.length = n * size := by
  unfold aCells at ha
  split at ha
  · cases ha; simp only [aLen, Option.some.injEq] at hn; subst hn; simp
  · rename_i r off len c
    cases hz : Nat.beq (n * size) 0
    · rw [hz, cond_false] at ha
      cases hb : Nat.ble n len
      · rw [hb, cond_false] at ha; cases ha
      · rw [hb, cond_true] at ha
        split at ha
        · exact (cellsOf_some ha).2.2
        · cases ha
    · rw [hz, cond_true] at ha; cases ha; have := Nat.eq_of_beq_eq_true hz; simp [this]
  · rename_i s
    cases hs1 : Nat.beq size 1
    · rw [hs1, cond_false] at ha; cases ha
    rw [hs1, cond_true] at ha
    cases ha
    have e := Nat.eq_of_beq_eq_true hs1
    subst e
    have e2 : s.size = n := by simpa only [aLen, Option.some.injEq] using hn
    have e3 : s.data.toList.length = s.size := Array.length_toList (xs := s.data)
    rw [List.length_take, byteVals, List.length_map, e3, e2, Nat.min_self, Nat.mul_one]
  · cases ha
theorem append_new (st : StRel μ h w) {at_ : AppT} {cs : Array Value} {need ncap : Nat} {vs : List Value} (hv : LRel μ h.next vs (cs.toList.take vs.length)) (hlen : vs.length = need * at_.size) (hcs : cs.size = ncap * at_.size) (hge : need ≤ ncap) :
    ∃ μ', Ext μ h w μ' (h.new (.cells vs at_.size)) { w with drawn := w.drawn + 1, heap := w.heap.push (.cells cs at_.elem) } ∧
      VRel μ' (h.new (.cells vs at_.size)).next (.slice (some ⟨h.next, 0, none⟩) need 0) (.slice (some ⟨w.heap.size, 0, none⟩) need ncap) := by
  have hle : vs.length ≤ cs.size := by rw [hlen, hcs]; exact Nat.mul_le_mul_right _ hge
  have e := Ext.new (w := { w with drawn := w.drawn + 1 }) (st.same rfl) (.cells cs at_.elem) ⟨w.heap.size, 0, cs.size, at_.size⟩ (.cells vs at_.size) rfl
    ⟨rfl, cs, at_.elem, (0, 0), rfl, hle, by simp, fun i _ => by omega, fun i v hi => by
      have hlt := (List.getElem?_eq_some_iff.1 hi).1
      obtain ⟨v', h1, h2⟩ := hv.getElem? i hi
      rw [List.getElem?_take, if_pos hlt, Array.getElem?_toList] at h1
      exact ⟨v', by simpa using h1, h2.mono (Agree.upd μ _ (Nat.le_refl _)) (by omega)⟩⟩
  refine ⟨_, (Ext.same (w' := { w with drawn := w.drawn + 1 }) st rfl rfl rfl).trans e, ?_⟩
  exact VRel.sliceU (off := 0) (by simp) (Emb.upd_same _ _ _) hge (by simp [hcs])
theorem append_good (ok : TyOK P T) (st : StRel μ h w) {argTypes : Array TypeId} (ty : TypeId) {s s' x x' v : Value} (hs : VRel μ h.next s s') (hx : VRel μ h.next x x')
    (ha : aAppend T argTypes s x h = some (v, h')) : GoodV P μ h w (Builtin.append_ argTypes ty #[s', x']) v h' := by
  unfold aAppend at ha
  split at ha
  · rename_i at_ n hat hn
    split at ha
    · rename_i new hnew
      have st1 : StRel μ h { w with drawn := w.drawn + 1 } := st.same rfl
      have hlx := lenOf_good (P := P) hx hn w
      obtain ⟨l', hl1, hl2⟩ := firstCells_good (P := P) st hx hnew
      have hlen := aCells_length hn hnew
      have hl2l := hl2.length
      simp only [Array.length_toList] at hl2l
      -- the new cells, once an answer has been drawn
      obtain ⟨ld, hd1, hd2⟩ := firstCells_good (P := P) st1 hx hnew
      have hd2l := hd2.length
      simp only [Array.length_toList] at hd2l
      cases hroom : Nat.ble ((2 * (vLen s + n) + 256) * at_.bytes) 281474976710656
      · rw [hroom, cond_false] at ha; cases ha
      · rw [hroom, cond_true] at ha
        have hroom' := Nat.le_of_ble_eq_true hroom
        split at ha
        · -- nil
          cases hs
          simp only [vLen] at hroom'
          cases hn0 : Nat.beq n 0
          · rw [hn0, cond_false] at ha
            have hn0' : ¬ n = 0 := fun e => by rw [e] at hn0; cases hn0
            simp only [Option.some.injEq, Prod.mk.injEq] at ha
            obtain ⟨rfl, rfl⟩ := ha
            obtain ⟨ncap, cs, g1, g2, g3, rest, g4⟩ := append_grow (P := P) ok hat ty hlx (base' := none) (len := 0) (cap := 0) (o' := #[]) rfl hd1 (by omega) hroom' (by simp) (by omega)
            rw [Nat.zero_add] at g1 g2
            obtain ⟨μ', e1, e2⟩ := append_new st (vs := new) (by rw [g4]; simp only [List.nil_append]; rw [hd2.length, List.take_left]; exact hd2) hlen g3 g1
            exact ⟨_, _, μ', g2, e1, e2⟩
          · rw [hn0, cond_true] at ha
            simp only [Option.some.injEq, Prod.mk.injEq] at ha
            obtain ⟨rfl, rfl⟩ := ha
            have hn0' : n = 0 := Nat.eq_of_beq_eq_true hn0
            subst hn0'
            exact ⟨_, w, μ, append_stay (P := P) ok hat ty hlx hl1 (Nat.le_refl _) (fun a e => by cases e) (fun _ => rfl), Ext.refl st, .slice0⟩
        · -- the capacity is known
          rename_i r off len c
          simp only [vLen] at hroom'
          cases hfit : Nat.ble (len + n) c
          · rw [hfit, cond_false] at ha
            have hfit' : ¬ len + n ≤ c := fun e => by rw [Nat.ble_eq_true_of_le e] at hfit; cases hfit
            split at ha
            · rename_i old hold
              simp only [Option.some.injEq, Prod.mk.injEq] at ha
              obtain ⟨rfl, rfl⟩ := ha
              have hsl : aLen (.slice (some ⟨r, off, none⟩) len (c + 1)) = some len := rfl
              have hold' : aCells h at_.size len (.slice (some ⟨r, off, none⟩) len (c + 1)) = some old := hold
              obtain ⟨o', ho1, ho2⟩ := firstCells_good (P := P) st1 hs hold'
              have hol := aCells_length hsl hold'
              have ho2l := ho2.length
              simp only [Array.length_toList] at ho2l
              have fin : ∀ base', s' = .slice (some base') len c → GoodV P μ h w (Builtin.append_ argTypes ty #[s', x']) (.slice (some ⟨h.next, 0, none⟩) (len + n) 0) (h.new (.cells (old ++ new) at_.size)) := by
                rintro base' rfl
                obtain ⟨ncap, cs, g1, g2, g3, rest, g4⟩ := append_grow (P := P) ok hat ty hlx ho1 hd1 hfit' hroom' (by omega) (by omega)
                have hv : LRel μ h.next (old ++ new) (cs.toList.take (old ++ new).length) := by
                  rw [g4, (ho2.append hd2).length, List.take_left]; exact ho2.append hd2
                obtain ⟨μ', e1, e2⟩ := append_new st (vs := old ++ new) hv (by rw [List.length_append, hol, hlen, Nat.add_mul]) g3 g1
                exact ⟨_, _, μ', g2, e1, e2⟩
              cases hs with
              | sliceK hlt hm => exact fin _ rfl
              | sliceKZ hlt hm => exact fin _ rfl
            · cases ha
          · rw [hfit, cond_true] at ha
            have hfit' : len + n ≤ c := Nat.le_of_ble_eq_true hfit
            cases hn0 : Nat.beq n 0
            · rw [hn0, cond_false] at ha
              have hn0' : ¬ n = 0 := fun e => by rw [e] at hn0; cases hn0
              cases hc1 : Nat.ble 1 c
              · rw [hc1, cond_false] at ha; cases ha
              · rw [hc1, cond_true] at ha
                have hc1' : 1 ≤ c := Nat.le_of_ble_eq_true hc1
                split at ha
                · rename_i h2 hw
                  simp only [Option.some.injEq, Prod.mk.injEq] at ha
                  obtain ⟨rfl, rfl⟩ := ha
                  cases hs with
                  | sliceK hlt hm =>
                    rename_i e
                    obtain ⟨w', k1, k2⟩ := st.storeCells (P := P) hw hm hl2
                    refine ⟨_, w', μ, append_stay (P := P) ok hat ty hlx hl1 hfit' (w' := w') (fun a ea => ?_) (fun ea => by cases ea), k2, VRel.mono k2.agree k2.next (.sliceK hlt hm)⟩
                    cases ea
                    rw [add_none, Nat.add_assoc]; exact k1
                  | sliceKZ hlt hm => omega
                · cases ha
            · rw [hn0, cond_true] at ha
              simp only [Option.some.injEq, Prod.mk.injEq] at ha
              obtain ⟨rfl, rfl⟩ := ha
              have hn0' : n = 0 := Nat.eq_of_beq_eq_true hn0
              subst hn0'
              have hnil : l' = #[] := by apply Array.eq_empty_of_size_eq_zero; omega
              subst hnil
              have fin : ∀ base', s' = .slice (some base') len c → GoodV P μ h w (Builtin.append_ argTypes ty #[s', x']) (.slice (some ⟨r, off, none⟩) len (c + 1)) h := by
                rintro base' rfl
                exact ⟨_, w, μ, append_stay (P := P) ok hat ty hlx hl1 hfit' (fun a ea => storeNil _ _) (fun ea => by cases ea), Ext.refl st, hs⟩
              cases hs with
              | sliceK hlt hm => exact fin _ rfl
              | sliceKZ hlt hm => exact fin _ rfl
        · -- the capacity is not known
          rename_i r off len
          simp only [vLen] at hroom'
          cases hn0 : Nat.beq n 0
          · rw [hn0, cond_false] at ha
            have hn0' : ¬ n = 0 := fun e => by rw [e] at hn0; cases hn0
            split at ha
            · rename_i vs sz hg
              cases hb : Nat.beq sz at_.size && oneCells new
              · rw [hb, cond_false] at ha; cases ha
              · rw [hb, cond_true] at ha
                simp only [Bool.and_eq_true] at hb
                have esz : sz = at_.size := Nat.eq_of_beq_eq_true hb.1
                subst esz
                split at ha
                · rename_i old hold
                  simp only [Option.some.injEq, Prod.mk.injEq] at ha
                  obtain ⟨rfl, rfl⟩ := ha
                  have hrow : rowOf h r = some vs := by simp [rowOf, hg]
                  obtain ⟨hol1, hol2, hol3⟩ := cellsOf_some hold
                  -- a new array
                  have grow : ∀ (a : Addr) (cap : Nat) (o' : Array Value), ¬ len + n ≤ cap → (Builtin.firstCells at_.size len (.slice (some a) len cap)).run P { w with drawn := w.drawn + 1 } = .ok o' { w with drawn := w.drawn + 1 } →
                      LRel μ h.next old o'.toList → GoodV P μ h w (Builtin.append_ argTypes ty #[.slice (some a) len cap, x']) (.slice (some ⟨h.next, 0, none⟩) (len + n) 0) ((h.kill r).new (.cells (old ++ new) at_.size)) := by
                    intro a cap o' hgt ho1 ho2
                    have ho2l := ho2.length
                    simp only [Array.length_toList] at ho2l
                    obtain ⟨ncap, cs, g1, g2, g3, rest, g4⟩ := append_grow (P := P) ok hat ty hlx ho1 hd1 hgt hroom' (by omega) (by omega)
                    have hv : LRel μ h.next (old ++ new) (cs.toList.take (old ++ new).length) := by
                      rw [g4, (ho2.append hd2).length, List.take_left]; exact ho2.append hd2
                    have ek := Ext.kill st r
                    obtain ⟨μ', e1, e2⟩ := append_new (h := h.kill r) ek.st (vs := old ++ new) hv (by rw [List.length_append, hol3, hlen, Nat.add_mul]) g3 g1
                    exact ⟨_, _, μ', g2, ek.trans e1, e2⟩
                  cases hs with
                  | sliceZ hlt hm =>
                    refine grow _ 0 #[] (by omega) ?_ ?_
                    · simp only [Builtin.firstCells, Nat.zero_mul]; rfl
                    · have : old = [] := List.length_eq_zero_iff.1 (by rw [hol3, Nat.zero_mul])
                      rw [this]; exact .nil
                  | sliceU hlt hm hl hcp =>
                    rename_i cap e
                    by_cases hfit : len + n ≤ cap
                    · -- in its place
                      obtain ⟨hrn, e', c, a2, a3, asz, cs, t, fz, rfl, a5, a6, a7, a8⟩ := st.live r _ hg
                      rw [hm] at a2; cases a2
                      rw [asz] at hcp
                      have hmul : (len + n) * at_.size ≤ cap * at_.size := Nat.mul_le_mul_right _ hfit
                      rw [Nat.add_mul] at hmul
                      obtain ⟨w', cs', b1, b2, b3, b4, b5, b6, b7, b8⟩ := run_storeCells (P := P) e.b (e.d + off + len * at_.size) t fz l'.toList 0 cs w a3 (by simp; omega)
                        (fun j hj => by
                          have hj' : j < n * at_.size := by simp only [Array.length_toList] at hj; omega
                          have := a7 (off + len * at_.size + j) (by omega)
                          rwa [show e.d + off + len * at_.size + 0 + j = e.d + (off + len * at_.size + j) by omega]) (hl2.oneCells hb.2)
                      have hext := Ext.rebase (w' := w') (e' := ⟨e.b, e.d + off, e.ext - off, at_.size⟩) (o' := .cells (old ++ new) at_.size) st hg rfl hm b2 b3 b4 b7 b8 rfl
                        ⟨rfl, cs', t, fz, rfl, by simp [hol3, hlen]; omega, by simp only; omega, fun i hi => by
                          have := a7 (off + i) (by simp only at hi; omega)
                          simp only
                          rwa [show e.d + off + i = e.d + (off + i) by omega], fun i v hv => by
                          simp only
                          rw [b6 (e.d + off + i)]
                          simp only [Array.length_toList, Nat.add_zero]
                          by_cases hi : i < old.length
                          · rw [List.getElem?_append_left hi] at hv
                            rw [if_neg (by omega)]
                            rw [hol2, List.getElem?_take, if_pos (by omega), List.getElem?_drop] at hv
                            obtain ⟨v', c1, c2⟩ := a8 _ v hv
                            exact ⟨v', by rw [← c1]; congr 1; omega, c2.mono (Agree.upd μ _ (Nat.le_refl _)) (by omega)⟩
                          · rw [List.getElem?_append_right (by omega)] at hv
                            have hi2 := (List.getElem?_eq_some_iff.1 hv).1
                            rw [if_pos (by omega)]
                            obtain ⟨v', c1, c2⟩ := hl2.getElem? _ hv
                            exact ⟨v', by rw [← c1]; congr 1; omega, c2.mono (Agree.upd μ _ (Nat.le_refl _)) (by omega)⟩⟩
                      refine ⟨_, w', _, append_stay (P := P) ok hat ty hlx hl1 hfit (w' := w') (fun a ea => ?_) (fun ea => by cases ea), hext, ?_⟩
                      · cases ea; rw [add_none]; exact b1
                      · exact VRel.sliceU (off := 0) (e := ⟨e.b, e.d + off, e.ext - off, at_.size⟩) (by simp) (Emb.upd_same _ _ _) hfit (by simp only; omega)
                    · obtain ⟨lo, c1, c2⟩ := st1.loadCells (P := P) hrow hm hold
                      exact grow _ cap lo.toArray hfit c1 (by simpa using c2)
                · cases ha
            · cases ha
          · rw [hn0, cond_true] at ha
            simp only [Option.some.injEq, Prod.mk.injEq] at ha
            obtain ⟨rfl, rfl⟩ := ha
            have hn0' : n = 0 := Nat.eq_of_beq_eq_true hn0
            subst hn0'
            have hnil : l' = #[] := by apply Array.eq_empty_of_size_eq_zero; omega
            subst hnil
            have fin : ∀ base' cap, len ≤ cap → s' = .slice (some base') len cap → GoodV P μ h w (Builtin.append_ argTypes ty #[s', x']) (.slice (some ⟨r, off, none⟩) len 0) h := by
              rintro base' cap hle rfl
              exact ⟨_, w, μ, append_stay (P := P) ok hat ty hlx hl1 (by omega) (fun a ea => storeNil _ _) (fun ea => by cases ea), Ext.refl st, hs⟩
            cases hs with
            | sliceU hlt hm hl hcp => exact fin _ _ hl rfl
            | sliceZ hlt hm => exact fin _ 0 (Nat.le_refl _) rfl
        · cases ha
    · cases ha
  · cases ha
end ops
end Go.Ab
namespace Go.Ab
set_option linter.unusedSimpArgs false
set_option linter.unusedVariables false
section ops
variable {P : Program} {T : Tr TI} {μ : Emb} {h h' : AHeap} {w : World}
noncomputable def aCopy (T : Tr TI) (argTypes : Array TypeId) (d s : Value) (h : AHeap) : Option (Value × AHeap) :=
  match argTypes.toList with
  | t :: _ => match T.get t with
    | some ti => match ti.und with
      | .slice elem => match T.get elem, aLen s with
        | some ei, some sl => match d with
          | .slice none 0 0 => some (.int .i64 0, h)
          | .slice (some ⟨r, off, none⟩) dl _ => bif Nat.beq (Nat.min sl dl) 0 then some (.int .i64 0, h) else
            match aCells h ei.size (Nat.min sl dl) s with
            | some l => match writeRow h r off l with
              | some h' => some (.int .i64 (Nat.min sl dl), h')
              | none => none
            | none => none
          | _ => none
        | _, _ => none
      | _ => none
    | none => none
  | [] => none
theorem firstCells_zero (size : Nat) {n : Nat} {x x' : Value} {k : Nat} (hx : VRel μ n x x') (ha : aLen x = some k) (w : World) : (Builtin.firstCells size 0 x').run P w = .ok #[] w := by
  cases hx <;> simp only [aLen] at ha <;> first
    | (cases ha; done)
    | (simp only [Builtin.firstCells, Nat.zero_mul]; rfl)
    | (simp only [Builtin.firstCells, Sem.run_pure]; simp [ByteArray.extract, ByteArray.copySlice])
    | cases ha
theorem copy_good (ok : TyOK P T) (st : StRel μ h w) {argTypes : Array TypeId} (ty : TypeId) {d d' s s' v : Value} (hd : VRel μ h.next d d') (hs : VRel μ h.next s s')
    (ha : aCopy T argTypes d s h = some (v, h')) : GoodV P μ h w (Builtin.copy_ argTypes ty #[d', s']) v h' := by
  unfold aCopy at ha
  split at ha
  · rename_i t rest hat
    have h0 : argTypes[0]? = some t := by rw [← Array.getElem?_toList, hat]; rfl
    split at ha
    · rename_i ti ht
      split at ha
      · rename_i elem hti
        split at ha
        · rename_i ei sl he hsl
          have hlx := lenOf_good (P := P) hs hsl w
          split at ha
          · cases hd
            simp only [Option.some.injEq, Prod.mk.injEq] at ha
            obtain ⟨rfl, rfl⟩ := ha
            refine ⟨.int .i64 0, w, μ, ?_, Ext.refl st, .int _ _⟩
            have hz : Nat.min sl 0 = 0 := Nat.min_zero sl
            simp only [Builtin.copy_, h0, List.getElem?_toArray, List.getElem?_cons_zero, List.getElem?_cons_succ, Sem.run_bind, run_underlying ok ht, hti, Result.andThen_ok, hlx, run_sizeOf ok he, hz, firstCells_zero _ hs hsl, Sem.run_pure, goInt]
            rfl
          · rename_i r off dl c
            have base : ∀ a dl' c', (Builtin.firstCells ei.size (Nat.min sl dl') s').run P w = .ok #[] w → Nat.min sl dl' = 0 → (Builtin.copy_ argTypes ty #[.slice (some a) dl' c', s']).run P w = .ok (.int .i64 0) w := by
              intro a dl' c' hf hz
              rw [hz] at hf
              simp only [Builtin.copy_, h0, List.getElem?_toArray, List.getElem?_cons_zero, List.getElem?_cons_succ, Sem.run_bind, run_underlying ok ht, hti, Result.andThen_ok, hlx, run_sizeOf ok he, hf, Sem.run_pure, goInt, storeNil, hz]
              rfl
            cases hz : Nat.beq (Nat.min sl dl) 0
            · rw [hz, cond_false] at ha
              have hz' : ¬ Nat.min sl dl = 0 := fun e => by rw [e] at hz; cases hz
              split at ha
              · rename_i l hl
                split at ha
                · rename_i h2 hw
                  simp only [Option.some.injEq, Prod.mk.injEq] at ha
                  obtain ⟨rfl, rfl⟩ := ha
                  obtain ⟨l', hl1, hl2⟩ := firstCells_good (P := P) st hs hl
                  have key : ∀ (e : Ent) c', μ r = some e → GoodV P μ h w (Builtin.copy_ argTypes ty #[.slice (some ⟨e.b, e.d + off, none⟩) dl c', s']) (.int .i64 (Nat.min sl dl)) h2 := by
                    intro e c' hm
                    obtain ⟨w', k1, k2⟩ := st.storeCells (P := P) hw hm hl2
                    refine ⟨.int .i64 (Nat.min sl dl), w', μ, ?_, k2, .int _ _⟩
                    simp only [Builtin.copy_, h0, List.getElem?_toArray, List.getElem?_cons_zero, List.getElem?_cons_succ, Sem.run_bind, run_underlying ok ht, hti, Result.andThen_ok, hlx, run_sizeOf ok he, hl1, Sem.run_pure, goInt, k1]
                  have hdl : ¬ dl = 0 := fun e => hz' (by rw [e]; exact Nat.min_zero sl)
                  cases hd with
                  | sliceK hlt hm => exact key _ _ hm
                  | sliceU hlt hm _ _ => exact key _ _ hm
                  | sliceZ hlt hm => exact (hdl rfl).elim
                  | sliceKZ hlt hm => exact (hdl rfl).elim
                · cases ha
              · cases ha
            · rw [hz, cond_true] at ha
              simp only [Option.some.injEq, Prod.mk.injEq] at ha
              obtain ⟨rfl, rfl⟩ := ha
              have hz' := Nat.eq_of_beq_eq_true hz
              have hf := firstCells_zero (P := P) ei.size hs hsl w
              rw [← hz'] at hf
              cases hd <;> exact ⟨.int .i64 0, w, μ, base _ _ _ hf hz', Ext.refl st, .int _ _⟩
          · cases ha
        · cases ha
      · cases ha
    · cases ha
  · cases ha
noncomputable def aClear (T : Tr TI) (argTypes : Array TypeId) (x : Value) (h : AHeap) : Option AHeap :=
  match argTypes.toList with
  | t :: _ => match T.get t with
    | some ti => match ti.und with
      | .slice elem => match x with
        | .slice none 0 0 => some h
        | .slice (some ⟨r, off, none⟩) n _ => bif Nat.beq n 0 then some h else match T.get elem with
          | some ei => match ei.zero with
            | some z => bif z.cells.toList.all flat1 then writeRow h r off (zeros z.cells.toList n) else none
            | none => none
          | none => none
        | _ => none
      | .map _ _ => match x with
        | .map none => some h
        | .map (some r) => match h.get r with
          | some (.map _ clock) => some (h.set r (.map [] clock))
          | _ => none
        | _ => none
      | _ => none
    | none => none
  | [] => none
theorem StRel.getMap (st : StRel μ h w) {r : Nat} {es : List AEnt} {clock : Nat} (hg : h.get r = some (.map es clock)) {e : Ent} (hm : μ r = some e) :
    ∃ ms, w.heap[e.b]? = some (.map ms clock) ∧ EsRel μ h.next es ms.toList ∧ e.d = 0 := by
  obtain ⟨_, e', c, h2, h3, h4, ms, rfl, h5⟩ := st.live r _ hg
  rw [hm] at h2; cases h2
  exact ⟨ms, h3, h5, h4⟩
theorem run_getObj {P : Program} {w : World} {r : Nat} {o : Obj} (hr : w.heap[r]? = some o) (hc : ∀ c t f, o ≠ .cells c t f) : (getObj r).run P w = .ok o w := by
  cases o <;> simp only [getObj, Sem.run, hr] <;> exact (hc _ _ _ rfl).elim
theorem run_setObj {P : Program} {w : World} {r : Nat} {o o' : Obj} (hr : w.heap[r]? = some o) (hc : ∀ c t f, o ≠ .cells c t f) : (setObj r o').run P w = .ok () { w with heap := w.heap.setIfInBounds r o' } := by
  cases o <;> simp only [Go.setObj, Sem.run, hr] <;> exact (hc _ _ _ rfl).elim
theorem StRel.setObj (st : StRel μ h w) {r : Nat} {o : AObj} (hg : h.get r = some o) (ho : o.own = true) {e : Ent} (hm : μ r = some e) {c' : Obj} {o' : AObj} (hor : ORel μ h.next e c' o') :
    Ext μ h w μ (h.set r o') { w with heap := w.heap.setIfInBounds e.b c' } := by
  obtain ⟨_, e', c, h2, h3, h4⟩ := st.live r _ hg
  rw [hm] at h2; cases h2
  have hlt := lt_of_heap h3
  exact Ext.set st hg ho hm (by simp) (fun b hb => Array.getElem?_setIfInBounds_ne (Ne.symm hb)) (by simp [hlt]) rfl rfl hor
theorem clear_good (ok : TyOK P T) (st : StRel μ h w) {argTypes : Array TypeId} (ty : TypeId) {x x' : Value} (hx : VRel μ h.next x x') (ha : aClear T argTypes x h = some h') :
    GoodV P μ h w (Builtin.clear_ argTypes ty #[x']) (.tuple #[]) h' := by
  unfold aClear at ha
  split at ha
  · rename_i t rest hat
    have h0 : argTypes[0]? = some t := by rw [← Array.getElem?_toList, hat]; rfl
    split at ha
    · rename_i ti ht
      split at ha
      · rename_i elem hti
        split at ha
        · cases ha; cases hx
          refine ⟨.tuple #[], w, μ, ?_, Ext.refl st, .tuple .nil⟩
          simp only [Builtin.clear_, h0, List.getElem?_toArray, List.getElem?_cons_zero, Sem.run_bind, run_underlying ok ht, hti, Result.andThen_ok, Sem.run_pure]
        · rename_i r off n c
          cases hz : Nat.beq n 0
          · rw [hz, cond_false] at ha
            have hz' : ¬ n = 0 := fun e => by rw [e] at hz; cases hz
            obtain ⟨m, rfl⟩ : ∃ m, n = m + 1 := ⟨n - 1, by omega⟩
            split at ha
            · rename_i ei he
              split at ha
              · rename_i z hzv
                cases hf : z.cells.toList.all flat1
                · rw [hf, cond_false] at ha; cases ha
                · rw [hf, cond_true] at ha
                  have key : ∀ (e : Ent) c', μ r = some e → GoodV P μ h w (Builtin.clear_ argTypes ty #[.slice (some ⟨e.b, e.d + off, none⟩) (m + 1) c']) (.tuple #[]) h' := by
                    intro e c' hm
                    obtain ⟨w', k1, k2⟩ := st.storeCells (P := P) ha hm (LRel.of_flat1 μ h.next (zeros_flat hf (m + 1)))
                    refine ⟨.tuple #[], w', μ, ?_, k2, .tuple .nil⟩
                    simp only [Builtin.clear_, h0, List.getElem?_toArray, List.getElem?_cons_zero, Sem.run_bind, run_underlying ok ht, hti, Result.andThen_ok, run_zeroValue ok he w hzv, Builtin.zeroCells, zeros_eq, k1, Sem.run_pure]
                  cases hx with
                  | sliceK hlt hm => exact key _ _ hm
                  | sliceU hlt hm _ _ => exact key _ _ hm
              · cases ha
            · cases ha
          · rw [hz, cond_true] at ha
            cases ha
            have hz' := Nat.eq_of_beq_eq_true hz
            subst hz'
            have key : ∀ a c', GoodV P μ h w (Builtin.clear_ argTypes ty #[.slice (some a) 0 c']) (.tuple #[]) h := by
              intro a c'
              refine ⟨.tuple #[], w, μ, ?_, Ext.refl st, .tuple .nil⟩
              simp only [Builtin.clear_, h0, List.getElem?_toArray, List.getElem?_cons_zero, Sem.run_bind, run_underlying ok ht, hti, Result.andThen_ok, Sem.run_pure]
            cases hx <;> exact key _ _
        · cases ha
      · rename_i kt et hti
        split at ha
        · cases ha; cases hx
          refine ⟨.tuple #[], w, μ, ?_, Ext.refl st, .tuple .nil⟩
          simp only [Builtin.clear_, h0, List.getElem?_toArray, List.getElem?_cons_zero, Sem.run_bind, run_underlying ok ht, hti, Result.andThen_ok, Sem.run_pure]
        · rename_i r
          split at ha
          · rename_i es clock hg
            cases ha
            cases hx with
            | map hlt hm =>
              rename_i e
              obtain ⟨ms, g1, g2, g3⟩ := st.getMap hg hm
              refine ⟨.tuple #[], _, μ, ?_, st.setObj hg rfl hm (c' := .map #[] clock) ⟨g3, #[], rfl, .nil⟩, .tuple .nil⟩
              simp only [Builtin.clear_, h0, List.getElem?_toArray, List.getElem?_cons_zero, Sem.run_bind, run_underlying ok ht, hti, Result.andThen_ok, run_getObj g1 (fun _ _ _ => by simp), run_setObj g1 (fun _ _ _ => by simp), Sem.run_pure]
          · cases ha
        · cases ha
      · cases ha
    · cases ha
  · cases ha
noncomputable def aLenOf (T : Tr TI) (argTypes : Array TypeId) (x : Value) (h : AHeap) : Option Value :=
  match argTypes.toList with
  | t :: _ => match T.get t with
    | some ti => match ti.und, x with
      | .slice _, .slice _ n _ => some (.int .i64 n)
      | .string, .string s => some (.int .i64 s.size)
      | .array n _, _ => some (.int .i64 n)
      | .pointer arr, _ => match T.get arr with
        | some ai => match ai.und with
          | .array n _ => some (.int .i64 n)
          | _ => none
        | none => none
      | .map _ _, .map none => some (.int .i64 0)
      | .map _ _, .map (some r) => match h.get r with
        | some (.map es _) => some (.int .i64 es.length)
        | _ => none
      | _, _ => none
    | none => none
  | [] => none
theorem len_good (ok : TyOK P T) (st : StRel μ h w) {argTypes : Array TypeId} (ty : TypeId) {x x' v : Value} (hx : VRel μ h.next x x') (ha : aLenOf T argTypes x h = some v) :
    ∃ v', (Builtin.len_ argTypes ty #[x']).run P w = .ok v' w ∧ VRel μ h.next v v' := by
  unfold aLenOf at ha
  split at ha
  · rename_i t rest hat
    have h0 : argTypes[0]? = some t := by rw [← Array.getElem?_toList, hat]; rfl
    split at ha
    · rename_i ti ht
      have pre : (Builtin.len_ argTypes ty #[x']).run P w = (Builtin.len_ #[t] ty #[x']).run P w := by
        simp only [Builtin.len_, h0, List.getElem?_toArray, List.getElem?_cons_zero]
      rw [pre]
      split at ha
      · rename_i e _ n _ hti
        cases ha
        refine ⟨.int .i64 n, ?_, .int _ _⟩
        cases hx <;> simp only [Builtin.len_, List.getElem?_toArray, List.getElem?_cons_zero, Sem.run_bind, run_underlying ok ht, hti, Result.andThen_ok, Sem.run_pure, goInt]
      · rename_i s hti
        cases ha
        cases hx
        exact ⟨.int .i64 s.size, by simp only [Builtin.len_, List.getElem?_toArray, List.getElem?_cons_zero, Sem.run_bind, run_underlying ok ht, hti, Result.andThen_ok, Sem.run_pure, goInt], .int _ _⟩
      · rename_i n _ hti
        cases ha
        exact ⟨.int .i64 n, by simp only [Builtin.len_, List.getElem?_toArray, List.getElem?_cons_zero, Sem.run_bind, run_underlying ok ht, hti, Result.andThen_ok, Sem.run_pure, goInt], .int _ _⟩
      · rename_i arr hti
        split at ha
        · rename_i ai har
          split at ha
          · rename_i n _ hai
            cases ha
            exact ⟨.int .i64 n, by simp only [Builtin.len_, List.getElem?_toArray, List.getElem?_cons_zero, Sem.run_bind, run_underlying ok ht, hti, Result.andThen_ok, run_underlying ok har, hai, Sem.run_pure, goInt], .int _ _⟩
          · cases ha
        · cases ha
      · rename_i hti
        cases ha
        cases hx
        exact ⟨.int .i64 0, by simp only [Builtin.len_, List.getElem?_toArray, List.getElem?_cons_zero, Sem.run_bind, run_underlying ok ht, hti, Result.andThen_ok, Sem.run_pure, goInt], .int _ _⟩
      · rename_i r hti
        split at ha
        · rename_i es clock hg
          cases ha
          cases hx with
          | map hlt hm =>
            obtain ⟨ms, g1, g2, g3⟩ := st.getMap hg hm
            have := g2.length
            simp only [Array.length_toList] at this
            exact ⟨.int .i64 es.length, by simp only [Builtin.len_, List.getElem?_toArray, List.getElem?_cons_zero, Sem.run_bind, run_underlying ok ht, hti, Result.andThen_ok, run_getObj g1 (fun _ _ _ => by simp), Sem.run_pure, goInt, this], .int _ _⟩
        · cases ha
      · cases ha
    · cases ha
  · cases ha
end ops
end Go.Ab
namespace Go.Ab
set_option linter.unusedSimpArgs false
set_option linter.unusedVariables false
section ops
variable {P : Program} {T : Tr TI} {μ : Emb} {h h' : AHeap} {w : World}
noncomputable def bytesIn : List Value → Option (List UInt8)
  | [] => some []
  | .int .u8 n :: l => match bytesIn l with
    | some r => some (UInt8.ofNat n.toNat :: r)
    | none => none
  | _ => none
theorem bytesIn_ints : ∀ {l : List Value} {r : List UInt8}, bytesIn l = some r → ∃ ns : List Int, l = ns.map (Value.int .u8) ∧ r = ns.map fun n => UInt8.ofNat n.toNat
  | [], r, h => by simp only [bytesIn, Option.some.injEq] at h; subst h; exact ⟨[], rfl, rfl⟩
  | v :: l, r, h => by
    unfold bytesIn at h
    split at h
    · rename_i e; cases e
    · rename_i n l' e
      cases e
      split at h
      · rename_i r' hr
        cases h
        obtain ⟨ns, e1, e2⟩ := bytesIn_ints hr
        exact ⟨n :: ns, by simp [e1], by simp [e2]⟩
      · cases h
    · cases h
theorem foldl_push : ∀ (ns : List Int) (s : ByteArray), ns.foldl (fun r n => r.push (UInt8.ofNat n.toNat)) s = ⟨(s.data.toList ++ ns.map fun n => UInt8.ofNat n.toNat).toArray⟩
  | [], s => by simp
  | n :: ns, s => by
    rw [List.foldl_cons, foldl_push ns]
    simp [ByteArray.push]
theorem modify_push (a : Array Obj) (x : Obj) (f : Obj → Obj) : (a.push x).modify a.size f = a.push (f x) := by
  apply Array.ext_getElem?
  intro i
  rw [Array.getElem?_modify, Array.getElem?_push, Array.getElem?_push]
  by_cases hi : i = a.size
  · rw [if_pos hi, if_pos hi, if_pos hi.symm]; rfl
  · rw [if_neg hi, if_neg hi, if_neg (Ne.symm hi)]
noncomputable def aConv (T : Tr TI) (src dst : TypeId) (x : Value) (h : AHeap) : Option (Value × AHeap) :=
  match T.get src, T.get dst with
  | some si, some di => match si.und, di.und, x with
    | .string, .slice e, .string s => match T.get e with
      | some ei => match ei.und with
        | .int .u8 => some (.slice (some ⟨h.next, 0, none⟩) s.size 0, h.new (.cells (byteVals s) 1))
        | _ => none
      | none => none
    | .slice e, .string, .slice b n c => match T.get e, aCells h 1 n (.slice b n c) with
      | some ei, some l => match ei.und, bytesIn l with
        | .int .u8, some r => some (.string ⟨r.toArray⟩, h)
        | _, _ => none
      | _, _ => none
    | _, _, _ => none
  | _, _ => none
theorem conv_good (ok : TyOK P T) (st : StRel μ h w) {src dst : TypeId} {x x' v : Value} (hx : VRel μ h.next x x') (ha : aConv T src dst x h = some (v, h')) : GoodV P μ h w (convert src dst x') v h' := by
  unfold aConv at ha
  split at ha
  · rename_i si di hs hd
    split at ha
    · rename_i e s hsu hdu
      split at ha
      · rename_i ei he
        split at ha
        · rename_i heu
          simp only [Option.some.injEq, Prod.mk.injEq] at ha
          obtain ⟨rfl, rfl⟩ := ha
          cases hx
          generalize hq : (Question.appendCap s.size 0 e).cut (w.tape w.drawn (Question.appendCap s.size 0 e)) = cap
          have hge : s.size ≤ cap := by rw [← hq]; simp [Question.cut]
          generalize hcs : (s.data.map fun b => Value.int .u8 b.toNat) ++ Array.replicate (cap - s.size) (Value.int .u8 0) = cs
          have hsz : cs.size = cap := by
            rw [← hcs]; simp only [Array.size_append, Array.size_map, Array.size_replicate]
            have : s.data.size = s.size := rfl
            omega
          have hbl : (byteVals s).length = s.size := by simp only [byteVals, List.length_map, Array.length_toList]; rfl
          have e1 := Ext.new (w := { w with drawn := w.drawn + 1 }) (st.same rfl) (.cells cs e (cs.size, cs.size + 1)) ⟨w.heap.size, 0, cs.size, 1⟩ (.cells (byteVals s) 1) rfl
            ⟨rfl, cs, e, (cs.size, cs.size + 1), rfl, by simp only; omega, by simp, fun i hi => by simp only at hi ⊢; omega, fun i v hi => by
              refine ⟨v, ?_, ?_⟩
              · rw [← hcs]
                have hlt := (List.getElem?_eq_some_iff.1 hi).1
                rw [Nat.zero_add, Array.getElem?_append_left (by simp only [Array.size_map]; rw [hbl] at hlt; exact hlt)]
                rw [← hi, byteVals, ← Array.getElem?_toList, Array.toList_map]
              · simp only [byteVals, List.getElem?_map, Option.map_eq_some_iff] at hi
                obtain ⟨b, _, rfl⟩ := hi
                exact .int _ _⟩
          refine ⟨.slice (some ⟨w.heap.size, 0, none⟩) s.size cap, _, _, ?_, (Ext.same (w' := { w with drawn := w.drawn + 1 }) st rfl rfl rfl).trans e1, ?_⟩
          · simp only [convert, Sem.run_bind, run_underlying ok hs, run_underlying ok hd, hsu, hdu, Result.andThen_ok, run_underlying ok he, heu, Conv.stringToBytes, run_choose, Question.forced, Bool.false_eq_true, if_false, hq, hcs, Go.newRow, run_newObj,
              Sem.run_pure, markStringish, run_shape, World.shape?, Array.getElem?_push_size, run_freeze, World.freeze, Nat.one_ne_zero]
            rw [modify_push]
            rfl
          · exact VRel.sliceU (off := 0) (by simp) (Emb.upd_same _ _ _) hge (by simp [hsz])
        · cases ha
      · cases ha
    · rename_i e b n c hsu hdu
      split at ha
      · rename_i ei l he hl
        split at ha
        · rename_i r heu hr
          simp only [Option.some.injEq, Prod.mk.injEq] at ha
          obtain ⟨rfl, rfl⟩ := ha
          obtain ⟨ns, e1, e2⟩ := bytesIn_ints hr
          subst e1 e2
          have hflat : (ns.map (Value.int .u8)).all flat1 = true := by simp [List.all_eq_true, flat1]
          obtain ⟨l', k1, k2⟩ := firstCells_good (P := P) st hx hl
          have k3 : l' = (ns.map (Value.int .u8)).toArray := by
            have := k2.flat1_eq hflat
            rw [← this]
          subst k3
          refine ⟨.string ⟨(ns.map fun n => UInt8.ofNat n.toNat).toArray⟩, w, μ, ?_, Ext.refl st, .string _⟩
          have fin : ∀ a cap, (loadCells a n).run P w = .ok (ns.map (Value.int .u8)).toArray w → (convert src dst (.slice (some a) n cap)).run P w = .ok (.string ⟨(ns.map fun n => UInt8.ofNat n.toNat).toArray⟩) w := by
            intro a cap hload
            simp only [convert, Sem.run_bind, run_underlying ok hs, run_underlying ok hd, hsu, hdu, Result.andThen_ok, run_underlying ok he, heu]
            rw [run_bytesToString w a n cap ns hload, foldl_push]
            simp
          simp only [Builtin.firstCells, Nat.mul_one] at k1
          cases hx with
          | slice0 =>
            have : ns = [] := by
              simp only [Builtin.firstCells, Sem.run_pure, Result.ok.injEq, and_true] at k1
              cases ns with
              | nil => rfl
              | cons a b => simp at k1
            subst this
            simp only [convert, Sem.run_bind, run_underlying ok hs, run_underlying ok hd, hsu, hdu, Result.andThen_ok, run_underlying ok he, heu, Conv.bytesToString, Sem.run_pure]
            rfl
          | sliceK hlt hm => exact fin _ _ k1
          | sliceU hlt hm _ _ => exact fin _ _ k1
          | sliceZ hlt hm => exact fin _ _ k1
          | sliceKZ hlt hm => exact fin _ _ k1
        · cases ha
      · cases ha
    · cases ha
  · cases ha
theorem pure_good (st : StRel μ h w) {s : Sem Value} {v : Value} (hp : pureRun P s = some v) (hf : flat v = true) : GoodV P μ h w s v h :=
  ⟨v, w, μ, pureRun_run s w hp, Ext.refl st, .of_flat _ _ hf⟩
noncomputable def aEq (T : Tr TI) (t : TypeId) (x y : Value) : Option Bool :=
  match T.get t with
  | some ti => match ti.und, x, y with
    | .pointer _, .pointer none, .pointer b => some b.isNone
    | .pointer _, .pointer (some _), .pointer none => some false
    | .pointer elem, .pointer (some ⟨r, o, none⟩), .pointer (some ⟨q, p, none⟩) => match T.get elem with
      | some ei => bif Nat.beq r q && !Nat.beq ei.size 0 then some (Nat.beq o p) else none
      | none => none
    | .slice _, .slice none _ _, .slice b _ _ => some b.isNone
    | .slice _, .slice (some _) _ _, .slice none _ _ => some false
    | .map _ _, .map none, .map b => some b.isNone
    | .map _ _, .map (some _), .map none => some false
    | .func _ _ _, .nilFunc, .nilFunc => some true
    | .func _ _ _, .nilFunc, .func _ _ _ => some false
    | .func _ _ _, .func _ _ _, .nilFunc => some false
    | .interface _, .iface _ _, .nilIface => some false
    | .interface _, .nilIface, .iface _ _ => some false
    | _, _, _ => none
  | none => none
theorem eqIn_good (ok : TyOK P T) {n : Nat} {t : TypeId} {x x' y y' : Value} (hx : VRel μ n x x') (hy : VRel μ n y y') {b : Bool} (ha : aEq T t x y = some b) (w : World) (d : Nat) :
    (Op.equalIn (d + 1) t x' y').run P w = .ok b w := by
  unfold aEq at ha
  split at ha
  · rename_i ti ht
    split at ha
    · rename_i b' hu
      cases ha; cases hx
      cases hy <;> simp only [Op.equalIn, Sem.run_bind, run_underlying ok ht, hu, Result.andThen_ok, Sem.run_pure, Option.isNone]
    · rename_i a hu
      cases ha; cases hy
      cases hx <;> simp only [Op.equalIn, Sem.run_bind, run_underlying ok ht, hu, Result.andThen_ok, Sem.run_pure]
    · rename_i elem r o q p hu
      split at ha
      · rename_i ei he
        cases hb : Nat.beq r q && !Nat.beq ei.size 0
        · rw [hb, cond_false] at ha; cases ha
        · rw [hb, cond_true] at ha
          cases ha
          simp only [Bool.and_eq_true] at hb
          have e1 := Nat.eq_of_beq_eq_true hb.1
          subst e1
          have hsz : ¬ ei.size = 0 := fun e => by rw [e] at hb; simp at hb
          cases hx with
          | ptr hlt hm =>
            cases hy with
            | ptr hlt2 hm2 =>
              rw [hm] at hm2; cases hm2
              rename_i e
              have hde : (({ block := e.b, off := e.d + o, spot := none } : Addr) == { block := e.b, off := e.d + p, spot := none }) = Nat.beq o p := by
                rw [Bool.eq_iff_iff]
                simp
              simp only [Op.equalIn, Sem.run_bind, run_underlying ok ht, hu, Result.andThen_ok, run_sizeOf ok he, ne_eq, hsz, not_false_eq_true, if_true, sameAddr, beq_self_eq_true, Sem.run_pure, hde]
      · cases ha
    · rename_i hu
      cases ha; cases hx
      cases hy <;> simp only [Op.equalIn, Sem.run_bind, run_underlying ok ht, hu, Result.andThen_ok, Sem.run_pure, Option.isNone]
    · rename_i hu
      cases ha; cases hy
      cases hx <;> simp only [Op.equalIn, Sem.run_bind, run_underlying ok ht, hu, Result.andThen_ok, Sem.run_pure]
    · rename_i hu
      cases ha; cases hx
      cases hy <;> simp only [Op.equalIn, Sem.run_bind, run_underlying ok ht, hu, Result.andThen_ok, Sem.run_pure, Option.isNone]
    · rename_i hu
      cases ha; cases hy
      cases hx <;> simp only [Op.equalIn, Sem.run_bind, run_underlying ok ht, hu, Result.andThen_ok, Sem.run_pure]
    · rename_i hu
      cases ha; cases hx; cases hy
      simp only [Op.equalIn, Sem.run_bind, run_underlying ok ht, hu, Result.andThen_ok, Sem.run_pure]
    · rename_i hu
      cases ha; cases hx
      cases hy <;> simp only [Op.equalIn, Sem.run_bind, run_underlying ok ht, hu, Result.andThen_ok, Sem.run_pure]
    · rename_i hu
      cases ha; cases hy
      cases hx <;> simp only [Op.equalIn, Sem.run_bind, run_underlying ok ht, hu, Result.andThen_ok, Sem.run_pure]
    · rename_i hu
      cases ha; cases hx; cases hy
      simp only [Op.equalIn, Sem.run_bind, run_underlying ok ht, hu, Result.andThen_ok, Sem.run_pure]
    · rename_i hu
      cases ha; cases hx; cases hy
      simp only [Op.equalIn, Sem.run_bind, run_underlying ok ht, hu, Result.andThen_ok, Sem.run_pure]
    · cases ha
  · cases ha
theorem eq_good (ok : TyOK P T) {n : Nat} {t : TypeId} {x x' y y' : Value} (hx : VRel μ n x x') (hy : VRel μ n y y') {b : Bool} (ha : aEq T t x y = some b) (w : World) :
    (Op.equal t x' y').run P w = .ok b w := eqIn_good ok hx hy ha w 9999
noncomputable def isCmp : BinOp → Option Bool
  | .eql => some true
  | .neq => some false
  | _ => none
noncomputable def noGuard : Value → Bool
  | .nilIface | .agg _ => false
  | _ => true
noncomputable def oneNil : Value → Value → Bool
  | .iface _ _, .nilIface => true
  | .nilIface, .iface _ _ => true
  | _, _ => false
noncomputable def aBin (P : Program) (T : Tr TI) (op : BinOp) (t : TypeId) (xo yo : Operand) (x y : Value) : Option Value :=
  bif flat x && flat y then
    match pureRun P (do eqGuard op t xo yo x y; binOp op t x y) with
    | some v => bif flat v then some v else none
    | none => none
  else match isCmp op, aEq T t x y with
    | some b, some e => bif (noGuard x && noGuard y) || oneNil x y then some (.bool (bif b then e else !e)) else none
    | _, _ => none
theorem eqGuard_none {op : BinOp} {t : TypeId} {xo yo : Operand} {x y : Value} (hx : noGuard x = true) (w : World) : (eqGuard op t xo yo x y).run P w = .ok () w := by
  cases op <;> first | rfl | (cases x <;> first | rfl | (simp [noGuard] at hx; done))
theorem VRel.noGuard_eq {n : Nat} {x x' : Value} (h : VRel μ n x x') : noGuard x' = noGuard x := by cases h <;> rfl
theorem bin_good (ok : TyOK P T) (st : StRel μ h w) {op : BinOp} {t : TypeId} (xo yo : Operand) {x x' y y' v : Value} (hx : VRel μ h.next x x') (hy : VRel μ h.next y y') (ha : aBin P T op t xo yo x y = some v) :
    GoodV P μ h w (do eqGuard op t xo yo x' y'; binOp op t x' y') v h := by
  unfold aBin at ha
  cases hf : flat x && flat y
  · rw [hf, cond_false] at ha
    split at ha
    · rename_i b e hop he
      cases hg : (noGuard x && noGuard y) || oneNil x y
      · rw [hg, cond_false] at ha; cases ha
      · rw [hg, cond_true] at ha
        cases ha
        have hgd : (eqGuard op t xo yo x' y').run P w = .ok () w := by
          rw [Bool.or_eq_true] at hg
          rcases hg with hg | hg
          · simp only [Bool.and_eq_true] at hg
            exact eqGuard_none (by rw [hx.noGuard_eq]; exact hg.1) w
          · cases hx <;> cases hy <;> first | (cases hg; done) | (cases op <;> rfl)
        have heq := eq_good ok hx hy he w
        refine ⟨_, w, μ, ?_, Ext.refl st, .bool _⟩
        simp only [Sem.run_bind, hgd, Result.andThen_ok]
        unfold aEq at he
        split at he
        · rename_i ti ht
          cases op <;> simp only [isCmp] at hop <;> first | (cases hop; done) | skip
          · cases hop
            split at he <;> cases hx <;> cases hy <;> simp only [binOp, Sem.run_bind, heq, Result.andThen_ok, Sem.run_pure, cond_true] <;> cases he
          · cases hop
            split at he <;> cases hx <;> cases hy <;> simp only [binOp, Sem.run_bind, heq, Result.andThen_ok, Sem.run_pure, cond_false] <;> cases he
        · cases he
    · cases ha
  · rw [hf, cond_true] at ha
    simp only [Bool.and_eq_true] at hf
    rw [hx.flat_eq hf.1, hy.flat_eq hf.2]
    split at ha
    · rename_i v' hp
      cases hfv : flat v'
      · rw [hfv, cond_false] at ha; cases ha
      · rw [hfv, cond_true] at ha
        cases ha
        exact pure_good st hp hfv
    · cases ha
end ops
end Go.Ab
