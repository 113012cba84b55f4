/-
  An abstract view of the model's memory: rows by number, each lying somewhere in the world. What a value, a row, a world is under such a view; what a step may change.
-/
import Derived.Calls
namespace Go.Ab
set_option maxRecDepth 100000
set_option linter.unusedSimpArgs false
set_option linter.unusedVariables false
structure N8 (β : Type) where
  c0 : β
  c1 : β
  c2 : β
  c3 : β
  c4 : β
  c5 : β
  c6 : β
  c7 : β
inductive D8 where
  | o0 | o1 | o2 | o3 | o4 | o5 | o6 | o7
deriving DecidableEq
namespace D8
noncomputable def num : D8 → Nat
  | o0 => 0 | o1 => 1 | o2 => 2 | o3 => 3 | o4 => 4 | o5 => 5 | o6 => 6 | o7 => 7
noncomputable def of : Nat → D8 := @Nat.rec (fun _ => D8) o0 (fun n _ => @Nat.rec (fun _ => D8) o1 (fun n _ => @Nat.rec (fun _ => D8) o2 (fun n _ => @Nat.rec (fun _ => D8) o3 (fun n _ => @Nat.rec (fun _ => D8) o4 (fun n _ => @Nat.rec (fun _ => D8) o5 (fun n _ => @Nat.rec (fun _ => D8) o6 (fun _ _ => o7) n) n) n) n) n) n)
theorem num_of : ∀ n, n < 8 → (of n).num = n
  | 0, _ => rfl | 1, _ => rfl | 2, _ => rfl | 3, _ => rfl | 4, _ => rfl | 5, _ => rfl | 6, _ => rfl | 7, _ => rfl
  | n + 8, h => by omega
end D8
namespace N8
variable {β : Type}
noncomputable def sel : D8 → N8 β → β := @D8.rec (fun _ => N8 β → β) (fun t => t.c0) (fun t => t.c1) (fun t => t.c2) (fun t => t.c3) (fun t => t.c4) (fun t => t.c5) (fun t => t.c6) (fun t => t.c7)
noncomputable def upd : D8 → (β → β) → N8 β → N8 β := @D8.rec (fun _ => (β → β) → N8 β → N8 β) (fun f t => @N8.rec β (fun _ => (β → β) → N8 β) (fun c0 c1 c2 c3 c4 c5 c6 c7 f => ⟨f c0, c1, c2, c3, c4, c5, c6, c7⟩) t f) (fun f t => @N8.rec β (fun _ => (β → β) → N8 β) (fun c0 c1 c2 c3 c4 c5 c6 c7 f => ⟨c0, f c1, c2, c3, c4, c5, c6, c7⟩) t f) (fun f t => @N8.rec β (fun _ => (β → β) → N8 β) (fun c0 c1 c2 c3 c4 c5 c6 c7 f => ⟨c0, c1, f c2, c3, c4, c5, c6, c7⟩) t f) (fun f t => @N8.rec β (fun _ => (β → β) → N8 β) (fun c0 c1 c2 c3 c4 c5 c6 c7 f => ⟨c0, c1, c2, f c3, c4, c5, c6, c7⟩) t f) (fun f t => @N8.rec β (fun _ => (β → β) → N8 β) (fun c0 c1 c2 c3 c4 c5 c6 c7 f => ⟨c0, c1, c2, c3, f c4, c5, c6, c7⟩) t f) (fun f t => @N8.rec β (fun _ => (β → β) → N8 β) (fun c0 c1 c2 c3 c4 c5 c6 c7 f => ⟨c0, c1, c2, c3, c4, f c5, c6, c7⟩) t f) (fun f t => @N8.rec β (fun _ => (β → β) → N8 β) (fun c0 c1 c2 c3 c4 c5 c6 c7 f => ⟨c0, c1, c2, c3, c4, c5, f c6, c7⟩) t f) (fun f t => @N8.rec β (fun _ => (β → β) → N8 β) (fun c0 c1 c2 c3 c4 c5 c6 c7 f => ⟨c0, c1, c2, c3, c4, c5, c6, f c7⟩) t f)
noncomputable def con (x : β) : N8 β := ⟨x, x, x, x, x, x, x, x⟩
theorem sel_upd (f : β → β) (t : N8 β) (d e : D8) : sel e (upd d f t) = if d = e then f (sel e t) else sel e t := by
  obtain ⟨c0, c1, c2, c3, c4, c5, c6, c7⟩ := t
  cases d <;> cases e <;> rfl
theorem sel_con (x : β) (d : D8) : sel d (con x) = x := by cases d <;> rfl
theorem upd_upd {f g k : β → β} (h : ∀ c, f (g c) = k c) (t : N8 β) (d : D8) : upd d f (upd d g t) = upd d k t := by
  obtain ⟨c0, c1, c2, c3, c4, c5, c6, c7⟩ := t
  cases d <;> simp only [upd, h]
theorem upd_self {f : β → β} {t : N8 β} {d : D8} (h : f (sel d t) = sel d t) : upd d f t = t := by
  obtain ⟨c0, c1, c2, c3, c4, c5, c6, c7⟩ := t
  cases d <;> simp only [sel] at h <;> simp only [upd, h]
end N8
inductive TPath where
  | p2 (d0 d1 : D8)
  | p4 (d0 d1 d2 d3 : D8)
  | p6 (d0 d1 d2 d3 d4 d5 : D8)
  | far (n : Nat)
deriving DecidableEq
namespace TPath
noncomputable def num : TPath → Nat
  | .p2 d0 d1 => d0.num + 8 * (d1.num)
  | .p4 d0 d1 d2 d3 => d0.num + 8 * (d1.num + 8 * (d2.num + 8 * (d3.num)))
  | .p6 d0 d1 d2 d3 d4 d5 => d0.num + 8 * (d1.num + 8 * (d2.num + 8 * (d3.num + 8 * (d4.num + 8 * (d5.num)))))
  | .far n => n
@[irreducible] noncomputable def of (n : Nat) : TPath := @Bool.rec (fun _ => TPath) (@Bool.rec (fun _ => TPath) (@Bool.rec (fun _ => TPath) (.far n) (.p6 (D8.of (Nat.mod n 8)) (D8.of (Nat.mod (Nat.div n 8) 8)) (D8.of (Nat.mod (Nat.div n 64) 8)) (D8.of (Nat.mod (Nat.div n 512) 8)) (D8.of (Nat.mod (Nat.div n 4096) 8)) (D8.of (Nat.mod (Nat.div n 32768) 8))) (Nat.ble n 262143)) (.p4 (D8.of (Nat.mod n 8)) (D8.of (Nat.mod (Nat.div n 8) 8)) (D8.of (Nat.mod (Nat.div n 64) 8)) (D8.of (Nat.mod (Nat.div n 512) 8))) (Nat.ble n 4095)) (.p2 (D8.of (Nat.mod n 8)) (D8.of (Nat.mod (Nat.div n 8) 8))) (Nat.ble n 63)
theorem num_of (n : Nat) : (of n).num = n := by
  unfold of
  cases h1 : Nat.ble n 63
  · cases h2 : Nat.ble n 4095
    · cases h3 : Nat.ble n 262143
      · rfl
      · skip
        have hn : n ≤ 262143 := Nat.le_of_ble_eq_true h3
        simp only [num]
        rw [D8.num_of _ (by show n % 8 < 8; omega), D8.num_of _ (by show n / 8 % 8 < 8; omega), D8.num_of _ (by show n / 64 % 8 < 8; omega), D8.num_of _ (by show n / 512 % 8 < 8; omega), D8.num_of _ (by show n / 4096 % 8 < 8; omega), D8.num_of _ (by show n / 32768 % 8 < 8; omega)]
        show n % 8 + 8 * (n / 8 % 8 + 8 * (n / 64 % 8 + 8 * (n / 512 % 8 + 8 * (n / 4096 % 8 + 8 * (n / 32768 % 8))))) = n
        omega
    · skip
      have hn : n ≤ 4095 := Nat.le_of_ble_eq_true h2
      simp only [num]
      rw [D8.num_of _ (by show n % 8 < 8; omega), D8.num_of _ (by show n / 8 % 8 < 8; omega), D8.num_of _ (by show n / 64 % 8 < 8; omega), D8.num_of _ (by show n / 512 % 8 < 8; omega)]
      show n % 8 + 8 * (n / 8 % 8 + 8 * (n / 64 % 8 + 8 * (n / 512 % 8))) = n
      omega
  · skip
    have hn : n ≤ 63 := Nat.le_of_ble_eq_true h1
    simp only [num]
    rw [D8.num_of _ (by show n % 8 < 8; omega), D8.num_of _ (by show n / 8 % 8 < 8; omega)]
    show n % 8 + 8 * (n / 8 % 8) = n
    omega
theorem of_inj {n m : Nat} (h : of n = of m) : n = m := by rw [← num_of n, h, num_of m]
end TPath
inductive Tr (α : Type) where
  | leaf : Tr α
  | full (s : N8 (N8 (Option α))) (b : N8 (N8 (N8 (N8 (Option α))))) (c : N8 (N8 (N8 (N8 (N8 (N8 (Option α))))))) (r : Nat → Option α) : Tr α
namespace Tr
variable {α : Type}
noncomputable def at_ : TPath → N8 (N8 (Option α)) → N8 (N8 (N8 (N8 (Option α)))) → N8 (N8 (N8 (N8 (N8 (N8 (Option α)))))) → (Nat → Option α) → Option α := @TPath.rec (fun _ => N8 (N8 (Option α)) → N8 (N8 (N8 (N8 (Option α)))) → N8 (N8 (N8 (N8 (N8 (N8 (Option α)))))) → (Nat → Option α) → Option α) (fun d0 d1 s _ _ _ => N8.sel d1 (N8.sel d0 s)) (fun d0 d1 d2 d3 _ b _ _ => N8.sel d3 (N8.sel d2 (N8.sel d1 (N8.sel d0 b)))) (fun d0 d1 d2 d3 d4 d5 _ _ c _ => N8.sel d5 (N8.sel d4 (N8.sel d3 (N8.sel d2 (N8.sel d1 (N8.sel d0 c)))))) (fun n _ _ _ r => r n)
noncomputable def to_ : TPath → Option α → N8 (N8 (Option α)) → N8 (N8 (N8 (N8 (Option α)))) → N8 (N8 (N8 (N8 (N8 (N8 (Option α)))))) → (Nat → Option α) → Tr α := @TPath.rec (fun _ => Option α → N8 (N8 (Option α)) → N8 (N8 (N8 (N8 (Option α)))) → N8 (N8 (N8 (N8 (N8 (N8 (Option α)))))) → (Nat → Option α) → Tr α) (fun d0 d1 x s b c r => .full (N8.upd d0 (N8.upd d1 (fun _ => x)) s) b c r) (fun d0 d1 d2 d3 x s b c r => .full s (N8.upd d0 (N8.upd d1 (N8.upd d2 (N8.upd d3 (fun _ => x)))) b) c r) (fun d0 d1 d2 d3 d4 d5 x s b c r => .full s b (N8.upd d0 (N8.upd d1 (N8.upd d2 (N8.upd d3 (N8.upd d4 (N8.upd d5 (fun _ => x)))))) c) r) (fun n x s b c r => .full s b c (fun m => @Bool.rec (fun _ => Option α) (r m) x (Nat.beq n m)))
noncomputable def e2 : N8 (N8 (Option α)) := (N8.con (N8.con none))
noncomputable def e4 : N8 (N8 (N8 (N8 (Option α)))) := (N8.con (N8.con (N8.con (N8.con none))))
noncomputable def e6 : N8 (N8 (N8 (N8 (N8 (N8 (Option α)))))) := (N8.con (N8.con (N8.con (N8.con (N8.con (N8.con none))))))
noncomputable def get : Tr α → Nat → Option α := @Tr.rec α (fun _ => Nat → Option α) (fun _ => none) (fun s b c r n => at_ (TPath.of n) s b c r)
noncomputable def put : Tr α → Nat → Option α → Tr α := @Tr.rec α (fun _ => Nat → Option α → Tr α) (fun n x => to_ (TPath.of n) x e2 e4 e6 (fun _ => none)) (fun s b c r n x => to_ (TPath.of n) x s b c r)
theorem g2 (t : N8 (N8 (Option α))) (x : Option α) (d0 d1 e0 e1 : D8) : N8.sel e1 (N8.sel e0 (N8.upd d0 (N8.upd d1 (fun _ => x)) t)) = if d0 = e0 ∧ d1 = e1 then x else N8.sel e1 (N8.sel e0 t) := by
  by_cases h0 : d0 = e0
  · subst h0
    rw [N8.sel_upd, if_pos rfl]
    by_cases h1 : d1 = e1
    · subst h1
      rw [N8.sel_upd, if_pos rfl]
      simp
    · rw [N8.sel_upd, if_neg h1, if_neg (fun h => h1 h.2)]
  · rw [N8.sel_upd, if_neg h0, if_neg (fun h => h0 h.1)]
theorem s2 {t : N8 (N8 (Option α))} {x : Option α} {d0 d1 : D8} (h : N8.sel d1 (N8.sel d0 t) = x) : N8.upd d0 (N8.upd d1 (fun _ => x)) t = t := (N8.upd_self (N8.upd_self h.symm))
theorem u2 (t : N8 (N8 (Option α))) (x y : Option α) (d0 d1 : D8) : N8.upd d0 (N8.upd d1 (fun _ => y)) (N8.upd d0 (N8.upd d1 (fun _ => x)) t) = N8.upd d0 (N8.upd d1 (fun _ => y)) t := (fun t => N8.upd_upd (fun t => N8.upd_upd (fun _ => rfl) t d1) t d0) t
theorem z2 (d0 d1 : D8) : N8.sel d1 (N8.sel d0 e2) = (none : Option α) := by
  unfold e2; rw [N8.sel_con, N8.sel_con]
theorem g4 (t : N8 (N8 (N8 (N8 (Option α))))) (x : Option α) (d0 d1 d2 d3 e0 e1 e2 e3 : D8) : N8.sel e3 (N8.sel e2 (N8.sel e1 (N8.sel e0 (N8.upd d0 (N8.upd d1 (N8.upd d2 (N8.upd d3 (fun _ => x)))) t)))) = if d0 = e0 ∧ d1 = e1 ∧ d2 = e2 ∧ d3 = e3 then x else N8.sel e3 (N8.sel e2 (N8.sel e1 (N8.sel e0 t))) := by
  by_cases h0 : d0 = e0
  · subst h0
    rw [N8.sel_upd, if_pos rfl]
    by_cases h1 : d1 = e1
    · subst h1
      rw [N8.sel_upd, if_pos rfl]
      by_cases h2 : d2 = e2
      · subst h2
        rw [N8.sel_upd, if_pos rfl]
        by_cases h3 : d3 = e3
        · subst h3
          rw [N8.sel_upd, if_pos rfl]
          simp
        · rw [N8.sel_upd, if_neg h3, if_neg (fun h => h3 h.2.2.2)]
      · rw [N8.sel_upd, if_neg h2, if_neg (fun h => h2 h.2.2.1)]
    · rw [N8.sel_upd, if_neg h1, if_neg (fun h => h1 h.2.1)]
  · rw [N8.sel_upd, if_neg h0, if_neg (fun h => h0 h.1)]
theorem s4 {t : N8 (N8 (N8 (N8 (Option α))))} {x : Option α} {d0 d1 d2 d3 : D8} (h : N8.sel d3 (N8.sel d2 (N8.sel d1 (N8.sel d0 t))) = x) : N8.upd d0 (N8.upd d1 (N8.upd d2 (N8.upd d3 (fun _ => x)))) t = t := (N8.upd_self (N8.upd_self (N8.upd_self (N8.upd_self h.symm))))
theorem u4 (t : N8 (N8 (N8 (N8 (Option α))))) (x y : Option α) (d0 d1 d2 d3 : D8) : N8.upd d0 (N8.upd d1 (N8.upd d2 (N8.upd d3 (fun _ => y)))) (N8.upd d0 (N8.upd d1 (N8.upd d2 (N8.upd d3 (fun _ => x)))) t) = N8.upd d0 (N8.upd d1 (N8.upd d2 (N8.upd d3 (fun _ => y)))) t := (fun t => N8.upd_upd (fun t => N8.upd_upd (fun t => N8.upd_upd (fun t => N8.upd_upd (fun _ => rfl) t d3) t d2) t d1) t d0) t
theorem z4 (d0 d1 d2 d3 : D8) : N8.sel d3 (N8.sel d2 (N8.sel d1 (N8.sel d0 e4))) = (none : Option α) := by
  unfold e4; rw [N8.sel_con, N8.sel_con, N8.sel_con, N8.sel_con]
theorem g6 (t : N8 (N8 (N8 (N8 (N8 (N8 (Option α))))))) (x : Option α) (d0 d1 d2 d3 d4 d5 e0 e1 e2 e3 e4 e5 : D8) : N8.sel e5 (N8.sel e4 (N8.sel e3 (N8.sel e2 (N8.sel e1 (N8.sel e0 (N8.upd d0 (N8.upd d1 (N8.upd d2 (N8.upd d3 (N8.upd d4 (N8.upd d5 (fun _ => x)))))) t)))))) = if d0 = e0 ∧ d1 = e1 ∧ d2 = e2 ∧ d3 = e3 ∧ d4 = e4 ∧ d5 = e5 then x else N8.sel e5 (N8.sel e4 (N8.sel e3 (N8.sel e2 (N8.sel e1 (N8.sel e0 t))))) := by
  by_cases h0 : d0 = e0
  · subst h0
    rw [N8.sel_upd, if_pos rfl]
    by_cases h1 : d1 = e1
    · subst h1
      rw [N8.sel_upd, if_pos rfl]
      by_cases h2 : d2 = e2
      · subst h2
        rw [N8.sel_upd, if_pos rfl]
        by_cases h3 : d3 = e3
        · subst h3
          rw [N8.sel_upd, if_pos rfl]
          by_cases h4 : d4 = e4
          · subst h4
            rw [N8.sel_upd, if_pos rfl]
            by_cases h5 : d5 = e5
            · subst h5
              rw [N8.sel_upd, if_pos rfl]
              simp
            · rw [N8.sel_upd, if_neg h5, if_neg (fun h => h5 h.2.2.2.2.2)]
          · rw [N8.sel_upd, if_neg h4, if_neg (fun h => h4 h.2.2.2.2.1)]
        · rw [N8.sel_upd, if_neg h3, if_neg (fun h => h3 h.2.2.2.1)]
      · rw [N8.sel_upd, if_neg h2, if_neg (fun h => h2 h.2.2.1)]
    · rw [N8.sel_upd, if_neg h1, if_neg (fun h => h1 h.2.1)]
  · rw [N8.sel_upd, if_neg h0, if_neg (fun h => h0 h.1)]
theorem s6 {t : N8 (N8 (N8 (N8 (N8 (N8 (Option α))))))} {x : Option α} {d0 d1 d2 d3 d4 d5 : D8} (h : N8.sel d5 (N8.sel d4 (N8.sel d3 (N8.sel d2 (N8.sel d1 (N8.sel d0 t))))) = x) : N8.upd d0 (N8.upd d1 (N8.upd d2 (N8.upd d3 (N8.upd d4 (N8.upd d5 (fun _ => x)))))) t = t := (N8.upd_self (N8.upd_self (N8.upd_self (N8.upd_self (N8.upd_self (N8.upd_self h.symm))))))
theorem u6 (t : N8 (N8 (N8 (N8 (N8 (N8 (Option α))))))) (x y : Option α) (d0 d1 d2 d3 d4 d5 : D8) : N8.upd d0 (N8.upd d1 (N8.upd d2 (N8.upd d3 (N8.upd d4 (N8.upd d5 (fun _ => y)))))) (N8.upd d0 (N8.upd d1 (N8.upd d2 (N8.upd d3 (N8.upd d4 (N8.upd d5 (fun _ => x)))))) t) = N8.upd d0 (N8.upd d1 (N8.upd d2 (N8.upd d3 (N8.upd d4 (N8.upd d5 (fun _ => y)))))) t := (fun t => N8.upd_upd (fun t => N8.upd_upd (fun t => N8.upd_upd (fun t => N8.upd_upd (fun t => N8.upd_upd (fun t => N8.upd_upd (fun _ => rfl) t d5) t d4) t d3) t d2) t d1) t d0) t
theorem z6 (d0 d1 d2 d3 d4 d5 : D8) : N8.sel d5 (N8.sel d4 (N8.sel d3 (N8.sel d2 (N8.sel d1 (N8.sel d0 e6))))) = (none : Option α) := by
  unfold e6; rw [N8.sel_con, N8.sel_con, N8.sel_con, N8.sel_con, N8.sel_con, N8.sel_con]
theorem at_to (s : N8 (N8 (Option α))) (b : N8 (N8 (N8 (N8 (Option α))))) (c : N8 (N8 (N8 (N8 (N8 (N8 (Option α))))))) (r : Nat → Option α) (x : Option α) (p q : TPath) : (match to_ p x s b c r with | .leaf => none | .full s b c r => at_ q s b c r) = if p = q then x else at_ q s b c r := by
  cases p <;> cases q
  · refine (g2 _ _ _ _ _ _).trans ?_
    simp only [TPath.p2.injEq]; rfl
  · rw [if_neg (fun h => by cases h)]; rfl
  · rw [if_neg (fun h => by cases h)]; rfl
  · rw [if_neg (fun h => by cases h)]; rfl
  · rw [if_neg (fun h => by cases h)]; rfl
  · refine (g4 _ _ _ _ _ _ _ _ _ _).trans ?_
    simp only [TPath.p4.injEq]; rfl
  · rw [if_neg (fun h => by cases h)]; rfl
  · rw [if_neg (fun h => by cases h)]; rfl
  · rw [if_neg (fun h => by cases h)]; rfl
  · rw [if_neg (fun h => by cases h)]; rfl
  · refine (g6 _ _ _ _ _ _ _ _ _ _ _ _ _ _).trans ?_
    simp only [TPath.p6.injEq]; rfl
  · rw [if_neg (fun h => by cases h)]; rfl
  · rw [if_neg (fun h => by cases h)]; rfl
  · rw [if_neg (fun h => by cases h)]; rfl
  · rw [if_neg (fun h => by cases h)]; rfl
  · rename_i n m
    show @Bool.rec (fun _ => Option α) (r m) x (Nat.beq n m) = _
    by_cases h : n = m
    · subst h; rw [if_pos rfl, show Nat.beq n n = true from Nat.beq_refl n]
    · rw [if_neg (fun e => h (by cases e; rfl))]
      cases hb : Nat.beq n m
      · rfl
      · exact (h (Nat.eq_of_beq_eq_true hb)).elim
theorem get_to (s : N8 (N8 (Option α))) (b : N8 (N8 (N8 (N8 (Option α))))) (c : N8 (N8 (N8 (N8 (N8 (N8 (Option α))))))) (r : Nat → Option α) (x : Option α) (p : TPath) (m : Nat) : (to_ p x s b c r).get m = if p = TPath.of m then x else at_ (TPath.of m) s b c r := by
  rw [← at_to]; cases p <;> rfl
theorem at_e (q : TPath) : at_ q e2 e4 e6 (fun _ => none) = (none : Option α) := by
  cases q
  · exact z2 _ _
  · exact z4 _ _ _ _
  · exact z6 _ _ _ _ _ _
  · rfl
theorem of_iff (n m : Nat) : TPath.of n = TPath.of m ↔ n = m := ⟨TPath.of_inj, fun h => by rw [h]⟩
theorem get_put (x : Option α) (t : Tr α) (n m : Nat) : (t.put n x).get m = if n = m then x else t.get m := by
  cases t with
  | leaf =>
    refine (get_to _ _ _ _ _ _ _).trans ?_
    rw [at_e]; simp only [of_iff]; rfl
  | full s b c r =>
    refine (get_to _ _ _ _ _ _ _).trans ?_
    simp only [of_iff]; rfl
theorem to_to (s : N8 (N8 (Option α))) (b : N8 (N8 (N8 (N8 (Option α))))) (c : N8 (N8 (N8 (N8 (N8 (N8 (Option α))))))) (r : Nat → Option α) (x y : Option α) (n : Nat) : (to_ (TPath.of n) x s b c r).put n y = to_ (TPath.of n) y s b c r := by
  have h : ∀ p : TPath, TPath.of n = p → (to_ p x s b c r).put n y = to_ p y s b c r := by
    intro p hp
    cases p <;> (show to_ (TPath.of n) y _ _ _ _ = _) <;> rw [hp]
    · exact congrArg (fun t => Tr.full t b c r) (u2 _ _ _ _ _)
    · exact congrArg (fun t => Tr.full s t c r) (u4 _ _ _ _ _ _ _)
    · exact congrArg (fun t => Tr.full s b t r) (u6 _ _ _ _ _ _ _ _ _)
    · refine congrArg (Tr.full s b c) (funext fun m => ?_)
      rename_i n'
      show @Bool.rec (fun _ => Option α) (@Bool.rec (fun _ => Option α) (r m) x (Nat.beq n' m)) y (Nat.beq n' m) = @Bool.rec (fun _ => Option α) (r m) y (Nat.beq n' m)
      cases Nat.beq n' m <;> rfl
  exact h _ rfl
theorem put_put (x y : Option α) (t : Tr α) (n : Nat) : (t.put n x).put n y = t.put n y := by
  cases t with
  | leaf => exact to_to _ _ _ _ _ _ _
  | full s b c r => exact to_to _ _ _ _ _ _ _
theorem put_self {x : α} {t : Tr α} {n : Nat} (h : t.get n = some x) : t.put n (some x) = t := by
  cases t with
  | leaf => cases h
  | full s b c r =>
    have g : ∀ p : TPath, at_ p s b c r = some x → to_ p (some x) s b c r = .full s b c r := by
      intro p hp
      cases p
      · exact congrArg (fun t => Tr.full t b c r) (s2 hp)
      · exact congrArg (fun t => Tr.full s t c r) (s4 hp)
      · exact congrArg (fun t => Tr.full s b t r) (s6 hp)
      · refine congrArg (Tr.full s b c) (funext fun m => ?_)
        rename_i n'
        cases hb : Nat.beq n' m
        · rfl
        · rw [← Nat.eq_of_beq_eq_true hb]; exact hp.symm
    exact g _ h
theorem get_put_same (x : Option α) (t : Tr α) (n : Nat) : (t.put n x).get n = x := by rw [get_put, if_pos rfl]
end Tr
structure ALoop where
  state : LoopState
  pending : Option Code
  fn : FuncId
  nt : Nat
  tmps : Tr Value
  params : Array Tmp
  assign : Code
  body : Code
structure AEnt where
  key : Value
  val : Value
  born : Nat
inductive AObj where
  | cells (vs : List Value) (sz : Nat)
  | ro (vs : List Value)
  | map (es : List AEnt) (clock : Nat)
  | mapIter (m : Option Nat) (since : Nat) (seen : Array Nat) (stepped : Nat)
  | strIter (s : ByteArray) (pos : Nat)
  | loop (l : ALoop)
namespace Tr
noncomputable def selO1 : D8 → N8 (Option AObj) → Option AObj := @D8.rec (fun _ => N8 (Option AObj) → Option AObj) (fun t => t.c0) (fun t => t.c1) (fun t => t.c2) (fun t => t.c3) (fun t => t.c4) (fun t => t.c5) (fun t => t.c6) (fun t => t.c7)
noncomputable def updO1 : D8 → (Option AObj → Option AObj) → N8 (Option AObj) → N8 (Option AObj) := @D8.rec (fun _ => (Option AObj → Option AObj) → N8 (Option AObj) → N8 (Option AObj)) (fun f t => @N8.rec (Option AObj) (fun _ => (Option AObj → Option AObj) → N8 (Option AObj)) (fun c0 c1 c2 c3 c4 c5 c6 c7 f => ⟨f c0, c1, c2, c3, c4, c5, c6, c7⟩) t f) (fun f t => @N8.rec (Option AObj) (fun _ => (Option AObj → Option AObj) → N8 (Option AObj)) (fun c0 c1 c2 c3 c4 c5 c6 c7 f => ⟨c0, f c1, c2, c3, c4, c5, c6, c7⟩) t f) (fun f t => @N8.rec (Option AObj) (fun _ => (Option AObj → Option AObj) → N8 (Option AObj)) (fun c0 c1 c2 c3 c4 c5 c6 c7 f => ⟨c0, c1, f c2, c3, c4, c5, c6, c7⟩) t f) (fun f t => @N8.rec (Option AObj) (fun _ => (Option AObj → Option AObj) → N8 (Option AObj)) (fun c0 c1 c2 c3 c4 c5 c6 c7 f => ⟨c0, c1, c2, f c3, c4, c5, c6, c7⟩) t f) (fun f t => @N8.rec (Option AObj) (fun _ => (Option AObj → Option AObj) → N8 (Option AObj)) (fun c0 c1 c2 c3 c4 c5 c6 c7 f => ⟨c0, c1, c2, c3, f c4, c5, c6, c7⟩) t f) (fun f t => @N8.rec (Option AObj) (fun _ => (Option AObj → Option AObj) → N8 (Option AObj)) (fun c0 c1 c2 c3 c4 c5 c6 c7 f => ⟨c0, c1, c2, c3, c4, f c5, c6, c7⟩) t f) (fun f t => @N8.rec (Option AObj) (fun _ => (Option AObj → Option AObj) → N8 (Option AObj)) (fun c0 c1 c2 c3 c4 c5 c6 c7 f => ⟨c0, c1, c2, c3, c4, c5, f c6, c7⟩) t f) (fun f t => @N8.rec (Option AObj) (fun _ => (Option AObj → Option AObj) → N8 (Option AObj)) (fun c0 c1 c2 c3 c4 c5 c6 c7 f => ⟨c0, c1, c2, c3, c4, c5, c6, f c7⟩) t f)
noncomputable def selO2 : D8 → N8 (N8 (Option AObj)) → N8 (Option AObj) := @D8.rec (fun _ => N8 (N8 (Option AObj)) → N8 (Option AObj)) (fun t => t.c0) (fun t => t.c1) (fun t => t.c2) (fun t => t.c3) (fun t => t.c4) (fun t => t.c5) (fun t => t.c6) (fun t => t.c7)
noncomputable def updO2 : D8 → (N8 (Option AObj) → N8 (Option AObj)) → N8 (N8 (Option AObj)) → N8 (N8 (Option AObj)) := @D8.rec (fun _ => (N8 (Option AObj) → N8 (Option AObj)) → N8 (N8 (Option AObj)) → N8 (N8 (Option AObj))) (fun f t => @N8.rec (N8 (Option AObj)) (fun _ => (N8 (Option AObj) → N8 (Option AObj)) → N8 (N8 (Option AObj))) (fun c0 c1 c2 c3 c4 c5 c6 c7 f => ⟨f c0, c1, c2, c3, c4, c5, c6, c7⟩) t f) (fun f t => @N8.rec (N8 (Option AObj)) (fun _ => (N8 (Option AObj) → N8 (Option AObj)) → N8 (N8 (Option AObj))) (fun c0 c1 c2 c3 c4 c5 c6 c7 f => ⟨c0, f c1, c2, c3, c4, c5, c6, c7⟩) t f) (fun f t => @N8.rec (N8 (Option AObj)) (fun _ => (N8 (Option AObj) → N8 (Option AObj)) → N8 (N8 (Option AObj))) (fun c0 c1 c2 c3 c4 c5 c6 c7 f => ⟨c0, c1, f c2, c3, c4, c5, c6, c7⟩) t f) (fun f t => @N8.rec (N8 (Option AObj)) (fun _ => (N8 (Option AObj) → N8 (Option AObj)) → N8 (N8 (Option AObj))) (fun c0 c1 c2 c3 c4 c5 c6 c7 f => ⟨c0, c1, c2, f c3, c4, c5, c6, c7⟩) t f) (fun f t => @N8.rec (N8 (Option AObj)) (fun _ => (N8 (Option AObj) → N8 (Option AObj)) → N8 (N8 (Option AObj))) (fun c0 c1 c2 c3 c4 c5 c6 c7 f => ⟨c0, c1, c2, c3, f c4, c5, c6, c7⟩) t f) (fun f t => @N8.rec (N8 (Option AObj)) (fun _ => (N8 (Option AObj) → N8 (Option AObj)) → N8 (N8 (Option AObj))) (fun c0 c1 c2 c3 c4 c5 c6 c7 f => ⟨c0, c1, c2, c3, c4, f c5, c6, c7⟩) t f) (fun f t => @N8.rec (N8 (Option AObj)) (fun _ => (N8 (Option AObj) → N8 (Option AObj)) → N8 (N8 (Option AObj))) (fun c0 c1 c2 c3 c4 c5 c6 c7 f => ⟨c0, c1, c2, c3, c4, c5, f c6, c7⟩) t f) (fun f t => @N8.rec (N8 (Option AObj)) (fun _ => (N8 (Option AObj) → N8 (Option AObj)) → N8 (N8 (Option AObj))) (fun c0 c1 c2 c3 c4 c5 c6 c7 f => ⟨c0, c1, c2, c3, c4, c5, c6, f c7⟩) t f)
noncomputable def selO3 : D8 → N8 (N8 (N8 (Option AObj))) → N8 (N8 (Option AObj)) := @D8.rec (fun _ => N8 (N8 (N8 (Option AObj))) → N8 (N8 (Option AObj))) (fun t => t.c0) (fun t => t.c1) (fun t => t.c2) (fun t => t.c3) (fun t => t.c4) (fun t => t.c5) (fun t => t.c6) (fun t => t.c7)
noncomputable def updO3 : D8 → (N8 (N8 (Option AObj)) → N8 (N8 (Option AObj))) → N8 (N8 (N8 (Option AObj))) → N8 (N8 (N8 (Option AObj))) := @D8.rec (fun _ => (N8 (N8 (Option AObj)) → N8 (N8 (Option AObj))) → N8 (N8 (N8 (Option AObj))) → N8 (N8 (N8 (Option AObj)))) (fun f t => @N8.rec (N8 (N8 (Option AObj))) (fun _ => (N8 (N8 (Option AObj)) → N8 (N8 (Option AObj))) → N8 (N8 (N8 (Option AObj)))) (fun c0 c1 c2 c3 c4 c5 c6 c7 f => ⟨f c0, c1, c2, c3, c4, c5, c6, c7⟩) t f) (fun f t => @N8.rec (N8 (N8 (Option AObj))) (fun _ => (N8 (N8 (Option AObj)) → N8 (N8 (Option AObj))) → N8 (N8 (N8 (Option AObj)))) (fun c0 c1 c2 c3 c4 c5 c6 c7 f => ⟨c0, f c1, c2, c3, c4, c5, c6, c7⟩) t f) (fun f t => @N8.rec (N8 (N8 (Option AObj))) (fun _ => (N8 (N8 (Option AObj)) → N8 (N8 (Option AObj))) → N8 (N8 (N8 (Option AObj)))) (fun c0 c1 c2 c3 c4 c5 c6 c7 f => ⟨c0, c1, f c2, c3, c4, c5, c6, c7⟩) t f) (fun f t => @N8.rec (N8 (N8 (Option AObj))) (fun _ => (N8 (N8 (Option AObj)) → N8 (N8 (Option AObj))) → N8 (N8 (N8 (Option AObj)))) (fun c0 c1 c2 c3 c4 c5 c6 c7 f => ⟨c0, c1, c2, f c3, c4, c5, c6, c7⟩) t f) (fun f t => @N8.rec (N8 (N8 (Option AObj))) (fun _ => (N8 (N8 (Option AObj)) → N8 (N8 (Option AObj))) → N8 (N8 (N8 (Option AObj)))) (fun c0 c1 c2 c3 c4 c5 c6 c7 f => ⟨c0, c1, c2, c3, f c4, c5, c6, c7⟩) t f) (fun f t => @N8.rec (N8 (N8 (Option AObj))) (fun _ => (N8 (N8 (Option AObj)) → N8 (N8 (Option AObj))) → N8 (N8 (N8 (Option AObj)))) (fun c0 c1 c2 c3 c4 c5 c6 c7 f => ⟨c0, c1, c2, c3, c4, f c5, c6, c7⟩) t f) (fun f t => @N8.rec (N8 (N8 (Option AObj))) (fun _ => (N8 (N8 (Option AObj)) → N8 (N8 (Option AObj))) → N8 (N8 (N8 (Option AObj)))) (fun c0 c1 c2 c3 c4 c5 c6 c7 f => ⟨c0, c1, c2, c3, c4, c5, f c6, c7⟩) t f) (fun f t => @N8.rec (N8 (N8 (Option AObj))) (fun _ => (N8 (N8 (Option AObj)) → N8 (N8 (Option AObj))) → N8 (N8 (N8 (Option AObj)))) (fun c0 c1 c2 c3 c4 c5 c6 c7 f => ⟨c0, c1, c2, c3, c4, c5, c6, f c7⟩) t f)
noncomputable def selO4 : D8 → N8 (N8 (N8 (N8 (Option AObj)))) → N8 (N8 (N8 (Option AObj))) := @D8.rec (fun _ => N8 (N8 (N8 (N8 (Option AObj)))) → N8 (N8 (N8 (Option AObj)))) (fun t => t.c0) (fun t => t.c1) (fun t => t.c2) (fun t => t.c3) (fun t => t.c4) (fun t => t.c5) (fun t => t.c6) (fun t => t.c7)
noncomputable def updO4 : D8 → (N8 (N8 (N8 (Option AObj))) → N8 (N8 (N8 (Option AObj)))) → N8 (N8 (N8 (N8 (Option AObj)))) → N8 (N8 (N8 (N8 (Option AObj)))) := @D8.rec (fun _ => (N8 (N8 (N8 (Option AObj))) → N8 (N8 (N8 (Option AObj)))) → N8 (N8 (N8 (N8 (Option AObj)))) → N8 (N8 (N8 (N8 (Option AObj))))) (fun f t => @N8.rec (N8 (N8 (N8 (Option AObj)))) (fun _ => (N8 (N8 (N8 (Option AObj))) → N8 (N8 (N8 (Option AObj)))) → N8 (N8 (N8 (N8 (Option AObj))))) (fun c0 c1 c2 c3 c4 c5 c6 c7 f => ⟨f c0, c1, c2, c3, c4, c5, c6, c7⟩) t f) (fun f t => @N8.rec (N8 (N8 (N8 (Option AObj)))) (fun _ => (N8 (N8 (N8 (Option AObj))) → N8 (N8 (N8 (Option AObj)))) → N8 (N8 (N8 (N8 (Option AObj))))) (fun c0 c1 c2 c3 c4 c5 c6 c7 f => ⟨c0, f c1, c2, c3, c4, c5, c6, c7⟩) t f) (fun f t => @N8.rec (N8 (N8 (N8 (Option AObj)))) (fun _ => (N8 (N8 (N8 (Option AObj))) → N8 (N8 (N8 (Option AObj)))) → N8 (N8 (N8 (N8 (Option AObj))))) (fun c0 c1 c2 c3 c4 c5 c6 c7 f => ⟨c0, c1, f c2, c3, c4, c5, c6, c7⟩) t f) (fun f t => @N8.rec (N8 (N8 (N8 (Option AObj)))) (fun _ => (N8 (N8 (N8 (Option AObj))) → N8 (N8 (N8 (Option AObj)))) → N8 (N8 (N8 (N8 (Option AObj))))) (fun c0 c1 c2 c3 c4 c5 c6 c7 f => ⟨c0, c1, c2, f c3, c4, c5, c6, c7⟩) t f) (fun f t => @N8.rec (N8 (N8 (N8 (Option AObj)))) (fun _ => (N8 (N8 (N8 (Option AObj))) → N8 (N8 (N8 (Option AObj)))) → N8 (N8 (N8 (N8 (Option AObj))))) (fun c0 c1 c2 c3 c4 c5 c6 c7 f => ⟨c0, c1, c2, c3, f c4, c5, c6, c7⟩) t f) (fun f t => @N8.rec (N8 (N8 (N8 (Option AObj)))) (fun _ => (N8 (N8 (N8 (Option AObj))) → N8 (N8 (N8 (Option AObj)))) → N8 (N8 (N8 (N8 (Option AObj))))) (fun c0 c1 c2 c3 c4 c5 c6 c7 f => ⟨c0, c1, c2, c3, c4, f c5, c6, c7⟩) t f) (fun f t => @N8.rec (N8 (N8 (N8 (Option AObj)))) (fun _ => (N8 (N8 (N8 (Option AObj))) → N8 (N8 (N8 (Option AObj)))) → N8 (N8 (N8 (N8 (Option AObj))))) (fun c0 c1 c2 c3 c4 c5 c6 c7 f => ⟨c0, c1, c2, c3, c4, c5, f c6, c7⟩) t f) (fun f t => @N8.rec (N8 (N8 (N8 (Option AObj)))) (fun _ => (N8 (N8 (N8 (Option AObj))) → N8 (N8 (N8 (Option AObj)))) → N8 (N8 (N8 (N8 (Option AObj))))) (fun c0 c1 c2 c3 c4 c5 c6 c7 f => ⟨c0, c1, c2, c3, c4, c5, c6, f c7⟩) t f)
noncomputable def selO5 : D8 → N8 (N8 (N8 (N8 (N8 (Option AObj))))) → N8 (N8 (N8 (N8 (Option AObj)))) := @D8.rec (fun _ => N8 (N8 (N8 (N8 (N8 (Option AObj))))) → N8 (N8 (N8 (N8 (Option AObj))))) (fun t => t.c0) (fun t => t.c1) (fun t => t.c2) (fun t => t.c3) (fun t => t.c4) (fun t => t.c5) (fun t => t.c6) (fun t => t.c7)
noncomputable def updO5 : D8 → (N8 (N8 (N8 (N8 (Option AObj)))) → N8 (N8 (N8 (N8 (Option AObj))))) → N8 (N8 (N8 (N8 (N8 (Option AObj))))) → N8 (N8 (N8 (N8 (N8 (Option AObj))))) := @D8.rec (fun _ => (N8 (N8 (N8 (N8 (Option AObj)))) → N8 (N8 (N8 (N8 (Option AObj))))) → N8 (N8 (N8 (N8 (N8 (Option AObj))))) → N8 (N8 (N8 (N8 (N8 (Option AObj)))))) (fun f t => @N8.rec (N8 (N8 (N8 (N8 (Option AObj))))) (fun _ => (N8 (N8 (N8 (N8 (Option AObj)))) → N8 (N8 (N8 (N8 (Option AObj))))) → N8 (N8 (N8 (N8 (N8 (Option AObj)))))) (fun c0 c1 c2 c3 c4 c5 c6 c7 f => ⟨f c0, c1, c2, c3, c4, c5, c6, c7⟩) t f) (fun f t => @N8.rec (N8 (N8 (N8 (N8 (Option AObj))))) (fun _ => (N8 (N8 (N8 (N8 (Option AObj)))) → N8 (N8 (N8 (N8 (Option AObj))))) → N8 (N8 (N8 (N8 (N8 (Option AObj)))))) (fun c0 c1 c2 c3 c4 c5 c6 c7 f => ⟨c0, f c1, c2, c3, c4, c5, c6, c7⟩) t f) (fun f t => @N8.rec (N8 (N8 (N8 (N8 (Option AObj))))) (fun _ => (N8 (N8 (N8 (N8 (Option AObj)))) → N8 (N8 (N8 (N8 (Option AObj))))) → N8 (N8 (N8 (N8 (N8 (Option AObj)))))) (fun c0 c1 c2 c3 c4 c5 c6 c7 f => ⟨c0, c1, f c2, c3, c4, c5, c6, c7⟩) t f) (fun f t => @N8.rec (N8 (N8 (N8 (N8 (Option AObj))))) (fun _ => (N8 (N8 (N8 (N8 (Option AObj)))) → N8 (N8 (N8 (N8 (Option AObj))))) → N8 (N8 (N8 (N8 (N8 (Option AObj)))))) (fun c0 c1 c2 c3 c4 c5 c6 c7 f => ⟨c0, c1, c2, f c3, c4, c5, c6, c7⟩) t f) (fun f t => @N8.rec (N8 (N8 (N8 (N8 (Option AObj))))) (fun _ => (N8 (N8 (N8 (N8 (Option AObj)))) → N8 (N8 (N8 (N8 (Option AObj))))) → N8 (N8 (N8 (N8 (N8 (Option AObj)))))) (fun c0 c1 c2 c3 c4 c5 c6 c7 f => ⟨c0, c1, c2, c3, f c4, c5, c6, c7⟩) t f) (fun f t => @N8.rec (N8 (N8 (N8 (N8 (Option AObj))))) (fun _ => (N8 (N8 (N8 (N8 (Option AObj)))) → N8 (N8 (N8 (N8 (Option AObj))))) → N8 (N8 (N8 (N8 (N8 (Option AObj)))))) (fun c0 c1 c2 c3 c4 c5 c6 c7 f => ⟨c0, c1, c2, c3, c4, f c5, c6, c7⟩) t f) (fun f t => @N8.rec (N8 (N8 (N8 (N8 (Option AObj))))) (fun _ => (N8 (N8 (N8 (N8 (Option AObj)))) → N8 (N8 (N8 (N8 (Option AObj))))) → N8 (N8 (N8 (N8 (N8 (Option AObj)))))) (fun c0 c1 c2 c3 c4 c5 c6 c7 f => ⟨c0, c1, c2, c3, c4, c5, f c6, c7⟩) t f) (fun f t => @N8.rec (N8 (N8 (N8 (N8 (Option AObj))))) (fun _ => (N8 (N8 (N8 (N8 (Option AObj)))) → N8 (N8 (N8 (N8 (Option AObj))))) → N8 (N8 (N8 (N8 (N8 (Option AObj)))))) (fun c0 c1 c2 c3 c4 c5 c6 c7 f => ⟨c0, c1, c2, c3, c4, c5, c6, f c7⟩) t f)
noncomputable def selO6 : D8 → N8 (N8 (N8 (N8 (N8 (N8 (Option AObj)))))) → N8 (N8 (N8 (N8 (N8 (Option AObj))))) := @D8.rec (fun _ => N8 (N8 (N8 (N8 (N8 (N8 (Option AObj)))))) → N8 (N8 (N8 (N8 (N8 (Option AObj)))))) (fun t => t.c0) (fun t => t.c1) (fun t => t.c2) (fun t => t.c3) (fun t => t.c4) (fun t => t.c5) (fun t => t.c6) (fun t => t.c7)
noncomputable def updO6 : D8 → (N8 (N8 (N8 (N8 (N8 (Option AObj))))) → N8 (N8 (N8 (N8 (N8 (Option AObj)))))) → N8 (N8 (N8 (N8 (N8 (N8 (Option AObj)))))) → N8 (N8 (N8 (N8 (N8 (N8 (Option AObj)))))) := @D8.rec (fun _ => (N8 (N8 (N8 (N8 (N8 (Option AObj))))) → N8 (N8 (N8 (N8 (N8 (Option AObj)))))) → N8 (N8 (N8 (N8 (N8 (N8 (Option AObj)))))) → N8 (N8 (N8 (N8 (N8 (N8 (Option AObj))))))) (fun f t => @N8.rec (N8 (N8 (N8 (N8 (N8 (Option AObj)))))) (fun _ => (N8 (N8 (N8 (N8 (N8 (Option AObj))))) → N8 (N8 (N8 (N8 (N8 (Option AObj)))))) → N8 (N8 (N8 (N8 (N8 (N8 (Option AObj))))))) (fun c0 c1 c2 c3 c4 c5 c6 c7 f => ⟨f c0, c1, c2, c3, c4, c5, c6, c7⟩) t f) (fun f t => @N8.rec (N8 (N8 (N8 (N8 (N8 (Option AObj)))))) (fun _ => (N8 (N8 (N8 (N8 (N8 (Option AObj))))) → N8 (N8 (N8 (N8 (N8 (Option AObj)))))) → N8 (N8 (N8 (N8 (N8 (N8 (Option AObj))))))) (fun c0 c1 c2 c3 c4 c5 c6 c7 f => ⟨c0, f c1, c2, c3, c4, c5, c6, c7⟩) t f) (fun f t => @N8.rec (N8 (N8 (N8 (N8 (N8 (Option AObj)))))) (fun _ => (N8 (N8 (N8 (N8 (N8 (Option AObj))))) → N8 (N8 (N8 (N8 (N8 (Option AObj)))))) → N8 (N8 (N8 (N8 (N8 (N8 (Option AObj))))))) (fun c0 c1 c2 c3 c4 c5 c6 c7 f => ⟨c0, c1, f c2, c3, c4, c5, c6, c7⟩) t f) (fun f t => @N8.rec (N8 (N8 (N8 (N8 (N8 (Option AObj)))))) (fun _ => (N8 (N8 (N8 (N8 (N8 (Option AObj))))) → N8 (N8 (N8 (N8 (N8 (Option AObj)))))) → N8 (N8 (N8 (N8 (N8 (N8 (Option AObj))))))) (fun c0 c1 c2 c3 c4 c5 c6 c7 f => ⟨c0, c1, c2, f c3, c4, c5, c6, c7⟩) t f) (fun f t => @N8.rec (N8 (N8 (N8 (N8 (N8 (Option AObj)))))) (fun _ => (N8 (N8 (N8 (N8 (N8 (Option AObj))))) → N8 (N8 (N8 (N8 (N8 (Option AObj)))))) → N8 (N8 (N8 (N8 (N8 (N8 (Option AObj))))))) (fun c0 c1 c2 c3 c4 c5 c6 c7 f => ⟨c0, c1, c2, c3, f c4, c5, c6, c7⟩) t f) (fun f t => @N8.rec (N8 (N8 (N8 (N8 (N8 (Option AObj)))))) (fun _ => (N8 (N8 (N8 (N8 (N8 (Option AObj))))) → N8 (N8 (N8 (N8 (N8 (Option AObj)))))) → N8 (N8 (N8 (N8 (N8 (N8 (Option AObj))))))) (fun c0 c1 c2 c3 c4 c5 c6 c7 f => ⟨c0, c1, c2, c3, c4, f c5, c6, c7⟩) t f) (fun f t => @N8.rec (N8 (N8 (N8 (N8 (N8 (Option AObj)))))) (fun _ => (N8 (N8 (N8 (N8 (N8 (Option AObj))))) → N8 (N8 (N8 (N8 (N8 (Option AObj)))))) → N8 (N8 (N8 (N8 (N8 (N8 (Option AObj))))))) (fun c0 c1 c2 c3 c4 c5 c6 c7 f => ⟨c0, c1, c2, c3, c4, c5, f c6, c7⟩) t f) (fun f t => @N8.rec (N8 (N8 (N8 (N8 (N8 (Option AObj)))))) (fun _ => (N8 (N8 (N8 (N8 (N8 (Option AObj))))) → N8 (N8 (N8 (N8 (N8 (Option AObj)))))) → N8 (N8 (N8 (N8 (N8 (N8 (Option AObj))))))) (fun c0 c1 c2 c3 c4 c5 c6 c7 f => ⟨c0, c1, c2, c3, c4, c5, c6, f c7⟩) t f)
noncomputable def atO : TPath → N8 (N8 (Option AObj)) → N8 (N8 (N8 (N8 (Option AObj)))) → N8 (N8 (N8 (N8 (N8 (N8 (Option AObj)))))) → (Nat → Option AObj) → Option AObj := @TPath.rec (fun _ => N8 (N8 (Option AObj)) → N8 (N8 (N8 (N8 (Option AObj)))) → N8 (N8 (N8 (N8 (N8 (N8 (Option AObj)))))) → (Nat → Option AObj) → Option AObj) (fun d0 d1 s _ _ _ => selO1 d1 (selO2 d0 s)) (fun d0 d1 d2 d3 _ b _ _ => selO1 d3 (selO2 d2 (selO3 d1 (selO4 d0 b)))) (fun d0 d1 d2 d3 d4 d5 _ _ c _ => selO1 d5 (selO2 d4 (selO3 d3 (selO4 d2 (selO5 d1 (selO6 d0 c)))))) (fun n _ _ _ r => r n)
noncomputable def toO : TPath → Option AObj → N8 (N8 (Option AObj)) → N8 (N8 (N8 (N8 (Option AObj)))) → N8 (N8 (N8 (N8 (N8 (N8 (Option AObj)))))) → (Nat → Option AObj) → Tr AObj := @TPath.rec (fun _ => Option AObj → N8 (N8 (Option AObj)) → N8 (N8 (N8 (N8 (Option AObj)))) → N8 (N8 (N8 (N8 (N8 (N8 (Option AObj)))))) → (Nat → Option AObj) → Tr AObj) (fun d0 d1 x s b c r => .full (updO2 d0 (updO1 d1 (fun _ => x)) s) b c r) (fun d0 d1 d2 d3 x s b c r => .full s (updO4 d0 (updO3 d1 (updO2 d2 (updO1 d3 (fun _ => x)))) b) c r) (fun d0 d1 d2 d3 d4 d5 x s b c r => .full s b (updO6 d0 (updO5 d1 (updO4 d2 (updO3 d3 (updO2 d4 (updO1 d5 (fun _ => x)))))) c) r) (fun n x s b c r => .full s b c (fun m => @Bool.rec (fun _ => Option AObj) (r m) x (Nat.beq n m)))
noncomputable def getO : Tr AObj → Nat → Option AObj := @Tr.rec AObj (fun _ => Nat → Option AObj) (fun _ => none) (fun s b c r n => atO (TPath.of n) s b c r)
noncomputable def putO : Tr AObj → Nat → Option AObj → Tr AObj := @Tr.rec AObj (fun _ => Nat → Option AObj → Tr AObj) (fun n x => toO (TPath.of n) x e2 e4 e6 (fun _ => none)) (fun s b c r n x => toO (TPath.of n) x s b c r)
end Tr
noncomputable def AObj.own : AObj → Bool
  | .ro _ => false
  | _ => true
structure AHeap where
  next : Nat
  rows : Tr AObj
namespace AHeap
noncomputable def get (h : AHeap) (r : Nat) : Option AObj := Tr.getO h.rows r
noncomputable def set (h : AHeap) (r : Nat) (o : AObj) : AHeap := { h with rows := Tr.putO h.rows r (some o) }
noncomputable def kill (h : AHeap) (r : Nat) : AHeap := { h with rows := Tr.putO h.rows r none }
noncomputable def new (h : AHeap) (o : AObj) : AHeap := { next := h.next + 1, rows := Tr.putO h.rows h.next (some o) }
theorem get_set (h : AHeap) (r q : Nat) (o : AObj) : (h.set r o).get q = if r = q then some o else h.get q := Tr.get_put _ _ _ _
theorem get_kill (h : AHeap) (r q : Nat) : (h.kill r).get q = if r = q then none else h.get q := Tr.get_put _ _ _ _
theorem get_new (h : AHeap) (q : Nat) (o : AObj) : (h.new o).get q = if h.next = q then some o else h.get q := Tr.get_put _ _ _ _
@[simp] theorem next_set (h : AHeap) (r : Nat) (o : AObj) : (h.set r o).next = h.next := rfl
@[simp] theorem next_kill (h : AHeap) (r : Nat) : (h.kill r).next = h.next := rfl
@[simp] theorem next_new (h : AHeap) (o : AObj) : (h.new o).next = h.next + 1 := rfl
end AHeap
structure Ent where
  b : Nat
  d : Nat
  ext : Nat
  sz : Nat
noncomputable def Emb : Type := Nat → Option Ent
mutual
inductive VRel (μ : Emb) (n : Nat) : Value → Value → Prop
  | bool (b : Bool) : VRel μ n (.bool b) (.bool b)
  | int (k : IntKind) (i : Int) : VRel μ n (.int k i) (.int k i)
  | float (k : FloatKind) (x : Nat) : VRel μ n (.float k x) (.float k x)
  | complex (k : FloatKind) (x y : Nat) : VRel μ n (.complex k x y) (.complex k x y)
  | string (s : ByteArray) : VRel μ n (.string s) (.string s)
  | ptr0 : VRel μ n (.pointer none) (.pointer none)
  | ptr {r off : Nat} {e : Ent} (hr : r < n) (hm : μ r = some e) : VRel μ n (.pointer (some ⟨r, off, none⟩)) (.pointer (some ⟨e.b, e.d + off, none⟩))
  | slice0 : VRel μ n (.slice none 0 0) (.slice none 0 0)
  | sliceK {r off len c : Nat} {e : Ent} (hr : r < n) (hm : μ r = some e) : VRel μ n (.slice (some ⟨r, off, none⟩) len (c + 1)) (.slice (some ⟨e.b, e.d + off, none⟩) len c)
  | sliceU {r off len cap : Nat} {e : Ent} (hr : r < n) (hm : μ r = some e) (hl : len ≤ cap) (hc : off + cap * e.sz ≤ e.ext) :
      VRel μ n (.slice (some ⟨r, off, none⟩) len 0) (.slice (some ⟨e.b, e.d + off, none⟩) len cap)
  | sliceZ {r off x : Nat} {sp : Option Nat} {e : Ent} (hr : r < n) (hm : μ r = some e) : VRel μ n (.slice (some ⟨r, off, none⟩) 0 0) (.slice (some ⟨e.b, x, sp⟩) 0 0)
  | sliceKZ {r off x : Nat} {sp : Option Nat} {e : Ent} (hr : r < n) (hm : μ r = some e) : VRel μ n (.slice (some ⟨r, off, none⟩) 0 1) (.slice (some ⟨e.b, x, sp⟩) 0 0)
  | map0 : VRel μ n (.map none) (.map none)
  | map {r : Nat} {e : Ent} (hr : r < n) (hm : μ r = some e) : VRel μ n (.map (some r)) (.map (some e.b))
  | func {f : Fn} {a a' c c' : Array Value} (hf : ∀ l, f ≠ .yield l) (ha : LRel μ n a.toList a'.toList) (hc : LRel μ n c.toList c'.toList) : VRel μ n (.func f a c) (.func f a' c')
  | yield {l : Nat} {e : Ent} (hr : l < n) (hm : μ l = some e) : VRel μ n (.func (.yield l) #[] #[]) (.func (.yield e.b) #[] #[])
  | nilFunc : VRel μ n .nilFunc .nilFunc
  | iface {t : TypeId} {v v' : Value} (h : VRel μ n v v') : VRel μ n (.iface t v) (.iface t v')
  | nilIface : VRel μ n .nilIface .nilIface
  | agg {a a' : Array Value} (h : LRel μ n a.toList a'.toList) : VRel μ n (.agg a) (.agg a')
  | tuple {a a' : Array Value} (h : LRel μ n a.toList a'.toList) : VRel μ n (.tuple a) (.tuple a')
inductive LRel (μ : Emb) (n : Nat) : List Value → List Value → Prop
  | nil : LRel μ n [] []
  | cons {v v' : Value} {l l' : List Value} (h : VRel μ n v v') (t : LRel μ n l l') : LRel μ n (v :: l) (v' :: l')
end
noncomputable def Agree (n : Nat) (μ μ' : Emb) : Prop := ∀ r, r < n → μ' r = μ r
theorem Agree.refl (n : Nat) (μ : Emb) : Agree n μ μ := fun _ _ => rfl
theorem Agree.mono {n m : Nat} {μ μ' : Emb} (h : Agree m μ μ') (hn : n ≤ m) : Agree n μ μ' := fun r hr => h r (by omega)
theorem Agree.trans {n m : Nat} {μ μ' μ'' : Emb} (h : Agree n μ μ') (h' : Agree m μ' μ'') (hn : n ≤ m) : Agree n μ μ'' :=
  fun r hr => (h' r (by omega)).trans (h r hr)
mutual
theorem VRel.mono {μ μ' : Emb} {n m : Nat} (ha : Agree n μ μ') (hn : n ≤ m) : ∀ {v v' : Value}, VRel μ n v v' → VRel μ' m v v'
  | _, _, .bool b => .bool b
  | _, _, .int k i => .int k i
  | _, _, .float k x => .float k x
  | _, _, .complex k x y => .complex k x y
  | _, _, .string s => .string s
  | _, _, .ptr0 => .ptr0
  | _, _, .ptr hr hm => .ptr (by omega) ((ha _ hr).trans hm)
  | _, _, .slice0 => .slice0
  | _, _, .sliceK hr hm => .sliceK (by omega) ((ha _ hr).trans hm)
  | _, _, .sliceU hr hm hl hc => .sliceU (by omega) ((ha _ hr).trans hm) hl hc
  | _, _, .sliceZ hr hm => .sliceZ (by omega) ((ha _ hr).trans hm)
  | _, _, .sliceKZ hr hm => .sliceKZ (by omega) ((ha _ hr).trans hm)
  | _, _, .map0 => .map0
  | _, _, .map hr hm => .map (by omega) ((ha _ hr).trans hm)
  | _, _, .func hf h1 h2 => .func hf (LRel.mono ha hn h1) (LRel.mono ha hn h2)
  | _, _, .yield hr hm => .yield (by omega) ((ha _ hr).trans hm)
  | _, _, .nilFunc => .nilFunc
  | _, _, .iface h => .iface (VRel.mono ha hn h)
  | _, _, .nilIface => .nilIface
  | _, _, .agg h => .agg (LRel.mono ha hn h)
  | _, _, .tuple h => .tuple (LRel.mono ha hn h)
theorem LRel.mono {μ μ' : Emb} {n m : Nat} (ha : Agree n μ μ') (hn : n ≤ m) : ∀ {l l' : List Value}, LRel μ n l l' → LRel μ' m l l'
  | _, _, .nil => .nil
  | _, _, .cons h t => .cons (VRel.mono ha hn h) (LRel.mono ha hn t)
end
namespace LRel
variable {μ : Emb} {n : Nat}
theorem length : ∀ {l l' : List Value}, LRel μ n l l' → l.length = l'.length
  | _, _, .nil => rfl
  | _, _, .cons _ t => by simp [length t]
theorem getElem? : ∀ {l l' : List Value}, LRel μ n l l' → ∀ (i : Nat) {v : Value}, l[i]? = some v → ∃ v', l'[i]? = some v' ∧ VRel μ n v v'
  | _, _, .nil, i, v, h => by simp at h
  | _, _, .cons h t, i, v, hv => by
    cases i with
    | zero => simp at hv; subst hv; exact ⟨_, by simp, h⟩
    | succ i => simp at hv; obtain ⟨v', h1, h2⟩ := getElem? t i hv; exact ⟨v', by simpa using h1, h2⟩
theorem of_getElem? : ∀ {l l' : List Value}, l.length = l'.length → (∀ (i : Nat) (v v' : Value), l[i]? = some v → l'[i]? = some v' → VRel μ n v v') → LRel μ n l l'
  | [], [], _, _ => .nil
  | [], _ :: _, h, _ => by simp at h
  | _ :: _, [], h, _ => by simp at h
  | v :: l, v' :: l', h, hv => .cons (hv 0 v v' (by simp) (by simp)) (of_getElem? (by simpa using h) fun i a b ha hb => hv (i + 1) a b (by simpa using ha) (by simpa using hb))
theorem append : ∀ {l l' m m' : List Value}, LRel μ n l l' → LRel μ n m m' → LRel μ n (l ++ m) (l' ++ m')
  | _, _, _, _, .nil, h => h
  | _, _, _, _, .cons h t, hm => .cons h (append t hm)
theorem take : ∀ {l l' : List Value} (k : Nat), LRel μ n l l' → LRel μ n (l.take k) (l'.take k)
  | _, _, _, .nil => by simp; exact .nil
  | _, _, k, .cons h t => by
    cases k with
    | zero => simp; exact .nil
    | succ k => simp; exact .cons h (take k t)
theorem drop : ∀ {l l' : List Value} (k : Nat), LRel μ n l l' → LRel μ n (l.drop k) (l'.drop k)
  | _, _, _, .nil => by simp; exact .nil
  | _, _, k, .cons h t => by
    cases k with
    | zero => simp; exact .cons h t
    | succ k => simp; exact drop k t
theorem set : ∀ {l l' : List Value} (i : Nat) {v v' : Value}, LRel μ n l l' → VRel μ n v v' → LRel μ n (l.set i v) (l'.set i v')
  | _, _, _, _, _, .nil, _ => by simp; exact .nil
  | _, _, i, _, _, .cons h t, hv => by
    cases i with
    | zero => simp; exact .cons hv t
    | succ i => simp; exact .cons h (set i t hv)
end LRel
noncomputable def flat1 : Value → Bool
  | .bool _ | .int _ _ | .float _ _ | .complex _ _ _ | .string _ | .pointer none | .slice none 0 0 | .map none | .nilFunc | .nilIface => true
  | _ => false
noncomputable def flat : Value → Bool
  | .agg cs => cs.toList.all flat1
  | .tuple cs => cs.toList.all flat1
  | v => flat1 v
theorem VRel.flat1_eq {μ : Emb} {n : Nat} {v v' : Value} (h : VRel μ n v v') (hf : flat1 v = true) : v' = v := by
  cases h <;> first | rfl | simp [flat1] at hf
theorem LRel.flat1_eq {μ : Emb} {n : Nat} : ∀ {l l' : List Value}, LRel μ n l l' → l.all flat1 = true → l' = l
  | _, _, .nil, _ => rfl
  | _, _, .cons h t, hf => by
    simp only [List.all_cons, Bool.and_eq_true] at hf
    rw [h.flat1_eq hf.1, LRel.flat1_eq t hf.2]
theorem VRel.flat_eq {μ : Emb} {n : Nat} {v v' : Value} (h : VRel μ n v v') (hf : flat v = true) : v' = v := by
  cases h with
  | agg h => exact congrArg Value.agg (Array.toList_inj.1 (h.flat1_eq (by simpa [flat] using hf)))
  | tuple h => exact congrArg Value.tuple (Array.toList_inj.1 (h.flat1_eq (by simpa [flat] using hf)))
  | _ => first | rfl | simp [flat, flat1] at hf
theorem VRel.of_flat1 (μ : Emb) (n : Nat) {v : Value} (hf : flat1 v = true) : VRel μ n v v := by
  unfold flat1 at hf
  split at hf <;> first | constructor | simp at hf
theorem LRel.of_flat1 (μ : Emb) (n : Nat) : ∀ {l : List Value}, l.all flat1 = true → LRel μ n l l
  | [], _ => .nil
  | v :: l, hf => by
    simp only [List.all_cons, Bool.and_eq_true] at hf
    exact .cons (.of_flat1 μ n hf.1) (LRel.of_flat1 μ n hf.2)
theorem VRel.of_flat (μ : Emb) (n : Nat) {v : Value} (hf : flat v = true) : VRel μ n v v := by
  unfold flat at hf
  split at hf
  · exact .agg (.of_flat1 μ n hf)
  · exact .tuple (.of_flat1 μ n hf)
  · exact .of_flat1 μ n hf
end Go.Ab
