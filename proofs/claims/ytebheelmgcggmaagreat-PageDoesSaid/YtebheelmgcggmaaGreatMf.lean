/-
  Merged: PgI, PgJ, PgK, PgL, PgR.
-/
import Derived.Test.YtebheelmgcggmaaGreatMe
import Derived.Test.YtebheelmgcggmaaGreatMb
import Derived.Test.YtebheelmgcggmaaGreatMa
set_option linter.unusedSimpArgs false
set_option linter.unusedVariables false
set_option maxRecDepth 10000
set_option maxHeartbeats 8000000
namespace Go.Proofs.YtebheelmgcggmaaGreat
open Go.Ab Go.Sort
theorem Ext.rename {μ μ' : Emb} {h h' H : AHeap} {w w' : World} (x : Ext μ h w μ' h' w') (ρ : Nat → Nat) (hn : h.next ≤ H.next) (hρ : ∀ r, r < h.next → ρ r = r)
    (hget : ∀ r o, H.get r = some o → r < H.next ∧ ∃ o', h'.get (ρ r) = some o' ∧ o'.own = o.own ∧ ∀ e c, ORel μ' h'.next e c o' → ORel (fun r => μ' (ρ r)) H.next e c o)
    (hinj : ∀ r q o p, H.get r = some o → H.get q = some p → ρ r = ρ q → r = q) : Ext μ h w (fun r => μ' (ρ r)) H w' := by
  refine ⟨hn, fun r hr => ?_, x.size, x.os, x.output, fun b hb hf => ⟨(x.frame b hb hf).1, fun r o e hr ho hm => ?_⟩, fun b hb hf r o e hr hm => ?_, ⟨fun r o hr => ?_, fun r q o p e f hr ho hq hm hm' hbb => ?_⟩⟩
  · show μ' (ρ r) = μ r
    rw [hρ r hr]; exact x.agree r hr
  · obtain ⟨_, o', h1, h2, _⟩ := hget r o hr
    exact (x.frame b hb hf).2 (ρ r) o' e h1 (by rw [h2]; exact ho) hm
  · obtain ⟨_, o', h1, h2, _⟩ := hget r o hr
    exact x.free b hb hf (ρ r) o' e h1 hm
  · obtain ⟨h0, o', h1, h2, h3⟩ := hget r o hr
    obtain ⟨_, e, c, g1, g2, g3⟩ := x.st.live (ρ r) o' h1
    exact ⟨h0, e, c, g1, g2, h3 e c g3⟩
  · obtain ⟨_, o', h1, h2, _⟩ := hget r o hr
    obtain ⟨_, p', h1', h2', _⟩ := hget q p hq
    exact hinj r q o p hr hq (x.st.apart (ρ r) (ρ q) o' p' e f h1 (by rw [h2]; exact ho) h1' hm hm' hbb)
inductive FS (h : AHeap) (lo : Nat) (l : List Rec) : Bool → Value → Option Nat → Prop
  | nil (e : l = []) : FS h lo l true (.slice none 0 0) none
  | some {r n c : Nat} {rest : List Value} (hn : n = l.length) (h1 : lo ≤ r) (h2 : r < h.next) (h3 : h.get r = Option.some (.cells (fl l ++ rest) 4)) (h4 : c = 0 ∨ (n = 0 ∧ c = 1)) : FS h lo l false (.slice (Option.some ⟨r, 0, none⟩) n c) (Option.some r)
def cval (nil : Bool) (r : Nat) (l : List Rec) : Value := bif nil then .slice none 0 0 else .slice (some ⟨r, 0, none⟩) l.length 0
def cadd (nil : Bool) (h : AHeap) (l : List Rec) : AHeap := bif nil then ⟨h.next + 1, h.rows⟩ else h.new (.cells (fl l) 4)
theorem cadd_next (nil : Bool) (h : AHeap) (l : List Rec) : (cadd nil h l).next = h.next + 1 := by cases nil <;> rfl
theorem cadd_get (nil : Bool) (h : AHeap) (l : List Rec) (z : Nat) (hz : ¬ z = h.next) : (cadd nil h l).get z = h.get z := by
  cases nil
  · exact zN (fun e => hz e.symm)
  · rfl
def hand (h : AHeap) (p : Lf) (nb nd : Bool) : AHeap := cadd nd (cadd nb h p.base) p.deltas
theorem hand_next (h : AHeap) (p : Lf) (nb nd : Bool) : (hand h p nb nd).next = h.next + 2 := by simp only [hand, cadd_next]
theorem hand_old (h : AHeap) (p : Lf) (nb nd : Bool) (z : Nat) (hz : z < h.next) : (hand h p nb nd).get z = h.get z := by
  rw [hand, cadd_get _ _ _ _ (by rw [cadd_next]; omega), cadd_get _ _ _ _ xA]
theorem cval_rs {nil : Bool} {h : AHeap} {r : Nat} {l : List Rec} (hn : nil = true → l = []) (hr : r < h.next) (hg : nil = false → h.get r = some (.cells (fl l) 4)) : RS h l (cval nil r l) := by
  cases nil
  · exact ⟨_, _, rfl, .inr ⟨_, _, rfl, fun _ => ⟨hr, _, by simp only [rowOf, hg rfl], cellsOf_all (fl_length l)⟩⟩⟩
  · rw [hn rfl]; exact ⟨_, _, rfl, .inl ⟨rfl, rfl, rfl⟩⟩
theorem hand_rs {h : AHeap} {p : Lf} {nb nd : Bool} (h1 : nb = true → p.base = []) (h2 : nd = true → p.deltas = []) :
    RS (hand h p nb nd) p.base (cval nb h.next p.base) ∧ RS (hand h p nb nd) p.deltas (cval nd (h.next + 1) p.deltas) := by
  refine ⟨cval_rs h1 xe fun e => ?_, cval_rs h2 xe fun e => ?_⟩
  · subst e
    rw [hand, cadd_get _ _ _ _ (by rw [cadd_next]; omega)]
    exact zQ
  · subst e
    rw [hand, ← cadd_next nb h p.base]
    exact zQ
theorem bo_fl {n : Nat} (l : List Rec) (rest : List Value) {μ μ' : Emb} {m : Nat} {e : Ent} {c : Obj} (h : ORel μ m e c (.cells (fl l ++ rest) 4)) : ORel μ' n e c (.cells (fl l) 4) := by
  obtain ⟨h1, cs, t, fz, k1, k2, k3, k4, k5⟩ := h
  refine ⟨h1, cs, t, fz, k1, by simp at k2; omega, k3, k4, fun i v hv => ?_⟩
  obtain ⟨v', g1, g2⟩ := k5 i v (by rw [List.getElem?_append_left (List.getElem?_eq_some_iff.1 hv).1]; exact hv)
  refine ⟨v', g1, ?_⟩
  have hf : Ab.flat v = true := by
    have hm := List.mem_of_getElem? hv
    simp only [fl, List.mem_flatten, List.mem_map] at hm
    obtain ⟨_, ⟨x, _, rfl⟩, hm⟩ := hm
    simp only [Rec.cs, List.mem_cons, List.not_mem_nil, or_false] at hm
    rcases hm with rfl | rfl | rfl | rfl <;> rfl
  rw [g2.flat_eq hf]; exact .of_flat _ _ hf
theorem vr_cval {h' : AHeap} {lo : Nat} {l : List Rec} {nil : Bool} {v : Value} {x : Option Nat} (s : FS h' lo l nil v x) {μ' : Emb} {m n : Nat} {ρ : Nat → Nat} {a : Nat} (ha : a < n) (hρ : ∀ r, x = some r → ρ a = r) {w : Value} (hv : VRel μ' m v w) : VRel (fun r => μ' (ρ r)) n (cval nil a l) w := by
  cases s with
  | nil e => cases hv; exact .slice0
  | @some r k c rest hn h1 h2 h3 h4 =>
    subst hn
    have e := hρ r rfl
    rcases h4 with rfl | ⟨h4, rfl⟩
    · show VRel _ n (.slice (some ⟨a, 0, none⟩) l.length 0) w
      generalize l.length = k at hv ⊢
      cases hv with
      | sliceU h1 h2 h3 h4 => exact .sliceU (μ := fun r => μ' (ρ r)) ha xj h3 h4
      | sliceZ h1 h2 => exact .sliceZ (μ := fun r => μ' (ρ r)) ha xj
    · show VRel _ n (.slice (some ⟨a, 0, none⟩) l.length 0) w
      rw [h4] at hv ⊢
      cases hv with
      | sliceK h1 h2 => exact .sliceU (μ := fun r => μ' (ρ r)) ha xj (Nat.le_refl _) xA
      | sliceKZ h1 h2 => exact .sliceZ (μ := fun r => μ' (ρ r)) ha xj
theorem gcL {f : FuncId} {args : List Value} {h : AHeap} {p' : Lf} {nb nd : Bool} {K0 : Value → AHeap → Prop} (hf : FWp Tryz.prog f args h K0)
    (hk : ∀ u h', K0 u h' → ∃ bv dv x y, u = LV p' bv dv ∧ FS h' h.next p'.base nb bv x ∧ FS h' h.next p'.deltas nd dv y ∧ (∀ r, x = some r → y ≠ some r) ∧ ∀ z, z < h.next → h'.get z = h.get z) :
    FWp Tryz.prog f args h fun u g => u = LV p' (cval nb h.next p'.base) (cval nd (h.next + 1) p'.deltas) ∧ g = hand h p' nb nd := by
  intro μ args' w hl st
  refine (hf μ args' w hl st).mono ?_
  rintro e w' ⟨u, v', h', μ', rfl, hK, ex, hr⟩
  obtain ⟨bv, dv, x, y, rfl, s1, s2, hxy, hold⟩ := hk u h' hK
  obtain ⟨ρ, hρ⟩ : ∃ ρ : Nat → Nat, ρ = fun r => if r = h.next then x.getD h'.next else if r = h.next + 1 then y.getD (h'.next + 1) else r := ⟨_, rfl⟩
  have r0 : ∀ r, r < h.next → ρ r = r := fun r hr => by rw [hρ]; simp only; rw [if_neg xA, if_neg xA]
  have r1 : ∀ r, x = some r → ρ h.next = r := fun r e => by rw [hρ, e]; simp
  have r2 : ∀ r, y = some r → ρ (h.next + 1) = r := fun r e => by rw [hρ, e]; simp
  have ag : Agree h.next μ' (fun r => μ' (ρ r)) := fun r hr => by show μ' (ρ r) = μ' r; rw [r0 r hr]
  have g0 : ∀ r o, (hand h p' nb nd).get r = some o → (r < h.next ∧ h.get r = some o) ∨ (r = h.next ∧ nb = false ∧ o = .cells (fl p'.base) 4) ∨ (r = h.next + 1 ∧ nd = false ∧ o = .cells (fl p'.deltas) 4) := fun r o ho => by
    have live := fun r o (hg : h.get r = some o) => (st.live r o hg).1
    have hb : ∀ r o, (cadd nb h p'.base).get r = some o → (r < h.next ∧ h.get r = some o) ∨ (r = h.next ∧ nb = false ∧ o = .cells (fl p'.base) 4) := fun r o ho => by
      cases nb with
      | true => exact .inl ⟨live r o ho, ho⟩
      | false =>
        have ho : (h.new (.cells (fl p'.base) 4)).get r = some o := ho
        rw [AHeap.get_new] at ho
        split at ho
        · cases ho; exact .inr ⟨by omega, rfl, rfl⟩
        · exact .inl ⟨live r o ho, ho⟩
    cases nd with
    | true => exact (hb r o ho).imp id .inl
    | false =>
      have ho : ((cadd nb h p'.base).new (.cells (fl p'.deltas) 4)).get r = some o := ho
      rw [AHeap.get_new, cadd_next] at ho
      split at ho
      · cases ho; exact .inr (.inr ⟨by omega, rfl, rfl⟩)
      · exact (hb r o ho).imp id .inl
  have xs : nb = false → ∃ r rest, x = some r ∧ h.next ≤ r ∧ h'.get r = some (.cells (fl p'.base ++ rest) 4) := fun e => by
    subst e; cases s1 with | some hn k1 k2 k3 k4 => exact ⟨_, _, rfl, k1, k3⟩
  have ys : nd = false → ∃ r rest, y = some r ∧ h.next ≤ r ∧ h'.get r = some (.cells (fl p'.deltas ++ rest) 4) := fun e => by
    subst e; cases s2 with | some hn k1 k2 k3 k4 => exact ⟨_, _, rfl, k1, k3⟩
  refine ⟨_, v', hand h p' nb nd, fun r => μ' (ρ r), rfl, ⟨rfl, rfl⟩, Ext.rename ex ρ xe r0 (fun r o ho => ?_) (fun r q o p hr hq hh => ?_), ?_⟩
  · rcases g0 r o ho with ⟨k1, k2⟩ | ⟨rfl, k1, rfl⟩ | ⟨rfl, k1, rfl⟩
    · obtain ⟨_, e0, c0, i1, i2, i3⟩ := st.live r o k2
      exact ⟨by rw [hand_next]; omega, o, by rw [r0 r k1, hold r k1]; exact k2, rfl, fun e c g => (g.narrow i3.below).mono ag xe⟩
    · obtain ⟨q, rest, i1, i2, i3⟩ := xs k1
      exact ⟨by rw [hand_next]; omega, .cells (fl p'.base ++ rest) 4, by rw [r1 q i1]; exact i3, rfl, fun e c g => bo_fl _ _ g⟩
    · obtain ⟨q, rest, i1, i2, i3⟩ := ys k1
      exact ⟨by rw [hand_next]; omega, .cells (fl p'.deltas ++ rest) 4, by rw [r2 q i1]; exact i3, rfl, fun e c g => bo_fl _ _ g⟩
  · rcases g0 r o hr with ⟨k1, k2⟩ | ⟨rfl, k1, rfl⟩ | ⟨rfl, k1, rfl⟩ <;> rcases g0 q p hq with ⟨l1, l2⟩ | ⟨rfl, l1, rfl⟩ | ⟨rfl, l1, rfl⟩
    · rw [r0 r k1, r0 q l1] at hh; exact hh
    · obtain ⟨z, rest, i1, i2, i3⟩ := xs l1
      rw [r0 r k1, r1 z i1] at hh; omega
    · obtain ⟨z, rest, i1, i2, i3⟩ := ys l1
      rw [r0 r k1, r2 z i1] at hh; omega
    · obtain ⟨z, rest, i1, i2, i3⟩ := xs k1
      rw [r0 q l1, r1 z i1] at hh; omega
    · rfl
    · obtain ⟨z, rest, i1, i2, i3⟩ := xs k1
      obtain ⟨z', rest', i1', i2', i3'⟩ := ys l1
      rw [r1 z i1, r2 z' i1'] at hh
      exact (hxy z i1 (by rw [i1', hh])).elim
    · obtain ⟨z, rest, i1, i2, i3⟩ := ys k1
      rw [r0 q l1, r2 z i1] at hh; omega
    · obtain ⟨z, rest, i1, i2, i3⟩ := xs l1
      obtain ⟨z', rest', i1', i2', i3'⟩ := ys k1
      rw [r1 z i1, r2 z' i1'] at hh
      exact (hxy z i1 (by rw [i1', hh])).elim
    · rfl
  · cases hr with
    | @agg _ a' hr =>
      obtain ⟨l, hl⟩ : ∃ l, a'.toList = l := ⟨_, rfl⟩
      rw [hl] at hr
      refine .agg ?_
      rw [hl]
      cases hr with | cons a1 hr =>
      cases hr with | cons a2 hr =>
      cases hr with | cons a3 hr =>
      cases hr with | cons a4 hr =>
      cases hr with | cons a5 hr =>
      cases hr
      cases a1; cases a2; cases a3
      exact .cons (.string _) (.cons (.string _) (.cons (.int _ _) (.cons (vr_cval s1 xe r1 a4) (.cons (vr_cval s2 xe r2 a5) .nil))))
theorem OS.fs {h : AHeap} {lo : Nat} {l : List Rec} {v : Value} (s : OS h lo l v) : ∃ x, FS h lo l (nilV v) v x ∧ ∀ r, x = Option.some r → ∃ n c, v = .slice (Option.some ⟨r, 0, none⟩) n c := by
  cases s with
  | nil e => exact ⟨none, .nil e, fun r h => by cases h⟩
  | @emp r e h1 h2 h3 => subst e; exact ⟨Option.some r, .some (rest := []) rfl h1 h2 h3 (.inr ⟨rfl, rfl⟩), fun q h => by cases h; exact ⟨_, _, rfl⟩⟩
  | @some r n e hn h1 h2 h3 => exact ⟨Option.some r, .some (rest := []) hn h1 h2 (by rw [List.append_nil]; exact h3) (.inl rfl), fun q h => by cases h; exact ⟨_, _, rfl⟩⟩
end Go.Proofs.YtebheelmgcggmaaGreat
namespace Go.Proofs.YtebheelmgcggmaaGreat
open Go.Ab Go.Sort
structure SM (o : AObj) (F : List UInt8 → Option Value) : Prop where
  ex : ∃ B clk, o = .map (mkK encS B) clk ∧ (∀ x ∈ B, x.2.2 < clk) ∧ (B.map (·.2.2)).Nodup ∧ (B.map (·.1)).Nodup ∧ ∀ k, F k = (idxK k B 0).map (·.2)
def updF (F : List UInt8 → Option Value) (k : List UInt8) (v : Value) : List UInt8 → Option Value := fun k' => if k' = k then some v else F k'
theorem SM.empty : SM (.map [] 0) fun _ => none := ⟨[], 0, rfl, by simp, by simp, by simp, fun k => rfl⟩
theorem SM.get_some {o : AObj} {F : List UInt8 → Option Value} (s : SM o F) {k : List UInt8} {v : Value} (hf : F k = some v) {G : AHeap} {m : Nat} (hg : G.get m = some o) {t kt et : TypeId} {ti ki : TI} (ht : T.get t = some ti) (hu : ti.und = .map kt et) (hk : T.get kt = some ki) (hku : ki.und = .string) :
    aLookup Tryz.prog T t (.map (some m)) (encS k) false G = some v := by
  obtain ⟨B, clk, rfl, h1, h2, h3, h4⟩ := s.ex
  rw [h4 k] at hf
  cases hi : idxK k B 0 with
  | none => rw [hi] at hf; cases hf
  | some jv =>
    obtain ⟨j, w⟩ := jv
    rw [hi] at hf; cases hf
    exact kl_some (key_str tyOK hk hku) ht hu hg hi
theorem SM.get_none {o : AObj} {F : List UInt8 → Option Value} (s : SM o F) {k : List UInt8} (hf : F k = none) {G : AHeap} {m : Nat} (hg : G.get m = some o) {t kt et : TypeId} {ti ki ei : TI} {z : Value} (ht : T.get t = some ti) (hu : ti.und = .map kt et) (hk : T.get kt = some ki) (hku : ki.und = .string) (he : T.get et = some ei) (hz : ei.zero = some z) (hfl : flat z = true) :
    aLookup Tryz.prog T t (.map (some m)) (encS k) false G = some z := by
  obtain ⟨B, clk, rfl, h1, h2, h3, h4⟩ := s.ex
  rw [h4 k] at hf
  cases hi : idxK k B 0 with
  | none => exact kl_none (key_str tyOK hk hku) ht hu he hz hfl hg hi
  | some jv => rw [hi] at hf; cases hf
theorem idx_iff {B : List (List UInt8 × Value × Nat)} {k : List UInt8} {i : Nat} : (∃ j v, idxK k B i = some (j, v)) ↔ k ∈ B.map (·.1) := by
  constructor
  · rintro ⟨j, v, h⟩
    obtain ⟨m, b, _, hm⟩ := idxK_some h
    exact List.mem_map.2 ⟨_, List.mem_of_getElem? hm, rfl⟩
  · intro h
    cases hi : idxK k B i with
    | none =>
      obtain ⟨x, hx, rfl⟩ := List.mem_map.1 h
      exact (idxK_none' hi x hx rfl).elim
    | some jv => exact ⟨jv.1, jv.2, rfl⟩
theorem idx_app {B : List (List UInt8 × Value × Nat)} {k : List UInt8} {v : Value} {c : Nat} (hk : idxK k B 0 = none) (k' : List UInt8) : ∀ i, (idxK k' (B ++ [(k, v, c)]) i).map (·.2) = if k' = k then some v else (idxK k' B i).map (·.2) := by
  have hn := idxK_none' hk
  clear hk
  induction B with
  | nil => intro i; simp only [List.nil_append, idxK]; by_cases e : k' = k <;> simp [e]
  | cons x B ih =>
    intro i
    simp only [List.cons_append, idxK]
    by_cases e : k' = x.1
    · have : ¬ k' = k := fun e2 => hn x List.mem_cons_self (by rw [← e2, e])
      simp [e, this]
      exact fun e3 => (this (e.trans e3)).elim
    · simp only [decide_eq_false e, cond_false]
      exact ih (fun y hy => hn y (List.mem_cons_of_mem _ hy)) (i + 1)
theorem idx_set {B : List (List UInt8 × Value × Nat)} {k : List UInt8} {v : Value} : ∀ {j b : Nat} {u : Value} (k' : List UInt8) (i : Nat), (B.map (·.1)).Nodup → B[j]? = some (k, u, b) → (idxK k' (B.set j (k, v, b)) i).map (·.2) = if k' = k then some v else (idxK k' B i).map (·.2) := by
  induction B with
  | nil => intro j b u k' i _ h; simp at h
  | cons x B ih =>
    intro j b u k' i hn hj
    simp only [List.map_cons, List.nodup_cons] at hn
    cases j with
    | zero =>
      simp at hj; subst hj
      simp only [List.set_cons_zero, idxK]
      by_cases e : k' = k <;> simp [e]
    | succ j =>
      simp only [List.getElem?_cons_succ] at hj
      simp only [List.set_cons_succ, idxK]
      by_cases e : k' = x.1
      · have : ¬ k' = k := fun e2 => hn.1 (List.mem_map.2 ⟨_, List.mem_of_getElem? hj, by rw [← e, e2]⟩)
        simp [e, this]
        exact fun e3 => (this (e.trans e3)).elim
      · simp only [decide_eq_false e, cond_false]
        exact ih k' (i + 1) hn.2 hj
theorem set_same {α : Type} {l : List α} {j : Nat} {b : α} (h : l[j]? = some b) : l.set j b = l := by
  obtain ⟨hj, e⟩ := List.getElem?_eq_some_iff.1 h
  rw [← e, List.set_getElem_self]
theorem SM.put {o : AObj} {F : List UInt8 → Option Value} (s : SM o F) (k : List UInt8) (v : Value) : ∃ o', SM o' (updF F k v) ∧ ∀ {G : AHeap} {m : Nat}, G.get m = some o → ∀ {t kt et : TypeId} {ti ki : TI}, T.get t = some ti → ti.und = .map kt et → T.get kt = some ki → ki.und = .string →
    aMapUpdate Tryz.prog T t (.map (some m)) (encS k) v G = some (G.set m o') := by
  obtain ⟨B, clk, rfl, h1, h2, h3, h4⟩ := s.ex
  cases hi : idxK k B 0 with
  | none =>
    have hn := idxK_none' hi
    refine ⟨.map (mkK encS (B ++ [(k, v, clk)])) (clk + 1), ⟨_, _, rfl, fun x hx => ?_, ?_, ?_, fun k' => ?_⟩, fun {G m} hg {t kt et ti ki} ht hu hk hku => ku_new (key_str tyOK hk hku) ht hu hg hi⟩
    · rcases List.mem_append.1 hx with hx | hx
      · have := h1 x hx; omega
      · rw [List.mem_singleton.1 hx]; simp
    · rw [List.map_append]
      refine List.nodup_append.2 ⟨h2, by simp, fun a ha b hb => ?_⟩
      obtain ⟨x, hx, rfl⟩ := List.mem_map.1 ha
      simp at hb; subst hb
      have := h1 x hx; omega
    · rw [List.map_append]
      refine List.nodup_append.2 ⟨h3, by simp, fun a ha b hb => ?_⟩
      obtain ⟨x, hx, rfl⟩ := List.mem_map.1 ha
      simp at hb; subst hb
      exact fun e => hn x hx e.symm
    · rw [idx_app hi k' 0, updF, h4 k']
  | some jv =>
    obtain ⟨j, u⟩ := jv
    obtain ⟨q, b, hq, hj⟩ := idxK_some hi
    rw [Nat.zero_add] at hq
    subst hq
    refine ⟨.map (mkK encS (B.set j (k, v, b))) clk, ⟨_, _, rfl, fun x hx => ?_, ?_, ?_, fun k' => ?_⟩, fun {G m} hg {t kt et ti ki} ht hu hk hku => ku_old (key_str tyOK hk hku) ht hu hg hi hj⟩
    · rcases List.mem_or_eq_of_mem_set hx with hx | rfl
      · exact h1 x hx
      · have := h1 _ (List.mem_of_getElem? hj); exact this
    · rw [List.map_set]
      have : (B.map (·.2.2)).set j b = B.map (·.2.2) := by
        exact set_same (by simp [hj])
      rw [this]; exact h2
    · rw [List.map_set]
      have : (B.map (·.1)).set j k = B.map (·.1) := by
        exact set_same (by simp [hj])
      rw [this]; exact h3
    · rw [idx_set k' 0 h3 hj, updF, h4 k']
theorem SM.keys {o : AObj} {F : List UInt8 → Option Value} (s : SM o F) {ks : List (List UInt8)} (hs : ks.Pairwise fun a b => ltStr a b = true) (hm : ∀ k, k ∈ ks ↔ ∃ v, F k = some v) : ∃ B clk, o = .map (mkK encS B) clk ∧ (∀ x ∈ B, x.2.2 < clk) ∧ (∀ x ∈ B, ∀ y ∈ B, x.2.2 = y.2.2 → x = y) ∧ B.Nodup ∧ ks.Perm (B.map (·.1)) := by
  obtain ⟨B, clk, rfl, h1, h2, h3, h4⟩ := s.ex
  refine ⟨B, clk, rfl, h1, fun x hx y hy e => ?_, ?_, ?_⟩
  · obtain ⟨i, hi⟩ := List.getElem?_of_mem hx
    obtain ⟨j, hj⟩ := List.getElem?_of_mem hy
    have := (List.getElem?_inj (l := B.map (·.2.2)) (i := i) (j := j) (by simpa using (List.getElem?_eq_some_iff.1 hi).1) h2).1 (by simp [hi, hj, e])
    subst this
    rw [hi] at hj; cases hj; rfl
  · exact List.Pairwise.of_map (·.1) (fun a b h e => h (by rw [e])) h3
  · refine (List.perm_ext_iff_of_nodup (pw_nodup (fun x hx => by rw [swo_ltStr.irrefl] at hx; cases hx) hs) h3).2 fun k => ?_
    rw [hm k, h4 k, ← idx_iff (i := 0)]
    constructor
    · rintro ⟨v, hv⟩
      cases hi : idxK k B 0 with
      | none => rw [hi] at hv; cases hv
      | some jv => exact ⟨_, _, rfl⟩
    · rintro ⟨j, v, hi⟩; exact ⟨v, by rw [hi]; rfl⟩
def FR (R : List Rec) (k : List UInt8) : Option Value := (R.find? fun y => decide (y.key = k)).map Rec.V
theorem FR_snoc {R : List Rec} {r : Rec} (hn : ∀ y ∈ R, ¬ y.key = r.key) : FR (R ++ [r]) = updF (FR R) r.key r.V := by
  funext k
  simp only [FR, updF, List.find?_append]
  by_cases e : k = r.key
  · subst e
    have : R.find? (fun y => decide (y.key = r.key)) = none := List.find?_eq_none.2 fun y hy => by simpa using hn y hy
    rw [this]; simp
  · rw [if_neg e]
    cases R.find? fun y => decide (y.key = k) with
    | some a => rfl
    | none =>
      have : ¬ r.key = k := fun h => e h.symm
      simp [this]
theorem into_put {x : Rec} : ∀ {R : List Rec}, (R.Pairwise fun a b => ltK a b = true) → (∀ a, R.find? (fun y => decide (y.key = x.key)) = some a → a.lsn < x.lsn) → FR (into x R) = updF (FR R) x.key x.V
  | [], _, _ => FR_snoc (R := []) xI
  | a :: R, h, hl => by
    obtain ⟨h1, h2⟩ := List.pairwise_cons.1 h
    have hgt : ∀ y ∈ R, ltStr a.key y.key = true := h1
    funext k
    simp only [into]
    split
    · rename_i hc
      have hne : ¬ a.key = x.key := fun e => by rw [e, swo_ltStr.irrefl] at hc; cases hc
      have ih := congrFun (into_put h2 fun b hb => hl b (by rw [List.find?_cons]; simp [hne]; simpa using hb)) k
      simp only [FR, updF, List.find?_cons] at ih ⊢
      by_cases e : a.key = k
      · have : ¬ k = x.key := fun e2 => hne (e.trans e2)
        simp [e, this]
      · simp only [decide_eq_false e]; exact ih
    · rename_i hc
      split
      · rename_i hk
        have hlt := hl a (by rw [List.find?_cons]; simp [hk])
        rw [if_pos hlt]
        simp only [FR, updF, List.find?_cons]
        by_cases e : k = x.key
        · simp [e]
        · have e2 : ¬ x.key = k := fun h => e h.symm
          have e3 : ¬ a.key = k := fun h => e (h.symm.trans hk)
          simp [e, e2, e3]
      · simp only [FR, updF]
        rw [List.find?_cons (a := x)]
        by_cases e : k = x.key
        · simp [e]
        · have e2 : ¬ x.key = k := fun h => e h.symm
          simp [e, e2]
theorem into_same {x a : Rec} : ∀ {R : List Rec}, (R.Pairwise fun a b => ltK a b = true) → R.find? (fun y => decide (y.key = x.key)) = some a → x.lsn ≤ a.lsn → into x R = R
  | b :: R, h, hf, hl => by
    obtain ⟨h1, h2⟩ := List.pairwise_cons.1 h
    rw [List.find?_cons] at hf
    simp only [into]
    by_cases e : b.key = x.key
    · simp only [decide_eq_true e] at hf
      cases hf
      rw [if_neg (by rw [e, swo_ltStr.irrefl]; simp), if_pos e, if_neg xA]
    · simp only [decide_eq_false e] at hf
      have hm := List.mem_of_find?_eq_some hf
      have hk : a.key = x.key := by simpa using List.find?_some hf
      have := h1 a hm
      rw [ltK, hk] at this
      rw [if_pos this, into_same h2 hf hl]
theorem fold1_c (h : AHeap) (q1 q2 m : Nat) (e : Int) (x : Rec) (o : AObj) (R : List Rec) (hq1 : h.get q1 = some (.cells [U64 e] 1)) (hq2 : h.get q2 = some (.cells [.map (some m)] 1)) (l1 : q1 < h.next) (l2 : q2 < h.next) (l3 : m < h.next) (hm : h.get m = some o) (s : SM o (FR R)) (hR : R.Pairwise fun a b => ltK a b = true) (hx : 1 ≤ x.lsn) :
    FWp Tryz.prog 54 [x.V, P0 q1, P0 q2] h fun u g => u = .bool (decide (x.lsn ≤ e)) ∧ (∃ o', SM o' (FR (if x.lsn ≤ e then into x R else R)) ∧ g.get m = some o') ∧ h.next ≤ g.next ∧ ∀ z, z < h.next → ¬ z = m → g.get z = h.get z := by
  have tb54 := And.intro ty22 (And.intro ty27 (And.intro ty68 (ty9)))
  refine W.enter tyOK Tryz.func54 rfl rfl ?_
  simp only [entry]
  by_cases c1 : x.lsn > e
  · refine Wr <| ja Zx <| jF za rfl <| On ?_
    have jY := An @hq1 <| An @hq2 <| An ty22 <| tb54
    refine W.seq <| Wr <| ja J27f1 <| ja Jl <| ja Jl <| je Jv <| On ?_
    refine Wy <| Wr <| jF za rfl <| On ?_
    refine CWp.ret <| SQ.ret <| Jr ?_
    refine ⟨by rw [decide_eq_false xA], ⟨o, by rw [if_neg xA]; exact s, by simp (disch := first | omega | simp only [nx]; omega) only [hpl]; exact hm⟩, by simp, fun z hz _ => by simp (disch := first | omega | simp only [nx]; omega) only [hpl]⟩
  have c2 : x.lsn ≤ e := by omega
  cases hf : R.find? fun y => decide (y.key = x.key) with
  | none =>
    have hF : FR R x.key = none := by rw [FR, hf]; rfl
    obtain ⟨o', s', hp⟩ := s.put x.key x.V
    rw [← into_put hR (fun a ha => by rw [hf] at ha; cases ha)] at s'
    have hz : (0 : Int) < x.lsn := by omega
    refine Wr <| ja Zx <| jF za rfl <| On ?_
    have jY := An @hq1 <| An @hq2 <| An ty22 <| An tb54 <| An ty68 <| An ty9 <| ty27
    refine W.seq <| Wr <| ja J27f1 <| ja Jl <| ja Jl <| jf Jv <| On ?_
    refine Wn <| CWp.skip <| SQ.normal ?_
    refine W.seq <| Wr <| ja J27f1 <| ja Jl <| ja Jl <| ja J27f0 <| ja Jl <| ja (so_lookup xB xB (s.get_none hF xc ty68 rfl ty9 rfl ty27 rfl rfl)) <| ja (so_field xB (by simp (disch := first | omega | simp only [nx]; omega) only [aField, aPart, ty27, ty22, hpl, hq1, hq2, Value.cells, places, tb54] <;> rfl)) <| je Jv <| On ?_
    refine Wy <| W.reg <| ja Jl <| ja J27f0 <| ja Jl <| ja Jl <| Oa rfl (so_mapUpdate xB xB xB (hp xc ty68 rfl ty9 rfl)) rfl <| On ?_
    refine Wr <| jE za rfl <| On ?_
    refine CWp.ret <| Jr ?_
    refine ⟨by rw [decide_eq_true c2], ⟨o', by rw [if_pos c2]; exact s', zP⟩, by simp, fun z hz hm => by have hm' : ¬ m = z := fun e => hm e.symm; simp (disch := first | omega | simp only [nx]; omega) only [hpl]⟩
  | some a =>
    have hF : FR R x.key = some a.V := by rw [FR, hf]; rfl
    by_cases c3 : x.lsn > a.lsn
    · obtain ⟨o', s', hp⟩ := s.put x.key x.V
      rw [← into_put hR (fun b hb => by rw [hf] at hb; cases hb; omega)] at s'
      refine Wr <| ja Zx <| jF za rfl <| On ?_
      have jY := An @hq1 <| An @hq2 <| An @Rec.csE <| An ty22 <| An tb54 <| An ty68 <| An ty9 <| ty27
      refine W.seq <| Wr <| ja J27f1 <| ja Jl <| ja Jl <| jf Jv <| On ?_
      refine Wn <| CWp.skip <| SQ.normal ?_
      refine W.seq <| Wr <| ja J27f1 <| ja Jl <| ja Jl <| ja J27f0 <| ja Jl <| ja (so_lookup xB xB (s.get_some hF xQ ty68 rfl ty9 rfl)) <| ja (so_field xB xa) <| je Jv <| On ?_
      refine Wy <| W.reg <| ja Jl <| ja J27f0 <| ja Jl <| ja Jl <| Oa rfl (so_mapUpdate xB xB xB (hp xQ ty68 rfl ty9 rfl)) rfl <| On ?_
      refine Wr <| jE za rfl <| On ?_
      refine CWp.ret <| Jr ?_
      refine ⟨by rw [decide_eq_true c2], ⟨o', by rw [if_pos c2]; exact s', zP⟩, by simp, fun z hz hm => by have hm' : ¬ m = z := fun e => hm e.symm; simp (disch := first | omega | simp only [nx]; omega) only [hpl]⟩
    · refine Wr <| ja Zx <| jF za rfl <| On ?_
      have jY := An @hq1 <| An @hq2 <| An @Rec.csE <| An ty22 <| An tb54 <| An ty68 <| ty9
      refine W.seq <| Wr <| ja J27f1 <| ja Jl <| ja Jl <| jf Jv <| On ?_
      refine Wn <| CWp.skip <| SQ.normal ?_
      refine W.seq <| Wr <| ja J27f1 <| ja Jl <| ja Jl <| ja J27f0 <| ja Jl <| ja (so_lookup xB xB (s.get_some hF xQ ty68 rfl ty9 rfl)) <| ja (so_field xB xa) <| jf Jv <| On ?_
      refine Wn <| CWp.skip <| SQ.normal ?_
      refine Wr <| jE za rfl <| On ?_
      refine CWp.ret <| Jr ?_
      refine ⟨by rw [decide_eq_true c2], ⟨o, by rw [if_pos c2, into_same hR hf xA]; exact s, by simp (disch := first | omega | simp only [nx]; omega) only [hpl]; exact hm⟩, by simp, fun z hz _ => by simp (disch := first | omega | simp only [nx]; omega) only [hpl]⟩
end Go.Proofs.YtebheelmgcggmaaGreat
namespace Go.Proofs.YtebheelmgcggmaaGreat
open Go.Ab Go.Sort
theorem Rw.change {h g g' : AHeap} {os : List AObj} (r : Rw h g os) (i : Nat) (o : AObj) (hi : i < os.length) (hn : g.next ≤ g'.next) (hk : ∀ z, z < g.next → ¬ z = h.next + i → g'.get z = g.get z) (ho : g'.get (h.next + i) = some o) : Rw h g' (os.set i o) := by
  have := r.next
  refine ⟨by simp; omega, fun j x hx => ?_, fun z hz => by rw [hk z xA xA]; exact r.old z hz⟩
  by_cases e : j = i
  · subst e
    rw [List.getElem?_set_self hi] at hx
    cases hx; exact ho
  · rw [List.getElem?_set_ne xA] at hx
    have := (List.getElem?_eq_some_iff.1 hx).1
    rw [hk _ xA xA]; exact r.at_ j x hx
theorem del_os (h : AHeap) (lo : Nat) (l : List Rec) (v fv : Value) (P : Rec → Bool) (J : List Rec → AHeap → Prop) (s : OS h lo l v) (hl : l.length ≤ 1000000) (j0 : J [] h)
    (jset : ∀ r n c, v = .slice (some ⟨r, 0, none⟩) n c → ∀ pre g o, J pre g → J pre (g.set r o)) (jnew : ∀ pre g o, J pre g → J pre (g.new o)) (jn : ∀ pre g, J pre g → h.next ≤ g.next)
    (ask : ∀ pre x post, pre ++ x :: post = l → ∀ g, J pre g → VWp Tryz.prog fv [x.V] g fun u g' => u = .bool (P x) ∧ J (pre ++ [x]) g' ∧ ∀ z, lo ≤ z → z < g.next → g'.get z = g.get z) :
    FWp Tryz.prog 53 [v, fv] h fun u g => J l g ∧ ∃ x, FS g lo (l.filter fun x => !P x) (nilV v) u x ∧ ∀ r, x = some r → ∃ n c, v = .slice (some ⟨r, 0, none⟩) n c := by
  by_cases hne : l = []
  · subst hne
    obtain ⟨x, hx, hx2⟩ := s.fs
    have hix := ixf_c h [] v fv P (fun pre g => pre = [] ∧ g = h) ⟨rfl, rfl⟩ (fun pre g hg => by rw [hg.2]; exact s.rs) hl (fun pre x post hp => by simp at hp)
    refine W.enter tyOK Tryz.func53 rfl rfl ?_
    simp only [entry]
    refine Wr <| ja za <| On ?_
    refine Wr <| ja sm <| ja sm <| jm (Jc en90 (hix)) ?_
    rintro u g hu
    obtain ⟨rfl, rfl⟩ : u = I64 (-1) ∧ g = h := by (rcases hu with ⟨a, b, _⟩ | ⟨pre, x, post, e, _⟩; exact ⟨a, b.2⟩; simp at e)
    refine ⟨_, rfl, ?_⟩
    refine ja za <| On ?_
    refine W.seq <| ?_
    skip
    refine Wr <| ja sm <| jx Jy <| On ?_
    refine Wy <| Wr <| ja sm <| ja za <| On ?_
    refine CWp.ret <| SQ.ret <| Jr ?_
    exact ⟨j0, x, hx, hx2⟩
  · cases s with
    | nil e => exact (hne e).elim
    | emp e _ _ _ => exact (hne e).elim
    | @some r n e hn h1 h2 h3 =>
      subst hn
      have hd := del_c h r l fv P (fun pre g => J pre g) hne hl h2 h3 j0 (jset r _ _ rfl) jnew jn (fun pre x post hp g hj => (ask pre x post hp g hj).mono fun u g' hu => ⟨hu.1, hu.2.1, hu.2.2 r h1 (by have := jn _ _ hj; omega), fun z hz1 hz2 => hu.2.2 z xA hz2⟩)
      refine hd.mono ?_
      rintro u g ⟨rfl, hj, rest, hr⟩
      have := jn _ _ hj
      exact ⟨hj, some r, .some rfl h1 xA hr (.inl rfl), fun q hq => by cases hq; exact ⟨_, _, rfl⟩⟩
theorem fits_of {p : Lf} (hc : chk p = true) : (∀ x ∈ p.all, fit p.low p.high x = true) ∧ (p.base.Pairwise fun a b => ltK a b = true) ∧ (p.deltas.Pairwise fun a b => ltL a b = true) ∧ p.base.length ≤ 64 ∧ p.deltas.length ≤ 64 := by
  simp only [chk, Bool.and_eq_true, decide_eq_true_eq, List.all_eq_true] at hc
  exact ⟨hc.2.1, risB_pw ltK_trans hc.2.2.1, risB_pw ltL_trans hc.2.2.2, hc.1.2.2.2.2.1, hc.1.2.2.2.2.2⟩
theorem fit_pos {lo hi : List UInt8} {x : Rec} (h : fit lo hi x = true) : 1 ≤ x.lsn := by
  simp only [fit, Bool.and_eq_true, decide_eq_true_eq] at h
  exact h.1.2.1
theorem FS.mono {h h' : AHeap} {lo lo' : Nat} {l : List Rec} {b : Bool} {v : Value} {x : Option Nat} (s : FS h lo l b v x) (hl : lo' ≤ lo) (hn : h.next ≤ h'.next) (hk : ∀ z, lo ≤ z → z < h.next → h'.get z = h.get z) : FS h' lo' l b v x := by
  cases s with
  | nil e => exact .nil e
  | some h1 h2 h3 h4 h5 => exact .some h1 xA xA (by rw [hk _ h2 h3]; exact h4) h5
theorem FS.keep {h h' : AHeap} {lo lo' : Nat} {l : List Rec} {b : Bool} {v : Value} {x : Option Nat} (s : FS h lo l b v x) (hl : lo' ≤ lo) (hn : h.next ≤ h'.next) (hk : ∀ r, x = Option.some r → r < h.next → h'.get r = h.get r) : FS h' lo' l b v x := by
  cases s with
  | nil e => exact .nil e
  | some h1 h2 h3 h4 h5 => exact .some h1 xA xA (by rw [hk _ rfl h3]; exact h4) h5
theorem FS.lo {h : AHeap} {lo : Nat} {l : List Rec} {b : Bool} {v : Value} {x : Option Nat} (s : FS h lo l b v x) {r : Nat} (hr : x = Option.some r) : lo ≤ r ∧ r < h.next := by
  cases s with
  | nil e => cases hr
  | some h1 h2 h3 h4 h5 => cases hr; exact ⟨h2, h3⟩
theorem FS.empty {h : AHeap} {lo : Nat} {l : List Rec} {b : Bool} {v : Value} {x : Option Nat} (s : FS h lo l b v x) : b = true → l = [] := by
  cases s with
  | nil e => exact fun _ => e
  | some => intro h; cases h
theorem FS.form {h : AHeap} {lo : Nat} {l : List Rec} {b : Bool} {v : Value} {x : Option Nat} (s : FS h lo l b v x) : ∃ b c, v = .slice b l.length c := by
  cases s with
  | nil e => subst e; exact ⟨_, _, rfl⟩
  | some h1 => subst h1; exact ⟨_, _, rfl⟩
theorem own_k (h : AHeap) (p : Lf) (bv dv : Value) (hb : RS h p.base bv) (hd : RS h p.deltas dv) (hlb : p.base.length ≤ 1000000) (hld : p.deltas.length ≤ 1000000) :
    ∃ b1 c1 b2 c2 H nb nd x y, FWp Tryz.prog 36 [LV p bv dv] h (fun u g => u = LV p (.slice b1 p.base.length c1) (.slice b2 p.deltas.length c2) ∧ g = H) ∧ FS H h.next p.base nb (.slice b1 p.base.length c1) x ∧ FS H h.next p.deltas nd (.slice b2 p.deltas.length c2) y ∧ (∀ r, x = some r → y ≠ some r) ∧ h.next ≤ H.next ∧ (∀ z, z < h.next → H.get z = h.get z) ∧ nb = nilV bv ∧ nd = nilV dv := by
  obtain ⟨bv', dv', H1, m, w, ob, od, hsep, hnil, hm1, hm2, hk⟩ := own_c h p _ _ hb hd hlb hld
  obtain ⟨x, fx, gx⟩ := ob.fs
  obtain ⟨y, fy, gy⟩ := od.fs
  have e1 := hnil.1
  have e2 := hnil.2
  obtain ⟨x1, y1, rfl⟩ := ob.form
  obtain ⟨x2, y2, rfl⟩ := od.form
  refine ⟨x1, y1, x2, y2, H1, _, _, x, y, w, fx, fy.mono hm1 (Nat.le_refl _) (fun _ _ _ => rfl), fun r hr hr2 => ?_, by omega, hk, e1, e2⟩
  obtain ⟨n, c, g1⟩ := gx r hr
  obtain ⟨n', c', g2⟩ := gy r hr2
  have := hsep r c n g1
  rw [g2] at od
  have := od.row
  omega
def intoAll (e : Int) (ds b : List Rec) : List Rec := (ds.filter fun r => decide (r.lsn ≤ e)).foldl (fun b r => into r b) b
theorem intoAll_snoc (e : Int) (ds b : List Rec) (x : Rec) : intoAll e (ds ++ [x]) b = if x.lsn ≤ e then into x (intoAll e ds b) else intoAll e ds b := by
  by_cases c : x.lsn ≤ e
  · simp [intoAll, List.filter_append, c]
  · simp [intoAll, List.filter_append, c]
abbrev zlf : List Value := [.string ⟨#[]⟩, .string ⟨#[]⟩, U64 0, .slice none 0 0, .slice none 0 0]
abbrev LR (p : Lf) (bv dv : Value) : AObj := .cells (lcs p bv dv) 1
structure FJ (h g : AHeap) (p : Lf) (bv dv : Value) (e : Int) (R : List Rec) : Prop where
  ex : ∃ o, Rw h g [LR p bv dv, .cells [U64 e] 1, .cells zlf 1, o, .cells [.map (some (h.next + 3))] 1] ∧ SM o (FR R)
theorem FJ.new {h g : AHeap} {p : Lf} {bv dv : Value} {e : Int} {R : List Rec} (f : FJ h g p bv dv e R) (o : AObj) : FJ h (g.new o) p bv dv e R := let ⟨o', r, s⟩ := f.ex; ⟨o', r.new o, s⟩
theorem FJ.far {h g : AHeap} {p : Lf} {bv dv : Value} {e : Int} {R : List Rec} (f : FJ h g p bv dv e R) {z : Nat} (hz : h.next + 5 ≤ z) (o : AObj) : FJ h (g.set z o) p bv dv e R := let ⟨o', r, s⟩ := f.ex; ⟨o', r.far hz o, s⟩
theorem FJ.keep {h g g' : AHeap} {p : Lf} {bv dv : Value} {e : Int} {R : List Rec} (f : FJ h g p bv dv e R) (hn : g.next ≤ g'.next) (hk : ∀ z, z < g.next → g'.get z = g.get z) : FJ h g' p bv dv e R := let ⟨o', r, s⟩ := f.ex; ⟨o', r.keep hn hk, s⟩
theorem FJ.next {h g : AHeap} {p : Lf} {bv dv : Value} {e : Int} {R : List Rec} (f : FJ h g p bv dv e R) : h.next + 5 ≤ g.next := let ⟨_, r, _⟩ := f.ex; r.next
theorem FJ.old {h g : AHeap} {p : Lf} {bv dv : Value} {e : Int} {R : List Rec} (f : FJ h g p bv dv e R) : ∀ z, z < h.next → g.get z = h.get z := let ⟨_, r, _⟩ := f.ex; r.old
theorem FR_mem {x : Rec} : ∀ {R : List Rec}, (R.Pairwise fun a b => ltK a b = true) → x ∈ R → FR R x.key = some x.V
  | a :: R, h, hx => by
    obtain ⟨h1, h2⟩ := List.pairwise_cons.1 h
    simp only [FR, List.find?_cons]
    cases hx with
    | head => simp
    | tail _ hx =>
      have hne : ¬ a.key = x.key := fun e => by
        have := h1 x hx
        rw [ltK, e, swo_ltStr.irrefl] at this; cases this
      simp only [decide_eq_false hne]
      exact FR_mem h2 hx
theorem FR_keys {R : List Rec} {k : List UInt8} : k ∈ R.map Rec.key ↔ ∃ v, FR R k = some v := by
  constructor
  · intro h
    obtain ⟨x, hx, rfl⟩ := List.mem_map.1 h
    cases hf : R.find? fun y => decide (y.key = x.key) with
    | none => have := List.find?_eq_none.1 hf x hx; simp at this
    | some a => exact ⟨a.V, by rw [FR, hf]; rfl⟩
  · rintro ⟨v, hv⟩
    cases hf : R.find? fun y => decide (y.key = k) with
    | none => rw [FR, hf] at hv; cases hv
    | some a =>
      have := List.find?_some hf
      exact List.mem_map.2 ⟨a, List.mem_of_find?_eq_some hf, by simpa using this⟩
theorem cl_v2 {h : AHeap} {f q q' : Nat} {fn : Func} {K : Value → AHeap → Prop} {x : Value} (he : Entered Tryz.prog f fn) (hf : FWp Tryz.prog f [x, P0 q, P0 q'] h K) : VWp Tryz.prog (.func (.func f) #[] #[P0 q, P0 q']) [x] h K := VWp.func he hf
structure F2 (N g : AHeap) (p : Lf) (z8 : Nat) (dv : Value) (R : List Rec) : Prop where
  next : N.next ≤ g.next
  old : ∀ z, z < N.next → ¬ z = z8 → g.get z = N.get z
  ex : ∃ b c, g.get z8 = some (LR p (.slice b R.length c) dv) ∧ OS g N.next R (.slice b R.length c) ∧ (R = [] → b = none)
theorem fold_w (h : AHeap) (p : Lf) (b1 b2 : Option Addr) (c1 c2 : Nat) (e : Int) (hb : RS h p.base (.slice b1 p.base.length c1)) (hd : RS h p.deltas (.slice b2 p.deltas.length c2)) (f1 : chk p = true) (K : Value → AHeap → Prop)
    (hK : (foldB e p).length ≤ 64 → (foldB e p).length ≤ 1000000)
    (big : ¬ (foldB e p).length ≤ 64 → ∀ x1 y1 x2 y2 x y lo g, h.next ≤ lo → FS g lo p.base (nilV (.slice b1 p.base.length c1)) (.slice x1 p.base.length y1) x → FS g lo p.deltas (nilV (.slice b2 p.deltas.length c2)) (.slice x2 p.deltas.length y2) y → (∀ r, x = some r → y ≠ some r) → (∀ z, z < h.next → g.get z = h.get z) → K (LV p (.slice x1 p.base.length y1) (.slice x2 p.deltas.length y2)) g)
    (small : (foldB e p).length ≤ 64 → ∀ bv dv x y g, FS g h.next (foldB e p) (decide (foldB e p = [])) bv x → FS g h.next (p.deltas.filter fun r => decide (e < r.lsn)) (nilV (.slice b2 p.deltas.length c2)) dv y → (∀ r, x = some r → y ≠ some r) → (∀ z, z < h.next → g.get z = h.get z) → K (LV (foldM p e) bv dv) g) :
    FWp Tryz.prog 19 [LV p (.slice b1 p.base.length c1) (.slice b2 p.deltas.length c2), U64 e] h K := by
  have tb19 := And.intro ty23 (And.intro ty25 (And.intro ty27 (And.intro ty37 (And.intro ty68 (ty9)))))
  obtain ⟨a1, a2, a3, a4, a5⟩ := fits_of f1
  have hmay := fun H : AHeap => fun (hn : h.next ≤ H.next) (hk : ∀ z, z < h.next → H.get z = h.get z) => may'_c H p _ _ (hb.mono hn hk) (hd.mono hn hk) xA xA
  rw [f1] at hmay
  refine W.enter tyOK Tryz.func19 rfl rfl ?_
  simp only [entry]
  have jY := ty25
  refine Wr <| ja Zx <| ja Zx <| ja Jo <| On ?_
  have jY := An @rcl <| An ty25 <| An ty68 <| An ty23 <| tb19
  refine W.seq <| Wr <| ja Jl <| jk (Jc en37 (hmay _ xF (fun z hz => by simp (disch := first | omega | simp only [nx]; omega) only [hpl]))) rfl <| jF Zt rfl <| On ?_
  refine Wn <| CWp.skip <| SQ.normal ?_
  refine Wr <| ja (so_makeMap) <| ja Jo <| jc Js <| On ?_
  refine W.seq <| Wr <| ja J25f3 <| ja Jl <| ja Jn <| ja sm <| On ?_
  refine W.cut (fun L g => FJ h g p (.slice b1 p.base.length c1) (.slice b2 p.deltas.length c2) e p.base ∧ L = [(2, P0 h.next), (3, P0 (h.next + 1)), (4, P0 (h.next + 2)), (5, P0 (h.next + 4))]) (W.block (W.loop (fun m L g => ∃ k : Nat, m + k = p.base.length ∧ FJ h g p (.slice b1 p.base.length c1) (.slice b2 p.deltas.length c2) e (p.base.take k) ∧ L = [(2, P0 h.next), (3, P0 (h.next + 1)), (4, P0 (h.next + 2)), (5, P0 (h.next + 4)), (18, .slice b1 p.base.length c1), (19, I64 p.base.length), (20, I64 k)]) (n := p.base.length) ⟨0, rfl, ?_, rfl⟩ ?_ ?_)) ?_
  · refine ⟨.map [] 0, ?_, SM.empty⟩
    exact Rw.eq ((((((Rw.nil h).push (LR p (.slice b1 p.base.length c1) (.slice b2 p.deltas.length c2)) rfl).push (.cells [U64 e] 1) rfl).push (.cells zlf 1) rfl).push (.map [] 0) rfl |>.push (.cells [.map none] 1) rfl).set 4 _) rfl
  · simp [HasA, Tr.get_put]
  · rintro m L g ⟨k, hm, hF, rfl⟩
    simp only [mkA]
    have w2 : IntKind.i64.wrap ((k : Int) + 1) = ((k + 1 : Nat) : Int) := by rw [wrap_i64 xA xA]; omega
    by_cases hk : (k : Int) < (p.base.length : Int)
    · obtain ⟨x, hx⟩ : ∃ x, p.base[k]? = some x := ⟨p.base[k]'xA, by simp⟩
      have hgn := hF.next
      obtain ⟨_, r, off, rfl, hr1, hr2⟩ := RS.at_ (hb.mono xA hF.old) hx
      have hc1 : (0 ≤ (k : Int) ∧ (k : Int) < (p.base.length : Int)) := by omega
      have htk : p.base.take (k + 1) = p.base.take k ++ [x] := by rw [List.take_add_one, hx]; rfl
      obtain ⟨o, hR, hS⟩ := hF.ex
      have q3 : g.get (h.next + 3) = some o := hR.at_ 3 _ rfl
      have q4 : g.get (h.next + 4) = some (.cells [.map (some (h.next + 3))] 1) := hR.at_ 4 _ rfl
      obtain ⟨o', s', hp⟩ := hS.put x.key x.V
      rw [← FR_snoc (fun y hy e => by
        obtain ⟨j, hj⟩ := List.getElem?_of_mem hy
        have hj2 : j < k := by have := (List.getElem?_eq_some_iff.1 hj).1; simp at this; omega
        rw [List.getElem?_take_of_lt hj2] at hj
        have := List.pairwise_iff_getElem.1 a2 j k xA xA hj2
        rw [(List.getElem?_eq_some_iff.1 hj).2, (List.getElem?_eq_some_iff.1 hx).2, ltK, e, swo_ltStr.irrefl] at this
        cases this), ← htk] at s'
      have jY := An @q4 <| An @hc1 <| An @sb <| An @rcl <| An @Rec.csE <| An tb19 <| An ty23 <| An ty27 <| An ty68 <| ty9
      refine Wr <| je Jt <| On ?_
      refine W.seq <| Wy <| CWp.skip <| SQ.normal ?_
      refine W.seq <| W.block <| Wr <| ja Ji <| ja (zl (hv := (hr2 _ rfl).1 _ _ ty27 rfl rfl)) <| ja Jo <| jc Js <| On ?_
      refine W.reg <| ja Jl <| ja J27f0 <| ja Jl <| ja Jl <| Oa rfl (so_mapUpdate xB xB xB (hp (by simp (disch := first | omega | simp only [nx]; omega) only [aCells, rowOf, hpl, q4, hc1, sb, rcl, Rec.cs, Value.cells, places, tb19] <;> first | rfl | exact q3) ty68 rfl ty9 rfl)) rfl <| OSuf.nil <| BQ.normal <| SQ.normal ?_
      have jW := @w2
      refine W.reg <| ja Ja <| ja sm <| OSuf.nil <| ?_
      refine LQ.normal (m := m - 1) (L := [(2, P0 h.next), (3, P0 (h.next + 1)), (4, P0 (h.next + 2)), (5, P0 (h.next + 4)), (18, .slice (some ⟨r, off, none⟩) p.base.length c1), (19, I64 p.base.length), (20, I64 ((k + 1 : Nat) : Int))]) xA ?_ ⟨k + 1, by omega, ⟨o', (hR.new _).set 3 o', s'⟩, rfl⟩
      simp only [HasA, Tr.get_put, Nat.reduceEqDiff, reduceIte, w2, and_self]
    · refine Wr <| jy Jt <| On ?_
      refine W.seq <| Wn <| CWp.exit <| SQ.exit <| LQ.exit <| BQ.exit <| ?_
      refine NQ.normal (L := [(2, P0 h.next), (3, P0 (h.next + 1)), (4, P0 (h.next + 2)), (5, P0 (h.next + 4))]) ?_ ⟨by rw [List.take_of_length_le xA] at hF; exact hF, rfl⟩
      simp only [HasA, Tr.get_put, Nat.reduceEqDiff, reduceIte, and_self]
  rintro L a' g ha ⟨hF, rfl⟩
  obtain ⟨bv', dv', H1, m, w, ob, od, hsep, hnil, hm1, hm2, hk⟩ := own_c g p _ _ (hb.mono (by have := hF.next; omega) hF.old) (hd.mono (by have := hF.next; omega) hF.old) xA xA
  have hgn := hF.next
  have hF1 : FJ h H1 p (.slice b1 p.base.length c1) (.slice b2 p.deltas.length c2) e p.base := hF.keep xA hk
  obtain ⟨x1, y1, rfl⟩ := ob.form
  obtain ⟨x2, y2, rfl⟩ := od.form
  obtain ⟨H2, hH2⟩ : ∃ H2, H2 = H1.new (LR p (.slice x1 p.base.length y1) (.slice x2 p.deltas.length y2)) := ⟨_, rfl⟩
  have nH2 : H2.next = H1.next + 1 := by rw [hH2]; rfl
  have hdel := del_os H2 m p.deltas (.slice x2 p.deltas.length y2) (.func (.func 54) #[] #[P0 (h.next + 1), P0 (h.next + 4)]) (fun x => decide (x.lsn ≤ e))
    (fun pre G => FJ h G p (.slice b1 p.base.length c1) (.slice b2 p.deltas.length c2) e (intoAll e pre p.base) ∧ H2.next ≤ G.next ∧ G.get H1.next = H2.get H1.next) (od.mono xA fun z _ hz => by rw [hH2]; exact zN xA) xA
    ⟨by rw [hH2]; exact hF1.new _, Nat.le_refl _, rfl⟩
    (fun r n c er pre G o hJ => by
      rw [er] at od
      have := od.row
      exact ⟨hJ.1.far xA o, hJ.2.1, by rw [zS xA]; exact hJ.2.2⟩)
    (fun pre G o hJ => ⟨hJ.1.new o, by have := hJ.2.1; simp; omega, by have := hJ.2.1; rw [zN xA]; exact hJ.2.2⟩)
    (fun pre G hJ => hJ.2.1)
    (fun pre x post hp G hJ => by
      obtain ⟨⟨o, hR, hS⟩, hJ2, hJ3⟩ := hJ
      have hgn2 := hR.next
      have hx : x ∈ p.all := by rw [Lf.all, ← hp]; simp
      have hR2 := (PInv.into_all (pre.filter fun r => decide (r.lsn ≤ e)) p.base a2).1
      refine VWp.mono (cl_v2 en54 (fold1_c G (h.next + 1) (h.next + 4) (h.next + 3) e x o _ (hR.at_ 1 _ rfl) (hR.at_ 4 _ rfl) (by simp at hgn2; omega) (by simp at hgn2; omega) (by simp at hgn2; omega) (hR.at_ 3 _ rfl) hS hR2 (fit_pos (a1 x hx)))) ?_
      rintro u G' ⟨rfl, ⟨o', s', hm'⟩, hn', hk'⟩
      refine ⟨rfl, ⟨⟨o', hR.change 3 o' xI hn' hk' hm', ?_⟩, by omega, by rw [hk' _ xA xA]; exact hJ3⟩, fun z hz1 hz2 => hk' z hz2 xA⟩
      rw [intoAll_snoc]; exact s')
  have hkeep : (fun x : Rec => !decide (x.lsn ≤ e)) = fun r => decide (e < r.lsn) := by funext x; by_cases c : x.lsn ≤ e <;> simp [c] <;> omega
  rw [hkeep] at hdel
  obtain ⟨R, hR⟩ : ∃ R, R = foldB e p := ⟨_, rfl⟩
  obtain ⟨KD, hKD⟩ : ∃ KD, KD = p.deltas.filter fun r => decide (e < r.lsn) := ⟨_, rfl⟩
  have hRs := (PInv.into_all (p.deltas.filter fun r => decide (r.lsn ≤ e)) p.base a2).1
  have hRe : intoAll e p.deltas p.base = R := by rw [hR]; rfl
  have hRs : R.Pairwise fun a b => ltK a b = true := by rw [hR]; exact hRs
  rw [← hKD] at hdel small
  rw [← hR] at hK big small
  rw [hRe] at hdel
  have q0 : g.get h.next = some (.cells (lcs p (.slice b1 p.base.length c1) (.slice b2 p.deltas.length c2)) 1) := let ⟨o, r, s⟩ := hF.ex; r.at_ 0 _ rfl
  rw [hH2] at hdel
  -- the deltas that are left; how many there are in the map
  apply W.join (fun L G => ∃ u x, FJ h G p (.slice b1 p.base.length c1) (.slice b2 p.deltas.length c2) e R ∧ H2.next ≤ G.next ∧ G.get H1.next = some (LR p (.slice x1 p.base.length y1) u) ∧ FS G m KD (nilV (.slice x2 p.deltas.length y2)) u x ∧ (∀ r, x = some r → r < H1.next) ∧ L = [(2, P0 h.next), (3, P0 (h.next + 1)), (4, P0 (h.next + 2)), (5, P0 (h.next + 4)), (8, P0 H1.next)])
  · intro rest
    refine SQ.normal <| CWp.known ha ?_
    simp only [mkA]
    have jY := An @q0 <| An @rcl <| An ty25 <| ty23
    refine Wr <| ja Jl <| jk (Jc en36 (w)) rfl <| ja Jo <| jc Js <| On ?_
    refine Wr <| ja J25f4 <| ja Jl <| ja (so_makeFunc rfl xD xD) <| jm (Jc en53 (hdel)) ?_
    rintro u G ⟨⟨hF3, hn3, h83⟩, x, fx, gx⟩
    obtain ⟨ub, uc, rfl⟩ := fx.form
    have g8 : G.get H1.next = some (LR p (.slice x1 p.base.length y1) (.slice x2 p.deltas.length y2)) := (by rw [h83]; exact zQ)
    refine ⟨_, rfl, ?_⟩
    have jY := An @q0 <| An @rcl <| An @g8 <| ty23
    refine ja J25f4 <| jc Js <| On ?_
    refine W.seq <| ?_
    have hx : ∀ r, x = some r → r < H1.next := fun r hr => by
      obtain ⟨n, c, er⟩ := gx r hr
      rw [er] at od
      exact od.row.2
    refine rest _ _ _ ?_ ⟨.slice ub KD.length uc, x, hF3.far xA _, by simp only [nx] at hn3 ⊢; omega, by simp (disch := first | omega | simp only [nx]; omega) only [hpl]; rfl, fx.keep (Nat.le_refl _) xI (fun r hr hr2 => zS (by have := hx r hr; omega)), hx, rfl⟩
    simp [HasA, Tr.get_put]
  · rintro L G ⟨u, x, ⟨o, hRw, hS⟩, hGn, g8, fx, hx, rfl⟩
    simp only [mkA]
    obtain ⟨B, clk, rfl, B1, B2, B3, B4⟩ := hS.keys (ks := R.map Rec.key) (List.Pairwise.map _ (fun a b h => h) hRs) (fun k => FR_keys)
    have hlB : (mkK encS B).length = R.length := by
      have := B4.length_eq
      simp [mkK] at this ⊢; omega
    have q0 : G.get h.next = some (.cells (lcs p (.slice b1 p.base.length c1) (.slice b2 p.deltas.length c2)) 1) := hRw.at_ 0 _ rfl
    have q2 : G.get (h.next + 2) = some (.cells zlf 1) := hRw.at_ 2 _ rfl
    have q3 := hRw.at_ 3 _ rfl
    have q4 : G.get (h.next + 4) = some (.cells [.map (some (h.next + 3))] 1) := hRw.at_ 4 _ rfl
    obtain ⟨ub, uc, rfl⟩ := fx.form
    by_cases c64 : (R.length : Int) > 64
    · obtain ⟨v1, w1, v2, w2, G2, nb, nd, y1', y2', wo, fo1, fo2, hxy, hno, hko, e1, e2⟩ := own_k G p _ _ (hb.mono xA hRw.old) (hd.mono xA hRw.old) xA xA
      subst e1 e2
      have q2' : G2.get (h.next + 2) = some (.cells zlf 1) := by rw [hko _ xA]; exact q2
      have jY := An @q0 <| An @q2' <| An @q3 <| An @q4 <| An @hlB <| An @rcl <| An ty68 <| An tb19 <| ty25
      refine Wr <| ja Jl <| ja Jn <| je Jv <| On ?_
      refine Wy <| Wr <| ja Jl <| jk (Jc en36 (wo)) rfl <| jc Js <| On ?_
      refine CWp.ret <| SQ.ret <| Jr ?_
      exact big xA _ _ _ _ _ _ G.next _ xA (fo1.mono (Nat.le_refl _) xI (fun z hz _ => zS xA)) (fo2.mono (Nat.le_refl _) xI (fun z hz _ => zS xA)) hxy (fun z hz => by rw [zS xA, hko z xA]; exact hRw.old z hz)
    · have hsm : R.length ≤ 64 := by omega
      have eM : foldM p e = { p with base := R, deltas := KD } := by rw [foldM, if_pos ⟨f1, by rw [← hR]; exact hsm⟩, ← hR, ← hKD]
      obtain ⟨G6, hG6⟩ : ∃ G6, G6 = (G.set H1.next (LR p (.slice none 0 0) (.slice ub KD.length uc))).new (.cells [.map (some (h.next + 3))] 1) := ⟨_, rfl⟩
      have n6 : G6.next = G.next + 1 := by rw [hG6]; rfl
      have hso := SortS.KR.sorted_c G6 G.next (h.next + 3) clk B (R.map Rec.key) ⟨B1, B2, B3⟩ xA xA (by rw [hG6]; exact zQ) (by rw [hG6]; simp (disch := first | omega | simp only [nx]; omega) only [hpl]; exact q3) (by have := hK hsm; have := B4.length_eq; simp at this; omega) B4 (List.Pairwise.map _ (fun a b hab => swo_ltStr.asymmA hab) hRs)
      have hso2 := hso.mono (K' := fun u N => RG N 1 R.length ((R.map Rec.key).map encS) u ∧ (∀ a n c, u = .slice (some a) n c → G6.next ≤ a.block) ∧ G6.next ≤ N.next ∧ ∀ z, z < G6.next → N.get z = G6.get z) (fun u N hu => by
        rcases hu with ⟨e1, rfl, rfl⟩ | ⟨e1, rfl, rfl⟩
        · have e2 : R = [] := by simpa using e1
          exact ⟨⟨none, 0, by rw [e2]; rfl, .inl ⟨rfl, by rw [e2]; rfl, rfl⟩⟩, fun a n c e9 => (by cases e9), Nat.le_refl _, fun _ _ => rfl⟩
        · exact ⟨⟨_, 0, by rw [List.length_map], .inr ⟨_, _, rfl, fun _ => ⟨by simp, _, by simp only [rowOf, AHeap.get_new_same], cellsOf_all xI⟩⟩⟩, fun a n c e9 => (by cases e9; exact Nat.le_refl _), by simp, fun z hz => zN xA⟩)
      rw [hG6] at hso2
      have jY := An @q0 <| An @q3 <| An @q4 <| An @g8 <| An @hlB <| An @rcl <| An ty68 <| An tb19 <| An ty23 <| ty37
      refine Wr <| ja Jl <| ja Jn <| jf Jv <| On ?_
      refine Wn <| CWp.skip <| SQ.normal ?_
      refine Wr <| ja J25f3 <| jc Js <| On ?_
      refine W.seq <| Wr <| ja Jl <| jk (Jc en55 (SortS.KR.keys_c _ (h.next + 3))) rfl <| jm (Jc en51 (hso2)) ?_
      rintro u6 N ⟨su, sr, sn, sk⟩
      obtain ⟨sb, sc, rfl⟩ := su.form
      refine ⟨_, rfl, ?_⟩
      refine ja Jn <| ja sm <| On ?_
      rw [← hG6] at sn sk sr
      refine W.cut (fun L g => F2 N g p H1.next (.slice ub KD.length uc) R ∧ L = [(4, P0 (h.next + 2)), (8, P0 H1.next)]) (W.block (W.loop (fun m L g => ∃ k : Nat, m + k = R.length ∧ F2 N g p H1.next (.slice ub KD.length uc) (R.take k) ∧ L = [(4, P0 (h.next + 2)), (5, P0 (h.next + 4)), (8, P0 H1.next), (44, .slice sb R.length sc), (45, I64 R.length), (46, I64 k)]) (n := R.length) ⟨0, rfl, ⟨Nat.le_refl _, fun _ _ _ => rfl, none, 0, ?_, .nil rfl, fun _ => rfl⟩, rfl⟩ ?_ ?_)) ?_
      · rw [sk _ xA, hG6]; simp (disch := first | omega | simp only [nx]; omega) only [hpl]; rfl
      · simp [HasA, Tr.get_put]
      · rintro m3 L g2 ⟨k, hm3, hF2, rfl⟩
        simp only [mkA]
        obtain ⟨gn, go, b, c, g1, gO, g3⟩ := hF2
        have w2 : IntKind.i64.wrap ((k : Int) + 1) = ((k + 1 : Nat) : Int) := by rw [wrap_i64 xA xA]; omega
        by_cases hk3 : (k : Int) < (R.length : Int)
        · obtain ⟨x', hx'⟩ : ∃ x', R[k]? = some x' := ⟨R[k]'xA, by simp⟩
          have hc1 : (0 ≤ (k : Int) ∧ (k : Int) < (R.length : Int)) := by omega
          obtain ⟨_, r, off, rfl, hr1, hr2⟩ := RG.at_ su (i := k) xA
          have hld : ∀ G : AHeap, G.get r = N.get r → ∀ t ti, T.get t = some ti → ti.agg = false → aLoad T t (PA r (off + k)) G = some (encS x'.key) := fun G hG t ti ht ha => by
            have := (hr2 G hG).2 0 t ti (encS x'.key) ht ha (by simp [hx'])
            simpa using this
          have hlk : (R.take k).length = k := by rw [List.length_take, Nat.min_eq_left xA]
          rw [hlk] at g1 gO
          have htk : R.take (k + 1) = R.take k ++ [x'] := by rw [List.take_add_one, hx']; rfl
          have hlk1 : (R.take (k + 1)).length = k + 1 := by rw [List.length_take, Nat.min_eq_left xA]
          have p3 : g2.get (h.next + 3) = some (.map (mkK encS B) clk) := by rw [go _ xA xA, sk _ xA, hG6]; simp (disch := first | omega | simp only [nx]; omega) only [hpl]; exact q3
          have p4 : g2.get (h.next + 4) = some (.cells [.map (some (h.next + 3))] 1) := by rw [go _ xA xA, sk _ xA, hG6]; simp (disch := first | omega | simp only [nx]; omega) only [hpl]; exact q4
          have hrne : ¬ H1.next = r := fun e9 => by
            have : G6.next ≤ r := sr _ _ _ rfl
            omega
          obtain ⟨A, ap, nA, gA, kA⟩ := os_app (g := g2.new (.cells x'.cs 4)) (lo := N.next) (l := R.take k) (v := .slice b k c) (gO.mono xI fun z _ hz => zN xA) x' (q := g2.next) (zQ) xA
          rw [hlk] at ap
          simp only [nx] at ap nA gA kA
          have kA' : ∀ z, z < N.next → A.get z = g2.get z := fun z hz => by
            rw [kA z xA fun n c e9 => by
              rw [e9] at gO
              have := gO.row
              omega]
            exact zN xA
          have a8 : A.get H1.next = some (LR p (.slice b k c) (.slice ub KD.length uc)) := by rw [kA' _ xA]; exact g1
          have jY := An @hc1 <| An @sb <| An @p4 <| An @g1 <| An @a8 <| An @rcl <| An tb19 <| An ty37 <| An ty9 <| An ty23 <| An ty68 <| ty27
          refine Wr <| je Jt <| On ?_
          refine W.seq <| Wy <| CWp.skip <| SQ.normal ?_
          refine W.seq <| W.block <| Wr <| ja Ji <| ja (zl (hv := hld _ (go _ hr1 (fun e9 => hrne e9.symm)) _ _ ty9 rfl)) <| ja za <| On ?_
          refine W.reg <| ja J25f3 <| ja Jl <| ja Jl <| ja sm <| Oa rfl (so_lookup xB xB (hS.get_some (FR_mem hRs (List.mem_of_getElem? hx')) (by first | exact p3 | (simp (disch := first | omega | simp only [nx]; omega) only [aCells, rowOf, hpl, hc1, sb, p4, g1, a8, rcl, Value.cells, places, tb19] <;> first | rfl | exact p3)) ty68 rfl ty9 rfl)) rfl <| ja Jh <| ja (so_append xD (ap _ _ xL rfl xK)) <| ja J25f3 <| jc Js <| OSuf.nil <| BQ.normal <| SQ.normal ?_
          have jW := @w2
          refine W.reg <| ja Ja <| ja sm <| OSuf.nil <| ?_
          refine LQ.normal (m := m3 - 1) (L := [(4, P0 (h.next + 2)), (5, P0 (h.next + 4)), (8, P0 H1.next), (44, .slice (some ⟨r, off, none⟩) R.length sc), (45, I64 R.length), (46, I64 ((k + 1 : Nat) : Int))]) xA ?_ ⟨k + 1, by omega, ⟨by simp only [nx]; omega, fun z hz hz8 => ?_, some ⟨g2.next + 1, 0, none⟩, 0, ?_, ?_, ?_⟩, rfl⟩
          · simp only [HasA, Tr.get_put, Nat.reduceEqDiff, reduceIte, w2, and_self]
          · have h8 : ¬ H1.next = z := fun e9 => hz8 e9.symm
            simp (disch := first | omega | simp only [nx]; omega) only [hpl]; rw [kA' z hz]; exact go z hz hz8
          · rw [hlk1, AHeap.get_set_same]; rfl
          · have h8 : ¬ H1.next = g2.next + 1 := by omega
            rw [hlk1]
            exact .some (by rw [htk]; simp) hlk1.symm xA xF (by simp (disch := first | omega | simp only [nx]; omega) only [hpl]; rw [htk]; exact gA)
          · rw [htk]; simp
        · refine Wr <| jy Jt <| On ?_
          refine W.seq <| Wn <| CWp.exit <| SQ.exit <| LQ.exit <| BQ.exit <| ?_
          have hk4 : R.take k = R := List.take_of_length_le xA
          refine NQ.normal (L := [(4, P0 (h.next + 2)), (8, P0 H1.next)]) ?_ ⟨⟨gn, go, b, c, ?_, ?_, ?_⟩, rfl⟩
          · simp only [HasA, Tr.get_put, Nat.reduceEqDiff, reduceIte, and_self]
          · rw [hk4] at g1; exact g1
          · rw [hk4] at gO; exact gO
          · rw [hk4] at g3; exact g3
      rintro L a' g2 ha ⟨⟨gn, go, b, c, g1, gO, g3⟩, rfl⟩
      have p2 : g2.get (h.next + 2) = some (.cells zlf 1) := by rw [go _ xA xA, sk _ xA, hG6]; simp (disch := first | omega | simp only [nx]; omega) only [hpl]; exact q2
      refine SQ.normal <| CWp.known ha ?_
      simp only [mkA]
      have jY := An @p2 <| An @g1 <| An @rcl <| An ty25 <| tb19
      refine Wr <| ja Jl <| jc Js <| On ?_
      refine CWp.ret <| Jr ?_
      have eL : ∀ v w, LV (foldM p e) v w = LV p v w := fun v w => by rw [eM]
      obtain ⟨x0, fb, fx0⟩ : ∃ x0, FS g2 N.next R (decide (R = [])) (.slice b R.length c) x0 ∧ ∀ r, x0 = some r → N.next ≤ r := by
        generalize hv : Value.slice b R.length c = v at gO ⊢
        cases gO with
        | nil e9 => exact ⟨none, by rw [decide_eq_true e9]; exact .nil e9, fun r h9 => by cases h9⟩
        | emp e9 _ _ _ => have := g3 e9; subst this; cases hv
        | @some r n e9 hn h1 h2 h3 => exact ⟨some r, by rw [decide_eq_false e9]; exact .some (rest := []) hn h1 h2 (by rw [List.append_nil]; exact h3) (.inl rfl), fun q h9 => by cases h9; exact h1⟩
      show K (LV p (.slice b R.length c) (.slice ub KD.length uc)) _
      rw [← eL]
      refine small hsm _ _ x0 x _ (fb.mono xA xI (fun z hz _ => zS xA)) (FS.keep (h := G) (by rw [← hnil.2]; exact fx) xA xF fun r hr hr2 => ?_) (fun r hr hr2 => by have := fx0 r hr; have := hx r hr2; omega) (fun z hz => by rw [zS xA, go z xA xA, sk z xA, hG6]; simp (disch := first | omega | simp only [nx]; omega) only [hpl]; exact hRw.old z hz)
      have h1 := hx r hr
      have h2 := (fx.lo hr).1
      have h3 : ¬ H1.next = r := by omega
      rw [zS xA, go r xA xA, sk r xA, hG6]
      simp (disch := first | omega | simp only [nx]; omega) only [hpl]
theorem fold_c (h : AHeap) (p : Lf) (bv dv : Value) (e : Int) (hb : RS h p.base bv) (hd : RS h p.deltas dv) (hlb : p.base.length ≤ 1000000) (hld : p.deltas.length ≤ 1000000) (hK : (foldB e p).length ≤ 64 → (foldB e p).length ≤ 1000000) :
    ∃ nb nd, (nb = true → (foldM p e).base = []) ∧ (nd = true → (foldM p e).deltas = []) ∧ FWp Tryz.prog 19 [LV p bv dv, U64 e] h fun u g => u = LV (foldM p e) (cval nb h.next (foldM p e).base) (cval nd (h.next + 1) (foldM p e).deltas) ∧ g = hand h (foldM p e) nb nd := by
  have tb19 := And.intro ty23 (And.intro ty25 (And.intro ty27 (And.intro ty37 (And.intro ty68 (ty9)))))
  obtain ⟨b1, c1, rfl⟩ := hb.form
  obtain ⟨b2, c2, rfl⟩ := hd.form
  have hmay := fun H : AHeap => fun (hn : h.next ≤ H.next) (hk : ∀ z, z < h.next → H.get z = h.get z) => may'_c H p _ _ (hb.mono hn hk) (hd.mono hn hk) hlb hld
  cases f1 : chk p with
  | false =>
    rw [f1] at hmay
    have eM : foldM p e = p := by simp [foldM, f1]
    rw [eM]
    obtain ⟨h3, hh3⟩ : ∃ h3, h3 = ((h.new (LR p (.slice b1 p.base.length c1) (.slice b2 p.deltas.length c2))).new (.cells [U64 e] 1)).new (.cells zlf 1) := ⟨_, rfl⟩
    have e3 : h3.next = h.next + 3 := by rw [hh3]; rfl
    have k3 : ∀ z, z < h.next → h3.get z = h.get z := fun z hz => by rw [hh3]; simp (disch := first | omega | simp only [nx]; omega) only [hpl]
    obtain ⟨x1, y1, x2, y2, H1, nb, nd, x, y, w, fx, fy, hxy, hn, hk, _, _⟩ := own_k h3 p _ _ (hb.mono xA k3) (hd.mono xA k3) hlb hld
    have q2 : H1.get (h.next + 2) = some (.cells zlf 1) := by rw [hk _ xA, hh3]; simp (disch := first | omega | simp only [nx]; omega) only [hpl]
    refine ⟨nb, nd, fx.empty, fy.empty, gcL (K0 := fun u g => u = LV p (.slice x1 p.base.length y1) (.slice x2 p.deltas.length y2) ∧ g = H1.set (h.next + 2) (LR p (.slice x1 p.base.length y1) (.slice x2 p.deltas.length y2))) ?_ ?_⟩
    · refine W.enter tyOK Tryz.func19 rfl rfl ?_
      simp only [entry]
      have jY := ty25
      refine Wr <| ja Zx <| ja Zx <| ja Jo <| On ?_
      have jY := An @q2 <| An @rcl <| An ty25 <| tb19
      refine W.seq <| Wr <| ja Jl <| jk (Jc en37 (hmay _ xF (fun z hz => by simp (disch := first | omega | simp only [nx]; omega) only [hpl]))) rfl <| jE Zt rfl <| On ?_
      refine Wy <| Wr <| ja Jl <| jk (Jc en36 (xX)) rfl <| jc Js <| On ?_
      refine CWp.ret <| SQ.ret <| Jr ?_
      exact ⟨rfl, rfl⟩
    · rintro u g ⟨rfl, rfl⟩
      exact ⟨_, _, x, y, rfl, fx.mono xA (Nat.le_refl _) (fun z hz _ => zS xA), fy.mono xA (Nat.le_refl _) (fun z hz _ => zS xA), hxy, fun z hz => by rw [zS xA, hk z xA]; exact k3 z hz⟩
  | true =>
  by_cases f2 : (foldB e p).length ≤ 64
  · have eM : foldM p e = { p with base := foldB e p, deltas := p.deltas.filter fun r => decide (e < r.lsn) } := by simp [foldM, f1, f2]
    refine ⟨decide (foldB e p = []), nilV (.slice b2 p.deltas.length c2), fun hn => by rw [eM]; simpa using hn, fun hn => ?_, gcL (fold_w h p b1 b2 c1 c2 e hb hd f1 (fun u g => ∃ bv dv x y, u = LV (foldM p e) bv dv ∧ FS g h.next (foldM p e).base (decide (foldB e p = [])) bv x ∧ FS g h.next (foldM p e).deltas (nilV (.slice b2 p.deltas.length c2)) dv y ∧ (∀ r, x = some r → y ≠ some r) ∧ ∀ z, z < h.next → g.get z = h.get z) hK (fun hn => (hn f2).elim) (fun _ bv dv x y g s1 s2 hxy hk => ⟨bv, dv, x, y, rfl, by rw [eM]; exact s1, by rw [eM]; exact s2, hxy, hk⟩)) fun u g hu => hu⟩
    obtain ⟨b, c, e9, h9⟩ := hd.ex
    cases e9
    rcases h9 with ⟨rfl, h9, _⟩ | ⟨r, off, rfl, _⟩
    · rw [eM, List.length_eq_zero_iff.1 h9]; rfl
    · cases hn
  · have eM : foldM p e = p := by simp [foldM, f2]
    rw [eM]
    have nn : ∀ {l : List Rec} {b : Option Addr} {c : Nat}, RS h l (.slice b l.length c) → nilV (.slice b l.length c) = true → l = [] := fun {l b c} hs hn => by
      obtain ⟨b', c', e9, h9⟩ := hs.ex
      cases e9
      rcases h9 with ⟨rfl, h9, _⟩ | ⟨r, off, rfl, _⟩
      · exact List.length_eq_zero_iff.1 h9
      · cases hn
    exact ⟨nilV (.slice b1 p.base.length c1), nilV (.slice b2 p.deltas.length c2), nn hb, nn hd, gcL (fold_w h p b1 b2 c1 c2 e hb hd f1 (fun u g => ∃ bv dv x y, u = LV p bv dv ∧ FS g h.next p.base (nilV (.slice b1 p.base.length c1)) bv x ∧ FS g h.next p.deltas (nilV (.slice b2 p.deltas.length c2)) dv y ∧ (∀ r, x = some r → y ≠ some r) ∧ ∀ z, z < h.next → g.get z = h.get z) hK (fun _ x1 y1 x2 y2 x y lo g hlo s1 s2 hxy hk => ⟨_, _, x, y, rfl, s1.mono hlo (Nat.le_refl _) (fun _ _ _ => rfl), s2.mono hlo (Nat.le_refl _) (fun _ _ _ => rfl), hxy, hk⟩) (fun hn => (f2 hn).elim)) fun u g hu => hu⟩
end Go.Proofs.YtebheelmgcggmaaGreat
namespace Go.Proofs.YtebheelmgcggmaaGreat
open Go.Ab Go.Sort
def kval (h : AHeap) (ks : List (List UInt8)) : Value := if ks = [] then .slice none 0 0 else .slice (some ⟨h.next, 0, none⟩) ks.length 0
def kheap (h : AHeap) (ks : List (List UInt8)) : AHeap := if ks = [] then h else h.new (.cells (ks.map encS) 1)
theorem kheap_next (h : AHeap) (ks : List (List UInt8)) : h.next ≤ (kheap h ks).next ∧ (kheap h ks).next ≤ h.next + 1 := by
  simp only [kheap]; split <;> simp
theorem kheap_old (h : AHeap) (ks : List (List UInt8)) (z : Nat) (hz : z < h.next) : (kheap h ks).get z = h.get z := by
  simp only [kheap]; split
  · rfl
  · exact zN xA
theorem kval_rg (h : AHeap) (ks : List (List UInt8)) : RG (kheap h ks) 1 ks.length (ks.map encS) (kval h ks) := by
  simp only [kheap, kval]
  split
  · rename_i e; subst e; exact ⟨_, _, rfl, .inl ⟨rfl, rfl, rfl⟩⟩
  · exact ⟨_, _, rfl, .inr ⟨_, _, rfl, fun _ => ⟨by simp, _, by simp only [rowOf, AHeap.get_new_same], cellsOf_all xI⟩⟩⟩
def FK (pre : List Rec) (k : List UInt8) : Option Value := if k ∈ pre.map Rec.key then some (.bool true) else none
theorem FK_snoc (pre : List Rec) (x : Rec) : FK (pre ++ [x]) = updF (FK pre) x.key (.bool true) := by
  funext k
  simp only [FK, updF, List.map_append, List.mem_append, List.map_cons, List.map_nil, List.mem_singleton]
  by_cases e : k = x.key <;> simp [e]
theorem FK_keys {l : List Rec} {k : List UInt8} : k ∈ keysL l ↔ ∃ v, FK l k = some v := by
  rw [mem_keysL]
  simp only [FK]
  constructor
  · rintro ⟨r, hr, rfl⟩
    exact ⟨_, if_pos (List.mem_map.2 ⟨r, hr, rfl⟩)⟩
  · rintro ⟨v, hv⟩
    split at hv
    · rename_i hk
      obtain ⟨r, hr, e⟩ := List.mem_map.1 hk
      exact ⟨r, hr, e⟩
    · cases hv
theorem gcK {f : FuncId} {args : List Value} {h : AHeap} (ks : List (List UInt8)) (hf : FWp Tryz.prog f args h fun u g => (∀ z, z < h.next → g.get z = h.get z) ∧ ((ks = [] ∧ u = .slice none 0 0) ∨ (ks ≠ [] ∧ ∃ y, u = .slice (some ⟨y, 0, none⟩) ks.length 0 ∧ h.next ≤ y ∧ g.get y = some (.cells (ks.map encS) 1)))) :
    FWp Tryz.prog f args h fun u g => u = kval h ks ∧ g = kheap h ks := by
  simp only [kval, kheap]
  by_cases e : ks = []
  · rw [if_pos e, if_pos e]
    exact FWp.gcs (.flat rfl) (hf.mono fun u g hu => ⟨by rcases hu.2 with h1 | h1; exact h1.2; exact (h1.1 e).elim, fun r o hr ho => by rw [hu.1 r hr]; exact ho⟩)
  · rw [if_neg e, if_neg e]
    refine FWp.gcNew (fun v hv => ?_) (hf.mono fun u g hu => ?_)
    · obtain ⟨y, _, rfl⟩ := List.mem_map.1 hv
      exact .flat rfl
    · rcases hu.2 with h1 | ⟨_, y, h1, h2, h3⟩
      · exact (e h1.1).elim
      · exact ⟨y, h1, h2, h3, fun r o hr ho => by rw [hu.1 r hr]; exact ho⟩
theorem sk_c (G : AHeap) (q m : Nat) (o : AObj) (F : List UInt8 → Option Value) (ks : List (List UInt8)) (hS : SM o F) (hs : ks.Pairwise fun a b => ltStr a b = true) (hm : ∀ k, k ∈ ks ↔ ∃ v, F k = some v) (hl : ks.length ≤ 1000000) (l1 : q < G.next) (l2 : m < G.next) (hq : G.get q = some (.cells [.map (some m)] 1)) (ho : G.get m = some o) :
    FWp Tryz.prog 51 [.func (.func 89) #[] #[P0 q]] G fun u g => u = kval G ks ∧ g = kheap G ks := by
  obtain ⟨B, clk, rfl, B1, B2, B3, B4⟩ := hS.keys hs hm
  refine (SortS.KB.sorted_c G q m clk B ks ⟨B1, B2, B3⟩ l1 l2 hq ho (by have := B4.length_eq; simp at this; omega) B4 (hs.imp fun {a b} hab => swo_ltStr.asymmA hab)).mono ?_
  rintro u g (⟨e1, rfl, rfl⟩ | ⟨e1, rfl, rfl⟩)
  · exact ⟨by rw [kval, if_pos e1], by rw [kheap, if_pos e1]⟩
  · exact ⟨by rw [kval, if_neg e1], by rw [kheap, if_neg e1]⟩
theorem keysM_pw (p : Lf) : (keysM p).Pairwise fun a b => ltStr a b = true := by
  simp only [keysM]; split
  · exact keysL_pw _
  · exact .nil
theorem keys_c (h : AHeap) (p : Lf) (bv dv : Value) (hb : RS h p.base bv) (hd : RS h p.deltas dv) (hlb : p.base.length ≤ 1000000) (hld : p.deltas.length ≤ 1000000) (hK : (keysM p).length ≤ 1000000) :
    FWp Tryz.prog 17 [LV p bv dv] h fun u g => u = kval h (keysM p) ∧ g = kheap h (keysM p) := by
  have tb17 := And.intro ty25 (And.intro ty27 (And.intro ty4 (And.intro ty63 (ty9))))
  refine gcK _ ?_
  have hfin : ∀ G : AHeap, h.next ≤ G.next → (∀ z, z < h.next → G.get z = h.get z) → ∀ u g, u = kval G (keysM p) ∧ g = kheap G (keysM p) → (∀ z, z < h.next → g.get z = h.get z) ∧ ((keysM p = [] ∧ u = .slice none 0 0) ∨ (keysM p ≠ [] ∧ ∃ y, u = .slice (some ⟨y, 0, none⟩) (keysM p).length 0 ∧ h.next ≤ y ∧ g.get y = some (.cells ((keysM p).map encS) 1))) := by
    rintro G hn hk u g ⟨rfl, rfl⟩
    refine ⟨fun z hz => by rw [kheap_old _ _ _ xA]; exact hk z hz, ?_⟩
    by_cases e : keysM p = []
    · exact .inl ⟨e, by rw [kval, if_pos e]⟩
    · exact .inr ⟨e, G.next, by rw [kval, if_neg e], hn, by rw [kheap, if_neg e]; exact zQ⟩
  have hm := fun H : AHeap => fun (hn : h.next ≤ H.next) (hk : ∀ z, z < h.next → H.get z = h.get z) => may'_c H p bv dv (hb.mono hn hk) (hd.mono hn hk) hlb hld
  refine W.enter tyOK Tryz.func17 rfl rfl ?_
  simp only [entry]
  cases f1 : chk p with
  | false =>
    rw [f1] at hm
    have ek : keysM p = [] := by simp [keysM, f1]
    refine Wr <| ja Zx <| ja za <| On ?_
    have jY := An @rcl <| An ty63 <| ty25
    refine Wr <| ja (so_makeMap) <| ja Jo <| jc Js <| On ?_
    refine W.seq <| Wr <| ja Jl <| jk (Jc en37 (hm _ xF (fun z hz => by simp (disch := first | omega | simp only [nx]; omega) only [hpl]))) rfl <| On ?_
    refine Wn <| CWp.skip <| SQ.normal ?_
    refine Wr <| ja Jl <| jk (Jc en52 (SortS.KB.keys_c _ (h.next + 1))) rfl <| jm (Jc en51 (sk_c _ (h.next + 3) (h.next + 1) (.map [] 0) (fun _ => none) (keysM p) SM.empty (keysM_pw p) (fun k => by rw [ek]; simp) hK xF xF xM xM)) ?_
    rintro u g hu
    refine ⟨_, rfl, ?_⟩
    refine ja za <| On ?_
    refine CWp.ret <| Jr ?_
    exact hfin _ xF (fun z hz => by simp (disch := first | omega | simp only [nx]; omega) only [hpl]) u g hu
  | true =>
    rw [f1] at hm
    have ek : keysM p = keysL p.all := by simp [keysM, f1]
    refine Wr <| ja Zx <| ja za <| On ?_
    have jY := An @rcl <| An ty63 <| An ty25 <| ty27
    refine Wr <| ja (so_makeMap) <| ja Jo <| jc Js <| On ?_
    refine W.seq <| Wr <| ja Jl <| jk (Jc en37 (hm _ xF (fun z hz => by simp (disch := first | omega | simp only [nx]; omega) only [hpl]))) rfl <| On ?_
    refine Wy <| Wr <| ja Jl <| jk (Jc en45 (all_c _ p bv dv)) rfl <| On ?_
    refine W.block (CWp.rangeFunc xR (fun l hl => by cases hl) (VWp.func en86 ?_))
    show FWp _ _ [_, _] _ _
    generalize hLP : (ALoop.mk _ _ _ _ _ _ _ _) = LP
    have hbusy : (LP.state == .busy) = false := by rw [← hLP]; rfl
    have hjn : jumpExit LP.pending = some .normal := by rw [← hLP]; rfl
    obtain ⟨os, hos⟩ : ∃ os : AObj → ALoop → List AObj, os = fun o lp => [.cells (lcs p bv dv) 1, o, .cells [.map (some (h.next + 1))] 1, .cells (lcs p bv dv) 1, .loop lp, .cells [bv, dv] 1] := ⟨_, rfl⟩
    have hln : ∀ o lp, (os o lp).length = 6 := fun o lp => by rw [hos]; rfl
    refine FWp.mono (all1_c _ p bv dv _ (h.next + 3) xM (fun pre g => ∃ o, Rw h g (os o LP) ∧ SM o (FK pre)) (fun g => False) ?_ ?_ ?_ hlb hld ?_) ?_
    · refine ⟨.map [] 0, ?_, SM.empty⟩
      rw [hos]
      exact Rw.eq (((((((Rw.nil h).push _ rfl).push (.map [] 0) rfl).push (.cells [.map none] 1) rfl).set 2 _).push _ rfl).push _ rfl |>.push _ rfl) rfl
    · rintro pre g o ⟨o', hr, hs⟩
      exact ⟨o', hr.new o, hs⟩
    · rintro pre g ⟨o', hr, hs⟩
      have hn := hr.next
      rw [hln] at hn
      exact ⟨hb.mono xA hr.old, hd.mono xA hr.old, hr.at_ 5 _ xT⟩
    · rintro pre x post hpx g ⟨o, hr, hs⟩
      have hn := hr.next
      rw [hln] at hn
      have g1 : g.get (h.next + 1) = some o := hr.at_ 1 _ xT
      have g2 : g.get (h.next + 2) = some (.cells [.map (some (h.next + 1))] 1) := hr.at_ 2 _ xT
      have hl := hr.at_ 4 _ xT
      rw [← hLP] at hl
      obtain ⟨o', s', hp⟩ := hs.put x.key (.bool true)
      rw [← FK_snoc] at s'
      refine .inl (VWp.yield hl rfl ?_)
      refine W.reg <| ja Jo <| jc Js <| OSuf.nil <| ?_
      refine ⟨rfl, _, by (simp (disch := first | omega | simp only [nx]; omega) only [hpl]; exact hl), rfl, ?_⟩
      have jY := An @g2 <| An @rcl <| An @Rec.csE <| An ty63 <| ty9
      refine W.block <| W.reg <| ja Jl <| ja J27f0 <| ja Jl <| Oa rfl (so_mapUpdate xB xB xB (hp (by simp (disch := first | omega | simp only [nx]; omega) only [aCells, rowOf, hpl, g2, rcl, Rec.cs, Value.cells, places, tb17] <;> first | rfl | exact g1) ty63 rfl ty9 rfl)) rfl <| OSuf.nil <| BQ.normal <| ?_
      refine ⟨_, by (simp (disch := first | omega | simp only [nx]; omega) only [hpl]; rfl), rfl, o', Rw.eq ((((hr.new _).set 4 _).set 1 _).set 4 _) ?_, s'⟩
      rw [hos, ← hLP]; rfl
    · clear hLP
      rintro _ g ⟨rfl, ⟨o, hr, hs⟩ | hr⟩
      · have hn := hr.next
        rw [hln] at hn
        have g1 : g.get (h.next + 1) = some o := hr.at_ 1 _ xT
        have g2 : g.get (h.next + 2) = some (.cells [.map (some (h.next + 1))] 1) := hr.at_ 2 _ xT
        have hl := hr.at_ 4 _ xT
        refine ⟨LP, .normal, hl, hbusy, hjn, ?_⟩
        refine BQ.normal <| SQ.normal ?_
        have jY := An @g2 <| ty63
        refine Wr <| ja Jl <| jk (Jc en52 (SortS.KB.keys_c _ (h.next + 1))) rfl <| jm (Jc en51 (sk_c _ g.next (h.next + 1) o _ (keysM p) hs (keysM_pw p) (fun k => by rw [ek]; exact FK_keys) hK xF xF xM (by simp (disch := first | omega | simp only [nx]; omega) only [hpl]; exact g1))) ?_
        rintro u g' hu
        refine ⟨_, rfl, ?_⟩
        refine ja za <| On ?_
        refine CWp.ret <| Jr ?_
        exact hfin _ xF (fun z hz => by simp (disch := first | omega | simp only [nx]; omega) only [hpl]; exact hr.old z hz) u g' hu
      · exact hr.elim
end Go.Proofs.YtebheelmgcggmaaGreat
namespace Go.Proofs.YtebheelmgcggmaaGreat
open Go.Ab Go.Sort
theorem reset1_c (h : AHeap) (q : Nat) (e : Int) (x : Rec) (hq : h.get q = some (.cells [U64 e] 1)) (hql : q < h.next) : FWp Tryz.prog 57 [x.V, P0 q] h fun u h' => u = .bool (decide (e < x.lsn)) ∧ h' = h := by
  refine FWp.gcs (.flat rfl) ?_
  refine W.enter tyOK Tryz.func57 rfl rfl ?_
  simp only [entry]
  refine Wr <| ja Zx <| jF za rfl <| On ?_
  have jY := An @hq <| An ty22 <| ty27
  refine Wr <| ja J27f1 <| ja Jl <| ja Jl <| ja Jv <| ja za <| On ?_
  refine CWp.ret <| Jr ?_
  exact ⟨rfl, fun r o hr ho => by simp (disch := first | omega | simp only [nx]; omega) only [hpl]; exact ho⟩
theorem reset_c (h : AHeap) (p : Lf) (bv dv : Value) (e : Int) (hb : RS h p.base bv) (hd : RS h p.deltas dv) (hlb : p.base.length ≤ 1000000) (hld : p.deltas.length ≤ 1000000) :
    ∃ nb nd, (nb = true → (resetM p e).base = []) ∧ (nd = true → (resetM p e).deltas = []) ∧ FWp Tryz.prog 21 [LV p bv dv, U64 e] h fun u g => u = LV (resetM p e) (cval nb h.next (resetM p e).base) (cval nd (h.next + 1) (resetM p e).deltas) ∧ g = hand h (resetM p e) nb nd := by
  obtain ⟨b1, c1, rfl⟩ := hb.form
  obtain ⟨b2, c2, rfl⟩ := hd.form
  have hmay := fun H : AHeap => fun (hn : h.next ≤ H.next) (hk : ∀ z, z < h.next → H.get z = h.get z) => may'_c H p _ _ (hb.mono hn hk) (hd.mono hn hk) hlb hld
  obtain ⟨h3, hh3⟩ : ∃ h3, h3 = ((h.new (LR p (.slice b1 p.base.length c1) (.slice b2 p.deltas.length c2))).new (.cells [U64 e] 1)).new (.cells zlf 1) := ⟨_, rfl⟩
  have e3 : h3.next = h.next + 3 := by rw [hh3]; rfl
  have k3 : ∀ z, z < h.next → h3.get z = h.get z := fun z hz => by rw [hh3]; simp (disch := first | omega | simp only [nx]; omega) only [hpl]
  obtain ⟨bv', dv', H1, m, w, ob, od, hsep, hnil, hm1, hm2, hk⟩ := own_c h3 p _ _ (hb.mono xA k3) (hd.mono xA k3) hlb hld
  rw [e3] at ob hm1 hk
  have q0 : H1.get h.next = some (LR p (.slice b1 p.base.length c1) (.slice b2 p.deltas.length c2)) := by rw [hk _ xA, hh3]; simp (disch := first | omega | simp only [nx]; omega) only [hpl]
  have q1 : H1.get (h.next + 1) = some (.cells [U64 e] 1) := by rw [hk _ xA, hh3]; simp (disch := first | omega | simp only [nx]; omega) only [hpl]
  have q2 : H1.get (h.next + 2) = some (.cells zlf 1) := by rw [hk _ xA, hh3]; simp (disch := first | omega | simp only [nx]; omega) only [hpl]
  have kk : ∀ z, z < h.next → H1.get z = h.get z := fun z hz => by rw [hk z xA]; exact k3 z hz
  obtain ⟨x, fx, gx⟩ := ob.fs
  obtain ⟨y, fy, gy⟩ := od.fs
  obtain ⟨x1, y1, rfl⟩ := ob.form
  obtain ⟨x2, y2, rfl⟩ := od.form
  have hxm : ∀ r, x = some r → r < m := fun r hr => by obtain ⟨n, c, g1⟩ := gx r hr; exact hsep r c n g1
  cases f1 : chk p with
  | false =>
    rw [f1] at hmay
    have eM : resetM p e = p := by simp [resetM, f1]
    rw [eM]
    refine ⟨_, _, fx.empty, fy.empty, gcL (K0 := fun u g => u = LV p (.slice x1 p.base.length y1) (.slice x2 p.deltas.length y2) ∧ H1.next ≤ g.next ∧ ∀ z, z < H1.next → ¬ z = h.next + 2 → g.get z = H1.get z) ?_ ?_⟩
    · refine W.enter tyOK Tryz.func21 rfl rfl ?_
      simp only [entry]
      have jY := ty25
      refine Wr <| ja Zx <| ja Zx <| ja Jo <| On ?_
      have jY := An @q0 <| An @q1 <| An @q2 <| An @rcl <| An ty25 <| ty23
      refine Wr <| ja Jl <| jk (Jc en36 (xX)) rfl <| ja Jo <| jc Js <| On ?_
      refine W.seq <| Wr <| ja Jl <| jk (Jc en37 (hmay _ xF (fun z hz => by simp (disch := first | omega | simp only [nx]; omega) only [hpl]; exact kk z hz))) rfl <| On ?_
      refine Wn <| CWp.skip <| SQ.normal ?_
      refine Wr <| ja Jl <| jc Js <| On ?_
      refine CWp.ret <| Jr ?_
      exact ⟨rfl, by simp only [nx]; omega, fun z h1 h2 => by simp (disch := first | omega | simp only [nx]; omega) only [hpl]⟩
    · rintro u g ⟨rfl, hn, hg⟩
      exact ⟨_, _, x, y, rfl, fx.mono xA hn (fun z h1 h2 => hg z h2 xA), fy.mono xA hn (fun z h1 h2 => hg z h2 xA), fun r hr hr2 => by have := hxm r hr; have := (fy.lo hr2).1; omega, fun z hz => by rw [hg z xA xA]; exact kk z hz⟩
  | true =>
    rw [f1] at hmay
    obtain ⟨KD, hKD⟩ : ∃ KD, KD = p.deltas.filter fun r => decide (r.lsn ≤ e) := ⟨_, rfl⟩
    have eM : resetM p e = { p with deltas := KD } := by rw [resetM, if_pos f1, hKD]
    obtain ⟨H2, hH2⟩ : ∃ H2, H2 = H1.new (LR p (.slice x1 p.base.length y1) (.slice x2 p.deltas.length y2)) := ⟨_, rfl⟩
    have nH2 : H2.next = H1.next + 1 := by rw [hH2]; rfl
    have kH2 : ∀ z, z < H1.next → H2.get z = H1.get z := fun z hz => by rw [hH2]; exact zN xA
    have hdel := del_os H2 m p.deltas (.slice x2 p.deltas.length y2) (.func (.func 57) #[] #[P0 (h.next + 1)]) (fun x => decide (e < x.lsn))
      (fun pre G => H2.next ≤ G.next ∧ ∀ z, z < H2.next → (z < m ∨ H1.next ≤ z) → G.get z = H2.get z) (od.mono xA fun z _ hz => kH2 z hz) hld
      ⟨Nat.le_refl _, fun _ _ _ => rfl⟩
      (fun r n c er pre G o hJ => by
        rw [er] at od
        have := od.row
        exact ⟨hJ.1, fun z hz h9 => by rw [zS xA]; exact hJ.2 z hz h9⟩)
      (fun pre G o hJ => ⟨by have := hJ.1; simp; omega, fun z hz h9 => by have := hJ.1; rw [zN xA]; exact hJ.2 z hz h9⟩)
      (fun pre G hJ => hJ.1)
      (fun pre x post hp G hJ => by
        refine VWp.mono (cl_v en57 (reset1_c G (h.next + 1) e x (by rw [hJ.2 _ xA xA, kH2 _ xA]; exact q1) (by have := hJ.1; omega))) ?_
        rintro u G' ⟨rfl, rfl⟩
        exact ⟨rfl, hJ, fun _ _ _ => rfl⟩)
    have hkeep : (fun x : Rec => !decide (e < x.lsn)) = fun r => decide (r.lsn ≤ e) := by funext x; by_cases c : x.lsn ≤ e <;> simp [c] <;> omega
    rw [hkeep, ← hKD] at hdel
    rw [hH2] at hdel
    have g8 : (H1.new (LR p (.slice x1 p.base.length y1) (.slice x2 p.deltas.length y2))).get H1.next = some (LR p (.slice x1 p.base.length y1) (.slice x2 p.deltas.length y2)) := zQ
    rw [eM]
    refine ⟨_, nilV (.slice x2 p.deltas.length y2), fx.empty, fun hn => ?_, gcL (K0 := fun u g => ∃ dv y, u = LV p (.slice x1 p.base.length y1) dv ∧ FS g m KD (nilV (.slice x2 p.deltas.length y2)) dv y ∧ H1.next ≤ g.next ∧ ∀ z, z < H1.next → z < m → ¬ z = h.next + 2 → g.get z = H1.get z) ?_ ?_⟩
    · have := fy.empty hn
      show KD = []
      rw [hKD, this]; rfl
    · refine W.enter tyOK Tryz.func21 rfl rfl ?_
      simp only [entry]
      have jY := ty25
      refine Wr <| ja Zx <| ja Zx <| ja Jo <| On ?_
      have jY := An @q0 <| An @q1 <| An @rcl <| An ty25 <| ty23
      refine Wr <| ja Jl <| jk (Jc en36 (xX)) rfl <| ja Jo <| jc Js <| On ?_
      refine W.seq <| Wr <| ja Jl <| jk (Jc en37 (hmay _ xF (fun z hz => by simp (disch := first | omega | simp only [nx]; omega) only [hpl]; exact kk z hz))) rfl <| On ?_
      refine Wy <| W.reg <| ja J25f4 <| ja Jl <| ja (so_makeFunc rfl xD xD) <| jm (Jc en53 (hdel)) ?_
      rintro u G ⟨⟨hn3, h83⟩, y', fy', gy'⟩
      obtain ⟨ub, uc, rfl⟩ := fy'.form
      have g8' : G.get H1.next = some (LR p (.slice x1 p.base.length y1) (.slice x2 p.deltas.length y2)) := (by rw [h83 _ xI (.inr (Nat.le_refl _))]; exact g8)
      have q2' : G.get (h.next + 2) = some (.cells zlf 1) := (by rw [h83 _ xF (.inl xA), zN xA]; exact q2)
      simp only [nx] at hn3 h83
      refine ⟨_, rfl, ?_⟩
      have jY := An @q0 <| An @q1 <| An @rcl <| An @g8' <| An @q2' <| An ty23 <| ty25
      refine ja J25f4 <| jc Js <| On ?_
      refine Wr <| ja Jl <| jc Js <| On ?_
      refine CWp.ret <| Jr ?_
      have hy' : ∀ r, y' = some r → r < H1.next := fun r hr => by
        obtain ⟨n, c, er⟩ := gy' r hr
        rw [er] at od
        exact od.row.2
      refine ⟨_, y', rfl, fy'.keep (Nat.le_refl _) xI (fun r hr hr2 => ?_), by simp only [nx]; omega, fun z h1 h2 h3 => ?_⟩
      · have h1 := hy' r hr
        have h2 := (fy'.lo hr).1
        simp (disch := first | omega | simp only [nx]; omega) only [hpl]
      · simp (disch := first | omega | simp only [nx]; omega) only [hpl]; rw [h83 z xA (.inl h2)]; simp (disch := first | omega | simp only [nx]; omega) only [hpl]
    · rintro u g ⟨dv, y', rfl, fy', hn, hg⟩
      refine ⟨_, _, x, y', rfl, fx.keep xA hn (fun r hr hr2 => hg r hr2 (hxm r hr) (by have := (fx.lo hr).1; omega)), fy'.keep xA (Nat.le_refl _) (fun r hr _ => rfl), fun r hr hr2 => by have := hxm r hr; have := (fy'.lo hr2).1; omega, fun z hz => by rw [hg z xA xA xA]; exact kk z hz⟩
end Go.Proofs.YtebheelmgcggmaaGreat
