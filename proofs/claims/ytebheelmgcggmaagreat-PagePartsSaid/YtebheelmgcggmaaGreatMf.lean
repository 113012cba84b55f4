/-
  Merged: PgI, PgJ, PgK, PgL.
-/
import Derived.Test.YtebheelmgcggmaaGreatMe
import Derived.Test.YtebheelmgcggmaaGreatMb
import Derived.Test.YtebheelmgcggmaaGreatMa
set_option linter.unusedSimpArgs false
set_option linter.unusedVariables false
set_option maxRecDepth 10000
set_option maxHeartbeats 8000000
namespace Go.Proofs.YtebheelmgcggmaaGreat
open Go.Ab Go.Sort
theorem Ext.rename {μ μ' : Emb} {h h' H : AHeap} {w w' : World} (x : Ext μ h w μ' h' w') (ρ : Nat → Nat) (hn : h.next ≤ H.next) (hρ : ∀ r, r < h.next → ρ r = r)
    (hget : ∀ r o, H.get r = some o → r < H.next ∧ ∃ o', h'.get (ρ r) = some o' ∧ o'.own = o.own ∧ ∀ e c, ORel μ' h'.next e c o' → ORel (fun r => μ' (ρ r)) H.next e c o)
    (hinj : ∀ r q o p, H.get r = some o → H.get q = some p → ρ r = ρ q → r = q) : Ext μ h w (fun r => μ' (ρ r)) H w' := by
  refine ⟨hn, fun r hr => ?_, x.size, x.os, x.output, fun b hb hf => ⟨(x.frame b hb hf).1, fun r o e hr ho hm => ?_⟩, fun b hb hf r o e hr hm => ?_, ⟨fun r o hr => ?_, fun r q o p e f hr ho hq hm hm' hbb => ?_⟩⟩
  · show μ' (ρ r) = μ r
    rw [hρ r hr]; exact x.agree r hr
  · obtain ⟨_, o', h1, h2, _⟩ := hget r o hr
    exact (x.frame b hb hf).2 (ρ r) o' e h1 (by rw [h2]; exact ho) hm
  · obtain ⟨_, o', h1, h2, _⟩ := hget r o hr
    exact x.free b hb hf (ρ r) o' e h1 hm
  · obtain ⟨h0, o', h1, h2, h3⟩ := hget r o hr
    obtain ⟨_, e, c, g1, g2, g3⟩ := x.st.live (ρ r) o' h1
    exact ⟨h0, e, c, g1, g2, h3 e c g3⟩
  · obtain ⟨_, o', h1, h2, _⟩ := hget r o hr
    obtain ⟨_, p', h1', h2', _⟩ := hget q p hq
    exact hinj r q o p hr hq (x.st.apart (ρ r) (ρ q) o' p' e f h1 (by rw [h2]; exact ho) h1' hm hm' hbb)
inductive FS (h : AHeap) (lo : Nat) (l : List Rec) : Bool → Value → Option Nat → Prop
  | nil (e : l = []) : FS h lo l true (.slice none 0 0) none
  | some {r n c : Nat} {rest : List Value} (hn : n = l.length) (h1 : lo ≤ r) (h2 : r < h.next) (h3 : h.get r = Option.some (.cells (fl l ++ rest) 4)) (h4 : c = 0 ∨ (n = 0 ∧ c = 1)) : FS h lo l false (.slice (Option.some ⟨r, 0, none⟩) n c) (Option.some r)
def cval (nil : Bool) (r : Nat) (l : List Rec) : Value := bif nil then .slice none 0 0 else .slice (some ⟨r, 0, none⟩) l.length 0
def cadd (nil : Bool) (h : AHeap) (l : List Rec) : AHeap := bif nil then ⟨h.next + 1, h.rows⟩ else h.new (.cells (fl l) 4)
theorem cadd_next (nil : Bool) (h : AHeap) (l : List Rec) : (cadd nil h l).next = h.next + 1 := by cases nil <;> rfl
theorem cadd_get (nil : Bool) (h : AHeap) (l : List Rec) (z : Nat) (hz : ¬ z = h.next) : (cadd nil h l).get z = h.get z := by
  cases nil
  · exact Gn (fun e => hz e.symm)
  · rfl
def hand (h : AHeap) (p : Lf) (nb nd : Bool) : AHeap := cadd nd (cadd nb h p.base) p.deltas
theorem hand_next (h : AHeap) (p : Lf) (nb nd : Bool) : (hand h p nb nd).next = h.next + 2 := by simp only [hand, cadd_next]
theorem hand_old (h : AHeap) (p : Lf) (nb nd : Bool) (z : Nat) (hz : z < h.next) : (hand h p nb nd).get z = h.get z := by
  rw [hand, cadd_get _ _ _ _ (by rw [cadd_next]; omega), cadd_get _ _ _ _ (by omega)]
theorem cval_rs {nil : Bool} {h : AHeap} {r : Nat} {l : List Rec} (hn : nil = true → l = []) (hr : r < h.next) (hg : nil = false → h.get r = some (.cells (fl l) 4)) : RS h l (cval nil r l) := by
  cases nil
  · exact ⟨_, _, rfl, .inr ⟨_, _, rfl, fun _ => ⟨hr, _, by simp only [rowOf, hg rfl], cellsOf_all (fl_length l)⟩⟩⟩
  · rw [hn rfl]; exact ⟨_, _, rfl, .inl ⟨rfl, rfl, rfl⟩⟩
theorem hand_rs {h : AHeap} {p : Lf} {nb nd : Bool} (h1 : nb = true → p.base = []) (h2 : nd = true → p.deltas = []) :
    RS (hand h p nb nd) p.base (cval nb h.next p.base) ∧ RS (hand h p nb nd) p.deltas (cval nd (h.next + 1) p.deltas) := by
  refine ⟨cval_rs h1 (by rw [hand_next]; omega) fun e => ?_, cval_rs h2 (by rw [hand_next]; omega) fun e => ?_⟩
  · subst e
    rw [hand, cadd_get _ _ _ _ (by rw [cadd_next]; omega)]
    exact Gq
  · subst e
    rw [hand, ← cadd_next nb h p.base]
    exact Gq
theorem hand_rsl {h : AHeap} {p : Lf} {nb nd : Bool} (h1 : nb = true → p.base = []) (h2 : nd = true → p.deltas = []) :
    RSl (hand h p nb nd) h.next p.base (cval nb h.next p.base) ∧ RSl (hand h p nb nd) h.next p.deltas (cval nd (h.next + 1) p.deltas) := by
  obtain ⟨r1, r2⟩ := hand_rs (h := h) h1 h2
  refine ⟨⟨r1, fun a n c e => ?_⟩, ⟨r2, fun a n c e => ?_⟩⟩
  · cases nb
    · cases e; exact Nat.le_refl _
    · cases e
  · cases nd
    · cases e; exact Nat.le_succ _
    · cases e
theorem bo_fl {n : Nat} (l : List Rec) (rest : List Value) {μ μ' : Emb} {m : Nat} {e : Ent} {c : Obj} (h : ORel μ m e c (.cells (fl l ++ rest) 4)) : ORel μ' n e c (.cells (fl l) 4) := by
  obtain ⟨h1, cs, t, fz, k1, k2, k3, k4, k5⟩ := h
  refine ⟨h1, cs, t, fz, k1, by simp at k2; omega, k3, k4, fun i v hv => ?_⟩
  obtain ⟨v', g1, g2⟩ := k5 i v (by rw [List.getElem?_append_left (List.getElem?_eq_some_iff.1 hv).1]; exact hv)
  refine ⟨v', g1, ?_⟩
  have hf : Ab.flat v = true := by
    have hm := List.mem_of_getElem? hv
    simp only [fl, List.mem_flatten, List.mem_map] at hm
    obtain ⟨_, ⟨x, _, rfl⟩, hm⟩ := hm
    simp only [Rec.cs, List.mem_cons, List.not_mem_nil, or_false] at hm
    rcases hm with rfl | rfl | rfl | rfl <;> rfl
  rw [g2.flat_eq hf]; exact .of_flat _ _ hf
theorem vr_cval {h' : AHeap} {lo : Nat} {l : List Rec} {nil : Bool} {v : Value} {x : Option Nat} (s : FS h' lo l nil v x) {μ' : Emb} {m n : Nat} {ρ : Nat → Nat} {a : Nat} (ha : a < n) (hρ : ∀ r, x = some r → ρ a = r) {w : Value} (hv : VRel μ' m v w) : VRel (fun r => μ' (ρ r)) n (cval nil a l) w := by
  cases s with
  | nil e => cases hv; exact .slice0
  | @some r k c rest hn h1 h2 h3 h4 =>
    subst hn
    have e := hρ r rfl
    rcases h4 with rfl | ⟨h4, rfl⟩
    · show VRel _ n (.slice (some ⟨a, 0, none⟩) l.length 0) w
      generalize l.length = k at hv ⊢
      cases hv with
      | sliceU h1 h2 h3 h4 => exact .sliceU (μ := fun r => μ' (ρ r)) ha (by show μ' (ρ a) = _; rw [e]; exact h2) h3 h4
      | sliceZ h1 h2 => exact .sliceZ (μ := fun r => μ' (ρ r)) ha (by show μ' (ρ a) = _; rw [e]; exact h2)
    · show VRel _ n (.slice (some ⟨a, 0, none⟩) l.length 0) w
      rw [h4] at hv ⊢
      cases hv with
      | sliceK h1 h2 => exact .sliceU (μ := fun r => μ' (ρ r)) ha (by show μ' (ρ a) = _; rw [e]; exact h2) (Nat.le_refl _) (by omega)
      | sliceKZ h1 h2 => exact .sliceZ (μ := fun r => μ' (ρ r)) ha (by show μ' (ρ a) = _; rw [e]; exact h2)
theorem gcL {f : FuncId} {args : List Value} {h : AHeap} {p' : Lf} {nb nd : Bool} {K0 : Value → AHeap → Prop} (hf : FWp Tryz.prog f args h K0)
    (hk : ∀ u h', K0 u h' → ∃ bv dv x y, u = LV p' bv dv ∧ FS h' h.next p'.base nb bv x ∧ FS h' h.next p'.deltas nd dv y ∧ (∀ r, x = some r → y ≠ some r) ∧ ∀ z, z < h.next → h'.get z = h.get z) :
    FWp Tryz.prog f args h fun u g => u = LV p' (cval nb h.next p'.base) (cval nd (h.next + 1) p'.deltas) ∧ g = hand h p' nb nd := by
  intro μ args' w hl st
  refine (hf μ args' w hl st).mono ?_
  rintro e w' ⟨u, v', h', μ', rfl, hK, ex, hr⟩
  obtain ⟨bv, dv, x, y, rfl, s1, s2, hxy, hold⟩ := hk u h' hK
  obtain ⟨ρ, hρ⟩ : ∃ ρ : Nat → Nat, ρ = fun r => if r = h.next then x.getD h'.next else if r = h.next + 1 then y.getD (h'.next + 1) else r := ⟨_, rfl⟩
  have r0 : ∀ r, r < h.next → ρ r = r := fun r hr => by rw [hρ]; simp only; rw [if_neg (by omega), if_neg (by omega)]
  have r1 : ∀ r, x = some r → ρ h.next = r := fun r e => by rw [hρ, e]; simp
  have r2 : ∀ r, y = some r → ρ (h.next + 1) = r := fun r e => by rw [hρ, e]; simp
  have ag : Agree h.next μ' (fun r => μ' (ρ r)) := fun r hr => by show μ' (ρ r) = μ' r; rw [r0 r hr]
  have g0 : ∀ r o, (hand h p' nb nd).get r = some o → (r < h.next ∧ h.get r = some o) ∨ (r = h.next ∧ nb = false ∧ o = .cells (fl p'.base) 4) ∨ (r = h.next + 1 ∧ nd = false ∧ o = .cells (fl p'.deltas) 4) := fun r o ho => by
    have live := fun r o (hg : h.get r = some o) => (st.live r o hg).1
    have hb : ∀ r o, (cadd nb h p'.base).get r = some o → (r < h.next ∧ h.get r = some o) ∨ (r = h.next ∧ nb = false ∧ o = .cells (fl p'.base) 4) := fun r o ho => by
      cases nb with
      | true => exact .inl ⟨live r o ho, ho⟩
      | false =>
        have ho : (h.new (.cells (fl p'.base) 4)).get r = some o := ho
        rw [AHeap.get_new] at ho
        split at ho
        · cases ho; exact .inr ⟨by omega, rfl, rfl⟩
        · exact .inl ⟨live r o ho, ho⟩
    cases nd with
    | true => exact (hb r o ho).imp id .inl
    | false =>
      have ho : ((cadd nb h p'.base).new (.cells (fl p'.deltas) 4)).get r = some o := ho
      rw [AHeap.get_new, cadd_next] at ho
      split at ho
      · cases ho; exact .inr (.inr ⟨by omega, rfl, rfl⟩)
      · exact (hb r o ho).imp id .inl
  have xs : nb = false → ∃ r rest, x = some r ∧ h.next ≤ r ∧ h'.get r = some (.cells (fl p'.base ++ rest) 4) := fun e => by
    subst e; cases s1 with | some hn k1 k2 k3 k4 => exact ⟨_, _, rfl, k1, k3⟩
  have ys : nd = false → ∃ r rest, y = some r ∧ h.next ≤ r ∧ h'.get r = some (.cells (fl p'.deltas ++ rest) 4) := fun e => by
    subst e; cases s2 with | some hn k1 k2 k3 k4 => exact ⟨_, _, rfl, k1, k3⟩
  refine ⟨_, v', hand h p' nb nd, fun r => μ' (ρ r), rfl, ⟨rfl, rfl⟩, Ext.rename ex ρ (by rw [hand_next]; omega) r0 (fun r o ho => ?_) (fun r q o p hr hq hh => ?_), ?_⟩
  · rcases g0 r o ho with ⟨k1, k2⟩ | ⟨rfl, k1, rfl⟩ | ⟨rfl, k1, rfl⟩
    · obtain ⟨_, e0, c0, i1, i2, i3⟩ := st.live r o k2
      exact ⟨by rw [hand_next]; omega, o, by rw [r0 r k1, hold r k1]; exact k2, rfl, fun e c g => (g.narrow i3.below).mono ag (by rw [hand_next]; omega)⟩
    · obtain ⟨q, rest, i1, i2, i3⟩ := xs k1
      exact ⟨by rw [hand_next]; omega, .cells (fl p'.base ++ rest) 4, by rw [r1 q i1]; exact i3, rfl, fun e c g => bo_fl _ _ g⟩
    · obtain ⟨q, rest, i1, i2, i3⟩ := ys k1
      exact ⟨by rw [hand_next]; omega, .cells (fl p'.deltas ++ rest) 4, by rw [r2 q i1]; exact i3, rfl, fun e c g => bo_fl _ _ g⟩
  · rcases g0 r o hr with ⟨k1, k2⟩ | ⟨rfl, k1, rfl⟩ | ⟨rfl, k1, rfl⟩ <;> rcases g0 q p hq with ⟨l1, l2⟩ | ⟨rfl, l1, rfl⟩ | ⟨rfl, l1, rfl⟩
    · rw [r0 r k1, r0 q l1] at hh; exact hh
    · obtain ⟨z, rest, i1, i2, i3⟩ := xs l1
      rw [r0 r k1, r1 z i1] at hh; omega
    · obtain ⟨z, rest, i1, i2, i3⟩ := ys l1
      rw [r0 r k1, r2 z i1] at hh; omega
    · obtain ⟨z, rest, i1, i2, i3⟩ := xs k1
      rw [r0 q l1, r1 z i1] at hh; omega
    · rfl
    · obtain ⟨z, rest, i1, i2, i3⟩ := xs k1
      obtain ⟨z', rest', i1', i2', i3'⟩ := ys l1
      rw [r1 z i1, r2 z' i1'] at hh
      exact (hxy z i1 (by rw [i1', hh])).elim
    · obtain ⟨z, rest, i1, i2, i3⟩ := ys k1
      rw [r0 q l1, r2 z i1] at hh; omega
    · obtain ⟨z, rest, i1, i2, i3⟩ := xs l1
      obtain ⟨z', rest', i1', i2', i3'⟩ := ys k1
      rw [r1 z i1, r2 z' i1'] at hh
      exact (hxy z i1 (by rw [i1', hh])).elim
    · rfl
  · cases hr with
    | @agg _ a' hr =>
      obtain ⟨l, hl⟩ : ∃ l, a'.toList = l := ⟨_, rfl⟩
      rw [hl] at hr
      refine .agg ?_
      rw [hl]
      cases hr with | cons a1 hr =>
      cases hr with | cons a2 hr =>
      cases hr with | cons a3 hr =>
      cases hr with | cons a4 hr =>
      cases hr with | cons a5 hr =>
      cases hr
      cases a1; cases a2; cases a3
      exact .cons (.string _) (.cons (.string _) (.cons (.int _ _) (.cons (vr_cval s1 (by rw [hand_next]; omega) r1 a4) (.cons (vr_cval s2 (by rw [hand_next]; omega) r2 a5) .nil))))
theorem OS.fs {h : AHeap} {lo : Nat} {l : List Rec} {v : Value} (s : OS h lo l v) : ∃ x, FS h lo l (nilV v) v x ∧ ∀ r, x = Option.some r → ∃ n c, v = .slice (Option.some ⟨r, 0, none⟩) n c := by
  cases s with
  | nil e => exact ⟨none, .nil e, fun r h => by cases h⟩
  | @emp r e h1 h2 h3 => subst e; exact ⟨Option.some r, .some (rest := []) rfl h1 h2 h3 (.inr ⟨rfl, rfl⟩), fun q h => by cases h; exact ⟨_, _, rfl⟩⟩
  | @some r n e hn h1 h2 h3 => exact ⟨Option.some r, .some (rest := []) hn h1 h2 (by rw [List.append_nil]; exact h3) (.inl rfl), fun q h => by cases h; exact ⟨_, _, rfl⟩⟩
end Go.Proofs.YtebheelmgcggmaaGreat
namespace Go.Proofs.YtebheelmgcggmaaGreat
open Go.Ab Go.Sort
structure SM (o : AObj) (F : List UInt8 → Option Value) : Prop where
  ex : ∃ B clk, o = .map (mkK encS B) clk ∧ (∀ x ∈ B, x.2.2 < clk) ∧ (B.map (·.2.2)).Nodup ∧ (B.map (·.1)).Nodup ∧ ∀ k, F k = (idxK k B 0).map (·.2)
def updF (F : List UInt8 → Option Value) (k : List UInt8) (v : Value) : List UInt8 → Option Value := fun k' => if k' = k then some v else F k'
theorem SM.empty : SM (.map [] 0) fun _ => none := ⟨[], 0, rfl, by simp, by simp, by simp, fun k => rfl⟩
theorem idx_iff {B : List (List UInt8 × Value × Nat)} {k : List UInt8} {i : Nat} : (∃ j v, idxK k B i = some (j, v)) ↔ k ∈ B.map (·.1) := by
  constructor
  · rintro ⟨j, v, h⟩
    obtain ⟨m, b, _, hm⟩ := idxK_some h
    exact List.mem_map.2 ⟨_, List.mem_of_getElem? hm, rfl⟩
  · intro h
    cases hi : idxK k B i with
    | none =>
      obtain ⟨x, hx, rfl⟩ := List.mem_map.1 h
      exact (idxK_none' hi x hx rfl).elim
    | some jv => exact ⟨jv.1, jv.2, rfl⟩
theorem idx_app {B : List (List UInt8 × Value × Nat)} {k : List UInt8} {v : Value} {c : Nat} (hk : idxK k B 0 = none) (k' : List UInt8) : ∀ i, (idxK k' (B ++ [(k, v, c)]) i).map (·.2) = if k' = k then some v else (idxK k' B i).map (·.2) := by
  have hn := idxK_none' hk
  clear hk
  induction B with
  | nil => intro i; simp only [List.nil_append, idxK]; by_cases e : k' = k <;> simp [e]
  | cons x B ih =>
    intro i
    simp only [List.cons_append, idxK]
    by_cases e : k' = x.1
    · have : ¬ k' = k := fun e2 => hn x List.mem_cons_self (by rw [← e2, e])
      simp [e, this]
      exact fun e3 => (this (e.trans e3)).elim
    · simp only [decide_eq_false e, cond_false]
      exact ih (fun y hy => hn y (List.mem_cons_of_mem _ hy)) (i + 1)
theorem idx_set {B : List (List UInt8 × Value × Nat)} {k : List UInt8} {v : Value} : ∀ {j b : Nat} {u : Value} (k' : List UInt8) (i : Nat), (B.map (·.1)).Nodup → B[j]? = some (k, u, b) → (idxK k' (B.set j (k, v, b)) i).map (·.2) = if k' = k then some v else (idxK k' B i).map (·.2) := by
  induction B with
  | nil => intro j b u k' i _ h; simp at h
  | cons x B ih =>
    intro j b u k' i hn hj
    simp only [List.map_cons, List.nodup_cons] at hn
    cases j with
    | zero =>
      simp at hj; subst hj
      simp only [List.set_cons_zero, idxK]
      by_cases e : k' = k <;> simp [e]
    | succ j =>
      simp only [List.getElem?_cons_succ] at hj
      simp only [List.set_cons_succ, idxK]
      by_cases e : k' = x.1
      · have : ¬ k' = k := fun e2 => hn.1 (List.mem_map.2 ⟨_, List.mem_of_getElem? hj, by rw [← e, e2]⟩)
        simp [e, this]
        exact fun e3 => (this (e.trans e3)).elim
      · simp only [decide_eq_false e, cond_false]
        exact ih k' (i + 1) hn.2 hj
theorem set_same {α : Type} {l : List α} {j : Nat} {b : α} (h : l[j]? = some b) : l.set j b = l := by
  obtain ⟨hj, e⟩ := List.getElem?_eq_some_iff.1 h
  rw [← e, List.set_getElem_self]
theorem SM.put {o : AObj} {F : List UInt8 → Option Value} (s : SM o F) (k : List UInt8) (v : Value) : ∃ o', SM o' (updF F k v) ∧ ∀ {G : AHeap} {m : Nat}, G.get m = some o → ∀ {t kt et : TypeId} {ti ki : TI}, T.get t = some ti → ti.und = .map kt et → T.get kt = some ki → ki.und = .string →
    aMapUpdate Tryz.prog T t (.map (some m)) (encS k) v G = some (G.set m o') := by
  obtain ⟨B, clk, rfl, h1, h2, h3, h4⟩ := s.ex
  cases hi : idxK k B 0 with
  | none =>
    have hn := idxK_none' hi
    refine ⟨.map (mkK encS (B ++ [(k, v, clk)])) (clk + 1), ⟨_, _, rfl, fun x hx => ?_, ?_, ?_, fun k' => ?_⟩, fun {G m} hg {t kt et ti ki} ht hu hk hku => ku_new (key_str tyOK hk hku) ht hu hg hi⟩
    · rcases List.mem_append.1 hx with hx | hx
      · have := h1 x hx; omega
      · rw [List.mem_singleton.1 hx]; simp
    · rw [List.map_append]
      refine List.nodup_append.2 ⟨h2, by simp, fun a ha b hb => ?_⟩
      obtain ⟨x, hx, rfl⟩ := List.mem_map.1 ha
      simp at hb; subst hb
      have := h1 x hx; omega
    · rw [List.map_append]
      refine List.nodup_append.2 ⟨h3, by simp, fun a ha b hb => ?_⟩
      obtain ⟨x, hx, rfl⟩ := List.mem_map.1 ha
      simp at hb; subst hb
      exact fun e => hn x hx e.symm
    · rw [idx_app hi k' 0, updF, h4 k']
  | some jv =>
    obtain ⟨j, u⟩ := jv
    obtain ⟨q, b, hq, hj⟩ := idxK_some hi
    rw [Nat.zero_add] at hq
    subst hq
    refine ⟨.map (mkK encS (B.set j (k, v, b))) clk, ⟨_, _, rfl, fun x hx => ?_, ?_, ?_, fun k' => ?_⟩, fun {G m} hg {t kt et ti ki} ht hu hk hku => ku_old (key_str tyOK hk hku) ht hu hg hi hj⟩
    · rcases List.mem_or_eq_of_mem_set hx with hx | rfl
      · exact h1 x hx
      · have := h1 _ (List.mem_of_getElem? hj); exact this
    · rw [List.map_set]
      have : (B.map (·.2.2)).set j b = B.map (·.2.2) := by
        exact set_same (by simp [hj])
      rw [this]; exact h2
    · rw [List.map_set]
      have : (B.map (·.1)).set j k = B.map (·.1) := by
        exact set_same (by simp [hj])
      rw [this]; exact h3
    · rw [idx_set k' 0 h3 hj, updF, h4 k']
theorem SM.keys {o : AObj} {F : List UInt8 → Option Value} (s : SM o F) {ks : List (List UInt8)} (hs : ks.Pairwise fun a b => ltStr a b = true) (hm : ∀ k, k ∈ ks ↔ ∃ v, F k = some v) : ∃ B clk, o = .map (mkK encS B) clk ∧ (∀ x ∈ B, x.2.2 < clk) ∧ (∀ x ∈ B, ∀ y ∈ B, x.2.2 = y.2.2 → x = y) ∧ B.Nodup ∧ ks.Perm (B.map (·.1)) := by
  obtain ⟨B, clk, rfl, h1, h2, h3, h4⟩ := s.ex
  refine ⟨B, clk, rfl, h1, fun x hx y hy e => ?_, ?_, ?_⟩
  · obtain ⟨i, hi⟩ := List.getElem?_of_mem hx
    obtain ⟨j, hj⟩ := List.getElem?_of_mem hy
    have := (List.getElem?_inj (l := B.map (·.2.2)) (i := i) (j := j) (by simpa using (List.getElem?_eq_some_iff.1 hi).1) h2).1 (by simp [hi, hj, e])
    subst this
    rw [hi] at hj; cases hj; rfl
  · exact List.Pairwise.of_map (·.1) (fun a b h e => h (by rw [e])) h3
  · refine (List.perm_ext_iff_of_nodup (pw_nodup (fun x hx => by rw [swo_ltStr.irrefl] at hx; cases hx) hs) h3).2 fun k => ?_
    rw [hm k, h4 k, ← idx_iff (i := 0)]
    constructor
    · rintro ⟨v, hv⟩
      cases hi : idxK k B 0 with
      | none => rw [hi] at hv; cases hv
      | some jv => exact ⟨_, _, rfl⟩
    · rintro ⟨j, v, hi⟩; exact ⟨v, by rw [hi]; rfl⟩
def FR (R : List Rec) (k : List UInt8) : Option Value := (R.find? fun y => decide (y.key = k)).map Rec.V
end Go.Proofs.YtebheelmgcggmaaGreat
namespace Go.Proofs.YtebheelmgcggmaaGreat
open Go.Ab Go.Sort
theorem Rw.change {h g g' : AHeap} {os : List AObj} (r : Rw h g os) (i : Nat) (o : AObj) (hi : i < os.length) (hn : g.next ≤ g'.next) (hk : ∀ z, z < g.next → ¬ z = h.next + i → g'.get z = g.get z) (ho : g'.get (h.next + i) = some o) : Rw h g' (os.set i o) := by
  have := r.next
  refine ⟨by simp; omega, fun j x hx => ?_, fun z hz => by rw [hk z (by omega) (by omega)]; exact r.old z hz⟩
  by_cases e : j = i
  · subst e
    rw [List.getElem?_set_self hi] at hx
    cases hx; exact ho
  · rw [List.getElem?_set_ne (by omega)] at hx
    have := (List.getElem?_eq_some_iff.1 hx).1
    rw [hk _ (by omega) (by omega)]; exact r.at_ j x hx
theorem del_os (h : AHeap) (lo : Nat) (l : List Rec) (v fv : Value) (P : Rec → Bool) (J : List Rec → AHeap → Prop) (s : OS h lo l v) (hl : l.length ≤ 1000000) (j0 : J [] h)
    (jset : ∀ r n c, v = .slice (some ⟨r, 0, none⟩) n c → ∀ pre g o, J pre g → J pre (g.set r o)) (jnew : ∀ pre g o, J pre g → J pre (g.new o)) (jn : ∀ pre g, J pre g → h.next ≤ g.next)
    (ask : ∀ pre x post, pre ++ x :: post = l → ∀ g, J pre g → VWp Tryz.prog fv [x.V] g fun u g' => u = .bool (P x) ∧ J (pre ++ [x]) g' ∧ ∀ z, lo ≤ z → z < g.next → g'.get z = g.get z) :
    FWp Tryz.prog 53 [v, fv] h fun u g => J l g ∧ ∃ x, FS g lo (l.filter fun x => !P x) (nilV v) u x ∧ ∀ r, x = some r → ∃ n c, v = .slice (some ⟨r, 0, none⟩) n c := by
  by_cases hne : l = []
  · subst hne
    obtain ⟨x, hx, hx2⟩ := s.fs
    have hix := ixf_c h [] v fv P (fun pre g => pre = [] ∧ g = h) ⟨rfl, rfl⟩ (fun pre g hg => by rw [hg.2]; exact s.rs) hl (fun pre x post hp => by simp at hp)
    refine W.enter tyOK Tryz.func53 rfl rfl ?_
    simp only [entry]
    refine Wr <| Oa rfl za rfl <| On ?_
    refine Wr <| Oa rfl sm rfl <| Oa rfl sm rfl <| OSuf.call rfl (by simp only [aopnds, lk] <;> rfl) en90 (hix) ?_
    rintro u g hu
    obtain ⟨rfl, rfl⟩ : u = I64 (-1) ∧ g = h := by (rcases hu with ⟨a, b, _⟩ | ⟨pre, x, post, e, _⟩; exact ⟨a, b.2⟩; simp at e)
    refine ⟨_, rfl, ?_⟩
    refine Oa rfl za rfl <| On ?_
    refine W.seq <| ?_
    skip
    refine Wr <| Oa rfl sm rfl <| Otb rfl (zb (hv := bi_eql)) rfl <| On ?_
    refine Wy <| Wr <| Oa rfl sm rfl <| Oa rfl za rfl <| On ?_
    refine CWp.ret <| SQ.ret <| FQ.ret (by simp only [aRet, Tryz.f53, aResults, aResult, lk, Nat.reduceEqDiff, reduceIte] <;> rfl) ?_
    exact ⟨j0, x, hx, hx2⟩
  · cases s with
    | nil e => exact (hne e).elim
    | emp e _ _ _ => exact (hne e).elim
    | @some r n e hn h1 h2 h3 =>
      subst hn
      have hd := del_c h r l fv P (fun pre g => J pre g) hne hl h2 h3 j0 (jset r _ _ rfl) jnew jn (fun pre x post hp g hj => (ask pre x post hp g hj).mono fun u g' hu => ⟨hu.1, hu.2.1, hu.2.2 r h1 (by have := jn _ _ hj; omega), fun z hz1 hz2 => hu.2.2 z (by omega) hz2⟩)
      refine hd.mono ?_
      rintro u g ⟨rfl, hj, rest, hr⟩
      have := jn _ _ hj
      exact ⟨hj, some r, .some rfl h1 (by omega) hr (.inl rfl), fun q hq => by cases hq; exact ⟨_, _, rfl⟩⟩
theorem fits_of {p : Lf} (hc : chk p = true) : (∀ x ∈ p.all, fit p.low p.high x = true) ∧ (p.base.Pairwise fun a b => ltK a b = true) ∧ (p.deltas.Pairwise fun a b => ltL a b = true) ∧ p.base.length ≤ 64 ∧ p.deltas.length ≤ 64 := by
  simp only [chk, Bool.and_eq_true, decide_eq_true_eq, List.all_eq_true] at hc
  exact ⟨hc.2.1, risB_pw ltK_trans hc.2.2.1, risB_pw ltL_trans hc.2.2.2, hc.1.2.2.2.2.1, hc.1.2.2.2.2.2⟩
theorem FS.mono {h h' : AHeap} {lo lo' : Nat} {l : List Rec} {b : Bool} {v : Value} {x : Option Nat} (s : FS h lo l b v x) (hl : lo' ≤ lo) (hn : h.next ≤ h'.next) (hk : ∀ z, lo ≤ z → z < h.next → h'.get z = h.get z) : FS h' lo' l b v x := by
  cases s with
  | nil e => exact .nil e
  | some h1 h2 h3 h4 h5 => exact .some h1 (by omega) (by omega) (by rw [hk _ h2 h3]; exact h4) h5
theorem FS.keep {h h' : AHeap} {lo lo' : Nat} {l : List Rec} {b : Bool} {v : Value} {x : Option Nat} (s : FS h lo l b v x) (hl : lo' ≤ lo) (hn : h.next ≤ h'.next) (hk : ∀ r, x = Option.some r → r < h.next → h'.get r = h.get r) : FS h' lo' l b v x := by
  cases s with
  | nil e => exact .nil e
  | some h1 h2 h3 h4 h5 => exact .some h1 (by omega) (by omega) (by rw [hk _ rfl h3]; exact h4) h5
theorem FS.lo {h : AHeap} {lo : Nat} {l : List Rec} {b : Bool} {v : Value} {x : Option Nat} (s : FS h lo l b v x) {r : Nat} (hr : x = Option.some r) : lo ≤ r ∧ r < h.next := by
  cases s with
  | nil e => cases hr
  | some h1 h2 h3 h4 h5 => cases hr; exact ⟨h2, h3⟩
theorem FS.empty {h : AHeap} {lo : Nat} {l : List Rec} {b : Bool} {v : Value} {x : Option Nat} (s : FS h lo l b v x) : b = true → l = [] := by
  cases s with
  | nil e => exact fun _ => e
  | some => intro h; cases h
theorem FS.form {h : AHeap} {lo : Nat} {l : List Rec} {b : Bool} {v : Value} {x : Option Nat} (s : FS h lo l b v x) : ∃ b c, v = .slice b l.length c := by
  cases s with
  | nil e => subst e; exact ⟨_, _, rfl⟩
  | some h1 => subst h1; exact ⟨_, _, rfl⟩
def intoAll (e : Int) (ds b : List Rec) : List Rec := (ds.filter fun r => decide (r.lsn ≤ e)).foldl (fun b r => into r b) b
abbrev zlf : List Value := [.string ⟨#[]⟩, .string ⟨#[]⟩, U64 0, .slice none 0 0, .slice none 0 0]
abbrev LR (p : Lf) (bv dv : Value) : AObj := .cells (lcs p bv dv) 1
structure FJ (h g : AHeap) (p : Lf) (bv dv : Value) (e : Int) (R : List Rec) : Prop where
  ex : ∃ o, Rw h g [LR p bv dv, .cells [U64 e] 1, .cells zlf 1, o, .cells [.map (some (h.next + 3))] 1] ∧ SM o (FR R)
theorem FJ.new {h g : AHeap} {p : Lf} {bv dv : Value} {e : Int} {R : List Rec} (f : FJ h g p bv dv e R) (o : AObj) : FJ h (g.new o) p bv dv e R := let ⟨o', r, s⟩ := f.ex; ⟨o', r.new o, s⟩
theorem FJ.far {h g : AHeap} {p : Lf} {bv dv : Value} {e : Int} {R : List Rec} (f : FJ h g p bv dv e R) {z : Nat} (hz : h.next + 5 ≤ z) (o : AObj) : FJ h (g.set z o) p bv dv e R := let ⟨o', r, s⟩ := f.ex; ⟨o', r.far hz o, s⟩
theorem FJ.keep {h g g' : AHeap} {p : Lf} {bv dv : Value} {e : Int} {R : List Rec} (f : FJ h g p bv dv e R) (hn : g.next ≤ g'.next) (hk : ∀ z, z < g.next → g'.get z = g.get z) : FJ h g' p bv dv e R := let ⟨o', r, s⟩ := f.ex; ⟨o', r.keep hn hk, s⟩
theorem FJ.next {h g : AHeap} {p : Lf} {bv dv : Value} {e : Int} {R : List Rec} (f : FJ h g p bv dv e R) : h.next + 5 ≤ g.next := let ⟨_, r, _⟩ := f.ex; r.next
theorem FJ.old {h g : AHeap} {p : Lf} {bv dv : Value} {e : Int} {R : List Rec} (f : FJ h g p bv dv e R) : ∀ z, z < h.next → g.get z = h.get z := let ⟨_, r, _⟩ := f.ex; r.old
structure F2 (N g : AHeap) (p : Lf) (z8 : Nat) (dv : Value) (R : List Rec) : Prop where
  next : N.next ≤ g.next
  old : ∀ z, z < N.next → ¬ z = z8 → g.get z = N.get z
  ex : ∃ b c, g.get z8 = some (LR p (.slice b R.length c) dv) ∧ OS g N.next R (.slice b R.length c) ∧ (R = [] → b = none)
end Go.Proofs.YtebheelmgcggmaaGreat
namespace Go.Proofs.YtebheelmgcggmaaGreat
open Go.Ab Go.Sort
def kval (h : AHeap) (ks : List (List UInt8)) : Value := if ks = [] then .slice none 0 0 else .slice (some ⟨h.next, 0, none⟩) ks.length 0
def kheap (h : AHeap) (ks : List (List UInt8)) : AHeap := if ks = [] then h else h.new (.cells (ks.map encS) 1)
theorem kheap_old (h : AHeap) (ks : List (List UInt8)) (z : Nat) (hz : z < h.next) : (kheap h ks).get z = h.get z := by
  simp only [kheap]; split
  · rfl
  · exact Gn (by omega)
def FK (pre : List Rec) (k : List UInt8) : Option Value := if k ∈ pre.map Rec.key then some (.bool true) else none
theorem FK_snoc (pre : List Rec) (x : Rec) : FK (pre ++ [x]) = updF (FK pre) x.key (.bool true) := by
  funext k
  simp only [FK, updF, List.map_append, List.mem_append, List.map_cons, List.map_nil, List.mem_singleton]
  by_cases e : k = x.key <;> simp [e]
theorem FK_keys {l : List Rec} {k : List UInt8} : k ∈ keysL l ↔ ∃ v, FK l k = some v := by
  rw [mem_keysL]
  simp only [FK]
  constructor
  · rintro ⟨r, hr, rfl⟩
    exact ⟨_, if_pos (List.mem_map.2 ⟨r, hr, rfl⟩)⟩
  · rintro ⟨v, hv⟩
    split at hv
    · rename_i hk
      obtain ⟨r, hr, e⟩ := List.mem_map.1 hk
      exact ⟨r, hr, e⟩
    · cases hv
theorem gcK {f : FuncId} {args : List Value} {h : AHeap} (ks : List (List UInt8)) (hf : FWp Tryz.prog f args h fun u g => (∀ z, z < h.next → g.get z = h.get z) ∧ ((ks = [] ∧ u = .slice none 0 0) ∨ (ks ≠ [] ∧ ∃ y, u = .slice (some ⟨y, 0, none⟩) ks.length 0 ∧ h.next ≤ y ∧ g.get y = some (.cells (ks.map encS) 1)))) :
    FWp Tryz.prog f args h fun u g => u = kval h ks ∧ g = kheap h ks := by
  simp only [kval, kheap]
  by_cases e : ks = []
  · rw [if_pos e, if_pos e]
    exact FWp.gcs (.flat rfl) (hf.mono fun u g hu => ⟨by rcases hu.2 with h1 | h1; exact h1.2; exact (h1.1 e).elim, fun r o hr ho => by rw [hu.1 r hr]; exact ho⟩)
  · rw [if_neg e, if_neg e]
    refine FWp.gcNew (fun v hv => ?_) (hf.mono fun u g hu => ?_)
    · obtain ⟨y, _, rfl⟩ := List.mem_map.1 hv
      exact .flat rfl
    · rcases hu.2 with h1 | ⟨_, y, h1, h2, h3⟩
      · exact (e h1.1).elim
      · exact ⟨y, h1, h2, h3, fun r o hr ho => by rw [hu.1 r hr]; exact ho⟩
theorem sk_c (G : AHeap) (q m : Nat) (o : AObj) (F : List UInt8 → Option Value) (ks : List (List UInt8)) (hS : SM o F) (hs : ks.Pairwise fun a b => ltStr a b = true) (hm : ∀ k, k ∈ ks ↔ ∃ v, F k = some v) (hl : ks.length ≤ 1000000) (l1 : q < G.next) (l2 : m < G.next) (hq : G.get q = some (.cells [.map (some m)] 1)) (ho : G.get m = some o) :
    FWp Tryz.prog 51 [.func (.func 89) #[] #[P0 q]] G fun u g => u = kval G ks ∧ g = kheap G ks := by
  obtain ⟨B, clk, rfl, B1, B2, B3, B4⟩ := hS.keys hs hm
  refine (SortS.KB.sorted_c G q m clk B ks ⟨B1, B2, B3⟩ l1 l2 hq ho (by have := B4.length_eq; simp at this; omega) B4 (hs.imp fun {a b} hab => swo_ltStr.asymmA hab)).mono ?_
  rintro u g (⟨e1, rfl, rfl⟩ | ⟨e1, rfl, rfl⟩)
  · exact ⟨by rw [kval, if_pos e1], by rw [kheap, if_pos e1]⟩
  · exact ⟨by rw [kval, if_neg e1], by rw [kheap, if_neg e1]⟩
theorem keysM_pw (p : Lf) : (keysM p).Pairwise fun a b => ltStr a b = true := by
  simp only [keysM]; split
  · exact keysL_pw _
  · exact .nil
theorem keys_c (h : AHeap) (p : Lf) (bv dv : Value) (hb : RS h p.base bv) (hd : RS h p.deltas dv) (hlb : p.base.length ≤ 1000000) (hld : p.deltas.length ≤ 1000000) (hK : (keysM p).length ≤ 1000000) :
    FWp Tryz.prog 17 [LV p bv dv] h fun u g => u = kval h (keysM p) ∧ g = kheap h (keysM p) := by
  have tb17 := And.intro ty25 (And.intro ty27 (And.intro ty4 (And.intro ty63 (ty9))))
  refine gcK _ ?_
  have hfin : ∀ G : AHeap, h.next ≤ G.next → (∀ z, z < h.next → G.get z = h.get z) → ∀ u g, u = kval G (keysM p) ∧ g = kheap G (keysM p) → (∀ z, z < h.next → g.get z = h.get z) ∧ ((keysM p = [] ∧ u = .slice none 0 0) ∨ (keysM p ≠ [] ∧ ∃ y, u = .slice (some ⟨y, 0, none⟩) (keysM p).length 0 ∧ h.next ≤ y ∧ g.get y = some (.cells ((keysM p).map encS) 1))) := by
    rintro G hn hk u g ⟨rfl, rfl⟩
    refine ⟨fun z hz => by rw [kheap_old _ _ _ (by omega)]; exact hk z hz, ?_⟩
    by_cases e : keysM p = []
    · exact .inl ⟨e, by rw [kval, if_pos e]⟩
    · exact .inr ⟨e, G.next, by rw [kval, if_neg e], hn, by rw [kheap, if_neg e]; exact Gq⟩
  have hm := fun H : AHeap => fun (hn : h.next ≤ H.next) (hk : ∀ z, z < h.next → H.get z = h.get z) => may'_c H p bv dv (hb.mono hn hk) (hd.mono hn hk) hlb hld
  refine W.enter tyOK Tryz.func17 rfl rfl ?_
  simp only [entry]
  cases f1 : chk p with
  | false =>
    rw [f1] at hm
    have ek : keysM p = [] := by simp [keysM, f1]
    refine Wr <| Oa rfl Zx rfl <| Oa rfl za rfl <| On ?_
    refine Wr <| Oa rfl (so_makeMap) rfl <| Oa rfl (so_alloc (by simp only [aAlloc, ty63] <;> rfl)) rfl <| Oa rfl (zs (hv := by simp (disch := first | omega | simp only [nx]; omega) only [aStore, ty63, writeRow, hpl, rcl, Value.cells] <;> rfl)) rfl <| On ?_
    refine W.seq <| Wr <| Oa rfl (zl (hv := by simp (disch := first | omega | simp only [nx]; omega) only [aLoad, ty25, rowOf, hpl, rcl, Value.cells] <;> rfl)) rfl <| OSuf.callD rfl (by simp only [aopnds, lk] <;> rfl) en37 (hm _ (by simp only [nx]; omega) (fun z hz => by simp (disch := first | omega | simp only [nx]; omega) only [hpl])) rfl <| On ?_
    refine Wn <| CWp.skip <| SQ.normal ?_
    refine Wr <| Oa rfl (zl (hv := by simp (disch := first | omega | simp only [nx]; omega) only [aLoad, ty63, rowOf, hpl, rcl, Value.cells] <;> rfl)) rfl <| OSuf.callD rfl (by simp only [aopnds, lk] <;> rfl) en52 (SortS.KB.keys_c _ (h.next + 1)) rfl <| OSuf.call rfl (by simp only [aopnds, lk] <;> rfl) en51 (sk_c _ (h.next + 3) (h.next + 1) (.map [] 0) (fun _ => none) (keysM p) SM.empty (keysM_pw p) (fun k => by rw [ek]; simp) hK (by simp only [nx]; omega) (by simp only [nx]; omega) (by simp (disch := first | omega | simp only [nx]; omega) only [hpl]) (by simp (disch := first | omega | simp only [nx]; omega) only [hpl])) ?_
    rintro u g hu
    refine ⟨_, rfl, ?_⟩
    refine Oa rfl za rfl <| On ?_
    refine CWp.ret <| FQ.ret (by simp only [aRet, Tryz.f17, aResults, aResult, lk, Nat.reduceEqDiff, reduceIte] <;> rfl) ?_
    exact hfin _ (by simp only [nx]; omega) (fun z hz => by simp (disch := first | omega | simp only [nx]; omega) only [hpl]) u g hu
  | true =>
    rw [f1] at hm
    have ek : keysM p = keysL p.all := by simp [keysM, f1]
    refine Wr <| Oa rfl Zx rfl <| Oa rfl za rfl <| On ?_
    refine Wr <| Oa rfl (so_makeMap) rfl <| Oa rfl (so_alloc (by simp only [aAlloc, ty63] <;> rfl)) rfl <| Oa rfl (zs (hv := by simp (disch := first | omega | simp only [nx]; omega) only [aStore, ty63, writeRow, hpl, rcl, Value.cells] <;> rfl)) rfl <| On ?_
    refine W.seq <| Wr <| Oa rfl (zl (hv := by simp (disch := first | omega | simp only [nx]; omega) only [aLoad, ty25, rowOf, hpl, rcl, Value.cells] <;> rfl)) rfl <| OSuf.callD rfl (by simp only [aopnds, lk] <;> rfl) en37 (hm _ (by simp only [nx]; omega) (fun z hz => by simp (disch := first | omega | simp only [nx]; omega) only [hpl])) rfl <| On ?_
    refine Wy <| Wr <| Oa rfl (zl (hv := by simp (disch := first | omega | simp only [nx]; omega) only [aLoad, ty25, rowOf, hpl, rcl, Value.cells] <;> rfl)) rfl <| OSuf.callD rfl (by simp only [aopnds, lk] <;> rfl) en45 (all_c _ p bv dv) rfl <| On ?_
    refine W.block (CWp.rangeFunc (by simp only [aopnd, Tr.get_put, Nat.reduceEqDiff, reduceIte] <;> rfl) (fun l hl => by cases hl) (VWp.func en86 ?_))
    show FWp _ _ [_, _] _ _
    generalize hLP : (ALoop.mk _ _ _ _ _ _ _ _) = LP
    have hbusy : (LP.state == .busy) = false := by rw [← hLP]; rfl
    have hjn : jumpExit LP.pending = some .normal := by rw [← hLP]; rfl
    obtain ⟨os, hos⟩ : ∃ os : AObj → ALoop → List AObj, os = fun o lp => [.cells (lcs p bv dv) 1, o, .cells [.map (some (h.next + 1))] 1, .cells (lcs p bv dv) 1, .loop lp, .cells [bv, dv] 1] := ⟨_, rfl⟩
    have hln : ∀ o lp, (os o lp).length = 6 := fun o lp => by rw [hos]; rfl
    refine FWp.mono (all1_c _ p bv dv _ (h.next + 3) (by simp (disch := first | omega | simp only [nx]; omega) only [hpl]) (fun pre g => ∃ o, Rw h g (os o LP) ∧ SM o (FK pre)) (fun g => False) ?_ ?_ ?_ hlb hld ?_) ?_
    · refine ⟨.map [] 0, ?_, SM.empty⟩
      rw [hos]
      exact Rw.eq (((((((Rw.nil h).push _ rfl).push (.map [] 0) rfl).push (.cells [.map none] 1) rfl).set 2 _).push _ rfl).push _ rfl |>.push _ rfl) rfl
    · rintro pre g o ⟨o', hr, hs⟩
      exact ⟨o', hr.new o, hs⟩
    · rintro pre g ⟨o', hr, hs⟩
      have hn := hr.next
      rw [hln] at hn
      exact ⟨hb.mono (by omega) hr.old, hd.mono (by omega) hr.old, hr.at_ 5 _ (by rw [hos]; rfl)⟩
    · rintro pre x post hpx g ⟨o, hr, hs⟩
      have hn := hr.next
      rw [hln] at hn
      have g1 : g.get (h.next + 1) = some o := hr.at_ 1 _ (by rw [hos]; rfl)
      have g2 : g.get (h.next + 2) = some (.cells [.map (some (h.next + 1))] 1) := hr.at_ 2 _ (by rw [hos]; rfl)
      have hl := hr.at_ 4 _ (by rw [hos]; rfl)
      rw [← hLP] at hl
      obtain ⟨o', s', hp⟩ := hs.put x.key (.bool true)
      rw [← FK_snoc] at s'
      refine .inl (VWp.yield hl rfl ?_)
      refine W.reg <| Oa rfl (so_alloc (by simp only [aAlloc, ty27] <;> rfl)) rfl <| Oa rfl (zs (hv := by simp (disch := first | omega | simp only [nx]; omega) only [aStore, ty27, writeRow, hpl, Value.cells, rcl] <;> rfl)) rfl <| OSuf.nil <| ?_
      refine ⟨rfl, _, by (simp (disch := first | omega | simp only [nx]; omega) only [hpl]; exact hl), rfl, ?_⟩
      refine W.block <| W.reg <| Oa rfl (zl (hv := by simp (disch := first | omega | simp only [nx]; omega) only [aLoad, ty63, rowOf, hpl, g2, rcl, Rec.cs, Value.cells] <;> rfl)) rfl <| Oa rfl (zf (hv := fa_ok (k := 0) ty27 rfl rfl ty9 rfl rfl)) rfl <| Oa rfl (zl (hv := by simp (disch := first | omega | simp only [nx]; omega) only [aLoad, ty9, rowOf, hpl, g2, rcl, Rec.cs, Value.cells] <;> rfl)) rfl <| Oa rfl (so_mapUpdate (by simp only [lk] <;> rfl) (by simp only [lk] <;> rfl) (by simp only [lk] <;> rfl) (hp (by simp (disch := first | omega | simp only [nx]; omega) only [aCells, rowOf, hpl, g2, rcl, Rec.cs, Value.cells, places, tb17] <;> first | rfl | exact g1) ty63 rfl ty9 rfl)) rfl <| OSuf.nil <| BQ.normal <| ?_
      refine ⟨_, by (simp (disch := first | omega | simp only [nx]; omega) only [hpl]; rfl), rfl, o', Rw.eq ((((hr.new _).set 4 _).set 1 _).set 4 _) ?_, s'⟩
      rw [hos, ← hLP]; rfl
    · clear hLP
      rintro _ g ⟨rfl, ⟨o, hr, hs⟩ | hr⟩
      · have hn := hr.next
        rw [hln] at hn
        have g1 : g.get (h.next + 1) = some o := hr.at_ 1 _ (by rw [hos]; rfl)
        have g2 : g.get (h.next + 2) = some (.cells [.map (some (h.next + 1))] 1) := hr.at_ 2 _ (by rw [hos]; rfl)
        have hl := hr.at_ 4 _ (by rw [hos]; rfl)
        refine ⟨LP, .normal, hl, hbusy, hjn, ?_⟩
        refine BQ.normal <| SQ.normal ?_
        refine Wr <| Oa rfl (zl (hv := by simp (disch := first | omega | simp only [nx]; omega) only [aLoad, ty63, rowOf, hpl, g2, Value.cells] <;> rfl)) rfl <| OSuf.callD rfl (by simp only [aopnds, lk] <;> rfl) en52 (SortS.KB.keys_c _ (h.next + 1)) rfl <| OSuf.call rfl (by simp only [aopnds, lk] <;> rfl) en51 (sk_c _ g.next (h.next + 1) o _ (keysM p) hs (keysM_pw p) (fun k => by rw [ek]; exact FK_keys) hK (by simp only [nx]; omega) (by simp only [nx]; omega) (by simp (disch := first | omega | simp only [nx]; omega) only [hpl]) (by simp (disch := first | omega | simp only [nx]; omega) only [hpl]; exact g1)) ?_
        rintro u g' hu
        refine ⟨_, rfl, ?_⟩
        refine Oa rfl za rfl <| On ?_
        refine CWp.ret <| FQ.ret (by simp only [aRet, Tryz.f17, aResults, aResult, lk, Nat.reduceEqDiff, reduceIte] <;> rfl) ?_
        exact hfin _ (by simp only [nx]; omega) (fun z hz => by simp (disch := first | omega | simp only [nx]; omega) only [hpl]; exact hr.old z hz) u g' hu
      · exact hr.elim
end Go.Proofs.YtebheelmgcggmaaGreat
