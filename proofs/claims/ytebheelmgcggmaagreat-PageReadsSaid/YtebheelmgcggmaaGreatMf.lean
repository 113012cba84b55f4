/-
  Merged: PgI, PgK, PgY, QgA, QgB, QgC, QgE, QgL, QgI, QgJ.
-/
import Derived.Test.YtebheelmgcggmaaGreatMa
import Derived.Test.YtebheelmgcggmaaGreatMb
import Derived.Test.YtebheelmgcggmaaGreatAb39
set_option linter.unusedSimpArgs false
set_option linter.unusedVariables false
set_option maxRecDepth 10000
set_option maxHeartbeats 8000000
namespace Go.Proofs.YtebheelmgcggmaaGreat
open Go.Ab Go.Sort
theorem Ext.rename {μ μ' : Emb} {h h' H : AHeap} {w w' : World} (x : Ext μ h w μ' h' w') (ρ : Nat → Nat) (hn : h.next ≤ H.next) (hρ : ∀ r, r < h.next → ρ r = r)
    (hget : ∀ r o, H.get r = some o → r < H.next ∧ ∃ o', h'.get (ρ r) = some o' ∧ o'.own = o.own ∧ ∀ e c, ORel μ' h'.next e c o' → ORel (fun r => μ' (ρ r)) H.next e c o)
    (hinj : ∀ r q o p, H.get r = some o → H.get q = some p → ρ r = ρ q → r = q) : Ext μ h w (fun r => μ' (ρ r)) H w' := by
  refine ⟨hn, fun r hr => ?_, x.size, x.os, x.output, fun b hb hf => ⟨(x.frame b hb hf).1, fun r o e hr ho hm => ?_⟩, fun b hb hf r o e hr hm => ?_, ⟨fun r o hr => ?_, fun r q o p e f hr ho hq hm hm' hbb => ?_⟩⟩
  · show μ' (ρ r) = μ r
    rw [hρ r hr]; exact x.agree r hr
  · obtain ⟨_, o', h1, h2, _⟩ := hget r o hr
    exact (x.frame b hb hf).2 (ρ r) o' e h1 (by rw [h2]; exact ho) hm
  · obtain ⟨_, o', h1, h2, _⟩ := hget r o hr
    exact x.free b hb hf (ρ r) o' e h1 hm
  · obtain ⟨h0, o', h1, h2, h3⟩ := hget r o hr
    obtain ⟨_, e, c, g1, g2, g3⟩ := x.st.live (ρ r) o' h1
    exact ⟨h0, e, c, g1, g2, h3 e c g3⟩
  · obtain ⟨_, o', h1, h2, _⟩ := hget r o hr
    obtain ⟨_, p', h1', h2', _⟩ := hget q p hq
    exact hinj r q o p hr hq (x.st.apart (ρ r) (ρ q) o' p' e f h1 (by rw [h2]; exact ho) h1' hm hm' hbb)
inductive FS (h : AHeap) (lo : Nat) (l : List Rec) : Bool → Value → Option Nat → Prop
  | nil (e : l = []) : FS h lo l true (.slice none 0 0) none
  | some {r n c : Nat} {rest : List Value} (hn : n = l.length) (h1 : lo ≤ r) (h2 : r < h.next) (h3 : h.get r = Option.some (.cells (fl l ++ rest) 4)) (h4 : c = 0 ∨ (n = 0 ∧ c = 1)) : FS h lo l false (.slice (Option.some ⟨r, 0, none⟩) n c) (Option.some r)
def cval (nil : Bool) (r : Nat) (l : List Rec) : Value := bif nil then .slice none 0 0 else .slice (some ⟨r, 0, none⟩) l.length 0
def cadd (nil : Bool) (h : AHeap) (l : List Rec) : AHeap := bif nil then ⟨h.next + 1, h.rows⟩ else h.new (.cells (fl l) 4)
theorem cadd_next (nil : Bool) (h : AHeap) (l : List Rec) : (cadd nil h l).next = h.next + 1 := by cases nil <;> rfl
theorem cadd_get (nil : Bool) (h : AHeap) (l : List Rec) (z : Nat) (hz : ¬ z = h.next) : (cadd nil h l).get z = h.get z := by
  cases nil
  · exact zN (fun e => hz e.symm)
  · rfl
def hand (h : AHeap) (p : Lf) (nb nd : Bool) : AHeap := cadd nd (cadd nb h p.base) p.deltas
theorem hand_next (h : AHeap) (p : Lf) (nb nd : Bool) : (hand h p nb nd).next = h.next + 2 := by simp only [hand, cadd_next]
theorem hand_old (h : AHeap) (p : Lf) (nb nd : Bool) (z : Nat) (hz : z < h.next) : (hand h p nb nd).get z = h.get z := by
  rw [hand, cadd_get _ _ _ _ (by rw [cadd_next]; omega), cadd_get _ _ _ _ (by omega)]
theorem cval_rs {nil : Bool} {h : AHeap} {r : Nat} {l : List Rec} (hn : nil = true → l = []) (hr : r < h.next) (hg : nil = false → h.get r = some (.cells (fl l) 4)) : RS h l (cval nil r l) := by
  cases nil
  · exact ⟨_, _, rfl, .inr ⟨_, _, rfl, fun _ => ⟨hr, _, by simp only [rowOf, hg rfl], cellsOf_all (fl_length l)⟩⟩⟩
  · rw [hn rfl]; exact ⟨_, _, rfl, .inl ⟨rfl, rfl, rfl⟩⟩
theorem hand_rs {h : AHeap} {p : Lf} {nb nd : Bool} (h1 : nb = true → p.base = []) (h2 : nd = true → p.deltas = []) :
    RS (hand h p nb nd) p.base (cval nb h.next p.base) ∧ RS (hand h p nb nd) p.deltas (cval nd (h.next + 1) p.deltas) := by
  refine ⟨cval_rs h1 (by rw [hand_next]; omega) fun e => ?_, cval_rs h2 (by rw [hand_next]; omega) fun e => ?_⟩
  · subst e
    rw [hand, cadd_get _ _ _ _ (by rw [cadd_next]; omega)]
    exact zQ
  · subst e
    rw [hand, ← cadd_next nb h p.base]
    exact zQ
theorem bo_fl {n : Nat} (l : List Rec) (rest : List Value) {μ μ' : Emb} {m : Nat} {e : Ent} {c : Obj} (h : ORel μ m e c (.cells (fl l ++ rest) 4)) : ORel μ' n e c (.cells (fl l) 4) := by
  obtain ⟨h1, cs, t, fz, k1, k2, k3, k4, k5⟩ := h
  refine ⟨h1, cs, t, fz, k1, by simp at k2; omega, k3, k4, fun i v hv => ?_⟩
  obtain ⟨v', g1, g2⟩ := k5 i v (by rw [List.getElem?_append_left (List.getElem?_eq_some_iff.1 hv).1]; exact hv)
  refine ⟨v', g1, ?_⟩
  have hf : Ab.flat v = true := by
    have hm := List.mem_of_getElem? hv
    simp only [fl, List.mem_flatten, List.mem_map] at hm
    obtain ⟨_, ⟨x, _, rfl⟩, hm⟩ := hm
    simp only [Rec.cs, List.mem_cons, List.not_mem_nil, or_false] at hm
    rcases hm with rfl | rfl | rfl | rfl <;> rfl
  rw [g2.flat_eq hf]; exact .of_flat _ _ hf
theorem vr_cval {h' : AHeap} {lo : Nat} {l : List Rec} {nil : Bool} {v : Value} {x : Option Nat} (s : FS h' lo l nil v x) {μ' : Emb} {m n : Nat} {ρ : Nat → Nat} {a : Nat} (ha : a < n) (hρ : ∀ r, x = some r → ρ a = r) {w : Value} (hv : VRel μ' m v w) : VRel (fun r => μ' (ρ r)) n (cval nil a l) w := by
  cases s with
  | nil e => cases hv; exact .slice0
  | @some r k c rest hn h1 h2 h3 h4 =>
    subst hn
    have e := hρ r rfl
    rcases h4 with rfl | ⟨h4, rfl⟩
    · show VRel _ n (.slice (some ⟨a, 0, none⟩) l.length 0) w
      generalize l.length = k at hv ⊢
      cases hv with
      | sliceU h1 h2 h3 h4 => exact .sliceU (μ := fun r => μ' (ρ r)) ha (by show μ' (ρ a) = _; rw [e]; exact h2) h3 h4
      | sliceZ h1 h2 => exact .sliceZ (μ := fun r => μ' (ρ r)) ha (by show μ' (ρ a) = _; rw [e]; exact h2)
    · show VRel _ n (.slice (some ⟨a, 0, none⟩) l.length 0) w
      rw [h4] at hv ⊢
      cases hv with
      | sliceK h1 h2 => exact .sliceU (μ := fun r => μ' (ρ r)) ha (by show μ' (ρ a) = _; rw [e]; exact h2) (Nat.le_refl _) (by omega)
      | sliceKZ h1 h2 => exact .sliceZ (μ := fun r => μ' (ρ r)) ha (by show μ' (ρ a) = _; rw [e]; exact h2)
theorem gcL {f : FuncId} {args : List Value} {h : AHeap} {p' : Lf} {nb nd : Bool} {K0 : Value → AHeap → Prop} (hf : FWp Tryz.prog f args h K0)
    (hk : ∀ u h', K0 u h' → ∃ bv dv x y, u = LV p' bv dv ∧ FS h' h.next p'.base nb bv x ∧ FS h' h.next p'.deltas nd dv y ∧ (∀ r, x = some r → y ≠ some r) ∧ ∀ z, z < h.next → h'.get z = h.get z) :
    FWp Tryz.prog f args h fun u g => u = LV p' (cval nb h.next p'.base) (cval nd (h.next + 1) p'.deltas) ∧ g = hand h p' nb nd := by
  intro μ args' w hl st
  refine (hf μ args' w hl st).mono ?_
  rintro e w' ⟨u, v', h', μ', rfl, hK, ex, hr⟩
  obtain ⟨bv, dv, x, y, rfl, s1, s2, hxy, hold⟩ := hk u h' hK
  obtain ⟨ρ, hρ⟩ : ∃ ρ : Nat → Nat, ρ = fun r => if r = h.next then x.getD h'.next else if r = h.next + 1 then y.getD (h'.next + 1) else r := ⟨_, rfl⟩
  have r0 : ∀ r, r < h.next → ρ r = r := fun r hr => by rw [hρ]; simp only; rw [if_neg (by omega), if_neg (by omega)]
  have r1 : ∀ r, x = some r → ρ h.next = r := fun r e => by rw [hρ, e]; simp
  have r2 : ∀ r, y = some r → ρ (h.next + 1) = r := fun r e => by rw [hρ, e]; simp
  have ag : Agree h.next μ' (fun r => μ' (ρ r)) := fun r hr => by show μ' (ρ r) = μ' r; rw [r0 r hr]
  have g0 : ∀ r o, (hand h p' nb nd).get r = some o → (r < h.next ∧ h.get r = some o) ∨ (r = h.next ∧ nb = false ∧ o = .cells (fl p'.base) 4) ∨ (r = h.next + 1 ∧ nd = false ∧ o = .cells (fl p'.deltas) 4) := fun r o ho => by
    have live := fun r o (hg : h.get r = some o) => (st.live r o hg).1
    have hb : ∀ r o, (cadd nb h p'.base).get r = some o → (r < h.next ∧ h.get r = some o) ∨ (r = h.next ∧ nb = false ∧ o = .cells (fl p'.base) 4) := fun r o ho => by
      cases nb with
      | true => exact .inl ⟨live r o ho, ho⟩
      | false =>
        have ho : (h.new (.cells (fl p'.base) 4)).get r = some o := ho
        rw [AHeap.get_new] at ho
        split at ho
        · cases ho; exact .inr ⟨by omega, rfl, rfl⟩
        · exact .inl ⟨live r o ho, ho⟩
    cases nd with
    | true => exact (hb r o ho).imp id .inl
    | false =>
      have ho : ((cadd nb h p'.base).new (.cells (fl p'.deltas) 4)).get r = some o := ho
      rw [AHeap.get_new, cadd_next] at ho
      split at ho
      · cases ho; exact .inr (.inr ⟨by omega, rfl, rfl⟩)
      · exact (hb r o ho).imp id .inl
  have xs : nb = false → ∃ r rest, x = some r ∧ h.next ≤ r ∧ h'.get r = some (.cells (fl p'.base ++ rest) 4) := fun e => by
    subst e; cases s1 with | some hn k1 k2 k3 k4 => exact ⟨_, _, rfl, k1, k3⟩
  have ys : nd = false → ∃ r rest, y = some r ∧ h.next ≤ r ∧ h'.get r = some (.cells (fl p'.deltas ++ rest) 4) := fun e => by
    subst e; cases s2 with | some hn k1 k2 k3 k4 => exact ⟨_, _, rfl, k1, k3⟩
  refine ⟨_, v', hand h p' nb nd, fun r => μ' (ρ r), rfl, ⟨rfl, rfl⟩, Ext.rename ex ρ (by rw [hand_next]; omega) r0 (fun r o ho => ?_) (fun r q o p hr hq hh => ?_), ?_⟩
  · rcases g0 r o ho with ⟨k1, k2⟩ | ⟨rfl, k1, rfl⟩ | ⟨rfl, k1, rfl⟩
    · obtain ⟨_, e0, c0, i1, i2, i3⟩ := st.live r o k2
      exact ⟨by rw [hand_next]; omega, o, by rw [r0 r k1, hold r k1]; exact k2, rfl, fun e c g => (g.narrow i3.below).mono ag (by rw [hand_next]; omega)⟩
    · obtain ⟨q, rest, i1, i2, i3⟩ := xs k1
      exact ⟨by rw [hand_next]; omega, .cells (fl p'.base ++ rest) 4, by rw [r1 q i1]; exact i3, rfl, fun e c g => bo_fl _ _ g⟩
    · obtain ⟨q, rest, i1, i2, i3⟩ := ys k1
      exact ⟨by rw [hand_next]; omega, .cells (fl p'.deltas ++ rest) 4, by rw [r2 q i1]; exact i3, rfl, fun e c g => bo_fl _ _ g⟩
  · rcases g0 r o hr with ⟨k1, k2⟩ | ⟨rfl, k1, rfl⟩ | ⟨rfl, k1, rfl⟩ <;> rcases g0 q p hq with ⟨l1, l2⟩ | ⟨rfl, l1, rfl⟩ | ⟨rfl, l1, rfl⟩
    · rw [r0 r k1, r0 q l1] at hh; exact hh
    · obtain ⟨z, rest, i1, i2, i3⟩ := xs l1
      rw [r0 r k1, r1 z i1] at hh; omega
    · obtain ⟨z, rest, i1, i2, i3⟩ := ys l1
      rw [r0 r k1, r2 z i1] at hh; omega
    · obtain ⟨z, rest, i1, i2, i3⟩ := xs k1
      rw [r0 q l1, r1 z i1] at hh; omega
    · rfl
    · obtain ⟨z, rest, i1, i2, i3⟩ := xs k1
      obtain ⟨z', rest', i1', i2', i3'⟩ := ys l1
      rw [r1 z i1, r2 z' i1'] at hh
      exact (hxy z i1 (by rw [i1', hh])).elim
    · obtain ⟨z, rest, i1, i2, i3⟩ := ys k1
      rw [r0 q l1, r2 z i1] at hh; omega
    · obtain ⟨z, rest, i1, i2, i3⟩ := xs l1
      obtain ⟨z', rest', i1', i2', i3'⟩ := ys k1
      rw [r1 z i1, r2 z' i1'] at hh
      exact (hxy z i1 (by rw [i1', hh])).elim
    · rfl
  · cases hr with
    | @agg _ a' hr =>
      obtain ⟨l, hl⟩ : ∃ l, a'.toList = l := ⟨_, rfl⟩
      rw [hl] at hr
      refine .agg ?_
      rw [hl]
      cases hr with | cons a1 hr =>
      cases hr with | cons a2 hr =>
      cases hr with | cons a3 hr =>
      cases hr with | cons a4 hr =>
      cases hr with | cons a5 hr =>
      cases hr
      cases a1; cases a2; cases a3
      exact .cons (.string _) (.cons (.string _) (.cons (.int _ _) (.cons (vr_cval s1 (by rw [hand_next]; omega) r1 a4) (.cons (vr_cval s2 (by rw [hand_next]; omega) r2 a5) .nil))))
end Go.Proofs.YtebheelmgcggmaaGreat
namespace Go.Proofs.YtebheelmgcggmaaGreat
open Go.Ab Go.Sort
theorem fits_of {p : Lf} (hc : chk p = true) : (∀ x ∈ p.all, fit p.low p.high x = true) ∧ (p.base.Pairwise fun a b => ltK a b = true) ∧ (p.deltas.Pairwise fun a b => ltL a b = true) ∧ p.base.length ≤ 64 ∧ p.deltas.length ≤ 64 := by
  simp only [chk, Bool.and_eq_true, decide_eq_true_eq, List.all_eq_true] at hc
  exact ⟨hc.2.1, risB_pw ltK_trans hc.2.2.1, risB_pw ltL_trans hc.2.2.2, hc.1.2.2.2.2.1, hc.1.2.2.2.2.2⟩
theorem FS.mono {h h' : AHeap} {lo lo' : Nat} {l : List Rec} {b : Bool} {v : Value} {x : Option Nat} (s : FS h lo l b v x) (hl : lo' ≤ lo) (hn : h.next ≤ h'.next) (hk : ∀ z, lo ≤ z → z < h.next → h'.get z = h.get z) : FS h' lo' l b v x := by
  cases s with
  | nil e => exact .nil e
  | some h1 h2 h3 h4 h5 => exact .some h1 (by omega) (by omega) (by rw [hk _ h2 h3]; exact h4) h5
theorem FS.keep {h h' : AHeap} {lo lo' : Nat} {l : List Rec} {b : Bool} {v : Value} {x : Option Nat} (s : FS h lo l b v x) (hl : lo' ≤ lo) (hn : h.next ≤ h'.next) (hk : ∀ r, x = Option.some r → r < h.next → h'.get r = h.get r) : FS h' lo' l b v x := by
  cases s with
  | nil e => exact .nil e
  | some h1 h2 h3 h4 h5 => exact .some h1 (by omega) (by omega) (by rw [hk _ rfl h3]; exact h4) h5
theorem FS.lo {h : AHeap} {lo : Nat} {l : List Rec} {b : Bool} {v : Value} {x : Option Nat} (s : FS h lo l b v x) {r : Nat} (hr : x = Option.some r) : lo ≤ r ∧ r < h.next := by
  cases s with
  | nil e => cases hr
  | some h1 h2 h3 h4 h5 => cases hr; exact ⟨h2, h3⟩
abbrev zlf : List Value := [.string ⟨#[]⟩, .string ⟨#[]⟩, U64 0, .slice none 0 0, .slice none 0 0]
abbrev LR (p : Lf) (bv dv : Value) : AObj := .cells (lcs p bv dv) 1
end Go.Proofs.YtebheelmgcggmaaGreat
namespace Go.Proofs.YtebheelmgcggmaaGreat
open Go.Ab Go.Sort
section
variable {P : Program} {T : Tr TI} {ρ : Operand → Option Value} {h : AHeap} {dst : Option Tmp} {ty : TypeId} {pos : String} {af : Array Edge} {g : Option (Nat × Bool)} {xs : Array Operand} {ats : Array TypeId} {u v : Value}
end
theorem ap_none {h : AHeap} {ats : Array TypeId} {A : AppT} {s x : Value} (ha : appT T ats = some A) (hl : aLen x = some 0) (hx : aCells h A.size 0 x = some []) (hs : s = .slice none 0 0 ∨ ∃ r off len, s = .slice (some ⟨r, off, none⟩) len 0) (hb : (2 * (vLen s + 0) + 256) * A.bytes ≤ 281474976710656) : aAppend T ats s x h = some (s, h) := by
  rcases hs with rfl | ⟨r, off, len, rfl⟩ <;> simp only [aAppend, ha, hl, hx, Nat.ble_eq_true_of_le hb, cond_true] <;> rfl
theorem RS.cells {h : AHeap} {l : List Rec} {b : Option Addr} {n c : Nat} (s : RS h l (.slice b n c)) {g : AHeap} (hk : ∀ z, z < h.next → g.get z = h.get z) : aCells g 4 l.length (.slice b n c) = some (fl l) := by
  obtain ⟨b', c', e, hr⟩ := s.ex
  cases e
  rcases hr with ⟨rfl, hn, rfl⟩ | ⟨r, off, rfl, hr⟩
  · have : l = [] := List.length_eq_zero_iff.1 hn
    subst this; rfl
  · by_cases h0 : l.length = 0
    · have : l = [] := List.length_eq_zero_iff.1 h0
      subst this; rfl
    · obtain ⟨hr1, vs, hr2, hr3⟩ := hr h0
      have e0 : Nat.beq (l.length * 4) 0 = false := by
        cases e : Nat.beq (l.length * 4) 0 with
        | false => rfl
        | true => have := Nat.eq_of_beq_eq_true e; omega
      have e2 : rowOf g r = some vs := by rw [rowOf_eq (hk r hr1)]; exact hr2
      simp only [aCells, e0, cond_false, Nat.ble_eq_true_of_le (Nat.le_refl l.length), cond_true, e2, hr3]
theorem fl_ones : ∀ l : List Rec, oneCells (fl l) = true
  | [] => rfl
  | x :: l => by
    have := fl_ones l
    rw [fl_cons]
    simp only [oneCells, List.all_append, Bool.and_eq_true] at this ⊢
    exact ⟨fl_one' x, this⟩
where fl_one' (x : Rec) : x.cs.all Value.oneCell' = true := rfl
end Go.Proofs.YtebheelmgcggmaaGreat
namespace Go.Proofs.YtebheelmgcggmaaGreat
open Go.Ab Go.Sort
theorem lt_cons (x y : UInt8) (a b : List UInt8) : ltStr (x :: a) (y :: b) = (decide (x < y) || (decide (x = y) && ltStr a b)) := by
  simp only [ltStr]
  rw [Bool.eq_iff_iff]
  simp [List.cons_lt_cons_iff]
theorem lt_split (x y : UInt8) (hxy : ¬ x = y) (a b : List UInt8) : ∀ p : List UInt8, ltStr (p ++ x :: a) (p ++ y :: b) = decide (x < y)
  | [] => by rw [List.nil_append, List.nil_append, lt_cons]; simp [hxy]
  | z :: p => by
    rw [List.cons_append, List.cons_append, lt_cons, lt_split x y hxy a b p]
    simp [UInt8.lt_irrefl]
theorem lt_ext : ∀ (a t : List UInt8), ltStr a (a ++ t) = decide (0 < t.length)
  | [], [] => by simp [ltStr]
  | [], x :: t => by simp [ltStr]
  | z :: a, t => by rw [List.cons_append, lt_cons, lt_ext a t]; simp [UInt8.lt_irrefl]
theorem lt_ext' : ∀ (a t : List UInt8), ltStr (a ++ t) a = false
  | [], [] => by simp [ltStr]
  | [], x :: t => by simp [ltStr]
  | z :: a, t => by rw [List.cons_append, lt_cons, lt_ext' a t]; simp [UInt8.lt_irrefl]
theorem lt_pre {a b : List UInt8} {n : Nat} (h : a.take n = b.take n) (hn : a.length ≤ n ∨ b.length ≤ n) : ltStr a b = decide (a.length < b.length) := by
  rcases Nat.le_total a.length b.length with hl | hl
  · have hn : a.length ≤ n := by omega
    rw [List.take_of_length_le hn] at h
    have hb : b = a ++ b.drop a.length := by
      have h2 : b.take a.length = a := by
        have := congrArg (fun l : List UInt8 => l.take a.length) h
        simp only [List.take_take, List.take_length] at this
        rw [Nat.min_eq_left hn] at this; exact this.symm
      rw [← h2, List.length_take, Nat.min_eq_left hl]
      simp
    have h3 := lt_ext a (b.drop a.length)
    rw [← hb] at h3
    rw [h3, decide_eq_decide]
    simp; omega
  · have hn : b.length ≤ n := by omega
    rw [List.take_of_length_le hn] at h
    have hb : a = b ++ a.drop b.length := by
      have h2 : a.take b.length = b := by
        have := congrArg (fun l : List UInt8 => l.take b.length) h
        simp only [List.take_take, List.take_length] at this
        rw [Nat.min_eq_left hn] at this; exact this
      rw [← h2, List.length_take, Nat.min_eq_left hl]
      simp
    have h3 := lt_ext' b (a.drop b.length)
    rw [← hb] at h3
    rw [h3]; symm
    simp; omega
theorem less_c (h : AHeap) (a b : List UInt8) (ha : a.length < 9223372036854775808) (hb : b.length < 9223372036854775808) : FWp Tryz.prog 49 [encS a, encS b] h fun u h' => u = .bool (ltStr a b) ∧ h' = h := by
  have e0 : (ByteArray.mk ⟨a⟩).size = a.length := rfl
  have e1 : (ByteArray.mk ⟨b⟩).size = b.length := rfl
  refine W.enter tyOK Tryz.func49 rfl rfl ?_
  simp only [entry]
  refine Wr <| Of rfl za rfl rfl <| On ?_
  refine W.seq <| Wr <| Oa rfl za rfl <| On ?_
  refine W.cut (fun L h' => h' = h ∧ ltStr a b = decide (a.length < b.length) ∧ L = [(0, encS a), (1, encS b)]) (W.block (W.loop (fun n L h' => ∃ i : Nat, n + i = a.length + 1 ∧ h' = h ∧ a.take i = b.take i ∧ i ≤ a.length ∧ i ≤ b.length ∧ L = [(0, encS a), (1, encS b), (5, I64 i)]) (n := a.length + 1) ⟨0, by omega, rfl, rfl, by omega, by omega, rfl⟩ ?_ ?_)) ?_
  · simp [HasA, Tr.get_put]
  · rintro n L h' ⟨i, hn, rfl, ht, hia, hib, rfl⟩
    simp only [mkA]
    by_cases h1 : (i : Int) < (a.length : Int)
    · have w2 : IntKind.i64.wrap ((i : Int) + 1) = ((i + 1 : Nat) : Int) := by rw [wrap_i64 (by omega) (by omega)]; omega
      by_cases h2 : (i : Int) < (b.length : Int)
      · obtain ⟨x, hx⟩ : ∃ x, a[i]? = some x := ⟨a[i]'(by omega), by simp⟩
        obtain ⟨y, hy⟩ : ∃ y, b[i]? = some y := ⟨b[i]'(by omega), by simp⟩
        have hx' : (ByteArray.mk ⟨a⟩).data.toList[i]? = some x := hx
        have hy' : (ByteArray.mk ⟨b⟩).data.toList[i]? = some y := hy
        by_cases hxy : x = y
        · have b1 : ((x.toNat : Int) != (y.toNat : Int)) = false := by simp [hxy]
          refine W.seq <| Wr <| Oa rfl sm rfl <| Oa rfl sm rfl <| Oa rfl (Zn (hv := by simp (disch := first | omega | simp only [nx]; omega) only [aLenOf, ty9, hpl, e0, e1] <;> rfl)) rfl <| Ot rfl (zb (hv := bi_lss)) rfl (by first | rfl | assumption | ((simp only [bl, e0, e1]) <;> first | done | assumption | omega) | (simp; done) | (simp; omega)) <| Ot rfl sm rfl rfl <| Oa ag sm rfl <| Oa ag sm rfl <| Oa ag (Zn (hv := by simp (disch := first | omega | simp only [nx]; omega) only [aLenOf, ty9, hpl, e0, e1] <;> rfl)) rfl <| Ot ag (zb (hv := bi_lss)) rfl (by first | rfl | assumption | ((simp only [bl, e0, e1]) <;> first | done | assumption | omega) | (simp; done) | (simp; omega)) <| Ot rfl Zp rfl rfl <| On ?_
          refine Wy <| CWp.skip <| SQ.normal ?_
          refine W.seq <| W.block <| Wd <| Sa rfl sm rfl <| Sa rfl sm rfl <| Sa rfl (so_index (by simp only [lk] <;> rfl) (by simp only [lk] <;> rfl) (ix_str ty9 rfl hx')) rfl <| Sa rfl sm rfl <| Sa rfl sm rfl <| Sa rfl (so_index (by simp only [lk] <;> rfl) (by simp only [lk] <;> rfl) (ix_str ty9 rfl hy')) rfl <| Sf rfl (zb (hv := bi_neq)) rfl (b1) <| Sn ?_
          refine Wn <| CWp.skip <| BQ.normal <| SQ.normal ?_
          refine W.reg <| Oa rfl sm rfl <| Oa rfl (zb (hv := bi_w bi_add (by first | (simp only [w2] <;> rfl) | rfl))) rfl <| Oa rfl za rfl <| OSuf.nil <| ?_
          refine LQ.normal (m := n - 1) (L := [(0, encS a), (1, encS b), (5, I64 ((i + 1 : Nat) : Int))]) (by omega) ?_ ⟨i + 1, by omega, rfl, ?_, by omega, by omega, rfl⟩
          · simp only [HasA, Tr.get_put, Nat.reduceEqDiff, reduceIte, w2, and_self]
          · rw [List.take_add_one, List.take_add_one, ht, hx, hy, hxy]
        · have hne : ¬ x.toNat = y.toNat := fun e => hxy (UInt8.toNat_inj.1 e)
          have b1 : ((x.toNat : Int) != (y.toNat : Int)) = true := by simp; omega
          have hlt : decide ((x.toNat : Int) < (y.toNat : Int)) = ltStr a b := by
            have ea : a = a.take i ++ x :: a.drop (i + 1) := by
              conv => lhs; rw [← List.take_append_drop i a, List.drop_eq_getElem_cons (by omega)]
              rw [(List.getElem?_eq_some_iff.1 hx).2]
            have eb : b = a.take i ++ y :: b.drop (i + 1) := by
              conv => lhs; rw [← List.take_append_drop i b, List.drop_eq_getElem_cons (by omega), ← ht]
              rw [(List.getElem?_eq_some_iff.1 hy).2]
            have := lt_split x y hxy (a.drop (i + 1)) (b.drop (i + 1)) (a.take i)
            rw [← ea, ← eb] at this
            rw [this, decide_eq_decide, UInt8.lt_iff_toNat_lt]; omega
          refine W.seq <| Wr <| Oa rfl sm rfl <| Oa rfl sm rfl <| Oa rfl (Zn (hv := by simp (disch := first | omega | simp only [nx]; omega) only [aLenOf, ty9, hpl, e0, e1] <;> rfl)) rfl <| Ot rfl (zb (hv := bi_lss)) rfl (by first | rfl | assumption | ((simp only [bl, e0, e1]) <;> first | done | assumption | omega) | (simp; done) | (simp; omega)) <| Ot rfl sm rfl rfl <| Oa ag sm rfl <| Oa ag sm rfl <| Oa ag (Zn (hv := by simp (disch := first | omega | simp only [nx]; omega) only [aLenOf, ty9, hpl, e0, e1] <;> rfl)) rfl <| Ot ag (zb (hv := bi_lss)) rfl (by first | rfl | assumption | ((simp only [bl, e0, e1]) <;> first | done | assumption | omega) | (simp; done) | (simp; omega)) <| Ot rfl Zp rfl rfl <| On ?_
          refine Wy <| CWp.skip <| SQ.normal ?_
          refine W.seq <| W.block <| Wd <| Sa rfl sm rfl <| Sa rfl sm rfl <| Sa rfl (so_index (by simp only [lk] <;> rfl) (by simp only [lk] <;> rfl) (ix_str ty9 rfl hx')) rfl <| Sa rfl sm rfl <| Sa rfl sm rfl <| Sa rfl (so_index (by simp only [lk] <;> rfl) (by simp only [lk] <;> rfl) (ix_str ty9 rfl hy')) rfl <| St rfl (zb (hv := bi_neq)) rfl (b1) <| Sn ?_
          refine Wy <| Wd <| Sa rfl sm rfl <| Sa rfl sm rfl <| Sa rfl (so_index (by simp only [lk] <;> rfl) (by simp only [lk] <;> rfl) (ix_str ty9 rfl hx')) rfl <| Sa rfl sm rfl <| Sa rfl sm rfl <| Sa rfl (so_index (by simp only [lk] <;> rfl) (by simp only [lk] <;> rfl) (ix_str ty9 rfl hy')) rfl <| Sa rfl (zb (hv := bi_lss)) rfl <| Sa rfl za rfl <| Sn ?_
          refine CWp.ret <| BQ.ret <| SQ.ret <| LQ.ret <| BQ.ret <| NQ.ret <| SQ.ret <| FQ.ret (by simp only [aRet, Tryz.f49, aResults, aResult, lk, Nat.reduceEqDiff, reduceIte] <;> rfl) ?_
          exact ⟨by rw [hlt], rfl⟩
      · refine W.seq <| Wr <| Oa rfl sm rfl <| Oa rfl sm rfl <| Oa rfl (Zn (hv := by simp (disch := first | omega | simp only [nx]; omega) only [aLenOf, ty9, hpl, e0, e1] <;> rfl)) rfl <| Ot rfl (zb (hv := bi_lss)) rfl (by first | rfl | assumption | ((simp only [bl, e0, e1]) <;> first | done | assumption | omega) | (simp; done) | (simp; omega)) <| Ot rfl sm rfl rfl <| Oa ag sm rfl <| Oa ag sm rfl <| Oa ag (Zn (hv := by simp (disch := first | omega | simp only [nx]; omega) only [aLenOf, ty9, hpl, e0, e1] <;> rfl)) rfl <| Of ag (zb (hv := bi_lss)) rfl (by first | rfl | assumption | ((simp only [bl, e0, e1]) <;> first | done | assumption | omega) | (simp; done) | (simp; omega)) <| Of rfl Zp rfl rfl <| On ?_
        refine Wn <| CWp.exit <| SQ.exit <| LQ.exit <| BQ.exit <| ?_
        refine NQ.normal (L := [(0, encS a), (1, encS b)]) ?_ ⟨rfl, lt_pre ht (by omega), rfl⟩
        simp only [HasA, Tr.get_put, Nat.reduceEqDiff, reduceIte, and_self]
    · refine W.seq <| Wr <| Oa rfl sm rfl <| Oa rfl sm rfl <| Oa rfl (Zn (hv := by simp (disch := first | omega | simp only [nx]; omega) only [aLenOf, ty9, hpl, e0, e1] <;> rfl)) rfl <| Of rfl (zb (hv := bi_lss)) rfl (by first | rfl | assumption | ((simp only [bl, e0, e1]) <;> first | done | assumption | omega) | (simp; done) | (simp; omega)) <| Of rfl sm rfl rfl <| Pa ag rfl <| Pa ag rfl <| Pa ag rfl <| Pa ag rfl <| Of rfl Zp rfl rfl <| On ?_
      refine Wn <| CWp.exit <| SQ.exit <| LQ.exit <| BQ.exit <| ?_
      refine NQ.normal (L := [(0, encS a), (1, encS b)]) ?_ ⟨rfl, lt_pre ht (by omega), rfl⟩
      simp only [HasA, Tr.get_put, Nat.reduceEqDiff, reduceIte, and_self]
  rintro L a' h' ha ⟨rfl, hlt, rfl⟩
  refine SQ.normal <| CWp.known ha ?_
  simp only [mkA]
  refine Wr <| Oa rfl sm rfl <| Oa rfl (Zn (hv := by simp (disch := first | omega | simp only [nx]; omega) only [aLenOf, ty9, hpl, e0, e1] <;> rfl)) rfl <| Oa rfl sm rfl <| Oa rfl (Zn (hv := by simp (disch := first | omega | simp only [nx]; omega) only [aLenOf, ty9, hpl, e0, e1] <;> rfl)) rfl <| Oa rfl (zb (hv := bi_lss)) rfl <| Oa rfl za rfl <| On ?_
  refine CWp.ret <| FQ.ret (by simp only [aRet, Tryz.f49, aResults, aResult, lk, Nat.reduceEqDiff, reduceIte] <;> rfl) ?_
  refine ⟨?_, rfl⟩
  rw [hlt]
  congr 1
  rw [decide_eq_decide]; omega
abbrev SL (s : List UInt8) : Prop := s.length < 9223372036854775808
structure LB (p : Lf) : Prop where
  low : SL p.low
  high : SL p.high
  ky : ∀ r ∈ p.all, SL r.key ∧ SL r.val
theorem inside0_c (h : AHeap) (p : Lf) (bv dv : Value) (k : List UInt8) (h1 : SL p.low) (h2 : SL p.high) (hk : SL k) : FWp Tryz.prog 85 [LV p bv dv, encS k] h fun u h' => u = .bool (insR p.low p.high k) ∧ h' = h := by
  refine FWp.gcs (.flat rfl) ?_
  have l1 := fun G : AHeap => less_c G k p.low hk h1
  have l2 := fun G : AHeap => less_c G k p.high hk h2
  refine W.enter tyOK Tryz.func85 rfl rfl ?_
  simp only [entry]
  cases c1 : ltStr k p.low with
  | true =>
    rw [c1] at l1
    refine Wr <| Oa rfl Zx rfl <| Of rfl za rfl rfl <| On ?_
    refine Wr <| Oa rfl sm rfl <| Oa rfl (zf (hv := fa_ok (k := 0) ty25 rfl rfl ty9 rfl rfl)) rfl <| Oa rfl (zl (hv := by simp (disch := first | omega | simp only [nx]; omega) only [aLoad, ty9, rowOf, hpl, Value.cells, ty25, ty9] <;> rfl)) rfl <| OSuf.callD rfl (by simp only [aopnds, lk] <;> rfl) en49 (l1 _) rfl <| Of rfl Zt rfl rfl <| Of rfl sm rfl rfl <| Pa ag rfl <| Pa ag rfl <| Pa ag rfl <| Pa ag rfl <| Pa (aguard_un rfl rfl (by simp only [lk] <;> rfl)) rfl <| Pa (aguard_un rfl rfl (by simp only [lk] <;> rfl)) rfl <| Pa (aguard_un rfl rfl (by simp only [lk] <;> rfl)) rfl <| Pa (aguard_un rfl rfl (by simp only [lk] <;> rfl)) rfl <| Pa ag rfl <| Of rfl Zp rfl rfl <| Of rfl za rfl rfl <| On ?_
    refine CWp.ret <| FQ.ret (by simp only [aRet, Tryz.f85, aResults, aResult, lk, Nat.reduceEqDiff, reduceIte] <;> rfl) ?_
    exact ⟨by simp [insR, c1], fun r o hr ho => by simp (disch := first | omega | simp only [nx]; omega) only [hpl]; exact ho⟩
  | false =>
    rw [c1] at l1
    by_cases c2 : p.high = []
    · refine Wr <| Oa rfl Zx rfl <| Of rfl za rfl rfl <| On ?_
      refine Wr <| Oa rfl sm rfl <| Oa rfl (zf (hv := fa_ok (k := 0) ty25 rfl rfl ty9 rfl rfl)) rfl <| Oa rfl (zl (hv := by simp (disch := first | omega | simp only [nx]; omega) only [aLoad, ty9, rowOf, hpl, Value.cells, ty25, ty9] <;> rfl)) rfl <| OSuf.callD rfl (by simp only [aopnds, lk] <;> rfl) en49 (l1 _) rfl <| Ot rfl Zt rfl rfl <| Ot rfl sm rfl rfl <| Oa ag (zf (hv := fa_ok (k := 1) ty25 rfl rfl ty9 rfl rfl)) rfl <| Oa ag (zl (hv := by simp (disch := first | omega | simp only [nx]; omega) only [aLoad, ty9, rowOf, hpl, Value.cells, ty25, ty9] <;> rfl)) rfl <| Ot ag (zb (hv := bs_eql)) rfl (by simp [sst, c2]) <| Ot ag sm rfl rfl <| Pa ag rfl <| Pa ag rfl <| Pa ag rfl <| Pa ag rfl <| Ot ag Zp rfl rfl <| Ot rfl Zp rfl rfl <| Ot rfl za rfl rfl <| On ?_
      refine CWp.ret <| FQ.ret (by simp only [aRet, Tryz.f85, aResults, aResult, lk, Nat.reduceEqDiff, reduceIte] <;> rfl) ?_
      exact ⟨by simp [insR, c1, c2], fun r o hr ho => by simp (disch := first | omega | simp only [nx]; omega) only [hpl]; exact ho⟩
    · refine Wr <| Oa rfl Zx rfl <| Of rfl za rfl rfl <| On ?_
      refine Wr <| Oa rfl sm rfl <| Oa rfl (zf (hv := fa_ok (k := 0) ty25 rfl rfl ty9 rfl rfl)) rfl <| Oa rfl (zl (hv := by simp (disch := first | omega | simp only [nx]; omega) only [aLoad, ty9, rowOf, hpl, Value.cells, ty25, ty9] <;> rfl)) rfl <| OSuf.callD rfl (by simp only [aopnds, lk] <;> rfl) en49 (l1 _) rfl <| Ot rfl Zt rfl rfl <| Ot rfl sm rfl rfl <| Oa ag (zf (hv := fa_ok (k := 1) ty25 rfl rfl ty9 rfl rfl)) rfl <| Oa ag (zl (hv := by simp (disch := first | omega | simp only [nx]; omega) only [aLoad, ty9, rowOf, hpl, Value.cells, ty25, ty9] <;> rfl)) rfl <| Of ag (zb (hv := bs_eql)) rfl (by simp [sst, c2]) <| Of ag sm rfl rfl <| Oa ag sm rfl <| Oa ag (zf (hv := fa_ok (k := 1) ty25 rfl rfl ty9 rfl rfl)) rfl <| Oa ag (zl (hv := by simp (disch := first | omega | simp only [nx]; omega) only [aLoad, ty9, rowOf, hpl, Value.cells, ty25, ty9] <;> rfl)) rfl <| OSuf.callD ag (by simp only [aopnds, lk] <;> rfl) en49 (l2 _) rfl <| Oa ag Zp rfl <| Oa rfl Zp rfl <| Oa rfl za rfl <| On ?_
      refine CWp.ret <| FQ.ret (by simp only [aRet, Tryz.f85, aResults, aResult, lk, Nat.reduceEqDiff, reduceIte] <;> rfl) ?_
      exact ⟨by simp [insR, c1, c2], fun r o hr ho => by simp (disch := first | omega | simp only [nx]; omega) only [hpl]; exact ho⟩
theorem may0_c (h : AHeap) (x : Rec) : FWp Tryz.prog 84 [x.V] h fun u h' => u = I64 (mayE x) ∧ h' = h := by
  have tb84 := And.intro ty27 (And.intro ty4 (ty9))
  refine FWp.gcs (.flat rfl) ?_
  have e0 : (ByteArray.mk ⟨x.key⟩).size = x.key.length := rfl
  have e1 : (ByteArray.mk ⟨x.val⟩).size = x.val.length := rfl
  refine W.enter tyOK Tryz.func84 rfl rfl ?_
  simp only [entry]
  by_cases a1 : 16 < x.key.length
  · refine Wr <| Oa rfl Zx rfl <| Oa rfl za rfl <| On ?_
    refine W.seq <| Wr <| Oa rfl (zf (hv := fa_ok (k := 0) ty27 rfl rfl ty9 rfl rfl)) rfl <| Oa rfl (zl (hv := by simp (disch := first | omega | simp only [nx]; omega) only [aLoad, ty9, rowOf, hpl, Value.cells, Rec.cs, e0, e1] <;> rfl)) rfl <| Oa rfl (Zn (hv := by simp (disch := first | omega | simp only [nx]; omega) only [aLenOf, ty9, hpl, Value.cells, places, tb84, Rec.cs, e0, e1] <;> rfl)) rfl <| Ot rfl (zb (hv := bi_gtr)) rfl (by simp; omega) <| Ot rfl sm rfl rfl <| Pa ag rfl <| Pa ag rfl <| Pa ag rfl <| Pa ag rfl <| Ot rfl Zp rfl rfl <| On ?_
    refine Wy <| Wr <| Oa rfl za rfl <| On ?_
    refine CWp.ret <| SQ.ret <| FQ.ret (by simp only [aRet, Tryz.f84, aResults, aResult, lk, Nat.reduceEqDiff, reduceIte] <;> rfl) ?_
    exact ⟨by rw [mayE, if_neg (by omega)], fun r o hr ho => by simp (disch := first | omega | simp only [nx]; omega) only [hpl]; exact ho⟩
  by_cases a2 : 24 < x.val.length
  · refine Wr <| Oa rfl Zx rfl <| Oa rfl za rfl <| On ?_
    refine W.seq <| Wr <| Oa rfl (zf (hv := fa_ok (k := 0) ty27 rfl rfl ty9 rfl rfl)) rfl <| Oa rfl (zl (hv := by simp (disch := first | omega | simp only [nx]; omega) only [aLoad, ty9, rowOf, hpl, Value.cells, Rec.cs, e0, e1] <;> rfl)) rfl <| Oa rfl (Zn (hv := by simp (disch := first | omega | simp only [nx]; omega) only [aLenOf, ty9, hpl, Value.cells, places, tb84, Rec.cs, e0, e1] <;> rfl)) rfl <| Of rfl (zb (hv := bi_gtr)) rfl (by simp; omega) <| Of rfl sm rfl rfl <| Oa ag (zf (hv := fa_ok (k := 3) ty27 rfl rfl ty9 rfl rfl)) rfl <| Oa ag (zl (hv := by simp (disch := first | omega | simp only [nx]; omega) only [aLoad, ty9, rowOf, hpl, Value.cells, Rec.cs, e0, e1] <;> rfl)) rfl <| Oa ag (Zn (hv := by simp (disch := first | omega | simp only [nx]; omega) only [aLenOf, ty9, hpl, Value.cells, places, tb84, Rec.cs, e0, e1] <;> rfl)) rfl <| Ot ag (zb (hv := bi_gtr)) rfl (by simp; omega) <| Ot rfl Zp rfl rfl <| On ?_
    refine Wy <| Wr <| Oa rfl za rfl <| On ?_
    refine CWp.ret <| SQ.ret <| FQ.ret (by simp only [aRet, Tryz.f84, aResults, aResult, lk, Nat.reduceEqDiff, reduceIte] <;> rfl) ?_
    exact ⟨by rw [mayE, if_neg (by omega)], fun r o hr ho => by simp (disch := first | omega | simp only [nx]; omega) only [hpl]; exact ho⟩
  by_cases a3 : x.key = []
  · refine Wr <| Oa rfl Zx rfl <| Oa rfl za rfl <| On ?_
    refine W.seq <| Wr <| Oa rfl (zf (hv := fa_ok (k := 0) ty27 rfl rfl ty9 rfl rfl)) rfl <| Oa rfl (zl (hv := by simp (disch := first | omega | simp only [nx]; omega) only [aLoad, ty9, rowOf, hpl, Value.cells, Rec.cs, e0, e1] <;> rfl)) rfl <| Oa rfl (Zn (hv := by simp (disch := first | omega | simp only [nx]; omega) only [aLenOf, ty9, hpl, Value.cells, places, tb84, Rec.cs, e0, e1] <;> rfl)) rfl <| Of rfl (zb (hv := bi_gtr)) rfl (by simp; omega) <| Of rfl sm rfl rfl <| Oa ag (zf (hv := fa_ok (k := 3) ty27 rfl rfl ty9 rfl rfl)) rfl <| Oa ag (zl (hv := by simp (disch := first | omega | simp only [nx]; omega) only [aLoad, ty9, rowOf, hpl, Value.cells, Rec.cs, e0, e1] <;> rfl)) rfl <| Oa ag (Zn (hv := by simp (disch := first | omega | simp only [nx]; omega) only [aLenOf, ty9, hpl, Value.cells, places, tb84, Rec.cs, e0, e1] <;> rfl)) rfl <| Of ag (zb (hv := bi_gtr)) rfl (by simp; omega) <| Of rfl Zp rfl rfl <| On ?_
    refine Wn <| CWp.skip <| SQ.normal ?_
    refine W.seq <| Wr <| Oa rfl (zf (hv := fa_ok (k := 0) ty27 rfl rfl ty9 rfl rfl)) rfl <| Oa rfl (zl (hv := by simp (disch := first | omega | simp only [nx]; omega) only [aLoad, ty9, rowOf, hpl, Value.cells, Rec.cs, e0, e1] <;> rfl)) rfl <| Ot rfl (zb (hv := bs_eql)) rfl (by simp [sst, a3]) <| Ot rfl sm rfl rfl <| Pa ag rfl <| Pa ag rfl <| Pa ag rfl <| Pa (aguard_un rfl rfl (by simp only [lk] <;> rfl)) rfl <| Pa (aguard_un rfl rfl (by simp only [lk] <;> rfl)) rfl <| Pa (aguard_un rfl rfl (by simp only [lk] <;> rfl)) rfl <| Pa ag rfl <| Ot rfl Zp rfl rfl <| On ?_
    refine Wy <| Wr <| Oa rfl za rfl <| On ?_
    refine CWp.ret <| SQ.ret <| FQ.ret (by simp only [aRet, Tryz.f84, aResults, aResult, lk, Nat.reduceEqDiff, reduceIte] <;> rfl) ?_
    exact ⟨by rw [mayE, if_pos (by omega), if_neg (fun h => h.1 a3)], fun r o hr ho => by simp (disch := first | omega | simp only [nx]; omega) only [hpl]; exact ho⟩
  cases a4 : x.del with
  | false =>
    refine Wr <| Oa rfl Zx rfl <| Oa rfl za rfl <| On ?_
    refine W.seq <| Wr <| Oa rfl (zf (hv := fa_ok (k := 0) ty27 rfl rfl ty9 rfl rfl)) rfl <| Oa rfl (zl (hv := by simp (disch := first | omega | simp only [nx]; omega) only [aLoad, ty9, rowOf, hpl, Value.cells, Rec.cs, e0, e1] <;> rfl)) rfl <| Oa rfl (Zn (hv := by simp (disch := first | omega | simp only [nx]; omega) only [aLenOf, ty9, hpl, Value.cells, places, tb84, Rec.cs, e0, e1] <;> rfl)) rfl <| Of rfl (zb (hv := bi_gtr)) rfl (by simp; omega) <| Of rfl sm rfl rfl <| Oa ag (zf (hv := fa_ok (k := 3) ty27 rfl rfl ty9 rfl rfl)) rfl <| Oa ag (zl (hv := by simp (disch := first | omega | simp only [nx]; omega) only [aLoad, ty9, rowOf, hpl, Value.cells, Rec.cs, e0, e1] <;> rfl)) rfl <| Oa ag (Zn (hv := by simp (disch := first | omega | simp only [nx]; omega) only [aLenOf, ty9, hpl, Value.cells, places, tb84, Rec.cs, e0, e1] <;> rfl)) rfl <| Of ag (zb (hv := bi_gtr)) rfl (by simp; omega) <| Of rfl Zp rfl rfl <| On ?_
    refine Wn <| CWp.skip <| SQ.normal ?_
    refine W.seq <| Wr <| Oa rfl (zf (hv := fa_ok (k := 0) ty27 rfl rfl ty9 rfl rfl)) rfl <| Oa rfl (zl (hv := by simp (disch := first | omega | simp only [nx]; omega) only [aLoad, ty9, rowOf, hpl, Value.cells, Rec.cs, e0, e1] <;> rfl)) rfl <| Of rfl (zb (hv := bs_eql)) rfl (by simp [sst, a3]) <| Of rfl sm rfl rfl <| Oa ag (zf (hv := fa_ok (k := 2) ty27 rfl rfl ty4 rfl rfl)) rfl <| Of ag (zl (hv := by simp (disch := first | omega | simp only [nx]; omega) only [aLoad, ty4, rowOf, hpl, Value.cells, Rec.cs, e0, e1] <;> rfl)) rfl (a4) <| Of ag sm rfl rfl <| Pa ag rfl <| Pa ag rfl <| Pa ag rfl <| Of ag Zp rfl rfl <| Of rfl Zp rfl rfl <| On ?_
    refine Wn <| CWp.skip <| SQ.normal ?_
    refine Wr <| Oa rfl za rfl <| On ?_
    refine CWp.ret <| FQ.ret (by simp only [aRet, Tryz.f84, aResults, aResult, lk, Nat.reduceEqDiff, reduceIte] <;> rfl) ?_
    exact ⟨by rw [mayE, if_pos (by omega), if_pos ⟨a3, fun h => by rw [a4] at h; cases h⟩], fun r o hr ho => by simp (disch := first | omega | simp only [nx]; omega) only [hpl]; exact ho⟩
  | true =>
    by_cases a5 : x.val = []
    · refine Wr <| Oa rfl Zx rfl <| Oa rfl za rfl <| On ?_
      refine W.seq <| Wr <| Oa rfl (zf (hv := fa_ok (k := 0) ty27 rfl rfl ty9 rfl rfl)) rfl <| Oa rfl (zl (hv := by simp (disch := first | omega | simp only [nx]; omega) only [aLoad, ty9, rowOf, hpl, Value.cells, Rec.cs, e0, e1] <;> rfl)) rfl <| Oa rfl (Zn (hv := by simp (disch := first | omega | simp only [nx]; omega) only [aLenOf, ty9, hpl, Value.cells, places, tb84, Rec.cs, e0, e1] <;> rfl)) rfl <| Of rfl (zb (hv := bi_gtr)) rfl (by simp; omega) <| Of rfl sm rfl rfl <| Oa ag (zf (hv := fa_ok (k := 3) ty27 rfl rfl ty9 rfl rfl)) rfl <| Oa ag (zl (hv := by simp (disch := first | omega | simp only [nx]; omega) only [aLoad, ty9, rowOf, hpl, Value.cells, Rec.cs, e0, e1] <;> rfl)) rfl <| Oa ag (Zn (hv := by simp (disch := first | omega | simp only [nx]; omega) only [aLenOf, ty9, hpl, Value.cells, places, tb84, Rec.cs, e0, e1] <;> rfl)) rfl <| Of ag (zb (hv := bi_gtr)) rfl (by simp; omega) <| Of rfl Zp rfl rfl <| On ?_
      refine Wn <| CWp.skip <| SQ.normal ?_
      refine W.seq <| Wr <| Oa rfl (zf (hv := fa_ok (k := 0) ty27 rfl rfl ty9 rfl rfl)) rfl <| Oa rfl (zl (hv := by simp (disch := first | omega | simp only [nx]; omega) only [aLoad, ty9, rowOf, hpl, Value.cells, Rec.cs, e0, e1] <;> rfl)) rfl <| Of rfl (zb (hv := bs_eql)) rfl (by simp [sst, a3]) <| Of rfl sm rfl rfl <| Oa ag (zf (hv := fa_ok (k := 2) ty27 rfl rfl ty4 rfl rfl)) rfl <| Ot ag (zl (hv := by simp (disch := first | omega | simp only [nx]; omega) only [aLoad, ty4, rowOf, hpl, Value.cells, Rec.cs, e0, e1] <;> rfl)) rfl (a4) <| Ot ag sm rfl rfl <| Oa ag (zf (hv := fa_ok (k := 3) ty27 rfl rfl ty9 rfl rfl)) rfl <| Oa ag (zl (hv := by simp (disch := first | omega | simp only [nx]; omega) only [aLoad, ty9, rowOf, hpl, Value.cells, Rec.cs, e0, e1] <;> rfl)) rfl <| Of ag (zb (hv := bs_neq)) rfl (by simp [sst, a5]) <| Of ag Zp rfl rfl <| Of rfl Zp rfl rfl <| On ?_
      refine Wn <| CWp.skip <| SQ.normal ?_
      refine Wr <| Oa rfl za rfl <| On ?_
      refine CWp.ret <| FQ.ret (by simp only [aRet, Tryz.f84, aResults, aResult, lk, Nat.reduceEqDiff, reduceIte] <;> rfl) ?_
      exact ⟨by rw [mayE, if_pos (by omega), if_pos ⟨a3, fun _ => a5⟩], fun r o hr ho => by simp (disch := first | omega | simp only [nx]; omega) only [hpl]; exact ho⟩
    · refine Wr <| Oa rfl Zx rfl <| Oa rfl za rfl <| On ?_
      refine W.seq <| Wr <| Oa rfl (zf (hv := fa_ok (k := 0) ty27 rfl rfl ty9 rfl rfl)) rfl <| Oa rfl (zl (hv := by simp (disch := first | omega | simp only [nx]; omega) only [aLoad, ty9, rowOf, hpl, Value.cells, Rec.cs, e0, e1] <;> rfl)) rfl <| Oa rfl (Zn (hv := by simp (disch := first | omega | simp only [nx]; omega) only [aLenOf, ty9, hpl, Value.cells, places, tb84, Rec.cs, e0, e1] <;> rfl)) rfl <| Of rfl (zb (hv := bi_gtr)) rfl (by simp; omega) <| Of rfl sm rfl rfl <| Oa ag (zf (hv := fa_ok (k := 3) ty27 rfl rfl ty9 rfl rfl)) rfl <| Oa ag (zl (hv := by simp (disch := first | omega | simp only [nx]; omega) only [aLoad, ty9, rowOf, hpl, Value.cells, Rec.cs, e0, e1] <;> rfl)) rfl <| Oa ag (Zn (hv := by simp (disch := first | omega | simp only [nx]; omega) only [aLenOf, ty9, hpl, Value.cells, places, tb84, Rec.cs, e0, e1] <;> rfl)) rfl <| Of ag (zb (hv := bi_gtr)) rfl (by simp; omega) <| Of rfl Zp rfl rfl <| On ?_
      refine Wn <| CWp.skip <| SQ.normal ?_
      refine W.seq <| Wr <| Oa rfl (zf (hv := fa_ok (k := 0) ty27 rfl rfl ty9 rfl rfl)) rfl <| Oa rfl (zl (hv := by simp (disch := first | omega | simp only [nx]; omega) only [aLoad, ty9, rowOf, hpl, Value.cells, Rec.cs, e0, e1] <;> rfl)) rfl <| Of rfl (zb (hv := bs_eql)) rfl (by simp [sst, a3]) <| Of rfl sm rfl rfl <| Oa ag (zf (hv := fa_ok (k := 2) ty27 rfl rfl ty4 rfl rfl)) rfl <| Ot ag (zl (hv := by simp (disch := first | omega | simp only [nx]; omega) only [aLoad, ty4, rowOf, hpl, Value.cells, Rec.cs, e0, e1] <;> rfl)) rfl (a4) <| Ot ag sm rfl rfl <| Oa ag (zf (hv := fa_ok (k := 3) ty27 rfl rfl ty9 rfl rfl)) rfl <| Oa ag (zl (hv := by simp (disch := first | omega | simp only [nx]; omega) only [aLoad, ty9, rowOf, hpl, Value.cells, Rec.cs, e0, e1] <;> rfl)) rfl <| Ot ag (zb (hv := bs_neq)) rfl (by simp [sst, a5]) <| Ot ag Zp rfl rfl <| Ot rfl Zp rfl rfl <| On ?_
      refine Wy <| Wr <| Oa rfl za rfl <| On ?_
      refine CWp.ret <| SQ.ret <| FQ.ret (by simp only [aRet, Tryz.f84, aResults, aResult, lk, Nat.reduceEqDiff, reduceIte] <;> rfl) ?_
      exact ⟨by rw [mayE, if_pos (by omega), if_neg (fun h => a5 (h.2 a4))], fun r o hr ho => by simp (disch := first | omega | simp only [nx]; omega) only [hpl]; exact ho⟩
theorem rec0_c (h : AHeap) (p : Lf) (bv dv : Value) (x : Rec) (h1 : SL p.low) (h2 : SL p.high) (hk : SL x.key) : FWp Tryz.prog 42 [LV p bv dv, x.V] h fun u h' => u = .bool (fit p.low p.high x) ∧ h' = h := by
  have tb42 := And.intro ty22 (And.intro ty25 (And.intro ty27 (ty9)))
  refine FWp.gcs (.flat rfl) ?_
  refine W.enter tyOK Tryz.func42 rfl rfl ?_
  simp only [entry]
  cases m : mayR x with
  | false =>
    refine Wr <| Oa rfl Zx rfl <| Oa rfl Zx rfl <| Of rfl za rfl rfl <| On ?_
    refine Wr <| Oa rfl (zl (hv := by simp (disch := first | omega | simp only [nx]; omega) only [aLoad, ty27, rowOf, hpl, rcl, Value.cells] <;> rfl)) rfl <| OSuf.callD rfl (by simp only [aopnds, lk] <;> rfl) en84 (may0_c _ x) rfl <| Of rfl (zb (hv := bi_eql)) rfl (by rw [mayE_ok]; exact m) <| Of rfl sm rfl rfl <| Pa ag rfl <| Pa ag rfl <| Pa ag rfl <| Of rfl Zp rfl rfl <| Of rfl sm rfl rfl <| Pa ag rfl <| Pa ag rfl <| Pa ag rfl <| Of rfl Zp rfl rfl <| Of rfl sm rfl rfl <| Pa ag rfl <| Pa ag rfl <| Pa ag rfl <| Pa ag rfl <| Of rfl Zp rfl rfl <| Of rfl za rfl rfl <| On ?_
    refine CWp.ret <| FQ.ret (by simp only [aRet, Tryz.f42, aResults, aResult, lk, Nat.reduceEqDiff, reduceIte] <;> rfl) ?_
    exact ⟨by simp [fit, m], fun r o hr ho => by simp (disch := first | omega | simp only [nx]; omega) only [hpl]; exact ho⟩
  | true =>
    by_cases c1 : x.lsn ≥ 1
    · by_cases c2 : x.lsn ≤ 1099511627776
      · refine Wr <| Oa rfl Zx rfl <| Oa rfl Zx rfl <| Of rfl za rfl rfl <| On ?_
        refine Wr <| Oa rfl (zl (hv := by simp (disch := first | omega | simp only [nx]; omega) only [aLoad, ty27, rowOf, hpl, rcl, Rec.cs, Value.cells] <;> rfl)) rfl <| OSuf.callD rfl (by simp only [aopnds, lk] <;> rfl) en84 (may0_c _ x) rfl <| Ot rfl (zb (hv := bi_eql)) rfl (by rw [mayE_ok]; exact m) <| Ot rfl sm rfl rfl <| Oa ag (zf (hv := fa_ok (k := 1) ty27 rfl rfl ty22 rfl rfl)) rfl <| Oa ag (zl (hv := by simp (disch := first | omega | simp only [nx]; omega) only [aLoad, ty22, rowOf, hpl, rcl, Rec.cs, Value.cells] <;> rfl)) rfl <| Ot ag (zb (hv := bi_geq)) rfl (by simp [c1]) <| Ot rfl Zp rfl rfl <| Ot rfl sm rfl rfl <| Oa ag (zf (hv := fa_ok (k := 1) ty27 rfl rfl ty22 rfl rfl)) rfl <| Oa ag (zl (hv := by simp (disch := first | omega | simp only [nx]; omega) only [aLoad, ty22, rowOf, hpl, rcl, Rec.cs, Value.cells] <;> rfl)) rfl <| Ot ag (zb (hv := bi_leq)) rfl (by simp [c2]) <| Ot rfl Zp rfl rfl <| Ot rfl sm rfl rfl <| Oa ag (zl (hv := by simp (disch := first | omega | simp only [nx]; omega) only [aLoad, ty25, rowOf, hpl, rcl, Rec.cs, Value.cells] <;> rfl)) rfl <| Oa ag (zf (hv := fa_ok (k := 0) ty27 rfl rfl ty9 rfl rfl)) rfl <| Oa ag (zl (hv := by simp (disch := first | omega | simp only [nx]; omega) only [aLoad, ty9, rowOf, hpl, rcl, Rec.cs, Value.cells] <;> rfl)) rfl <| OSuf.callD ag (by simp only [aopnds, lk] <;> rfl) en85 (inside0_c _ p bv dv x.key h1 h2 hk) rfl <| Oa rfl Zp rfl <| Oa rfl za rfl <| On ?_
        refine CWp.ret <| FQ.ret (by simp only [aRet, Tryz.f42, aResults, aResult, lk, Nat.reduceEqDiff, reduceIte] <;> rfl) ?_
        exact ⟨by simp [fit, m, c1, c2], fun r o hr ho => by simp (disch := first | omega | simp only [nx]; omega) only [hpl]; exact ho⟩
      · refine Wr <| Oa rfl Zx rfl <| Oa rfl Zx rfl <| Of rfl za rfl rfl <| On ?_
        refine Wr <| Oa rfl (zl (hv := by simp (disch := first | omega | simp only [nx]; omega) only [aLoad, ty27, rowOf, hpl, rcl, Rec.cs, Value.cells] <;> rfl)) rfl <| OSuf.callD rfl (by simp only [aopnds, lk] <;> rfl) en84 (may0_c _ x) rfl <| Ot rfl (zb (hv := bi_eql)) rfl (by rw [mayE_ok]; exact m) <| Ot rfl sm rfl rfl <| Oa ag (zf (hv := fa_ok (k := 1) ty27 rfl rfl ty22 rfl rfl)) rfl <| Oa ag (zl (hv := by simp (disch := first | omega | simp only [nx]; omega) only [aLoad, ty22, rowOf, hpl, rcl, Rec.cs, Value.cells] <;> rfl)) rfl <| Ot ag (zb (hv := bi_geq)) rfl (by simp [c1]) <| Ot rfl Zp rfl rfl <| Ot rfl sm rfl rfl <| Oa ag (zf (hv := fa_ok (k := 1) ty27 rfl rfl ty22 rfl rfl)) rfl <| Oa ag (zl (hv := by simp (disch := first | omega | simp only [nx]; omega) only [aLoad, ty22, rowOf, hpl, rcl, Rec.cs, Value.cells] <;> rfl)) rfl <| Of ag (zb (hv := bi_leq)) rfl (by simp [c2]) <| Of rfl Zp rfl rfl <| Of rfl sm rfl rfl <| Pa ag rfl <| Pa ag rfl <| Pa ag rfl <| Pa ag rfl <| Of rfl Zp rfl rfl <| Of rfl za rfl rfl <| On ?_
        refine CWp.ret <| FQ.ret (by simp only [aRet, Tryz.f42, aResults, aResult, lk, Nat.reduceEqDiff, reduceIte] <;> rfl) ?_
        exact ⟨by simp [fit, m, c2], fun r o hr ho => by simp (disch := first | omega | simp only [nx]; omega) only [hpl]; exact ho⟩
    · refine Wr <| Oa rfl Zx rfl <| Oa rfl Zx rfl <| Of rfl za rfl rfl <| On ?_
      refine Wr <| Oa rfl (zl (hv := by simp (disch := first | omega | simp only [nx]; omega) only [aLoad, ty27, rowOf, hpl, rcl, Rec.cs, Value.cells] <;> rfl)) rfl <| OSuf.callD rfl (by simp only [aopnds, lk] <;> rfl) en84 (may0_c _ x) rfl <| Ot rfl (zb (hv := bi_eql)) rfl (by rw [mayE_ok]; exact m) <| Ot rfl sm rfl rfl <| Oa ag (zf (hv := fa_ok (k := 1) ty27 rfl rfl ty22 rfl rfl)) rfl <| Oa ag (zl (hv := by simp (disch := first | omega | simp only [nx]; omega) only [aLoad, ty22, rowOf, hpl, rcl, Rec.cs, Value.cells] <;> rfl)) rfl <| Of ag (zb (hv := bi_geq)) rfl (by simp [c1]) <| Of rfl Zp rfl rfl <| Of rfl sm rfl rfl <| Pa ag rfl <| Pa ag rfl <| Pa ag rfl <| Of rfl Zp rfl rfl <| Of rfl sm rfl rfl <| Pa ag rfl <| Pa ag rfl <| Pa ag rfl <| Pa ag rfl <| Of rfl Zp rfl rfl <| Of rfl za rfl rfl <| On ?_
      refine CWp.ret <| FQ.ret (by simp only [aRet, Tryz.f42, aResults, aResult, lk, Nat.reduceEqDiff, reduceIte] <;> rfl) ?_
      exact ⟨by simp [fit, m, c1], fun r o hr ho => by simp (disch := first | omega | simp only [nx]; omega) only [hpl]; exact ho⟩
end Go.Proofs.YtebheelmgcggmaaGreat
namespace Go.Proofs.YtebheelmgcggmaaGreat
open Go.Ab Go.Sort
theorem chk_all {p : Lf} {x : Rec} (hx : x ∈ p.all) (h : fit p.low p.high x = false) : chk p = false := by
  cases c : chk p with
  | false => rfl
  | true =>
    simp only [chk, Bool.and_eq_true, List.all_eq_true] at c
    rw [c.2.1 x hx] at h; cases h
theorem chk_b {p : Lf} {j : Nat} {a b : Rec} (ha : p.base[j]? = some a) (hb : p.base[j + 1]? = some b) (h : ltK a b = false) : chk p = false := by
  cases c : chk p with
  | false => rfl
  | true =>
    simp only [chk, Bool.and_eq_true] at c
    rw [risB_not ha hb h] at c; cases c.2.2.1
theorem chk_d {p : Lf} {j : Nat} {a b : Rec} (ha : p.deltas[j]? = some a) (hb : p.deltas[j + 1]? = some b) (h : ltL a b = false) : chk p = false := by
  cases c : chk p with
  | false => rfl
  | true =>
    simp only [chk, Bool.and_eq_true] at c
    rw [risB_not ha hb h] at c; cases c.2.2.2
theorem check0_c (h : AHeap) (p : Lf) (bv dv : Value) (hb : RS h p.base bv) (hd : RS h p.deltas dv) (hlb : p.base.length ≤ 1000000) (hld : p.deltas.length ≤ 1000000) (lb : LB p) :
    FWp Tryz.prog 14 [LV p bv dv] h fun u h' => u = I64 (if chk p = true then 0 else 2) ∧ h' = h := by
  have tb14 := And.intro ty22 (And.intro ty23 (And.intro ty25 (And.intro ty27 (ty9))))
  obtain ⟨b1, c1, rfl⟩ := hb.form
  obtain ⟨b2, c2, rfl⟩ := hd.form
  refine FWp.gcs (.flat rfl) ?_
  refine W.enter tyOK Tryz.func14 rfl rfl ?_
  simp only [entry]
  have hsz1 := sz_str p.low
  have hsz2 := sz_str p.high
  have bad : ∀ e : Int, chk p = false → e = 2 → I64 e = I64 (if chk p = true then 0 else 2) := fun e h1 h2 => by rw [h1, h2]; rfl
  have bad' : ¬ (p.low.length ≤ 16 ∧ p.high.length ≤ 16 ∧ (p.high = [] ∨ ltStr p.low p.high = true) ∧ p.full ≤ 1099511627776 ∧ p.base.length ≤ 64 ∧ p.deltas.length ≤ 64) → chk p = false := fun hn => by simp only [chk]; rw [decide_eq_false hn]; rfl
  apply W.join (fun L h' => (p.low.length ≤ 16 ∧ p.high.length ≤ 16 ∧ (p.high = [] ∨ ltStr p.low p.high = true) ∧ p.full ≤ 1099511627776 ∧ p.base.length ≤ 64 ∧ p.deltas.length ≤ 64) ∧ h' = h.new (.cells (lcs p (.slice b1 p.base.length c1) (.slice b2 p.deltas.length c2)) 1) ∧ L = [(1, P0 h.next)])
  · intro rest
    refine Wr <| Oa rfl Zx rfl <| Oa rfl za rfl <| On ?_
    refine W.seq <| Wr <| Oa rfl (zf (hv := fa_ok (k := 0) ty25 rfl rfl ty9 rfl rfl)) rfl <| Oa rfl (zl (hv := by simp (disch := first | omega | simp only [nx]; omega) only [aLoad, ty9, rowOf, hpl, Value.cells, hsz1, hsz2] <;> rfl)) rfl <| Oa rfl (Zn (hv := by simp (disch := first | omega | simp only [nx]; omega) only [aLenOf, ty9, hpl, Value.cells, hsz1, hsz2, places, tb14] <;> rfl)) rfl <| OSuf.aopB tyOK rfl (zb (hv := bi_gtr)) (fun _ => rfl) (fun h1 => ?_) (fun h1 => ?_)
    · try simp only [bl] at h1
      refine Ot rfl sm rfl rfl <| Pa ag rfl <| Pa ag rfl <| Pa ag rfl <| Pa ag rfl <| Ot rfl Zp rfl rfl <| Ot rfl sm rfl rfl <| Pa ag rfl <| Pa ag rfl <| Pa ag rfl <| Pa ag rfl <| Pa (aguard_un rfl rfl (by simp only [lk] <;> rfl)) rfl <| Pa (aguard_un rfl rfl (by simp only [lk] <;> rfl)) rfl <| Pa (aguard_un rfl rfl (by simp only [lk] <;> rfl)) rfl <| Pa (aguard_un rfl rfl (by simp only [lk] <;> rfl)) rfl <| Pa (aguard_un rfl rfl (by simp only [lk] <;> rfl)) rfl <| Pa (aguard_un rfl rfl (by simp only [lk] <;> rfl)) rfl <| Pa ag rfl <| Ot rfl Zp rfl rfl <| Ot rfl sm rfl rfl <| Pa ag rfl <| Pa ag rfl <| Pa ag rfl <| Ot rfl Zp rfl rfl <| Ot rfl sm rfl rfl <| Pa ag rfl <| Pa ag rfl <| Pa ag rfl <| Pa ag rfl <| Ot rfl Zp rfl rfl <| Ot rfl sm rfl rfl <| Pa ag rfl <| Pa ag rfl <| Pa ag rfl <| Pa ag rfl <| Ot rfl Zp rfl rfl <| On ?_
      refine Wy <| Wr <| Oa rfl za rfl <| On ?_
      refine CWp.ret <| SQ.ret <| FQ.ret (by simp only [aRet, Tryz.f14, aResults, aResult, lk, Nat.reduceEqDiff, reduceIte] <;> rfl) ?_
      exact ⟨bad _ (bad' (by omega)) rfl, fun r o hr ho => by simp (disch := first | omega | simp only [nx]; omega) only [hpl]; exact ho⟩
    · try simp only [bl] at h1
      refine Of rfl sm rfl rfl <| Oa ag (zf (hv := fa_ok (k := 1) ty25 rfl rfl ty9 rfl rfl)) rfl <| Oa ag (zl (hv := by simp (disch := first | omega | simp only [nx]; omega) only [aLoad, ty9, rowOf, hpl, Value.cells, hsz1, hsz2] <;> rfl)) rfl <| Oa ag (Zn (hv := by simp (disch := first | omega | simp only [nx]; omega) only [aLenOf, ty9, hpl, Value.cells, hsz1, hsz2, places, tb14] <;> rfl)) rfl <| OSuf.aopB tyOK ag (zb (hv := bi_gtr)) (fun _ => rfl) (fun h2 => ?_) (fun h2 => ?_)
      · try simp only [bl] at h2
        refine Ot rfl Zp rfl rfl <| Ot rfl sm rfl rfl <| Pa ag rfl <| Pa ag rfl <| Pa ag rfl <| Pa ag rfl <| Pa (aguard_un rfl rfl (by simp only [lk] <;> rfl)) rfl <| Pa (aguard_un rfl rfl (by simp only [lk] <;> rfl)) rfl <| Pa (aguard_un rfl rfl (by simp only [lk] <;> rfl)) rfl <| Pa (aguard_un rfl rfl (by simp only [lk] <;> rfl)) rfl <| Pa (aguard_un rfl rfl (by simp only [lk] <;> rfl)) rfl <| Pa (aguard_un rfl rfl (by simp only [lk] <;> rfl)) rfl <| Pa ag rfl <| Ot rfl Zp rfl rfl <| Ot rfl sm rfl rfl <| Pa ag rfl <| Pa ag rfl <| Pa ag rfl <| Ot rfl Zp rfl rfl <| Ot rfl sm rfl rfl <| Pa ag rfl <| Pa ag rfl <| Pa ag rfl <| Pa ag rfl <| Ot rfl Zp rfl rfl <| Ot rfl sm rfl rfl <| Pa ag rfl <| Pa ag rfl <| Pa ag rfl <| Pa ag rfl <| Ot rfl Zp rfl rfl <| On ?_
        refine Wy <| Wr <| Oa rfl za rfl <| On ?_
        refine CWp.ret <| SQ.ret <| FQ.ret (by simp only [aRet, Tryz.f14, aResults, aResult, lk, Nat.reduceEqDiff, reduceIte] <;> rfl) ?_
        exact ⟨bad _ (bad' (by omega)) rfl, fun r o hr ho => by simp (disch := first | omega | simp only [nx]; omega) only [hpl]; exact ho⟩
      · try simp only [bl] at h2
        refine Of rfl Zp rfl rfl <| Of rfl sm rfl rfl <| Oa ag (zf (hv := fa_ok (k := 1) ty25 rfl rfl ty9 rfl rfl)) rfl <| Oa ag (zl (hv := by simp (disch := first | omega | simp only [nx]; omega) only [aLoad, ty9, rowOf, hpl, Value.cells, hsz1, hsz2] <;> rfl)) rfl <| OSuf.aopB tyOK ag (zb (hv := bs_neq)) (fun _ => rfl) (fun h3 => ?_) (fun h3 => ?_)
        · try simp only [bl] at h3
          refine Ot ag sm rfl rfl <| Oa ag (zf (hv := fa_ok (k := 0) ty25 rfl rfl ty9 rfl rfl)) rfl <| Oa ag (zl (hv := by simp (disch := first | omega | simp only [nx]; omega) only [aLoad, ty9, rowOf, hpl, Value.cells, hsz1, hsz2] <;> rfl)) rfl <| Oa ag (zf (hv := fa_ok (k := 1) ty25 rfl rfl ty9 rfl rfl)) rfl <| Oa ag (zl (hv := by simp (disch := first | omega | simp only [nx]; omega) only [aLoad, ty9, rowOf, hpl, Value.cells, hsz1, hsz2] <;> rfl)) rfl <| OSuf.callD ag (by simp only [aopnds, lk] <;> rfl) en49 (less_c _ _ _ lb.low lb.high) rfl <| OSuf.aopB tyOK ag Zt (fun _ => rfl) (fun h4 => ?_) (fun h4 => ?_)
          · try simp only [bl] at h4
            refine Ot ag Zp rfl rfl <| Ot rfl Zp rfl rfl <| Ot rfl sm rfl rfl <| Pa ag rfl <| Pa ag rfl <| Pa ag rfl <| Ot rfl Zp rfl rfl <| Ot rfl sm rfl rfl <| Pa ag rfl <| Pa ag rfl <| Pa ag rfl <| Pa ag rfl <| Ot rfl Zp rfl rfl <| Ot rfl sm rfl rfl <| Pa ag rfl <| Pa ag rfl <| Pa ag rfl <| Pa ag rfl <| Ot rfl Zp rfl rfl <| On ?_
            refine Wy <| Wr <| Oa rfl za rfl <| On ?_
            refine CWp.ret <| SQ.ret <| FQ.ret (by simp only [aRet, Tryz.f14, aResults, aResult, lk, Nat.reduceEqDiff, reduceIte] <;> rfl) ?_
            exact ⟨bad _ (bad' (by simp [sst] at h3 h4; simp [h3, h4])) rfl, fun r o hr ho => by simp (disch := first | omega | simp only [nx]; omega) only [hpl]; exact ho⟩
          · try simp only [bl] at h4
            refine Of ag Zp rfl rfl <| Of rfl Zp rfl rfl <| Of rfl sm rfl rfl <| Oa ag (zf (hv := fa_ok (k := 2) ty25 rfl rfl ty22 rfl rfl)) rfl <| Oa ag (zl (hv := by simp (disch := first | omega | simp only [nx]; omega) only [aLoad, ty22, rowOf, hpl, Value.cells, hsz1, hsz2] <;> rfl)) rfl <| OSuf.aopB tyOK ag (zb (hv := bi_gtr)) (fun _ => rfl) (fun h5 => ?_) (fun h5 => ?_)
            · try simp only [bl] at h5
              refine Ot rfl Zp rfl rfl <| Ot rfl sm rfl rfl <| Pa ag rfl <| Pa ag rfl <| Pa ag rfl <| Pa ag rfl <| Ot rfl Zp rfl rfl <| Ot rfl sm rfl rfl <| Pa ag rfl <| Pa ag rfl <| Pa ag rfl <| Pa ag rfl <| Ot rfl Zp rfl rfl <| On ?_
              refine Wy <| Wr <| Oa rfl za rfl <| On ?_
              refine CWp.ret <| SQ.ret <| FQ.ret (by simp only [aRet, Tryz.f14, aResults, aResult, lk, Nat.reduceEqDiff, reduceIte] <;> rfl) ?_
              exact ⟨bad _ (bad' (by omega)) rfl, fun r o hr ho => by simp (disch := first | omega | simp only [nx]; omega) only [hpl]; exact ho⟩
            · try simp only [bl] at h5
              refine Of rfl Zp rfl rfl <| Of rfl sm rfl rfl <| Oa ag (zf (hv := fa_ok (k := 3) ty25 rfl rfl ty23 rfl rfl)) rfl <| Oa ag (zl (hv := by simp (disch := first | omega | simp only [nx]; omega) only [aLoad, ty23, rowOf, hpl, Value.cells, hsz1, hsz2] <;> rfl)) rfl <| Oa ag (Zn (hv := by simp (disch := first | omega | simp only [nx]; omega) only [aLenOf, ty23, hpl, Value.cells, hsz1, hsz2, places, tb14] <;> rfl)) rfl <| OSuf.aopB tyOK ag (zb (hv := bi_gtr)) (fun _ => rfl) (fun h6 => ?_) (fun h6 => ?_)
              · try simp only [bl] at h6
                refine Ot rfl Zp rfl rfl <| Ot rfl sm rfl rfl <| Pa ag rfl <| Pa ag rfl <| Pa ag rfl <| Pa ag rfl <| Ot rfl Zp rfl rfl <| On ?_
                refine Wy <| Wr <| Oa rfl za rfl <| On ?_
                refine CWp.ret <| SQ.ret <| FQ.ret (by simp only [aRet, Tryz.f14, aResults, aResult, lk, Nat.reduceEqDiff, reduceIte] <;> rfl) ?_
                exact ⟨bad _ (bad' (by omega)) rfl, fun r o hr ho => by simp (disch := first | omega | simp only [nx]; omega) only [hpl]; exact ho⟩
              · try simp only [bl] at h6
                refine Of rfl Zp rfl rfl <| Of rfl sm rfl rfl <| Oa ag (zf (hv := fa_ok (k := 4) ty25 rfl rfl ty23 rfl rfl)) rfl <| Oa ag (zl (hv := by simp (disch := first | omega | simp only [nx]; omega) only [aLoad, ty23, rowOf, hpl, Value.cells, hsz1, hsz2] <;> rfl)) rfl <| Oa ag (Zn (hv := by simp (disch := first | omega | simp only [nx]; omega) only [aLenOf, ty23, hpl, Value.cells, hsz1, hsz2, places, tb14] <;> rfl)) rfl <| OSuf.aopB tyOK ag (zb (hv := bi_gtr)) (fun _ => rfl) (fun h7 => ?_) (fun h7 => ?_)
                · try simp only [bl] at h7
                  refine Ot rfl Zp rfl rfl <| On ?_
                  refine Wy <| Wr <| Oa rfl za rfl <| On ?_
                  refine CWp.ret <| SQ.ret <| FQ.ret (by simp only [aRet, Tryz.f14, aResults, aResult, lk, Nat.reduceEqDiff, reduceIte] <;> rfl) ?_
                  exact ⟨bad _ (bad' (by omega)) rfl, fun r o hr ho => by simp (disch := first | omega | simp only [nx]; omega) only [hpl]; exact ho⟩
                · try simp only [bl] at h7
                  refine Of rfl Zp rfl rfl <| On ?_
                  refine Wn <| CWp.skip <| SQ.normal ?_
                  refine W.seq <| ?_
                  refine rest _ _ _ ?_ ⟨⟨by omega, by omega, by simp [sst] at h3 h4; exact .inr h4, by omega, by omega, by omega⟩, rfl, rfl⟩
                  simp [HasA, Tr.get_put]
        · try simp only [bl] at h3
          refine Of ag sm rfl rfl <| Pa ag rfl <| Pa ag rfl <| Pa ag rfl <| Pa ag rfl <| Pa ag rfl <| Pa ag rfl <| Of ag Zp rfl rfl <| Of rfl Zp rfl rfl <| Of rfl sm rfl rfl <| Oa ag (zf (hv := fa_ok (k := 2) ty25 rfl rfl ty22 rfl rfl)) rfl <| Oa ag (zl (hv := by simp (disch := first | omega | simp only [nx]; omega) only [aLoad, ty22, rowOf, hpl, Value.cells, hsz1, hsz2] <;> rfl)) rfl <| OSuf.aopB tyOK ag (zb (hv := bi_gtr)) (fun _ => rfl) (fun h5 => ?_) (fun h5 => ?_)
          · try simp only [bl] at h5
            refine Ot rfl Zp rfl rfl <| Ot rfl sm rfl rfl <| Pa ag rfl <| Pa ag rfl <| Pa ag rfl <| Pa ag rfl <| Ot rfl Zp rfl rfl <| Ot rfl sm rfl rfl <| Pa ag rfl <| Pa ag rfl <| Pa ag rfl <| Pa ag rfl <| Ot rfl Zp rfl rfl <| On ?_
            refine Wy <| Wr <| Oa rfl za rfl <| On ?_
            refine CWp.ret <| SQ.ret <| FQ.ret (by simp only [aRet, Tryz.f14, aResults, aResult, lk, Nat.reduceEqDiff, reduceIte] <;> rfl) ?_
            exact ⟨bad _ (bad' (by omega)) rfl, fun r o hr ho => by simp (disch := first | omega | simp only [nx]; omega) only [hpl]; exact ho⟩
          · try simp only [bl] at h5
            refine Of rfl Zp rfl rfl <| Of rfl sm rfl rfl <| Oa ag (zf (hv := fa_ok (k := 3) ty25 rfl rfl ty23 rfl rfl)) rfl <| Oa ag (zl (hv := by simp (disch := first | omega | simp only [nx]; omega) only [aLoad, ty23, rowOf, hpl, Value.cells, hsz1, hsz2] <;> rfl)) rfl <| Oa ag (Zn (hv := by simp (disch := first | omega | simp only [nx]; omega) only [aLenOf, ty23, hpl, Value.cells, hsz1, hsz2, places, tb14] <;> rfl)) rfl <| OSuf.aopB tyOK ag (zb (hv := bi_gtr)) (fun _ => rfl) (fun h6 => ?_) (fun h6 => ?_)
            · try simp only [bl] at h6
              refine Ot rfl Zp rfl rfl <| Ot rfl sm rfl rfl <| Pa ag rfl <| Pa ag rfl <| Pa ag rfl <| Pa ag rfl <| Ot rfl Zp rfl rfl <| On ?_
              refine Wy <| Wr <| Oa rfl za rfl <| On ?_
              refine CWp.ret <| SQ.ret <| FQ.ret (by simp only [aRet, Tryz.f14, aResults, aResult, lk, Nat.reduceEqDiff, reduceIte] <;> rfl) ?_
              exact ⟨bad _ (bad' (by omega)) rfl, fun r o hr ho => by simp (disch := first | omega | simp only [nx]; omega) only [hpl]; exact ho⟩
            · try simp only [bl] at h6
              refine Of rfl Zp rfl rfl <| Of rfl sm rfl rfl <| Oa ag (zf (hv := fa_ok (k := 4) ty25 rfl rfl ty23 rfl rfl)) rfl <| Oa ag (zl (hv := by simp (disch := first | omega | simp only [nx]; omega) only [aLoad, ty23, rowOf, hpl, Value.cells, hsz1, hsz2] <;> rfl)) rfl <| Oa ag (Zn (hv := by simp (disch := first | omega | simp only [nx]; omega) only [aLenOf, ty23, hpl, Value.cells, hsz1, hsz2, places, tb14] <;> rfl)) rfl <| OSuf.aopB tyOK ag (zb (hv := bi_gtr)) (fun _ => rfl) (fun h7 => ?_) (fun h7 => ?_)
              · try simp only [bl] at h7
                refine Ot rfl Zp rfl rfl <| On ?_
                refine Wy <| Wr <| Oa rfl za rfl <| On ?_
                refine CWp.ret <| SQ.ret <| FQ.ret (by simp only [aRet, Tryz.f14, aResults, aResult, lk, Nat.reduceEqDiff, reduceIte] <;> rfl) ?_
                exact ⟨bad _ (bad' (by omega)) rfl, fun r o hr ho => by simp (disch := first | omega | simp only [nx]; omega) only [hpl]; exact ho⟩
              · try simp only [bl] at h7
                refine Of rfl Zp rfl rfl <| On ?_
                refine Wn <| CWp.skip <| SQ.normal ?_
                refine W.seq <| ?_
                refine rest _ _ _ ?_ ⟨⟨by omega, by omega, by simp [sst] at h3; exact .inl h3, by omega, by omega, by omega⟩, rfl, rfl⟩
                simp [HasA, Tr.get_put]
  rintro L h' ⟨⟨f1, f2, f3, f4, f5, f6⟩, rfl, rfl⟩
  simp only [mkA]
  obtain ⟨g, hg⟩ : ∃ g, g = h.new (.cells (lcs p (.slice b1 p.base.length c1) (.slice b2 p.deltas.length c2)) 1) := ⟨_, rfl⟩
  rw [← hg]
  have gn : g.next = h.next + 1 := by rw [hg]; rfl
  have gk : ∀ z, z < h.next → g.get z = h.get z := fun z hz => by rw [hg]; exact zN (by omega)
  have g0 : g.get h.next = some (.cells (lcs p (.slice b1 p.base.length c1) (.slice b2 p.deltas.length c2)) 1) := by rw [hg]; exact zQ
  have hb2 := hb.mono (h' := g) (by omega) gk
  have hd2 := hd.mono (h' := g) (by omega) gk
  have old : ∀ r o, r < h.next → h.get r = some o → g.get r = some o := fun r o hr ho => by rw [gk r hr]; exact ho
  have mb : ∀ {i x}, p.base[i]? = some x → x ∈ p.all := fun {i x} hx => List.mem_append.2 (.inl (List.mem_of_getElem? hx))
  have md : ∀ {i x}, p.deltas[i]? = some x → x ∈ p.all := fun {i x} hx => List.mem_append.2 (.inr (List.mem_of_getElem? hx))
  refine Wr <| Oa rfl za rfl <| On ?_
  refine W.cut (fun L h' => (∀ x ∈ p.base, fit p.low p.high x = true) ∧ risB ltK p.base = true ∧ g = h' ∧ L = [(1, P0 h.next)]) (W.block (W.loop (fun m L h' => ∃ i : Nat, m + i = p.base.length ∧ (∀ j x, j < i → p.base[j]? = some x → fit p.low p.high x = true) ∧ (∀ j a b, j + 1 < i → p.base[j]? = some a → p.base[j + 1]? = some b → ltK a b = true) ∧ g = h' ∧ L = [(1, P0 h.next), (3, I64 i)]) (n := p.base.length) ⟨0, rfl, by omega, by omega, rfl, rfl⟩ ?_ ?_)) ?_
  · simp [HasA, Tr.get_put]
  · rintro m L h' ⟨i, hm, hf, hr, rfl, rfl⟩
    simp only [mkA]
    have w2 : IntKind.i64.wrap ((i : Int) + 1) = ((i + 1 : Nat) : Int) := by rw [wrap_i64 (by omega) (by omega)]; omega
    by_cases hk : (i : Int) < (p.base.length : Int)
    · obtain ⟨x, hx⟩ : ∃ x, p.base[i]? = some x := ⟨p.base[i]'(by omega), by simp⟩
      obtain ⟨_, r, off, rfl, hr1, hr2⟩ := RS.at_ hb2 hx
      have hc1 : (0 ≤ (i : Int) ∧ (i : Int) < (p.base.length : Int)) := by omega
      have hrec := fun G : AHeap => rec0_c G p (.slice (some ⟨r, off, none⟩) p.base.length c1) (.slice b2 p.deltas.length c2) x lb.low lb.high (lb.ky x (mb hx)).1
      cases cf : fit p.low p.high x with
      | false =>
        rw [cf] at hrec
        refine W.seq <| Wr <| Oa rfl sm rfl <| Oa rfl (zf (hv := fa_ok (k := 3) ty25 rfl rfl ty23 rfl rfl)) rfl <| Oa rfl (zl (hv := by simp (disch := first | omega | simp only [nx]; omega) only [aLoad, ty23, rowOf, hpl, g0, hc1, sb, Value.cells] <;> rfl)) rfl <| Oa rfl (Zn (hv := by simp (disch := first | omega | simp only [nx]; omega) only [aLenOf, ty23, hpl, g0, hc1, sb, Value.cells, places, tb14] <;> rfl)) rfl <| Ot rfl (zb (hv := bi_lss)) rfl (by first | rfl | assumption | ((simp only [bl, g0, hc1, sb, Value.cells, places, tb14]) <;> first | done | assumption | omega) | (simp; done) | (simp; omega)) <| On ?_
        refine Wy <| CWp.skip <| SQ.normal ?_
        refine W.seq <| W.block <| Wd <| Sa rfl (zl (hv := by simp (disch := first | omega | simp only [nx]; omega) only [aLoad, ty25, rowOf, hpl, g0, hc1, sb, Value.cells] <;> rfl)) rfl <| Sa rfl (zf (hv := fa_ok (k := 3) ty25 rfl rfl ty23 rfl rfl)) rfl <| Sa rfl (zl (hv := by simp (disch := first | omega | simp only [nx]; omega) only [aLoad, ty23, rowOf, hpl, g0, hc1, sb, Value.cells] <;> rfl)) rfl <| Sa rfl sm rfl <| Sa rfl (zi (hv := by simp (disch := first | omega | simp only [nx]; omega) only [aIndexAddr, ty23, ty27, hpl, g0, hc1, sb, Value.cells, places, tb14] <;> rfl)) rfl <| Sa rfl (zl (hv := (hr2 _ rfl).1 _ _ ty27 rfl rfl)) rfl <| SqW.callD rfl (by simp only [aopnds, lk] <;> rfl) en42 (hrec _) rfl <| St rfl Zt rfl rfl <| St rfl sm rfl rfl <| Pb ag rfl <| Pb ag rfl <| Pb ag rfl <| Pb (aguard_un rfl rfl (by simp only [lk] <;> rfl)) rfl <| Pb (aguard_un rfl rfl (by simp only [lk] <;> rfl)) rfl <| Pb (aguard_un rfl rfl (by simp only [lk] <;> rfl)) rfl <| Pb (aguard_un rfl rfl (by simp only [lk] <;> rfl)) rfl <| Pb (aguard_un rfl rfl (by simp only [lk] <;> rfl)) rfl <| Pb (aguard_un rfl rfl (by simp only [lk] <;> rfl)) rfl <| Pb (aguard_un rfl rfl (by simp only [lk] <;> rfl)) rfl <| Pb (aguard_un rfl rfl (by simp only [lk] <;> rfl)) rfl <| Pb (aguard_un rfl rfl (by simp only [lk] <;> rfl)) rfl <| Pb (aguard_un rfl rfl (by simp only [lk] <;> rfl)) rfl <| Pb (aguard_un rfl rfl (by simp only [lk] <;> rfl)) rfl <| Pb (aguard_un rfl rfl (by simp only [lk] <;> rfl)) rfl <| Pb (aguard_un rfl rfl (by simp only [lk] <;> rfl)) rfl <| Pb (aguard_un rfl rfl (by simp only [lk] <;> rfl)) rfl <| Pb (aguard_un rfl rfl (by simp only [lk] <;> rfl)) rfl <| Pb ag rfl <| St rfl Zp rfl rfl <| Sn ?_
        refine Wy <| Wr <| Oa rfl za rfl <| On ?_
        refine CWp.ret <| BQ.ret <| SQ.ret <| LQ.ret <| BQ.ret <| NQ.ret <| SQ.ret <| FQ.ret (by simp only [aRet, Tryz.f14, aResults, aResult, lk, Nat.reduceEqDiff, reduceIte] <;> rfl) ?_
        exact ⟨bad _ (chk_all (mb hx) cf) rfl, old⟩
      | true =>
        rw [cf] at hrec
        have hf' : ∀ j y, j < i + 1 → p.base[j]? = some y → fit p.low p.high y = true := fun j y hj hy => by
          by_cases e : j = i
          · subst e; rw [hx] at hy; cases hy; exact cf
          · exact hf j y (by omega) hy
        by_cases hi0 : i = 0
        · have hz : ¬ (i : Int) > 0 := by omega
          refine W.seq <| Wr <| Oa rfl sm rfl <| Oa rfl (zf (hv := fa_ok (k := 3) ty25 rfl rfl ty23 rfl rfl)) rfl <| Oa rfl (zl (hv := by simp (disch := first | omega | simp only [nx]; omega) only [aLoad, ty23, rowOf, hpl, g0, hc1, sb, Value.cells] <;> rfl)) rfl <| Oa rfl (Zn (hv := by simp (disch := first | omega | simp only [nx]; omega) only [aLenOf, ty23, hpl, g0, hc1, sb, Value.cells, places, tb14] <;> rfl)) rfl <| Ot rfl (zb (hv := bi_lss)) rfl (by first | rfl | assumption | ((simp only [bl, g0, hc1, sb, Value.cells, places, tb14]) <;> first | done | assumption | omega) | (simp; done) | (simp; omega)) <| On ?_
          refine Wy <| CWp.skip <| SQ.normal ?_
          refine W.seq <| W.block <| Wd <| Sa rfl (zl (hv := by simp (disch := first | omega | simp only [nx]; omega) only [aLoad, ty25, rowOf, hpl, g0, hc1, sb, Value.cells] <;> rfl)) rfl <| Sa rfl (zf (hv := fa_ok (k := 3) ty25 rfl rfl ty23 rfl rfl)) rfl <| Sa rfl (zl (hv := by simp (disch := first | omega | simp only [nx]; omega) only [aLoad, ty23, rowOf, hpl, g0, hc1, sb, Value.cells] <;> rfl)) rfl <| Sa rfl sm rfl <| Sa rfl (zi (hv := by simp (disch := first | omega | simp only [nx]; omega) only [aIndexAddr, ty23, ty27, hpl, g0, hc1, sb, Value.cells, places, tb14] <;> rfl)) rfl <| Sa rfl (zl (hv := (hr2 _ rfl).1 _ _ ty27 rfl rfl)) rfl <| SqW.callD rfl (by simp only [aopnds, lk] <;> rfl) en42 (hrec _) rfl <| Sf rfl Zt rfl rfl <| Sf rfl sm rfl rfl <| Sa ag sm rfl <| Sf ag (zb (hv := bi_gtr)) rfl (by first | rfl | assumption | ((simp only [bl, g0, hc1, sb, Value.cells, places, tb14]) <;> first | done | assumption | omega) | (simp; done) | (simp; omega)) <| Sf ag sm rfl rfl <| Pb ag rfl <| Pb ag rfl <| Pb ag rfl <| Pb ag rfl <| Pb ag rfl <| Pb ag rfl <| Pb ag rfl <| Pb ag rfl <| Pb ag rfl <| Pb ag rfl <| Pb ag rfl <| Pb ag rfl <| Pb ag rfl <| Pb ag rfl <| Pb ag rfl <| Sf ag Zp rfl rfl <| Sf rfl Zp rfl rfl <| Sn ?_
          refine Wn <| CWp.skip <| BQ.normal <| SQ.normal ?_
          refine W.reg <| Oa rfl sm rfl <| Oa rfl (zb (hv := bi_w bi_add (by first | (simp only [w2] <;> rfl) | rfl))) rfl <| Oa rfl za rfl <| OSuf.nil <| ?_
          refine LQ.normal (m := m - 1) (L := [(1, P0 h.next), (3, I64 ((i + 1 : Nat) : Int))]) (by omega) ?_ ⟨i + 1, by omega, hf', by omega, rfl, rfl⟩
          simp only [HasA, Tr.get_put, Nat.reduceEqDiff, reduceIte, w2, and_self]
        · obtain ⟨k, rfl⟩ : ∃ k, i = k + 1 := ⟨i - 1, by omega⟩
          have hz : ((k + 1 : Nat) : Int) > 0 := by omega
          have w3 : IntKind.i64.wrap (((k + 1 : Nat) : Int) - 1) = (k : Int) := by rw [wrap_i64 (by omega) (by omega)]; omega
          obtain ⟨y, hy⟩ : ∃ y, p.base[k]? = some y := ⟨p.base[k]'(by omega), by simp⟩
          obtain ⟨_, r', off', e', _, hr3⟩ := RS.at_ hb2 hy
          cases e'
          have hc2 : (0 ≤ (k : Int) ∧ (k : Int) < (p.base.length : Int)) := by omega
          have hl := fun G : AHeap => less_c G y.key x.key (lb.ky y (mb hy)).1 (lb.ky x (mb hx)).1
          cases cl : ltK y x with
          | true =>
            rw [show ltStr y.key x.key = true from cl] at hl
            refine W.seq <| Wr <| Oa rfl sm rfl <| Oa rfl (zf (hv := fa_ok (k := 3) ty25 rfl rfl ty23 rfl rfl)) rfl <| Oa rfl (zl (hv := by simp (disch := first | omega | simp only [nx]; omega) only [aLoad, ty23, rowOf, hpl, g0, hc1, hc2, sb, Value.cells] <;> rfl)) rfl <| Oa rfl (Zn (hv := by simp (disch := first | omega | simp only [nx]; omega) only [aLenOf, ty23, hpl, g0, hc1, hc2, sb, Value.cells, places, tb14] <;> rfl)) rfl <| Ot rfl (zb (hv := bi_lss)) rfl (by first | rfl | assumption | ((simp only [bl, g0, hc1, hc2, sb, Value.cells, places, tb14]) <;> first | done | assumption | omega) | (simp; done) | (simp; omega)) <| On ?_
            refine Wy <| CWp.skip <| SQ.normal ?_
            refine W.seq <| W.block <| Wd <| Sa rfl (zl (hv := by simp (disch := first | omega | simp only [nx]; omega) only [aLoad, ty25, rowOf, hpl, g0, hc1, hc2, sb, Value.cells] <;> rfl)) rfl <| Sa rfl (zf (hv := fa_ok (k := 3) ty25 rfl rfl ty23 rfl rfl)) rfl <| Sa rfl (zl (hv := by simp (disch := first | omega | simp only [nx]; omega) only [aLoad, ty23, rowOf, hpl, g0, hc1, hc2, sb, Value.cells] <;> rfl)) rfl <| Sa rfl sm rfl <| Sa rfl (zi (hv := by simp (disch := first | omega | simp only [nx]; omega) only [aIndexAddr, ty23, ty27, hpl, g0, hc1, hc2, sb, Value.cells, places, tb14] <;> rfl)) rfl <| Sa rfl (zl (hv := (hr2 _ rfl).1 _ _ ty27 rfl rfl)) rfl <| SqW.callD rfl (by simp only [aopnds, lk] <;> rfl) en42 (hrec _) rfl <| Sf rfl Zt rfl rfl <| Sf rfl sm rfl rfl <| Sa ag sm rfl <| St ag (zb (hv := bi_gtr)) rfl (by first | rfl | assumption | ((simp only [bl, g0, hc1, hc2, sb, Value.cells, places, tb14]) <;> first | done | assumption | omega) | (simp; done) | (simp; omega)) <| St ag sm rfl rfl <| Sa ag (zf (hv := fa_ok (k := 3) ty25 rfl rfl ty23 rfl rfl)) rfl <| Sa ag (zl (hv := by simp (disch := first | omega | simp only [nx]; omega) only [aLoad, ty23, rowOf, hpl, g0, hc1, hc2, sb, Value.cells] <;> rfl)) rfl <| Sa ag sm rfl <| Sa ag (zb (hv := bi_w bi_sub (by first | (simp only [w2, w3] <;> rfl) | rfl))) rfl <| Sa ag (zi (hv := by simp (disch := first | omega | simp only [nx]; omega) only [aIndexAddr, ty23, ty27, hpl, g0, hc1, hc2, sb, Value.cells, places, tb14] <;> rfl)) rfl <| Sa ag (zf (hv := fa_ok (k := 0) ty27 rfl rfl ty9 rfl rfl)) rfl <| Sa ag (zl (hv := (hr3 _ rfl).2 0 _ _ _ ty9 rfl rfl)) rfl <| Sa ag (zf (hv := fa_ok (k := 3) ty25 rfl rfl ty23 rfl rfl)) rfl <| Sa ag (zl (hv := by simp (disch := first | omega | simp only [nx]; omega) only [aLoad, ty23, rowOf, hpl, g0, hc1, hc2, sb, Value.cells] <;> rfl)) rfl <| Sa ag sm rfl <| Sa ag (zi (hv := by simp (disch := first | omega | simp only [nx]; omega) only [aIndexAddr, ty23, ty27, hpl, g0, hc1, hc2, sb, Value.cells, places, tb14] <;> rfl)) rfl <| Sa ag (zf (hv := fa_ok (k := 0) ty27 rfl rfl ty9 rfl rfl)) rfl <| Sa ag (zl (hv := (hr2 _ rfl).2 0 _ _ _ ty9 rfl rfl)) rfl <| SqW.callD ag (by simp only [aopnds, lk] <;> rfl) en49 (hl _) rfl <| Sf ag Zt rfl rfl <| Sf ag Zp rfl rfl <| Sf rfl Zp rfl rfl <| Sn ?_
            refine Wn <| CWp.skip <| BQ.normal <| SQ.normal ?_
            refine W.reg <| Oa rfl sm rfl <| Oa rfl (zb (hv := bi_w bi_add (by first | (simp only [w2, w3] <;> rfl) | rfl))) rfl <| Oa rfl za rfl <| OSuf.nil <| ?_
            refine LQ.normal (m := m - 1) (L := [(1, P0 h.next), (3, I64 ((k + 1 + 1 : Nat) : Int))]) (by omega) ?_ ⟨k + 1 + 1, by omega, hf', fun j a b hj h1 h2 => ?_, rfl, rfl⟩
            · simp only [HasA, Tr.get_put, Nat.reduceEqDiff, reduceIte, w2, and_self]
            · by_cases e : j = k
              · subst e; rw [hy] at h1; rw [hx] at h2; cases h1; cases h2; exact cl
              · exact hr j a b (by omega) h1 h2
          | false =>
            rw [show ltStr y.key x.key = false from cl] at hl
            refine W.seq <| Wr <| Oa rfl sm rfl <| Oa rfl (zf (hv := fa_ok (k := 3) ty25 rfl rfl ty23 rfl rfl)) rfl <| Oa rfl (zl (hv := by simp (disch := first | omega | simp only [nx]; omega) only [aLoad, ty23, rowOf, hpl, g0, hc1, hc2, sb, Value.cells] <;> rfl)) rfl <| Oa rfl (Zn (hv := by simp (disch := first | omega | simp only [nx]; omega) only [aLenOf, ty23, hpl, g0, hc1, hc2, sb, Value.cells, places, tb14] <;> rfl)) rfl <| Ot rfl (zb (hv := bi_lss)) rfl (by first | rfl | assumption | ((simp only [bl, g0, hc1, hc2, sb, Value.cells, places, tb14]) <;> first | done | assumption | omega) | (simp; done) | (simp; omega)) <| On ?_
            refine Wy <| CWp.skip <| SQ.normal ?_
            refine W.seq <| W.block <| Wd <| Sa rfl (zl (hv := by simp (disch := first | omega | simp only [nx]; omega) only [aLoad, ty25, rowOf, hpl, g0, hc1, hc2, sb, Value.cells] <;> rfl)) rfl <| Sa rfl (zf (hv := fa_ok (k := 3) ty25 rfl rfl ty23 rfl rfl)) rfl <| Sa rfl (zl (hv := by simp (disch := first | omega | simp only [nx]; omega) only [aLoad, ty23, rowOf, hpl, g0, hc1, hc2, sb, Value.cells] <;> rfl)) rfl <| Sa rfl sm rfl <| Sa rfl (zi (hv := by simp (disch := first | omega | simp only [nx]; omega) only [aIndexAddr, ty23, ty27, hpl, g0, hc1, hc2, sb, Value.cells, places, tb14] <;> rfl)) rfl <| Sa rfl (zl (hv := (hr2 _ rfl).1 _ _ ty27 rfl rfl)) rfl <| SqW.callD rfl (by simp only [aopnds, lk] <;> rfl) en42 (hrec _) rfl <| Sf rfl Zt rfl rfl <| Sf rfl sm rfl rfl <| Sa ag sm rfl <| St ag (zb (hv := bi_gtr)) rfl (by first | rfl | assumption | ((simp only [bl, g0, hc1, hc2, sb, Value.cells, places, tb14]) <;> first | done | assumption | omega) | (simp; done) | (simp; omega)) <| St ag sm rfl rfl <| Sa ag (zf (hv := fa_ok (k := 3) ty25 rfl rfl ty23 rfl rfl)) rfl <| Sa ag (zl (hv := by simp (disch := first | omega | simp only [nx]; omega) only [aLoad, ty23, rowOf, hpl, g0, hc1, hc2, sb, Value.cells] <;> rfl)) rfl <| Sa ag sm rfl <| Sa ag (zb (hv := bi_w bi_sub (by first | (simp only [w2, w3] <;> rfl) | rfl))) rfl <| Sa ag (zi (hv := by simp (disch := first | omega | simp only [nx]; omega) only [aIndexAddr, ty23, ty27, hpl, g0, hc1, hc2, sb, Value.cells, places, tb14] <;> rfl)) rfl <| Sa ag (zf (hv := fa_ok (k := 0) ty27 rfl rfl ty9 rfl rfl)) rfl <| Sa ag (zl (hv := (hr3 _ rfl).2 0 _ _ _ ty9 rfl rfl)) rfl <| Sa ag (zf (hv := fa_ok (k := 3) ty25 rfl rfl ty23 rfl rfl)) rfl <| Sa ag (zl (hv := by simp (disch := first | omega | simp only [nx]; omega) only [aLoad, ty23, rowOf, hpl, g0, hc1, hc2, sb, Value.cells] <;> rfl)) rfl <| Sa ag sm rfl <| Sa ag (zi (hv := by simp (disch := first | omega | simp only [nx]; omega) only [aIndexAddr, ty23, ty27, hpl, g0, hc1, hc2, sb, Value.cells, places, tb14] <;> rfl)) rfl <| Sa ag (zf (hv := fa_ok (k := 0) ty27 rfl rfl ty9 rfl rfl)) rfl <| Sa ag (zl (hv := (hr2 _ rfl).2 0 _ _ _ ty9 rfl rfl)) rfl <| SqW.callD ag (by simp only [aopnds, lk] <;> rfl) en49 (hl _) rfl <| St ag Zt rfl rfl <| St ag Zp rfl rfl <| St rfl Zp rfl rfl <| Sn ?_
            refine Wy <| Wr <| Oa rfl za rfl <| On ?_
            refine CWp.ret <| BQ.ret <| SQ.ret <| LQ.ret <| BQ.ret <| NQ.ret <| SQ.ret <| FQ.ret (by simp only [aRet, Tryz.f14, aResults, aResult, lk, Nat.reduceEqDiff, reduceIte] <;> rfl) ?_
            exact ⟨bad _ (chk_b hy hx cl) rfl, old⟩
    · refine W.seq <| Wr <| Oa rfl sm rfl <| Oa rfl (zf (hv := fa_ok (k := 3) ty25 rfl rfl ty23 rfl rfl)) rfl <| Oa rfl (zl (hv := by simp (disch := first | omega | simp only [nx]; omega) only [aLoad, ty23, rowOf, hpl, g0] <;> rfl)) rfl <| Oa rfl (Zn (hv := by simp (disch := first | omega | simp only [nx]; omega) only [aLenOf, ty23, hpl, g0] <;> rfl)) rfl <| Of rfl (zb (hv := bi_lss)) rfl (by first | rfl | assumption | ((simp only [bl, g0]) <;> first | done | assumption | omega) | (simp; done) | (simp; omega)) <| On ?_
      refine Wn <| CWp.exit <| SQ.exit <| LQ.exit <| BQ.exit <| ?_
      have hi : i = p.base.length := by omega
      refine NQ.normal (L := [(1, P0 h.next)]) ?_ ⟨fun x hx => ?_, risB_of fun j a b h1 h2 => hr j a b (by have := (List.getElem?_eq_some_iff.1 h2).1; omega) h1 h2, rfl, rfl⟩
      · simp only [HasA, Tr.get_put, Nat.reduceEqDiff, reduceIte, and_self]
      · obtain ⟨j, hj, rfl⟩ := List.mem_iff_getElem.1 hx
        exact hf j _ (by omega) (by simp [hj])
  rintro L a' h' ha ⟨kb, rb, rfl, rfl⟩
  refine SQ.normal <| CWp.known ha ?_
  simp only [mkA]
  refine W.seq <| Wr <| Oa rfl za rfl <| On ?_
  refine W.cut (fun L h' => (∀ x ∈ p.deltas, fit p.low p.high x = true) ∧ risB ltL p.deltas = true ∧ g = h' ∧ L = [(1, P0 h.next)]) (W.block (W.loop (fun m L h' => ∃ i : Nat, m + i = p.deltas.length ∧ (∀ j x, j < i → p.deltas[j]? = some x → fit p.low p.high x = true) ∧ (∀ j a b, j + 1 < i → p.deltas[j]? = some a → p.deltas[j + 1]? = some b → ltL a b = true) ∧ g = h' ∧ L = [(1, P0 h.next), (4, I64 i)]) (n := p.deltas.length) ⟨0, rfl, by omega, by omega, rfl, rfl⟩ ?_ ?_)) ?_
  · simp [HasA, Tr.get_put]
  · rintro m L h' ⟨i, hm, hf, hr, rfl, rfl⟩
    simp only [mkA]
    have w2 : IntKind.i64.wrap ((i : Int) + 1) = ((i + 1 : Nat) : Int) := by rw [wrap_i64 (by omega) (by omega)]; omega
    by_cases hk : (i : Int) < (p.deltas.length : Int)
    · obtain ⟨x, hx⟩ : ∃ x, p.deltas[i]? = some x := ⟨p.deltas[i]'(by omega), by simp⟩
      obtain ⟨_, r, off, rfl, hr1, hr2⟩ := RS.at_ hd2 hx
      have hc1 : (0 ≤ (i : Int) ∧ (i : Int) < (p.deltas.length : Int)) := by omega
      have hrec := fun G : AHeap => rec0_c G p (.slice b1 p.base.length c1) (.slice (some ⟨r, off, none⟩) p.deltas.length c2) x lb.low lb.high (lb.ky x (md hx)).1
      cases cf : fit p.low p.high x with
      | false =>
        rw [cf] at hrec
        refine W.seq <| Wr <| Oa rfl sm rfl <| Oa rfl (zf (hv := fa_ok (k := 4) ty25 rfl rfl ty23 rfl rfl)) rfl <| Oa rfl (zl (hv := by simp (disch := first | omega | simp only [nx]; omega) only [aLoad, ty23, rowOf, hpl, g0, hc1, sb, Value.cells] <;> rfl)) rfl <| Oa rfl (Zn (hv := by simp (disch := first | omega | simp only [nx]; omega) only [aLenOf, ty23, hpl, g0, hc1, sb, Value.cells, places, tb14] <;> rfl)) rfl <| Ot rfl (zb (hv := bi_lss)) rfl (by first | rfl | assumption | ((simp only [bl, g0, hc1, sb, Value.cells, places, tb14]) <;> first | done | assumption | omega) | (simp; done) | (simp; omega)) <| On ?_
        refine Wy <| CWp.skip <| SQ.normal ?_
        refine W.seq <| W.block <| Wd <| Sa rfl (zl (hv := by simp (disch := first | omega | simp only [nx]; omega) only [aLoad, ty25, rowOf, hpl, g0, hc1, sb, Value.cells] <;> rfl)) rfl <| Sa rfl (zf (hv := fa_ok (k := 4) ty25 rfl rfl ty23 rfl rfl)) rfl <| Sa rfl (zl (hv := by simp (disch := first | omega | simp only [nx]; omega) only [aLoad, ty23, rowOf, hpl, g0, hc1, sb, Value.cells] <;> rfl)) rfl <| Sa rfl sm rfl <| Sa rfl (zi (hv := by simp (disch := first | omega | simp only [nx]; omega) only [aIndexAddr, ty23, ty27, hpl, g0, hc1, sb, Value.cells, places, tb14] <;> rfl)) rfl <| Sa rfl (zl (hv := (hr2 _ rfl).1 _ _ ty27 rfl rfl)) rfl <| SqW.callD rfl (by simp only [aopnds, lk] <;> rfl) en42 (hrec _) rfl <| St rfl Zt rfl rfl <| St rfl sm rfl rfl <| Pb ag rfl <| Pb ag rfl <| Pb ag rfl <| Pb (aguard_un rfl rfl (by simp only [lk] <;> rfl)) rfl <| Pb (aguard_un rfl rfl (by simp only [lk] <;> rfl)) rfl <| Pb (aguard_un rfl rfl (by simp only [lk] <;> rfl)) rfl <| Pb (aguard_un rfl rfl (by simp only [lk] <;> rfl)) rfl <| Pb (aguard_un rfl rfl (by simp only [lk] <;> rfl)) rfl <| Pb (aguard_un rfl rfl (by simp only [lk] <;> rfl)) rfl <| Pb (aguard_un rfl rfl (by simp only [lk] <;> rfl)) rfl <| Pb (aguard_un rfl rfl (by simp only [lk] <;> rfl)) rfl <| Pb (aguard_un rfl rfl (by simp only [lk] <;> rfl)) rfl <| Pb (aguard_un rfl rfl (by simp only [lk] <;> rfl)) rfl <| Pb (aguard_un rfl rfl (by simp only [lk] <;> rfl)) rfl <| Pb (aguard_un rfl rfl (by simp only [lk] <;> rfl)) rfl <| Pb (aguard_un rfl rfl (by simp only [lk] <;> rfl)) rfl <| Pb (aguard_un rfl rfl (by simp only [lk] <;> rfl)) rfl <| Pb ag rfl <| St rfl Zp rfl rfl <| Sn ?_
        refine Wy <| Wr <| Oa rfl za rfl <| On ?_
        refine CWp.ret <| BQ.ret <| SQ.ret <| LQ.ret <| BQ.ret <| NQ.ret <| SQ.ret <| FQ.ret (by simp only [aRet, Tryz.f14, aResults, aResult, lk, Nat.reduceEqDiff, reduceIte] <;> rfl) ?_
        exact ⟨bad _ (chk_all (md hx) cf) rfl, old⟩
      | true =>
        rw [cf] at hrec
        have hf' : ∀ j y, j < i + 1 → p.deltas[j]? = some y → fit p.low p.high y = true := fun j y hj hy => by
          by_cases e : j = i
          · subst e; rw [hx] at hy; cases hy; exact cf
          · exact hf j y (by omega) hy
        by_cases hi0 : i = 0
        · have hz : ¬ (i : Int) > 0 := by omega
          refine W.seq <| Wr <| Oa rfl sm rfl <| Oa rfl (zf (hv := fa_ok (k := 4) ty25 rfl rfl ty23 rfl rfl)) rfl <| Oa rfl (zl (hv := by simp (disch := first | omega | simp only [nx]; omega) only [aLoad, ty23, rowOf, hpl, g0, hc1, sb, Value.cells] <;> rfl)) rfl <| Oa rfl (Zn (hv := by simp (disch := first | omega | simp only [nx]; omega) only [aLenOf, ty23, hpl, g0, hc1, sb, Value.cells, places, tb14] <;> rfl)) rfl <| Ot rfl (zb (hv := bi_lss)) rfl (by first | rfl | assumption | ((simp only [bl, g0, hc1, sb, Value.cells, places, tb14]) <;> first | done | assumption | omega) | (simp; done) | (simp; omega)) <| On ?_
          refine Wy <| CWp.skip <| SQ.normal ?_
          refine W.seq <| W.block <| Wd <| Sa rfl (zl (hv := by simp (disch := first | omega | simp only [nx]; omega) only [aLoad, ty25, rowOf, hpl, g0, hc1, sb, Value.cells] <;> rfl)) rfl <| Sa rfl (zf (hv := fa_ok (k := 4) ty25 rfl rfl ty23 rfl rfl)) rfl <| Sa rfl (zl (hv := by simp (disch := first | omega | simp only [nx]; omega) only [aLoad, ty23, rowOf, hpl, g0, hc1, sb, Value.cells] <;> rfl)) rfl <| Sa rfl sm rfl <| Sa rfl (zi (hv := by simp (disch := first | omega | simp only [nx]; omega) only [aIndexAddr, ty23, ty27, hpl, g0, hc1, sb, Value.cells, places, tb14] <;> rfl)) rfl <| Sa rfl (zl (hv := (hr2 _ rfl).1 _ _ ty27 rfl rfl)) rfl <| SqW.callD rfl (by simp only [aopnds, lk] <;> rfl) en42 (hrec _) rfl <| Sf rfl Zt rfl rfl <| Sf rfl sm rfl rfl <| Sa ag sm rfl <| Sf ag (zb (hv := bi_gtr)) rfl (by first | rfl | assumption | ((simp only [bl, g0, hc1, sb, Value.cells, places, tb14]) <;> first | done | assumption | omega) | (simp; done) | (simp; omega)) <| Sf ag sm rfl rfl <| Pb ag rfl <| Pb ag rfl <| Pb ag rfl <| Pb ag rfl <| Pb ag rfl <| Pb ag rfl <| Pb ag rfl <| Pb ag rfl <| Pb ag rfl <| Pb ag rfl <| Pb ag rfl <| Pb ag rfl <| Pb ag rfl <| Pb ag rfl <| Sf ag Zp rfl rfl <| Sf rfl Zp rfl rfl <| Sn ?_
          refine Wn <| CWp.skip <| BQ.normal <| SQ.normal ?_
          refine W.reg <| Oa rfl sm rfl <| Oa rfl (zb (hv := bi_w bi_add (by first | (simp only [w2] <;> rfl) | rfl))) rfl <| Oa rfl za rfl <| OSuf.nil <| ?_
          refine LQ.normal (m := m - 1) (L := [(1, P0 h.next), (4, I64 ((i + 1 : Nat) : Int))]) (by omega) ?_ ⟨i + 1, by omega, hf', by omega, rfl, rfl⟩
          simp only [HasA, Tr.get_put, Nat.reduceEqDiff, reduceIte, w2, and_self]
        · obtain ⟨k, rfl⟩ : ∃ k, i = k + 1 := ⟨i - 1, by omega⟩
          have hz : ((k + 1 : Nat) : Int) > 0 := by omega
          have w3 : IntKind.i64.wrap (((k + 1 : Nat) : Int) - 1) = (k : Int) := by rw [wrap_i64 (by omega) (by omega)]; omega
          obtain ⟨y, hy⟩ : ∃ y, p.deltas[k]? = some y := ⟨p.deltas[k]'(by omega), by simp⟩
          obtain ⟨_, r', off', e', _, hr3⟩ := RS.at_ hd2 hy
          cases e'
          have hc2 : (0 ≤ (k : Int) ∧ (k : Int) < (p.deltas.length : Int)) := by omega
          by_cases cl : y.lsn ≥ x.lsn
          · refine W.seq <| Wr <| Oa rfl sm rfl <| Oa rfl (zf (hv := fa_ok (k := 4) ty25 rfl rfl ty23 rfl rfl)) rfl <| Oa rfl (zl (hv := by simp (disch := first | omega | simp only [nx]; omega) only [aLoad, ty23, rowOf, hpl, g0, hc1, hc2, sb, Value.cells] <;> rfl)) rfl <| Oa rfl (Zn (hv := by simp (disch := first | omega | simp only [nx]; omega) only [aLenOf, ty23, hpl, g0, hc1, hc2, sb, Value.cells, places, tb14] <;> rfl)) rfl <| Ot rfl (zb (hv := bi_lss)) rfl (by first | rfl | assumption | ((simp only [bl, g0, hc1, hc2, sb, Value.cells, places, tb14]) <;> first | done | assumption | omega) | (simp; done) | (simp; omega)) <| On ?_
            refine Wy <| CWp.skip <| SQ.normal ?_
            refine W.seq <| W.block <| Wd <| Sa rfl (zl (hv := by simp (disch := first | omega | simp only [nx]; omega) only [aLoad, ty25, rowOf, hpl, g0, hc1, hc2, sb, Value.cells] <;> rfl)) rfl <| Sa rfl (zf (hv := fa_ok (k := 4) ty25 rfl rfl ty23 rfl rfl)) rfl <| Sa rfl (zl (hv := by simp (disch := first | omega | simp only [nx]; omega) only [aLoad, ty23, rowOf, hpl, g0, hc1, hc2, sb, Value.cells] <;> rfl)) rfl <| Sa rfl sm rfl <| Sa rfl (zi (hv := by simp (disch := first | omega | simp only [nx]; omega) only [aIndexAddr, ty23, ty27, hpl, g0, hc1, hc2, sb, Value.cells, places, tb14] <;> rfl)) rfl <| Sa rfl (zl (hv := (hr2 _ rfl).1 _ _ ty27 rfl rfl)) rfl <| SqW.callD rfl (by simp only [aopnds, lk] <;> rfl) en42 (hrec _) rfl <| Sf rfl Zt rfl rfl <| Sf rfl sm rfl rfl <| Sa ag sm rfl <| St ag (zb (hv := bi_gtr)) rfl (by first | rfl | assumption | ((simp only [bl, g0, hc1, hc2, sb, Value.cells, places, tb14]) <;> first | done | assumption | omega) | (simp; done) | (simp; omega)) <| St ag sm rfl rfl <| Sa ag (zf (hv := fa_ok (k := 4) ty25 rfl rfl ty23 rfl rfl)) rfl <| Sa ag (zl (hv := by simp (disch := first | omega | simp only [nx]; omega) only [aLoad, ty23, rowOf, hpl, g0, hc1, hc2, sb, Value.cells] <;> rfl)) rfl <| Sa ag sm rfl <| Sa ag (zb (hv := bi_w bi_sub (by first | (simp only [w2, w3] <;> rfl) | rfl))) rfl <| Sa ag (zi (hv := by simp (disch := first | omega | simp only [nx]; omega) only [aIndexAddr, ty23, ty27, hpl, g0, hc1, hc2, sb, Value.cells, places, tb14] <;> rfl)) rfl <| Sa ag (zf (hv := fa_ok (k := 1) ty27 rfl rfl ty22 rfl rfl)) rfl <| Sa ag (zl (hv := (hr3 _ rfl).2 1 _ _ _ ty22 rfl rfl)) rfl <| Sa ag (zf (hv := fa_ok (k := 4) ty25 rfl rfl ty23 rfl rfl)) rfl <| Sa ag (zl (hv := by simp (disch := first | omega | simp only [nx]; omega) only [aLoad, ty23, rowOf, hpl, g0, hc1, hc2, sb, Value.cells] <;> rfl)) rfl <| Sa ag sm rfl <| Sa ag (zi (hv := by simp (disch := first | omega | simp only [nx]; omega) only [aIndexAddr, ty23, ty27, hpl, g0, hc1, hc2, sb, Value.cells, places, tb14] <;> rfl)) rfl <| Sa ag (zf (hv := fa_ok (k := 1) ty27 rfl rfl ty22 rfl rfl)) rfl <| Sa ag (zl (hv := (hr2 _ rfl).2 1 _ _ _ ty22 rfl rfl)) rfl <| St ag (zb (hv := bi_geq)) rfl (by simp [cl]) <| St ag Zp rfl rfl <| St rfl Zp rfl rfl <| Sn ?_
            refine Wy <| Wr <| Oa rfl za rfl <| On ?_
            refine CWp.ret <| BQ.ret <| SQ.ret <| LQ.ret <| BQ.ret <| NQ.ret <| SQ.ret <| FQ.ret (by simp only [aRet, Tryz.f14, aResults, aResult, lk, Nat.reduceEqDiff, reduceIte] <;> rfl) ?_
            exact ⟨bad _ (chk_d hy hx (by simp only [ltL]; exact decide_eq_false (by omega))) rfl, old⟩
          · refine W.seq <| Wr <| Oa rfl sm rfl <| Oa rfl (zf (hv := fa_ok (k := 4) ty25 rfl rfl ty23 rfl rfl)) rfl <| Oa rfl (zl (hv := by simp (disch := first | omega | simp only [nx]; omega) only [aLoad, ty23, rowOf, hpl, g0, hc1, hc2, sb, Value.cells] <;> rfl)) rfl <| Oa rfl (Zn (hv := by simp (disch := first | omega | simp only [nx]; omega) only [aLenOf, ty23, hpl, g0, hc1, hc2, sb, Value.cells, places, tb14] <;> rfl)) rfl <| Ot rfl (zb (hv := bi_lss)) rfl (by first | rfl | assumption | ((simp only [bl, g0, hc1, hc2, sb, Value.cells, places, tb14]) <;> first | done | assumption | omega) | (simp; done) | (simp; omega)) <| On ?_
            refine Wy <| CWp.skip <| SQ.normal ?_
            refine W.seq <| W.block <| Wd <| Sa rfl (zl (hv := by simp (disch := first | omega | simp only [nx]; omega) only [aLoad, ty25, rowOf, hpl, g0, hc1, hc2, sb, Value.cells] <;> rfl)) rfl <| Sa rfl (zf (hv := fa_ok (k := 4) ty25 rfl rfl ty23 rfl rfl)) rfl <| Sa rfl (zl (hv := by simp (disch := first | omega | simp only [nx]; omega) only [aLoad, ty23, rowOf, hpl, g0, hc1, hc2, sb, Value.cells] <;> rfl)) rfl <| Sa rfl sm rfl <| Sa rfl (zi (hv := by simp (disch := first | omega | simp only [nx]; omega) only [aIndexAddr, ty23, ty27, hpl, g0, hc1, hc2, sb, Value.cells, places, tb14] <;> rfl)) rfl <| Sa rfl (zl (hv := (hr2 _ rfl).1 _ _ ty27 rfl rfl)) rfl <| SqW.callD rfl (by simp only [aopnds, lk] <;> rfl) en42 (hrec _) rfl <| Sf rfl Zt rfl rfl <| Sf rfl sm rfl rfl <| Sa ag sm rfl <| St ag (zb (hv := bi_gtr)) rfl (by first | rfl | assumption | ((simp only [bl, g0, hc1, hc2, sb, Value.cells, places, tb14]) <;> first | done | assumption | omega) | (simp; done) | (simp; omega)) <| St ag sm rfl rfl <| Sa ag (zf (hv := fa_ok (k := 4) ty25 rfl rfl ty23 rfl rfl)) rfl <| Sa ag (zl (hv := by simp (disch := first | omega | simp only [nx]; omega) only [aLoad, ty23, rowOf, hpl, g0, hc1, hc2, sb, Value.cells] <;> rfl)) rfl <| Sa ag sm rfl <| Sa ag (zb (hv := bi_w bi_sub (by first | (simp only [w2, w3] <;> rfl) | rfl))) rfl <| Sa ag (zi (hv := by simp (disch := first | omega | simp only [nx]; omega) only [aIndexAddr, ty23, ty27, hpl, g0, hc1, hc2, sb, Value.cells, places, tb14] <;> rfl)) rfl <| Sa ag (zf (hv := fa_ok (k := 1) ty27 rfl rfl ty22 rfl rfl)) rfl <| Sa ag (zl (hv := (hr3 _ rfl).2 1 _ _ _ ty22 rfl rfl)) rfl <| Sa ag (zf (hv := fa_ok (k := 4) ty25 rfl rfl ty23 rfl rfl)) rfl <| Sa ag (zl (hv := by simp (disch := first | omega | simp only [nx]; omega) only [aLoad, ty23, rowOf, hpl, g0, hc1, hc2, sb, Value.cells] <;> rfl)) rfl <| Sa ag sm rfl <| Sa ag (zi (hv := by simp (disch := first | omega | simp only [nx]; omega) only [aIndexAddr, ty23, ty27, hpl, g0, hc1, hc2, sb, Value.cells, places, tb14] <;> rfl)) rfl <| Sa ag (zf (hv := fa_ok (k := 1) ty27 rfl rfl ty22 rfl rfl)) rfl <| Sa ag (zl (hv := (hr2 _ rfl).2 1 _ _ _ ty22 rfl rfl)) rfl <| Sf ag (zb (hv := bi_geq)) rfl (by simp [cl]) <| Sf ag Zp rfl rfl <| Sf rfl Zp rfl rfl <| Sn ?_
            refine Wn <| CWp.skip <| BQ.normal <| SQ.normal ?_
            refine W.reg <| Oa rfl sm rfl <| Oa rfl (zb (hv := bi_w bi_add (by first | (simp only [w2, w3] <;> rfl) | rfl))) rfl <| Oa rfl za rfl <| OSuf.nil <| ?_
            refine LQ.normal (m := m - 1) (L := [(1, P0 h.next), (4, I64 ((k + 1 + 1 : Nat) : Int))]) (by omega) ?_ ⟨k + 1 + 1, by omega, hf', fun j a b hj h1 h2 => ?_, rfl, rfl⟩
            · simp only [HasA, Tr.get_put, Nat.reduceEqDiff, reduceIte, w2, and_self]
            · by_cases e : j = k
              · subst e; rw [hy] at h1; rw [hx] at h2; cases h1; cases h2; simp only [ltL]; exact decide_eq_true (by omega)
              · exact hr j a b (by omega) h1 h2
    · refine W.seq <| Wr <| Oa rfl sm rfl <| Oa rfl (zf (hv := fa_ok (k := 4) ty25 rfl rfl ty23 rfl rfl)) rfl <| Oa rfl (zl (hv := by simp (disch := first | omega | simp only [nx]; omega) only [aLoad, ty23, rowOf, hpl, g0] <;> rfl)) rfl <| Oa rfl (Zn (hv := by simp (disch := first | omega | simp only [nx]; omega) only [aLenOf, ty23, hpl, g0] <;> rfl)) rfl <| Of rfl (zb (hv := bi_lss)) rfl (by first | rfl | assumption | ((simp only [bl, g0]) <;> first | done | assumption | omega) | (simp; done) | (simp; omega)) <| On ?_
      refine Wn <| CWp.exit <| SQ.exit <| LQ.exit <| BQ.exit <| ?_
      have hi : i = p.deltas.length := by omega
      refine NQ.normal (L := [(1, P0 h.next)]) ?_ ⟨fun x hx => ?_, risB_of fun j a b h1 h2 => hr j a b (by have := (List.getElem?_eq_some_iff.1 h2).1; omega) h1 h2, rfl, rfl⟩
      · simp only [HasA, Tr.get_put, Nat.reduceEqDiff, reduceIte, and_self]
      · obtain ⟨j, hj, rfl⟩ := List.mem_iff_getElem.1 hx
        exact hf j _ (by omega) (by simp [hj])
  rintro L a' h' ha ⟨kd, rd, rfl, rfl⟩
  refine SQ.normal <| CWp.known ha ?_
  simp only [mkA]
  refine Wr <| Oa rfl za rfl <| On ?_
  refine CWp.ret <| FQ.ret (by simp only [aRet, Tryz.f14, aResults, aResult, lk, Nat.reduceEqDiff, reduceIte] <;> rfl) ?_
  have hc : chk p = true := by
    simp only [chk]
    rw [decide_eq_true ⟨f1, f2, f3, f4, f5, f6⟩, rb, rd, List.all_eq_true.2 (fun x hx => by
      rcases List.mem_append.1 hx with hx | hx
      · exact kb x hx
      · exact kd x hx)]
    rfl
  exact ⟨by rw [if_pos hc], old⟩
end Go.Proofs.YtebheelmgcggmaaGreat
namespace Go.Proofs.YtebheelmgcggmaaGreat
open Go.Ab Go.Sort
def svRow : Value → Option Nat
  | .slice (some a) _ _ => some a.block
  | _ => none
inductive SV (h : AHeap) (sz lo : Nat) : List Value → Value → Prop
  | nil : SV h sz lo [] (.slice none 0 0)
  | some {y n : Nat} {vs : List Value} (hn : vs.length = n * sz) (hlo : lo ≤ y) (hy : y < h.next) (hg : h.get y = .some (.cells vs sz)) (hne : vs ≠ []) : SV h sz lo vs (.slice (.some ⟨y, 0, .none⟩) n 0)
theorem SV.mono {h h' : AHeap} {sz lo : Nat} {vs : List Value} {v : Value} (s : SV h sz lo vs v) (hn : h.next ≤ h'.next) (hk : ∀ z, z < h.next → svRow v = Option.some z → h'.get z = h.get z) : SV h' sz lo vs v := by
  cases s with
  | nil => exact .nil
  | some h1 h2 h3 h4 h5 => exact .some h1 h2 (by omega) (by rw [hk _ h3 rfl]; exact h4) h5
theorem aCells_part {h : AHeap} {r off n len size c : Nat} {vs new : List Value} (hr : rowOf h r = some vs) (hl : n ≤ len) (hc : cellsOf vs off (n * size) = some new) : aCells h size n (.slice (some ⟨r, off, none⟩) len c) = some new := by
  cases e1 : Nat.beq (n * size) 0 with
  | false => simp only [aCells, e1, cond_false, Nat.ble_eq_true_of_le hl, cond_true, hr, hc]
  | true =>
    have e2 := Nat.eq_of_beq_eq_true e1
    rw [e2] at hc
    have := (cellsOf_some hc).2.1
    simp only [List.take_zero] at this
    simp only [aCells, e1, cond_true, this]
theorem ap_any {h : AHeap} {sz lo k : Nat} {A B : List Value} {v x : Value} (s : SV h sz lo A v) (hl : aLen x = some k) (hx : aCells h sz k x = some B) (hB : B.length = k * sz) (hone : oneCells B = true) (hlen : vLen v + k ≤ 3000000) (hlo : lo ≤ h.next) (hsz : 0 < sz := by decide) :
    ∃ v' h', (∀ ats A', appT T ats = some A' → A'.size = sz → A'.bytes ≤ 100 → aAppend T ats v x h = some (v', h')) ∧ SV h' sz lo (A ++ B) v' ∧ h.next ≤ h'.next ∧ h'.next ≤ h.next + 1 ∧ (∀ z, z < h.next → ¬ svRow v = some z → h'.get z = h.get z) ∧ ((svRow v' = svRow v ∧ k = 0) ∨ svRow v' = some h.next) ∧ vLen v' = vLen v + k := by
  cases hk : Nat.beq k 0 with
  | true =>
    have e := Nat.eq_of_beq_eq_true hk
    subst e
    have e2 : B = [] := List.length_eq_zero_iff.1 (by rw [hB]; omega)
    subst e2
    refine ⟨v, h, fun ats A' h1 h2 h3 => ?_, by rw [List.append_nil]; exact s, Nat.le_refl _, by omega, fun _ _ _ => rfl, .inl ⟨rfl, rfl⟩, rfl⟩
    have hb : Nat.ble ((2 * (vLen v + 0) + 256) * A'.bytes) 281474976710656 = true := Nat.ble_eq_true_of_le (by
      have : (2 * (vLen v + 0) + 256) * A'.bytes ≤ 7000000 * 100 := Nat.mul_le_mul (by omega) h3
      omega)
    subst h2
    cases s <;> simp only [aAppend, h1, hl, hx, hb, cond_true, hk]
  | false =>
    have hk0 : 0 < k := by
      cases k with
      | zero => cases hk
      | succ k => omega
    have hBne : B ≠ [] := fun e => by
      rw [e] at hB
      have := Nat.mul_pos hk0 hsz
      simp at hB; omega
    cases s with
    | nil =>
      refine ⟨.slice (some ⟨h.next, 0, none⟩) k 0, h.new (.cells B sz), fun ats A' h1 h2 h3 => ?_, .some (by simpa using hB) hlo (by simp) (zQ) (by simpa using hBne), by simp, by simp, fun z hz _ => zN (by omega), .inr rfl, by simp [vLen]⟩
      subst h2
      exact ap_0 h1 hl hx (by have : (2 * (0 + k) + 256) * A'.bytes ≤ 7000000 * 100 := Nat.mul_le_mul (by simp only [vLen] at hlen; omega) h3
                              omega) hk
    | @some y n _ h1 h2 h3 h4 =>
      have hc : cellsOf A 0 (n * sz) = .some A := cellsOf_all h1
      refine ⟨.slice (.some ⟨h.next, 0, .none⟩) (n + k) 0, (h.kill y).new (.cells (A ++ B) sz), fun ats A' g1 g2 g3 => ?_, .some (by rw [List.length_append, h1, hB, Nat.add_mul]) hlo (by simp only [nx]; omega) (AHeap.get_new_at (by simp only [nx]; omega)) (fun e => hBne (List.append_eq_nil_iff.1 e).2), by simp only [nx]; omega, by simp only [nx]; omega, fun z hz hne => ?_, .inr rfl, rfl⟩
      · subst g2
        exact ap_u g1 hl hx (by have : (2 * (n + k) + 256) * A'.bytes ≤ 7000000 * 100 := Nat.mul_le_mul (by simp only [vLen] at hlen; omega) g3
                                omega) hk h4 hone hc
      · have hzy : ¬ y = z := fun e => hne (by rw [← e]; rfl)
        simp (disch := first | omega | simp only [nx]; omega) only [hpl]
theorem SV.row {h : AHeap} {sz lo : Nat} {vs : List Value} {v : Value} {y : Nat} (s : SV h sz lo vs v) (hy : svRow v = Option.some y) : lo ≤ y ∧ y < h.next ∧ h.get y = Option.some (.cells vs sz) ∧ v = .slice (Option.some ⟨y, 0, Option.none⟩) (vLen v) 0 ∧ vs.length = vLen v * sz := by
  cases s with
  | nil => cases hy
  | some h1 h2 h3 h4 => cases hy; exact ⟨h2, h3, h4, rfl, h1⟩
theorem SV.form {h : AHeap} {sz lo : Nat} {vs : List Value} {v : Value} (s : SV h sz lo vs v) : ∃ b, v = .slice b (vLen v) 0 ∧ vs.length = vLen v * sz ∧ (vs ≠ [] → ∃ y, b = Option.some ⟨y, 0, Option.none⟩ ∧ svRow v = Option.some y ∧ lo ≤ y ∧ y < h.next ∧ h.get y = Option.some (.cells vs sz)) := by
  cases s with
  | nil => exact ⟨Option.none, rfl, by simp [vLen], fun h => (h rfl).elim⟩
  | some h1 h2 h3 h4 => exact ⟨_, rfl, h1, fun _ => ⟨_, rfl, rfl, h2, h3, h4⟩⟩
theorem SV.empty {h : AHeap} {sz lo : Nat} {vs : List Value} {v : Value} (s : SV h sz lo vs v) (e : vs = []) : v = .slice Option.none 0 0 := by
  cases s with
  | nil => rfl
  | some _ _ _ _ h5 => exact (h5 e).elim
theorem sv_rg {h : AHeap} {sz lo n : Nat} {vs : List Value} {v : Value} (s : SV h sz lo vs v) (hn : vs.length = n * sz) (h0 : 0 < sz) : RG h sz n vs v := by
  cases s with
  | nil =>
    have : n = 0 := by
      rcases Nat.mul_eq_zero.1 hn.symm with h | h
      · exact h
      · omega
    subst this
    exact ⟨_, _, rfl, .inl ⟨rfl, rfl, rfl⟩⟩
  | @some y m vs h1 h2 h3 h4 h5 =>
    have : m = n := Nat.eq_of_mul_eq_mul_right h0 (by rw [← h1, hn])
    subst this
    exact ⟨_, _, rfl, .inr ⟨_, _, rfl, fun _ => ⟨h3, _, by simp only [rowOf, h4], cellsOf_all hn⟩⟩⟩
theorem sv_rs {h : AHeap} {lo : Nat} {l : List Rec} {v : Value} (s : SV h 4 lo (fl l) v) : RS h l v := sv_rg s (fl_length l) (by omega)
def rval (h : AHeap) (l : List Rec) : Value := if l = [] then .slice none 0 0 else .slice (some ⟨h.next, 0, none⟩) l.length 0
def rheap (h : AHeap) (l : List Rec) : AHeap := if l = [] then h else h.new (.cells (fl l) 4)
theorem rheap_next (h : AHeap) (l : List Rec) : h.next ≤ (rheap h l).next ∧ (rheap h l).next ≤ h.next + 1 := by
  simp only [rheap]; split <;> simp
theorem rheap_old (h : AHeap) (l : List Rec) (z : Nat) (hz : z < h.next) : (rheap h l).get z = h.get z := by
  simp only [rheap]; split
  · rfl
  · exact zN (by omega)
theorem fl_nil {l : List Rec} : fl l = [] ↔ l = [] := by
  cases l with
  | nil => simp [fl]
  | cons x l => simp [fl, Rec.cs]
theorem rval_sv (h : AHeap) (l : List Rec) : SV (rheap h l) 4 h.next (fl l) (rval h l) := by
  simp only [rheap, rval]
  by_cases e : l = []
  · rw [if_pos e, if_pos e, e]; exact .nil
  · rw [if_neg e, if_neg e]
    exact .some (fl_length l) (Nat.le_refl _) (by simp) (zQ) (fun h => e (fl_nil.1 h))
theorem recs0_c (h : AHeap) (l : List Rec) (v : Value) (hs : RS h l v) (hl : l.length ≤ 1000000) : FWp Tryz.prog 44 [v] h fun u h' => u = rval h l ∧ h' = rheap h l := by
  obtain ⟨b, c, rfl⟩ := hs.form
  have hx := hs.cells (g := h) fun _ _ => rfl
  refine W.enter tyOK Tryz.func44 rfl rfl ?_
  simp only [entry, rval, rheap]
  by_cases e : l = []
  · rw [if_pos e, if_pos e]
    subst e
    refine Wr <| Oa rfl za rfl <| On ?_
    refine Wr <| Oa rfl za rfl <| On ?_
    refine Wr <| Oa rfl sm rfl <| Oa rfl sm rfl <| Oa rfl (so_append (by simp only [aopnds, lk] <;> rfl) (ap_none (by simp only [appT, ty23, ty27] <;> rfl) rfl hx (.inl rfl) (by decide))) rfl <| Oa rfl za rfl <| On ?_
    refine CWp.ret <| FQ.ret (by simp only [aRet, Tryz.f44, aResults, aResult, lk, Nat.reduceEqDiff, reduceIte] <;> rfl) ?_
    exact ⟨rfl, rfl⟩
  · rw [if_neg e, if_neg e]
    have nb : Nat.beq l.length 0 = false := by
      cases l with
      | nil => exact (e rfl).elim
      | cons _ _ => rfl
    refine Wr <| Oa rfl za rfl <| On ?_
    refine Wr <| Oa rfl za rfl <| On ?_
    refine Wr <| Oa rfl sm rfl <| Oa rfl sm rfl <| Oa rfl (so_append (by simp only [aopnds, lk] <;> rfl) (ap_0 (by simp only [appT, ty23, ty27] <;> rfl) rfl hx (by show (2 * (0 + l.length) + 256) * 48 ≤ _; omega) nb)) rfl <| Oa rfl za rfl <| On ?_
    refine CWp.ret <| FQ.ret (by simp only [aRet, Tryz.f44, aResults, aResult, lk, Nat.reduceEqDiff, reduceIte] <;> rfl) ?_
    exact ⟨rfl, rfl⟩
end Go.Proofs.YtebheelmgcggmaaGreat
namespace Go.Proofs.YtebheelmgcggmaaGreat
open Go.Ab Go.Sort
theorem sv_len {h : AHeap} {lo : Nat} {l : List Rec} {v : Value} (s : SV h 4 lo (fl l) v) : vLen v = l.length := by
  obtain ⟨_, _, h2, _⟩ := s.form
  rw [fl_length] at h2
  omega
theorem sv_form {h : AHeap} {lo : Nat} {l : List Rec} {v : Value} (s : SV h 4 lo (fl l) v) : ∃ b, v = .slice b l.length 0 := by
  obtain ⟨b, h1, _, _⟩ := s.form
  rw [sv_len s] at h1
  exact ⟨b, h1⟩
theorem sv_one {g : AHeap} {lo : Nat} {l : List Rec} {v : Value} (s : SV g 4 lo (fl l) v) (x : Rec) (hl : l.length ≤ 2000000) (hlo : lo ≤ g.next) :
    ∃ v' G, (∀ ats A', appT T ats = some A' → A'.size = 4 → A'.bytes ≤ 100 → aAppend T ats v (.slice (some ⟨g.next, 0, none⟩) 1 2) (g.new (.cells x.cs 4)) = some (v', G)) ∧ SV G 4 lo (fl (l ++ [x])) v' ∧ g.next ≤ G.next ∧ (∀ z, z < g.next → ¬ svRow v = some z → G.get z = g.get z) := by
  obtain ⟨v', G, a1, a2, a3, a4, a5, a6, a7⟩ := ap_any (h := g.new (.cells x.cs 4)) (k := 1) (x := .slice (some ⟨g.next, 0, none⟩) 1 2) (B := x.cs) (s.mono (by simp) (fun z hz _ => zN (by omega))) rfl (aCells_part (vs := x.cs) (by simp only [rowOf, AHeap.get_new_same]) (Nat.le_refl _) rfl) rfl rfl (by rw [sv_len s]; omega) (by simp; omega)
  refine ⟨v', G, a1, ?_, by simp only [nx] at a3; omega, fun z hz hv => by rw [a5 z (by simp; omega) hv, zN (by omega)]⟩
  rw [fl_app]
  have : fl [x] = x.cs := by simp [fl]
  rw [this]; exact a2
end Go.Proofs.YtebheelmgcggmaaGreat
namespace Go.Proofs.YtebheelmgcggmaaGreat
open Go.Ab Go.Sort
theorem take_snoc {l : List Rec} {i : Nat} {x : Rec} (hx : l[i]? = some x) : l.take (i + 1) = l.take i ++ [x] := by rw [List.take_add_one, hx]; rfl
end Go.Proofs.YtebheelmgcggmaaGreat
namespace Go.Proofs.YtebheelmgcggmaaGreat
open Go.Ab Go.Sort
def eqRb (x y : Rec) : Bool := (⟨⟨x.key⟩⟩ : ByteArray) == ⟨⟨y.key⟩⟩ && (x.lsn == y.lsn && (x.del == y.del && ((⟨⟨x.val⟩⟩ : ByteArray) == ⟨⟨y.val⟩⟩ && true)))
theorem eqRb_self (x : Rec) : eqRb x x = true := by simp [eqRb, beq_str]
theorem neR {t : TypeId} {p q : Operand} (x y : Rec) (ht : t = 27) : aBin Tryz.prog T .neq t p q x.V y.V = some (.bool (!eqRb x y)) := by
  subst ht
  have hs : pureRun Tryz.prog (Op.equal 27 x.V y.V) = some (eqRb x y) := by
    refine seq_equal Tryz.underlying27 (by kernel_rfl) ?_
    refine .cons (by decide) (x := encS x.key) (y := encS y.key) (by kernel_rfl) (by kernel_rfl) (eq_str Tryz.underlying9) ?_
    refine .cons (by decide) (x := U64 x.lsn) (y := U64 y.lsn) (by kernel_rfl) (by kernel_rfl) (eq_int Tryz.underlying22) ?_
    refine .cons (by decide) (x := .bool x.del) (y := .bool y.del) (by kernel_rfl) (by kernel_rfl) (eq_bool Tryz.underlying4) ?_
    refine .cons (by decide) (x := encS x.val) (y := encS y.val) (by kernel_rfl) (by kernel_rfl) (eq_str Tryz.underlying9) ?_
    exact .nil
  exact bi_sne rfl (by kernel_rfl) hs
theorem recs1_c (h : AHeap) (l : List Rec) (v w : Value) (hv : RS h l v) (hw : RS h l w) (hl : l.length ≤ 1000000) : FWp Tryz.prog 50 [v, w] h fun u h' => u = .bool true ∧ h' = h := by
  obtain ⟨b, c, rfl⟩ := hv.form
  obtain ⟨b', c', rfl⟩ := hw.form
  refine W.enter tyOK Tryz.func50 rfl rfl ?_
  simp only [entry]
  have b0 : ((l.length : Int) != (l.length : Int)) = false := by simp
  refine Wr <| Of rfl za rfl rfl <| On ?_
  refine W.seq <| Wr <| Oa rfl sm rfl <| Oa rfl (Zn (hv := by simp (disch := first | omega | simp only [nx]; omega) only [aLenOf, ty23, hpl] <;> rfl)) rfl <| Oa rfl sm rfl <| Oa rfl (Zn (hv := by simp (disch := first | omega | simp only [nx]; omega) only [aLenOf, ty23, hpl] <;> rfl)) rfl <| Of rfl (zb (hv := bi_neq)) rfl (b0) <| On ?_
  refine Wn <| CWp.skip <| SQ.normal ?_
  refine W.seq <| Wr <| Oa rfl za rfl <| On ?_
  refine W.block (W.loop (fun m L h' => ∃ k : Nat, m + k = l.length ∧ h = h' ∧ L = [(0, .slice b l.length c), (1, .slice b' l.length c'), (5, I64 k)]) (n := l.length) ⟨0, rfl, rfl, rfl⟩ ?_ ?_)
  · simp [HasA, Tr.get_put]
  rintro m L h' ⟨k, hm, rfl, rfl⟩
  simp only [mkA]
  have w2 : IntKind.i64.wrap ((k : Int) + 1) = ((k + 1 : Nat) : Int) := by rw [wrap_i64 (by omega) (by omega)]; omega
  by_cases hk : (k : Int) < (l.length : Int)
  · obtain ⟨x, hx⟩ : ∃ x, l[k]? = some x := ⟨l[k]'(by omega), by simp⟩
    obtain ⟨_, r, off, rfl, hr1, hr2⟩ := RS.at_ hv hx
    obtain ⟨_, r', off', rfl, hr1', hr2'⟩ := RS.at_ hw hx
    have hc1 : (0 ≤ (k : Int) ∧ (k : Int) < (l.length : Int)) := by omega
    refine W.seq <| Wr <| Oa rfl sm rfl <| Oa rfl sm rfl <| Oa rfl (Zn (hv := by simp (disch := first | omega | simp only [nx]; omega) only [aLenOf, ty23, hpl, hc1, sb] <;> rfl)) rfl <| Ot rfl (zb (hv := bi_lss)) rfl (by first | rfl | assumption | ((simp only [bl, hc1, sb]) <;> first | done | assumption | omega) | (simp; done) | (simp; omega)) <| On ?_
    refine Wy <| CWp.skip <| SQ.normal ?_
    refine W.seq <| W.block <| Wd <| Sa rfl sm rfl <| Sa rfl sm rfl <| Sa rfl (zi (hv := by simp (disch := first | omega | simp only [nx]; omega) only [aIndexAddr, ty23, ty27, hpl, hc1, sb] <;> rfl)) rfl <| Sa rfl (zl (hv := (hr2 _ rfl).1 _ _ ty27 rfl rfl)) rfl <| Sa rfl sm rfl <| Sa rfl sm rfl <| Sa rfl (zi (hv := by simp (disch := first | omega | simp only [nx]; omega) only [aIndexAddr, ty23, ty27, hpl, hc1, sb] <;> rfl)) rfl <| Sa rfl (zl (hv := (hr2' _ rfl).1 _ _ ty27 rfl rfl)) rfl <| Sf rfl (zb (hv := neR x x rfl)) rfl (by simp [eqRb_self]) <| Sn ?_
    refine Wn <| CWp.skip <| BQ.normal <| SQ.normal ?_
    refine W.reg <| Oa rfl sm rfl <| Oa rfl (zb (hv := bi_w bi_add (by first | (simp only [w2] <;> rfl) | rfl))) rfl <| Oa rfl za rfl <| OSuf.nil <| ?_
    refine LQ.normal (m := m - 1) (L := [(0, .slice (some ⟨r, off, none⟩) l.length c), (1, .slice (some ⟨r', off', none⟩) l.length c'), (5, I64 ((k + 1 : Nat) : Int))]) (by omega) ?_ ⟨k + 1, by omega, rfl, rfl⟩
    simp only [HasA, Tr.get_put, Nat.reduceEqDiff, reduceIte, w2, and_self]
  · refine W.seq <| Wr <| Oa rfl sm rfl <| Oa rfl sm rfl <| Oa rfl (Zn (hv := by simp (disch := first | omega | simp only [nx]; omega) only [aLenOf, ty23, hpl] <;> rfl)) rfl <| Ofb rfl (zb (hv := bi_lss)) rfl <| On ?_
    refine Wn <| CWp.exit <| SQ.exit <| LQ.exit <| BQ.exit <| SQ.normal ?_
    refine Wr <| Ot rfl za rfl rfl <| On ?_
    refine CWp.ret <| FQ.ret (by simp only [aRet, Tryz.f50, aResults, aResult, lk, Nat.reduceEqDiff, reduceIte] <;> rfl) ?_
    exact ⟨rfl, rfl⟩
theorem same0_c (h : AHeap) (p : Lf) (av aw bv bw : Value) (ha : RS h p.base av) (ha' : RS h p.deltas aw) (hb : RS h p.base bv) (hb' : RS h p.deltas bw) (l1 : p.base.length ≤ 1000000) (l2 : p.deltas.length ≤ 1000000) :
    FWp Tryz.prog 15 [LV p av aw, LV p bv bw] h fun u h' => u = .bool true ∧ h' = h := by
  have tb15 := And.intro ty22 (And.intro ty23 (And.intro ty25 (ty9)))
  refine FWp.gcs (.flat rfl) ?_
  have hn : ∀ z, z < h.next → ((h.new (.cells (lcs p av aw) 1)).new (.cells (lcs p bv bw) 1)).get z = h.get z := fun z hz => by simp (disch := first | omega | simp only [nx]; omega) only [hpl]
  have r1 := recs1_c ((h.new (.cells (lcs p av aw) 1)).new (.cells (lcs p bv bw) 1)) p.base av bv (ha.mono (by simp only [nx]; omega) hn) (hb.mono (by simp only [nx]; omega) hn) l1
  have r2 := recs1_c ((h.new (.cells (lcs p av aw) 1)).new (.cells (lcs p bv bw) 1)) p.deltas aw bw (ha'.mono (by simp only [nx]; omega) hn) (hb'.mono (by simp only [nx]; omega) hn) l2
  refine W.enter tyOK Tryz.func15 rfl rfl ?_
  simp only [entry]
  refine Wr <| Oa rfl Zx rfl <| Oa rfl Zx rfl <| Of rfl za rfl rfl <| On ?_
  refine Wr <| Oa rfl (zf (hv := fa_ok (k := 0) ty25 rfl rfl ty9 rfl rfl)) rfl <| Oa rfl (zl (hv := by simp (disch := first | omega | simp only [nx]; omega) only [aLoad, ty9, rowOf, hpl, Value.cells] <;> rfl)) rfl <| Oa rfl (zf (hv := fa_ok (k := 0) ty25 rfl rfl ty9 rfl rfl)) rfl <| Oa rfl (zl (hv := by simp (disch := first | omega | simp only [nx]; omega) only [aLoad, ty9, rowOf, hpl, Value.cells] <;> rfl)) rfl <| Ot rfl (zb (hv := bs_eql)) rfl (by simp [sst]) <| Ot rfl sm rfl rfl <| Oa ag (zf (hv := fa_ok (k := 1) ty25 rfl rfl ty9 rfl rfl)) rfl <| Oa ag (zl (hv := by simp (disch := first | omega | simp only [nx]; omega) only [aLoad, ty9, rowOf, hpl, Value.cells] <;> rfl)) rfl <| Oa ag (zf (hv := fa_ok (k := 1) ty25 rfl rfl ty9 rfl rfl)) rfl <| Oa ag (zl (hv := by simp (disch := first | omega | simp only [nx]; omega) only [aLoad, ty9, rowOf, hpl, Value.cells] <;> rfl)) rfl <| Ot ag (zb (hv := bs_eql)) rfl (by simp [sst]) <| Ot rfl Zp rfl rfl <| Ot rfl sm rfl rfl <| Oa ag (zf (hv := fa_ok (k := 2) ty25 rfl rfl ty22 rfl rfl)) rfl <| Oa ag (zl (hv := by simp (disch := first | omega | simp only [nx]; omega) only [aLoad, ty22, rowOf, hpl, Value.cells] <;> rfl)) rfl <| Oa ag (zf (hv := fa_ok (k := 2) ty25 rfl rfl ty22 rfl rfl)) rfl <| Oa ag (zl (hv := by simp (disch := first | omega | simp only [nx]; omega) only [aLoad, ty22, rowOf, hpl, Value.cells] <;> rfl)) rfl <| Ot ag (zb (hv := bi_eql)) rfl (by simp) <| Ot rfl Zp rfl rfl <| Ot rfl sm rfl rfl <| Oa ag (zf (hv := fa_ok (k := 3) ty25 rfl rfl ty23 rfl rfl)) rfl <| Oa ag (zl (hv := by simp (disch := first | omega | simp only [nx]; omega) only [aLoad, ty23, rowOf, hpl, Value.cells] <;> rfl)) rfl <| Oa ag (zf (hv := fa_ok (k := 3) ty25 rfl rfl ty23 rfl rfl)) rfl <| Oa ag (zl (hv := by simp (disch := first | omega | simp only [nx]; omega) only [aLoad, ty23, rowOf, hpl, Value.cells] <;> rfl)) rfl <| OSuf.callD ag (by simp only [aopnds, lk] <;> rfl) en50 (r1) rfl <| Ot rfl Zp rfl rfl <| Ot rfl sm rfl rfl <| Oa ag (zf (hv := fa_ok (k := 4) ty25 rfl rfl ty23 rfl rfl)) rfl <| Oa ag (zl (hv := by simp (disch := first | omega | simp only [nx]; omega) only [aLoad, ty23, rowOf, hpl, Value.cells] <;> rfl)) rfl <| Oa ag (zf (hv := fa_ok (k := 4) ty25 rfl rfl ty23 rfl rfl)) rfl <| Oa ag (zl (hv := by simp (disch := first | omega | simp only [nx]; omega) only [aLoad, ty23, rowOf, hpl, Value.cells] <;> rfl)) rfl <| OSuf.callD ag (by simp only [aopnds, lk] <;> rfl) en50 (r2) rfl <| Ot rfl Zp rfl rfl <| Ot rfl za rfl rfl <| On ?_
  refine CWp.ret <| FQ.ret (by simp only [aRet, Tryz.f15, aResults, aResult, lk, Nat.reduceEqDiff, reduceIte] <;> rfl) ?_
  exact ⟨rfl, fun r o hr ho => by simp (disch := first | omega | simp only [nx]; omega) only [hpl]; exact ho⟩
end Go.Proofs.YtebheelmgcggmaaGreat
namespace Go.Proofs.YtebheelmgcggmaaGreat
open Go.Ab Go.Sort
def AtB (b : Option Addr) (n : Nat) : Prop := (b = none ∧ n = 0) ∨ ∃ r, b = some ⟨r, 0, none⟩
theorem sl_cut {h : AHeap} {t elem : TypeId} {ti ei : TI} {b : Option Addr} {n m : Nat} (ht : T.get t = some ti) (hu : ti.und = .slice elem) (he : T.get elem = some ei) (hb : AtB b n) (hm : m ≤ n) : aSlice T t (.slice b n 0) none (some (I64 m)) none h = some (.slice b m 0) := by
  rcases hb with ⟨rfl, rfl⟩ | ⟨r, rfl⟩
  · obtain rfl : m = 0 := by omega
    exact sl_0 (x := (0, 0, 0)) ht hu he rfl
  · simp only [aSlice, ht, hu, he, bounds_hi hm]; rfl
theorem rs_take {h : AHeap} {l : List Rec} {b : Option Addr} {m : Nat} (s : RS h l (.slice b l.length 0)) (hm : m ≤ l.length) : RS h (l.take m) (.slice b m 0) := by
  have hl : (l.take m).length = m := by rw [List.length_take]; omega
  obtain ⟨b', c', e, hr⟩ := s.ex
  cases e
  refine ⟨b, 0, by rw [hl], ?_⟩
  rcases hr with ⟨rfl, h1, h2⟩ | ⟨r, off, rfl, hr⟩
  · exact .inl ⟨rfl, by rw [hl]; omega, rfl⟩
  · refine .inr ⟨r, off, rfl, fun h0 => ?_⟩
    rw [hl] at h0 ⊢
    obtain ⟨h1, vs, h2, h3⟩ := hr (by omega)
    refine ⟨h1, vs, h2, ?_⟩
    have e : fl l = fl (l.take m) ++ fl (l.drop m) := by rw [← fl_app, List.take_append_drop]
    have h4 : cellsOf (fl l) 0 (m * 4) = some (fl (l.take m)) := by
      rw [cellsOf_mk (by rw [fl_length]; omega), List.drop_zero, e, List.take_left' (by rw [fl_length, hl])]
    have := cellsOf_sub h3 h4
    rwa [Nat.add_zero] at this
end Go.Proofs.YtebheelmgcggmaaGreat
