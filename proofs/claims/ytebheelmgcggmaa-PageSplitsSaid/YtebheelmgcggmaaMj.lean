/-
  Merged: PgX, PgY, PgZ, PhA, PhB, PhC, PhD.
-/
import Derived.Test.YtebheelmgcggmaaMb
import Derived.Test.YtebheelmgcggmaaMe
import Derived.Test.YtebheelmgcggmaaMf
import Derived.Test.YtebheelmgcggmaaMi
import Derived.Test.YtebheelmgcggmaaMg
set_option linter.unusedSimpArgs false
set_option linter.unusedVariables false
set_option maxRecDepth 10000
set_option maxHeartbeats 8000000
namespace Go.Proofs.Ytebheelmgcggmaa
open Go.Ab Go.Sort
def partM (p : Lf) (lo hi : List UInt8) : Lf := { p with low := lo, high := hi, base := p.base.filter fun r => insR lo hi r.key, deltas := p.deltas.filter fun r => insR lo hi r.key }
def joinOK (a b : Lf) : Bool := chk a && (chk b && decide (a.high ≠ [] ∧ a.high = b.low ∧ a.full = b.full))
def joinD (a b : Lf) (ds : List Rec) : Lf := ⟨a.low, b.high, a.full, a.base ++ b.base, ds⟩
theorem insR_lo {k s : List UInt8} (hs : s ≠ []) : insR [] s k = ltStr k s := by simp [insR, ltStr, hs]
theorem insR_hi {k s : List UInt8} : insR s [] k = !ltStr k s := by simp [insR]
theorem split_base {s : List UInt8} : ∀ {l : List Rec}, (l.Pairwise fun a b => ltK a b = true) → (l.filter fun r => ltStr r.key s) ++ (l.filter fun r => !ltStr r.key s) = l
  | [], _ => rfl
  | a :: l, h => by
    obtain ⟨h1, h2⟩ := List.pairwise_cons.1 h
    have ih := split_base (s := s) h2
    cases c : ltStr a.key s with
    | true => simp only [List.filter_cons, c, Bool.not_true, if_true, List.cons_append, Bool.false_eq_true, if_false]; rw [ih]
    | false =>
      have hz : (l.filter fun r => ltStr r.key s) = [] := List.filter_eq_nil_iff.2 fun x hx hs => by
        have := swo_ltStr.trans _ _ _ (h1 x hx) hs
        rw [c] at this; cases this
      have hy : (l.filter fun r => !ltStr r.key s) = l := by rw [hz] at ih; simpa using ih
      simp only [List.filter_cons, c, Bool.not_false, if_true, Bool.false_eq_true, if_false, hz, hy, List.nil_append]
theorem split_perm (f : Rec → Bool) : ∀ {l : List Rec}, ((l.filter f) ++ (l.filter fun r => !f r)).Perm l
  | [] => .refl _
  | a :: l => by
    have ih := split_perm f (l := l)
    cases c : f a with
    | true => simp only [List.filter_cons, c, Bool.not_true, if_true, List.cons_append, Bool.false_eq_true, if_false]; exact ih.cons a
    | false =>
      simp only [List.filter_cons, c, Bool.not_false, if_true, Bool.false_eq_true, if_false]
      exact List.perm_middle.trans (ih.cons a)
theorem lt_cut {ks : List (List UInt8)} (h : ks.Pairwise fun a b => ltStr a b = true) {m : Nat} {s : List UInt8} (hs : ks[m]? = some s) (k : List UInt8) : (k ∈ ks.take m ↔ k ∈ ks ∧ ltStr k s = true) ∧ (k ∈ ks.drop m ↔ k ∈ ks ∧ ltStr k s = false) := by
  obtain ⟨hm, rfl⟩ := List.getElem?_eq_some_iff.1 hs
  have e : ks.drop m = ks[m] :: ks.drop (m + 1) := List.drop_eq_getElem_cons hm
  have e2 := List.take_append_drop m ks
  have h' := h
  rw [← e2] at h'
  obtain ⟨_, p2, p3⟩ := List.pairwise_append.1 h'
  have hin : k ∈ ks ↔ k ∈ ks.take m ∨ k ∈ ks.drop m := by conv => lhs; rw [← e2, List.mem_append]
  have l1 : k ∈ ks.take m → ltStr k ks[m] = true := fun hk => p3 k hk _ (by rw [e]; exact List.mem_cons_self)
  have l2 : k ∈ ks.drop m → ltStr k ks[m] = false := fun hk => by
    rw [e] at hk p2
    rcases List.mem_cons.1 hk with rfl | hk
    · exact swo_ltStr.irrefl _
    · exact swo_ltStr.asymmA ((List.pairwise_cons.1 p2).1 k hk)
  refine ⟨⟨fun hk => ⟨hin.2 (.inl hk), l1 hk⟩, fun ⟨hk, hl⟩ => ?_⟩, ⟨fun hk => ⟨hin.2 (.inr hk), l2 hk⟩, fun ⟨hk, hl⟩ => ?_⟩⟩
  · rcases hin.1 hk with hk | hk
    · exact hk
    · rw [l2 hk] at hl; cases hl
  · rcases hin.1 hk with hk | hk
    · rw [l1 hk] at hl; cases hl
    · exact hk
theorem mem_part {p : Lf} {lo hi : List UInt8} {r : Rec} : r ∈ (partM p lo hi).all ↔ r ∈ p.all ∧ insR lo hi r.key = true := by
  simp only [partM, Lf.all, List.mem_append, List.mem_filter]
  constructor
  · rintro (⟨h1, h2⟩ | ⟨h1, h2⟩)
    · exact ⟨.inl h1, h2⟩
    · exact ⟨.inr h1, h2⟩
  · rintro ⟨h1 | h1, h2⟩
    · exact .inl ⟨h1, h2⟩
    · exact .inr ⟨h1, h2⟩
theorem getL_part {p : Lf} {lo hi k : List UInt8} (hk : insR lo hi k = true) : getL k (partM p lo hi).all = getL k p.all := by
  have key : ∀ (l : List Rec) (o : Rec × Bool), (l.filter fun r => insR lo hi r.key).foldl (gstep k) o = l.foldl (gstep k) o := by
    intro l
    induction l with
    | nil => intro o; rfl
    | cons a l ih =>
      intro o
      rw [List.filter_cons]
      split
      · simp only [List.foldl_cons]; exact ih _
      · rename_i hc
        have : gstep k o a = o := by
          simp only [gstep]
          rw [if_neg]
          rintro ⟨rfl, _⟩
          exact hc hk
        simp only [List.foldl_cons, this]; exact ih _
  have e : (partM p lo hi).all = p.all.filter fun r => insR lo hi r.key := by simp only [partM, Lf.all, List.filter_append]
  rw [getL, getL, e, key]
theorem getL_out {p : Lf} {lo hi k : List UInt8} (hk : insR lo hi k = false) : getL k (partM p lo hi).all = (rec0, false) :=
  getL_none fun ⟨r, h1, h2⟩ => by
    have := (mem_part.1 h1).2
    rw [h2, hk] at this; cases this
theorem perm_lsn {a b : List Rec} (hp : a.Perm b) (ha : a.Pairwise fun x y => x.lsn ≤ y.lsn) (hb : b.Pairwise fun x y => ltL x y = true) : a = b := by
  refine List.Perm.eq_of_pairwise (le := fun a b => a.lsn ≤ b.lsn) (fun x y hx hy h3 h4 => ?_) ha (hb.imp fun {a b} h => by simp only [ltL, decide_eq_true_eq] at h; omega) hp
  have hx' : x ∈ b := hp.mem_iff.1 hx
  have h5 : ∀ {k : List Rec}, (k.Pairwise fun a b => ltL a b = true) → x ∈ k → y ∈ k → x = y := fun {k} hk => by
    induction k with
    | nil => intro h; cases h
    | cons z k ih =>
      obtain ⟨z1, z2⟩ := List.pairwise_cons.1 hk
      intro ha hb
      simp only [ltL, decide_eq_true_eq] at z1
      cases ha with
      | head => cases hb with
        | head => rfl
        | tail _ hb => have := z1 y hb; omega
      | tail _ ha => cases hb with
        | head => have := z1 x ha; omega
        | tail _ hb => exact ih z2 ha hb
  exact h5 hb hx' hy
namespace PInv
variable {p : Lf} {U C : List Rec}
theorem key1 (h : PInv p U C) {s : List UInt8} (hs : s ∈ keysL p.all) : s.length = 1 := by
  obtain ⟨r, hr, rfl⟩ := mem_keysL.1 hs
  obtain ⟨n, _, _, rfl⟩ := h.ky r (h.mem r hr)
  rfl
theorem part_chk (h : PInv p U C) {lo hi : List UInt8} (h1 : lo.length ≤ 16) (h2 : hi.length ≤ 16) (h3 : hi = [] ∨ ltStr lo hi = true) : Proofs.Ytebheelmgcggmaa.chk (partM p lo hi) = true := by
  have l1 := h.lb
  have l2 := h.ld
  have f1 : (partM p lo hi).base.length ≤ p.base.length := List.length_filter_le _ _
  have f2 : (partM p lo hi).deltas.length ≤ p.deltas.length := List.length_filter_le _ _
  have e1 : (partM p lo hi).low = lo := rfl
  have e2 : (partM p lo hi).high = hi := rfl
  have e3 : (partM p lo hi).full = 0 := h.full
  simp only [Proofs.Ytebheelmgcggmaa.chk, Bool.and_eq_true, decide_eq_true_eq, List.all_eq_true, e1, e2, e3]
  refine ⟨⟨h1, h2, h3, by omega, by omega, by omega⟩, fun r hr => ?_, pw_risB (h.rb.sublist List.filter_sublist), pw_risB (h.rd.sublist List.filter_sublist)⟩
  obtain ⟨r1, r2⟩ := mem_part.1 hr
  obtain ⟨n, n1, n2, rfl⟩ := h.ky r (h.mem r r1)
  have := fit_keyed n1 n2
  simp only [fit, Bool.and_eq_true] at this ⊢
  exact ⟨this.1, r2⟩
theorem cut_chk (h : PInv p U C) {s : List UInt8} (hs : s ∈ keysL p.all) : Proofs.Ytebheelmgcggmaa.chk (partM p [] s) = true ∧ Proofs.Ytebheelmgcggmaa.chk (partM p s []) = true := by
  have h1 := h.key1 hs
  refine ⟨h.part_chk (by simp) (by omega) (.inr ?_), h.part_chk (by omega) (by simp) (.inl rfl)⟩
  cases s with
  | nil => simp at h1
  | cons a s => simp [ltStr]
theorem cut_keys (h : PInv p U C) {s : List UInt8} {m : Nat} (hs : (keysL p.all)[m]? = some s) : keysM (partM p [] s) = (keysL p.all).take m ∧ keysM (partM p s []) = (keysL p.all).drop m := by
  have hin := List.mem_of_getElem? hs
  have h1 := h.key1 hin
  have hs0 : s ≠ [] := fun e => by rw [e] at h1; simp at h1
  obtain ⟨c1, c2⟩ := h.cut_chk hin
  have pw := keysL_pw p.all
  rw [keysM, keysM, if_pos c1, if_pos c2]
  refine ⟨rise_ext (keysL_pw _) (pw.sublist (List.take_sublist _ _)) fun k => ?_, rise_ext (keysL_pw _) (pw.sublist (List.drop_sublist _ _)) fun k => ?_⟩
  · rw [(lt_cut pw hs k).1, mem_keysL, mem_keysL]
    constructor
    · rintro ⟨r, r1, rfl⟩
      obtain ⟨r2, r3⟩ := mem_part.1 r1
      exact ⟨⟨r, r2, rfl⟩, by rw [← insR_lo hs0]; exact r3⟩
    · rintro ⟨⟨r, r1, rfl⟩, r2⟩
      exact ⟨r, mem_part.2 ⟨r1, by rw [insR_lo hs0]; exact r2⟩, rfl⟩
  · rw [(lt_cut pw hs k).2, mem_keysL, mem_keysL]
    constructor
    · rintro ⟨r, r1, rfl⟩
      obtain ⟨r2, r3⟩ := mem_part.1 r1
      rw [insR_hi] at r3
      exact ⟨⟨r, r2, rfl⟩, by simpa using r3⟩
    · rintro ⟨⟨r, r1, rfl⟩, r2⟩
      exact ⟨r, mem_part.2 ⟨r1, by rw [insR_hi, r2]; rfl⟩, rfl⟩
theorem cut_join (h : PInv p U C) {s : List UInt8} (hs : s ∈ keysL p.all) : joinOK (partM p [] s) (partM p s []) = true ∧ ∀ ds : List Rec, ds.Perm ((partM p [] s).deltas ++ (partM p s []).deltas) → (ds.Pairwise fun x y => x.lsn ≤ y.lsn) → joinD (partM p [] s) (partM p s []) ds = p := by
  have h1 := h.key1 hs
  have hs0 : s ≠ [] := fun e => by rw [e] at h1; simp at h1
  obtain ⟨c1, c2⟩ := h.cut_chk hs
  refine ⟨by simp only [joinOK, c1, c2, Bool.true_and, decide_eq_true_eq]; exact ⟨hs0, rfl, rfl⟩, fun ds hp hw => ?_⟩
  have e1 : (partM p [] s).base ++ (partM p s []).base = p.base := by
    show (p.base.filter fun r => insR [] s r.key) ++ (p.base.filter fun r => insR s [] r.key) = p.base
    simp only [insR_lo hs0, insR_hi]
    exact split_base h.rb
  have e2 : ds = p.deltas := by
    refine perm_lsn (hp.trans ?_) hw h.rd
    show ((p.deltas.filter fun r => insR [] s r.key) ++ (p.deltas.filter fun r => insR s [] r.key)).Perm p.deltas
    simp only [insR_lo hs0, insR_hi]
    exact split_perm _
  have hl := h.low
  have hh := h.high
  rw [joinD, e1, e2]
  obtain ⟨lo, hi, fu, ba, de⟩ := p
  simp only at hl hh
  subst hl hh
  rfl
theorem cut_get (h : PInv p U C) {s : List UInt8} (hs : s ∈ keysL p.all) (k : List UInt8) : (getM (partM p [] s) k = getM p k ∧ getM (partM p s []) k = (rec0, false)) ∨ (getM (partM p [] s) k = (rec0, false) ∧ getM (partM p s []) k = getM p k) := by
  have h1 := h.key1 hs
  have hs0 : s ≠ [] := fun e => by rw [e] at h1; simp at h1
  obtain ⟨c1, c2⟩ := h.cut_chk hs
  simp only [getM, if_pos c1, if_pos c2, if_pos h.chk]
  cases c : ltStr k s with
  | true => exact .inl ⟨getL_part (by rw [insR_lo hs0]; exact c), getL_out (by rw [insR_hi, c]; rfl)⟩
  | false => exact .inr ⟨getL_out (by rw [insR_lo hs0]; exact c), getL_part (by rw [insR_hi, c]; rfl)⟩
end PInv
end Go.Proofs.Ytebheelmgcggmaa
namespace Go.Proofs.Ytebheelmgcggmaa
open Go.Ab Go.Sort
section
variable {P : Program} {T : Tr TI} {ρ : Operand → Option Value} {h : AHeap} {dst : Option Tmp} {ty : TypeId} {pos : String} {af : Array Edge} {g : Option (Nat × Bool)} {xs : Array Operand} {ats : Array TypeId} {u v : Value}
theorem so_cap (hx : aopnds ρ xs.toList = some [u]) (hv : aCapOf T ats u = some v) : aop P T ⟨dst, .call ⟨.builtin .cap, xs, ats⟩, ty, pos, af, g⟩ ρ h = some (v, h) := by simp only [aop, hx, aBuiltin, hv, keep]
theorem apz_none {k : IntKind} {n : Int} : aAppend T ats u (.int k n) h = none := by
  simp only [aAppend, aLen]
  cases appT T ats <;> rfl
theorem so_appz {k : IntKind} {n : Int} {r : Value × AHeap} (hx : aopnds ρ xs.toList = some [u, .int k n]) (hv : aAppendZ T ats u (.int k n) h = some r) : aop P T ⟨dst, .call ⟨.builtin .append, xs, ats⟩, ty, pos, af, g⟩ ρ h = some r := by
  simp only [aop, hx, aBuiltin, apz_none, hv]
theorem apz {t t2 elem : TypeId} {ti ui ei : TI} {k k2 : IntKind} {n : Nat} {z : Value} (ha : ats.toList = [t, t2]) (ht : T.get t = some ti) (hti : ti.und = .slice elem) (hu : T.get t2 = some ui) (hui : ui.und = .int k2) (he : T.get elem = some ei) (hz : ei.zero = some z)
    (hc : z.cells.toList.all flat1 = true ∧ z.cells.size = ei.size ∧ 1 ≤ ei.size ∧ 1 ≤ ei.bytes) (h1 : 1 ≤ n ∧ n ≤ 16777216) (h2 : (2 * n + 256) * ei.bytes ≤ 281474976710656) :
    aAppendZ T ats (.slice none 0 0) (.int k n) h = some (.slice (some ⟨h.next, 0, none⟩) n 0, h.new (.cells (zeros z.cells.toList n) ei.size)) := by
  simp only [aAppendZ, ha, ht, hti, hu, hui, he, hz, Int.toNat_natCast]
  rw [if_pos ⟨hc, ⟨by omega, by omega⟩, h2⟩]
theorem cap_0 {t e : TypeId} {ti : TI} (ha : ats.toList = [t]) (ht : T.get t = some ti) (hti : ti.und = .slice e) : aCapOf T ats (.slice none 0 0) = some (.int .i64 0) := by simp only [aCapOf, ha, ht, hti]
end
abbrev zcs : List Value := [.string ⟨#[]⟩, .int .u64 0, .bool false, .string ⟨#[]⟩]
theorem grow0_c (h : AHeap) : FWp Try.prog 71 [.slice none 0 0, I64 0] h fun u g => u = .slice none 0 0 ∧ g = h := by
  refine W.enter tyOK Try.func71 rfl rfl ?_
  simp only [entry]
  refine Wr <| Oa rfl za rfl <| On ?_
  refine W.seq <| Wr <| Oa rfl sm rfl <| Ofb rfl (zb (hv := bi_lss)) rfl <| On ?_
  refine Wn <| CWp.skip <| SQ.normal ?_
  refine W.seq <| Wr <| Oa rfl sm rfl <| Oa rfl sm rfl <| Oa rfl (so_cap (by simp only [aopnds, lk] <;> rfl) (cap_0 rfl ty26 rfl)) rfl <| Oa rfl sm rfl <| Oa rfl (Zn (hv := by simp (disch := first | omega | simp only [nx] <;> omega | fail) only [aLenOf, ty26, hpl] <;> rfl)) rfl <| Oa rfl (zb (hv := bi_w bi_sub rfl)) rfl <| Oa rfl (zb (hv := bi_w bi_sub rfl)) rfl <| Oa rfl za rfl <| On ?_
  refine Wr <| Oa rfl sm rfl <| Ofb rfl (zb (hv := bi_gtr)) rfl <| On ?_
  refine Wn <| CWp.skip <| SQ.normal ?_
  refine Wr <| Oa rfl sm rfl <| Oa rfl za rfl <| On ?_
  refine CWp.ret <| FQ.ret (by simp only [aRet, Try.f71, aResults, aResult, lk, Nat.reduceEqDiff, reduceIte] <;> rfl) ?_
  -- leaf: end
  exact ⟨rfl, rfl⟩
theorem grow_c (h : AHeap) (n : Nat) (h1 : 1 ≤ n) (h2 : n ≤ 2000000) : FWp Try.prog 71 [.slice none 0 0, I64 n] h fun u g => u = .slice (some ⟨h.next, 0, none⟩) 0 0 ∧ g = h.new (.cells (zeros zcs n) 4) := by
  have w2 : IntKind.i64.wrap ((0 : Int) - ((0 : Nat) : Int)) = 0 := rfl
  have w3 : IntKind.i64.wrap ((n : Int) - 0) = (n : Int) := by rw [wrap_i64 (by omega) (by omega)]; omega
  have hr : (h.new (.cells (zeros zcs n) 4)).get h.next = some (.cells (zeros zcs n) 4) := AHeap.get_new_same _ _
  refine W.enter tyOK Try.func71 rfl rfl ?_
  simp only [entry]
  refine Wr <| Oa rfl za rfl <| On ?_
  refine W.seq <| Wr <| Oa rfl sm rfl <| Ofb rfl (zb (hv := bi_lss)) rfl <| On ?_
  refine Wn <| CWp.skip <| SQ.normal ?_
  refine W.seq <| Wr <| Oa rfl sm rfl <| Oa rfl sm rfl <| Oa rfl (so_cap (by simp only [aopnds, lk] <;> rfl) (cap_0 rfl ty26 rfl)) rfl <| Oa rfl sm rfl <| Oa rfl (Zn (hv := by simp (disch := first | omega | simp only [nx] <;> omega | fail) only [aLenOf, ty26, hpl] <;> rfl)) rfl <| Oa rfl (zb (hv := bi_w bi_sub (by first | (simp only [w2, w3] <;> rfl) | rfl))) rfl <| Oa rfl (zb (hv := bi_w bi_sub (by first | (simp only [w2, w3] <;> rfl) | rfl))) rfl <| Oa rfl za rfl <| On ?_
  refine Wr <| Oa rfl sm rfl <| Otb rfl (zb (hv := bi_gtr)) rfl <| On ?_
  refine Wy <| W.reg <| Oa rfl sm rfl <| Oa rfl sm rfl <| Oa rfl (so_cap (by simp only [aopnds, lk] <;> rfl) (cap_0 rfl ty26 rfl)) rfl <| Oa rfl (so_slice (by simp only [lk] <;> rfl) (by simp only [oopnd, lk] <;> rfl) (by simp only [oopnd, lk] <;> rfl) (by simp only [oopnd, lk] <;> rfl) (sl_0 (x := (0, 0, 0)) ty26 rfl ty33 rfl)) rfl <| Oa rfl sm rfl <| Oa rfl (so_appz (by simp only [aopnds, lk] <;> rfl) (apz (n := n) (z := .agg #[.string ⟨#[]⟩, .int .u64 0, .bool false, .string ⟨#[]⟩]) rfl ty26 rfl ty3 rfl ty33 rfl ⟨rfl, rfl, by decide, by decide⟩ (by omega) (by show (2 * n + 256) * 48 ≤ _; omega))) rfl <| Oa rfl sm rfl <| Oa rfl (Zn (hv := by simp (disch := first | omega | simp only [nx] <;> omega | fail) only [aLenOf, ty26, hpl] <;> rfl)) rfl <| Oa rfl (so_slice (by simp only [lk] <;> rfl) (by simp only [oopnd, lk] <;> rfl) (by simp only [oopnd, lk] <;> rfl) (by simp only [oopnd, lk] <;> rfl) (sl_u ty26 rfl ty33 (bounds_hi (n := 0) (by omega)) hr)) rfl <| Oa rfl za rfl <| On ?_
  refine Wr <| Oa rfl sm rfl <| Oa rfl za rfl <| On ?_
  refine CWp.ret <| FQ.ret (by simp only [aRet, Try.f71, aResults, aResult, lk, Nat.reduceEqDiff, reduceIte] <;> rfl) ?_
  -- leaf: end
  exact ⟨rfl, rfl⟩
theorem concat_w (h : AHeap) (q la lb : Nat) (b1 b2 : Option Addr) (c1 c2 : Nat) (v0 v1 v2 : Value) (g0 g1 g2 : AHeap) (hla : la ≤ 1000000) (hlb : lb ≤ 1000000)
    (hq : h.get q = some (.cells [.slice b1 la c1, .slice b2 lb c2] 1)) (hq0 : g0.get q = some (.cells [.slice b1 la c1, .slice b2 lb c2] 1)) (hq1 : g1.get q = some (.cells [.slice b1 la c1, .slice b2 lb c2] 1))
    (hg : FWp Try.prog 71 [.slice none 0 0, I64 ((la + lb : Nat) : Int)] h fun u g => u = v0 ∧ g = g0)
    (a1 : ∀ ats A, appT T ats = some A → A.size = 4 → A.bytes ≤ 100 → aAppend T ats v0 (.slice b1 la c1) g0 = some (v1, g1))
    (a2 : ∀ ats A, appT T ats = some A → A.size = 4 → A.bytes ≤ 100 → aAppend T ats v1 (.slice b2 lb c2) g1 = some (v2, g2)) :
    FWp Try.prog 46 [.slice (some ⟨q, 0, none⟩) 2 3] h fun u g => u = v2 ∧ g = g2 := by
  refine W.enter tyOK Try.func46 rfl rfl ?_
  simp only [entry]
  refine Wr <| Oa rfl za rfl <| On ?_
  refine Wr <| Oa rfl za rfl <| On ?_
  refine W.seq <| Wr <| Oa rfl sm rfl <| Oa rfl (Zn (hv := by simp (disch := first | omega | simp only [nx] <;> omega | fail) only [aLenOf, ty97, hpl] <;> rfl)) rfl <| Oa rfl sm rfl <| On ?_
  -- leaf: loop
  refine W.cut (fun L g => g = h ∧ L = [(0, .slice (some ⟨q, 0, none⟩) 2 3), (3, I64 ((la + lb : Nat) : Int))]) (W.block (W.loop (fun m L g => ∃ i s : Nat, m + i = 2 ∧ (i = 0 → s = 0) ∧ (i = 1 → s = la) ∧ (i = 2 → s = la + lb) ∧ g = h ∧ L = [(0, .slice (some ⟨q, 0, none⟩) 2 3), (3, I64 s), (9, .slice (some ⟨q, 0, none⟩) 2 3), (10, I64 2), (11, I64 i)]) (n := 2) ⟨0, 0, rfl, fun _ => rfl, by omega, by omega, rfl, rfl⟩ ?_ ?_)) ?_
  · simp [HasA, Tr.get_put]
  · rintro m L g ⟨i, s, hm, e0, e1, e2, rfl, rfl⟩
    simp only [mkA]
    have w2 : IntKind.i64.wrap ((i : Int) + 1) = ((i + 1 : Nat) : Int) := by rw [wrap_i64 (by omega) (by omega)]; omega
    obtain rfl | rfl | rfl : i = 0 ∨ i = 1 ∨ i = 2 := by omega
    · obtain rfl := e0 rfl
      have w3 : IntKind.i64.wrap (((0 : Nat) : Int) + (la : Int)) = (la : Int) := by rw [wrap_i64 (by omega) (by omega)]; omega
      refine Wr <| Ot rfl (zb (hv := bi_lss)) rfl (by first | rfl | assumption | ((simp only [bl, hq]) <;> first | done | assumption | omega) | (simp; done) | (simp; omega)) <| On ?_
      refine W.seq <| Wy <| CWp.skip <| SQ.normal ?_
      refine W.seq <| W.block <| Wr <| Oa rfl (zi (hv := by simp (disch := first | omega | simp only [nx] <;> omega | fail) only [aIndexAddr, ty97, ty26, hpl, hq] <;> rfl)) rfl <| Oa rfl (zl (hv := by simp (disch := first | omega | simp only [nx] <;> omega | fail) only [aLoad, ty26, rowOf, hpl, hq] <;> rfl)) rfl <| Oa rfl za rfl <| On ?_
      refine Wr <| Oa rfl sm rfl <| Oa rfl sm rfl <| Oa rfl (Zn (hv := by simp (disch := first | omega | simp only [nx] <;> omega | fail) only [aLenOf, ty26, hpl, hq] <;> rfl)) rfl <| Oa rfl (zb (hv := bi_w bi_add (by first | (simp only [w2, w3] <;> rfl) | rfl))) rfl <| Oa rfl za rfl <| On ?_
      refine Wr <| Oa rfl sm rfl <| Of rfl (zb (hv := bi_lss)) rfl (by first | rfl | assumption | ((simp only [bl, hq]) <;> first | done | assumption | omega) | (simp; done) | (simp; omega)) <| On ?_
      refine Wn <| CWp.skip <| BQ.normal <| SQ.normal ?_
      refine W.reg <| Oa rfl (zb (hv := bi_w bi_add (by first | (simp only [w2, w3] <;> rfl) | rfl))) rfl <| Oa rfl sm rfl <| OSuf.nil <| ?_
      -- leaf: round
      refine LQ.normal (m := 1) (L := [(0, .slice (some ⟨q, 0, none⟩) 2 3), (3, I64 la), (9, .slice (some ⟨q, 0, none⟩) 2 3), (10, I64 2), (11, I64 ((0 + 1 : Nat) : Int))]) (by omega) ?_ ⟨1, la, rfl, by omega, fun _ => rfl, by omega, rfl, rfl⟩
      simp only [HasA, Tr.get_put, Nat.reduceEqDiff, reduceIte, w2, w3, and_self]
    · obtain rfl := e1 rfl
      have w3 : IntKind.i64.wrap ((s : Int) + (lb : Int)) = ((s + lb : Nat) : Int) := by rw [wrap_i64 (by omega) (by omega)]; omega
      refine Wr <| Ot rfl (zb (hv := bi_lss)) rfl (by first | rfl | assumption | ((simp only [bl, hq]) <;> first | done | assumption | omega) | (simp; done) | (simp; omega)) <| On ?_
      refine W.seq <| Wy <| CWp.skip <| SQ.normal ?_
      refine W.seq <| W.block <| Wr <| Oa rfl (zi (hv := by simp (disch := first | omega | simp only [nx] <;> omega | fail) only [aIndexAddr, ty97, ty26, hpl, hq] <;> rfl)) rfl <| Oa rfl (zl (hv := by simp (disch := first | omega | simp only [nx] <;> omega | fail) only [aLoad, ty26, rowOf, hpl, hq] <;> rfl)) rfl <| Oa rfl za rfl <| On ?_
      refine Wr <| Oa rfl sm rfl <| Oa rfl sm rfl <| Oa rfl (Zn (hv := by simp (disch := first | omega | simp only [nx] <;> omega | fail) only [aLenOf, ty26, hpl, hq] <;> rfl)) rfl <| Oa rfl (zb (hv := bi_w bi_add (by first | (simp only [w2, w3] <;> rfl) | rfl))) rfl <| Oa rfl za rfl <| On ?_
      refine Wr <| Oa rfl sm rfl <| Of rfl (zb (hv := bi_lss)) rfl (by first | rfl | assumption | ((simp only [bl, hq]) <;> first | done | assumption | omega) | (simp; done) | (simp; omega)) <| On ?_
      refine Wn <| CWp.skip <| BQ.normal <| SQ.normal ?_
      refine W.reg <| Oa rfl (zb (hv := bi_w bi_add (by first | (simp only [w2, w3] <;> rfl) | rfl))) rfl <| Oa rfl sm rfl <| OSuf.nil <| ?_
      -- leaf: round
      refine LQ.normal (m := 0) (L := [(0, .slice (some ⟨q, 0, none⟩) 2 3), (3, I64 ((s + lb : Nat) : Int)), (9, .slice (some ⟨q, 0, none⟩) 2 3), (10, I64 2), (11, I64 ((1 + 1 : Nat) : Int))]) (by omega) ?_ ⟨2, s + lb, rfl, by omega, by omega, fun _ => rfl, rfl, rfl⟩
      simp only [HasA, Tr.get_put, Nat.reduceEqDiff, reduceIte, w2, w3, and_self]
    · obtain rfl := e2 rfl
      refine Wr <| Ofb rfl (zb (hv := bi_lss)) rfl <| On ?_
      refine W.seq <| Wn <| CWp.exit <| SQ.exit <| LQ.exit <| BQ.exit <| ?_
      -- leaf: cut
      refine NQ.normal (L := [(0, .slice (some ⟨q, 0, none⟩) 2 3), (3, I64 ((la + lb : Nat) : Int))]) ?_ ⟨rfl, rfl⟩
      simp only [HasA, Tr.get_put, Nat.reduceEqDiff, reduceIte, and_self]
  rintro L a' g ha ⟨rfl, rfl⟩
  refine SQ.normal <| CWp.known ha ?_
  simp only [mkA]
  refine Wr <| Oa rfl sm rfl <| OSuf.callD rfl (by simp only [aopnds, lk] <;> rfl) en71 (hg) rfl <| Oa rfl za rfl <| On ?_
  refine W.seq <| Wr <| Oa rfl sm rfl <| Oa rfl (Zn (hv := by simp (disch := first | omega | simp only [nx] <;> omega | fail) only [aLenOf, ty97, hpl] <;> rfl)) rfl <| Oa rfl sm rfl <| On ?_
  -- leaf: loop
  refine W.cut (fun L g => g = g2 ∧ L = [(6, v2)]) (W.block (W.loop (fun m L g => ∃ (i : Nat) (v : Value), m + i = 2 ∧ (i = 0 → v = v0 ∧ g = g0) ∧ (i = 1 → v = v1 ∧ g = g1) ∧ (i = 2 → v = v2 ∧ g = g2) ∧ L = [(6, v), (25, .slice (some ⟨q, 0, none⟩) 2 3), (26, I64 2), (27, I64 i)]) (n := 2) ⟨0, v0, rfl, fun _ => ⟨rfl, rfl⟩, by omega, by omega, rfl⟩ ?_ ?_)) ?_
  · simp [HasA, Tr.get_put]
  · rintro m L g ⟨i, v, hm, e0, e1, e2, rfl⟩
    simp only [mkA]
    have w2 : IntKind.i64.wrap ((i : Int) + 1) = ((i + 1 : Nat) : Int) := by rw [wrap_i64 (by omega) (by omega)]; omega
    obtain rfl | rfl | rfl : i = 0 ∨ i = 1 ∨ i = 2 := by omega
    · obtain ⟨rfl, rfl⟩ := e0 rfl
      refine Wr <| Ot rfl (zb (hv := bi_lss)) rfl (by first | rfl | assumption | ((simp only [bl, hq0]) <;> first | done | assumption | omega) | (simp; done) | (simp; omega)) <| On ?_
      refine W.seq <| Wy <| CWp.skip <| SQ.normal ?_
      refine W.seq <| W.block <| Wr <| Oa rfl (zi (hv := by simp (disch := first | omega | simp only [nx] <;> omega | fail) only [aIndexAddr, ty97, ty26, hpl, hq0] <;> rfl)) rfl <| Oa rfl (zl (hv := by simp (disch := first | omega | simp only [nx] <;> omega | fail) only [aLoad, ty26, rowOf, hpl, hq0] <;> rfl)) rfl <| Oa rfl za rfl <| On ?_
      refine W.reg <| Oa rfl sm rfl <| Oa rfl sm rfl <| Oa rfl (so_append (by simp only [aopnds, lk] <;> rfl) (a1 _ _ (by simp only [appT, ty26, ty33] <;> rfl) rfl (by decide))) rfl <| Oa rfl za rfl <| OSuf.nil <| BQ.normal <| SQ.normal ?_
      refine W.reg <| Oa rfl (zb (hv := bi_w bi_add (by first | (simp only [w2] <;> rfl) | rfl))) rfl <| Oa rfl sm rfl <| OSuf.nil <| ?_
      -- leaf: round
      refine LQ.normal (m := 1) (L := [(6, v1), (25, .slice (some ⟨q, 0, none⟩) 2 3), (26, I64 2), (27, I64 ((0 + 1 : Nat) : Int))]) (by omega) ?_ ⟨1, v1, rfl, by omega, fun _ => ⟨rfl, rfl⟩, by omega, rfl⟩
      simp only [HasA, Tr.get_put, Nat.reduceEqDiff, reduceIte, w2, and_self]
    · obtain ⟨rfl, rfl⟩ := e1 rfl
      refine Wr <| Ot rfl (zb (hv := bi_lss)) rfl (by first | rfl | assumption | ((simp only [bl, hq1]) <;> first | done | assumption | omega) | (simp; done) | (simp; omega)) <| On ?_
      refine W.seq <| Wy <| CWp.skip <| SQ.normal ?_
      refine W.seq <| W.block <| Wr <| Oa rfl (zi (hv := by simp (disch := first | omega | simp only [nx] <;> omega | fail) only [aIndexAddr, ty97, ty26, hpl, hq1] <;> rfl)) rfl <| Oa rfl (zl (hv := by simp (disch := first | omega | simp only [nx] <;> omega | fail) only [aLoad, ty26, rowOf, hpl, hq1] <;> rfl)) rfl <| Oa rfl za rfl <| On ?_
      refine W.reg <| Oa rfl sm rfl <| Oa rfl sm rfl <| Oa rfl (so_append (by simp only [aopnds, lk] <;> rfl) (a2 _ _ (by simp only [appT, ty26, ty33] <;> rfl) rfl (by decide))) rfl <| Oa rfl za rfl <| OSuf.nil <| BQ.normal <| SQ.normal ?_
      refine W.reg <| Oa rfl (zb (hv := bi_w bi_add (by first | (simp only [w2] <;> rfl) | rfl))) rfl <| Oa rfl sm rfl <| OSuf.nil <| ?_
      -- leaf: round
      refine LQ.normal (m := 0) (L := [(6, v2), (25, .slice (some ⟨q, 0, none⟩) 2 3), (26, I64 2), (27, I64 ((1 + 1 : Nat) : Int))]) (by omega) ?_ ⟨2, v2, rfl, by omega, by omega, fun _ => ⟨rfl, rfl⟩, rfl⟩
      simp only [HasA, Tr.get_put, Nat.reduceEqDiff, reduceIte, w2, and_self]
    · obtain ⟨rfl, rfl⟩ := e2 rfl
      refine Wr <| Ofb rfl (zb (hv := bi_lss)) rfl <| On ?_
      refine W.seq <| Wn <| CWp.exit <| SQ.exit <| LQ.exit <| BQ.exit <| ?_
      -- leaf: cut
      refine NQ.normal (L := [(6, v)]) ?_ ⟨rfl, rfl⟩
      simp only [HasA, Tr.get_put, Nat.reduceEqDiff, reduceIte, and_self]
  rintro L a' g ha ⟨rfl, rfl⟩
  refine SQ.normal <| CWp.known ha ?_
  simp only [mkA]
  refine Wr <| Oa rfl sm rfl <| Oa rfl za rfl <| On ?_
  refine CWp.ret <| FQ.ret (by simp only [aRet, Try.f46, aResults, aResult, lk, Nat.reduceEqDiff, reduceIte] <;> rfl) ?_
  -- leaf: end
  exact ⟨rfl, rfl⟩
theorem ap_none {h : AHeap} {ats : Array TypeId} {A : AppT} {s x : Value} (ha : appT T ats = some A) (hl : aLen x = some 0) (hx : aCells h A.size 0 x = some []) (hs : s = .slice none 0 0 ∨ ∃ r off len, s = .slice (some ⟨r, off, none⟩) len 0) (hb : (2 * (vLen s + 0) + 256) * A.bytes ≤ 281474976710656) : aAppend T ats s x h = some (s, h) := by
  rcases hs with rfl | ⟨r, off, len, rfl⟩ <;> simp only [aAppend, ha, hl, hx, Nat.ble_eq_true_of_le hb, cond_true] <;> rfl
theorem RS.cells {h : AHeap} {l : List Rec} {b : Option Addr} {n c : Nat} (s : RS h l (.slice b n c)) {g : AHeap} (hk : ∀ z, z < h.next → g.get z = h.get z) : aCells g 4 l.length (.slice b n c) = some (fl l) := by
  obtain ⟨b', c', e, hr⟩ := s.ex
  cases e
  rcases hr with ⟨rfl, hn, rfl⟩ | ⟨r, off, rfl, hr⟩
  · have : l = [] := List.length_eq_zero_iff.1 hn
    subst this; rfl
  · by_cases h0 : l.length = 0
    · have : l = [] := List.length_eq_zero_iff.1 h0
      subst this; rfl
    · obtain ⟨hr1, vs, hr2, hr3⟩ := hr h0
      have e0 : Nat.beq (l.length * 4) 0 = false := by
        cases e : Nat.beq (l.length * 4) 0 with
        | false => rfl
        | true => have := Nat.eq_of_beq_eq_true e; omega
      have e2 : rowOf g r = some vs := by rw [rowOf_eq (hk r hr1)]; exact hr2
      simp only [aCells, e0, cond_false, Nat.ble_eq_true_of_le (Nat.le_refl l.length), cond_true, e2, hr3]
theorem fl_ones : ∀ l : List Rec, oneCells (fl l) = true
  | [] => rfl
  | x :: l => by
    have := fl_ones l
    rw [fl_cons]
    simp only [oneCells, List.all_append, Bool.and_eq_true] at this ⊢
    exact ⟨fl_one' x, this⟩
where fl_one' (x : Rec) : x.cs.all Value.oneCell' = true := rfl
theorem concat_c (h : AHeap) (q : Nat) (a b : List Rec) (b1 b2 : Option Addr) (c1 c2 : Nat) (ha : RS h a (.slice b1 a.length c1)) (hb : RS h b (.slice b2 b.length c2)) (hla : a.length ≤ 1000000) (hlb : b.length ≤ 1000000) (hql : q < h.next)
    (hq : h.get q = some (.cells [.slice b1 a.length c1, .slice b2 b.length c2] 1)) :
    ∃ v' H, FWp Try.prog 46 [.slice (some ⟨q, 0, none⟩) 2 3] h (fun u g => u = v' ∧ g = H) ∧ OS H h.next (a ++ b) v' ∧ h.next ≤ H.next ∧ ∀ z, z < h.next → H.get z = h.get z := by
  have nb : ∀ l : List Rec, ¬ l = [] → Nat.beq l.length 0 = false := fun l hl => by
    cases l with
    | nil => exact (hl rfl).elim
    | cons _ _ => rfl
  by_cases ea : a = []
  · subst ea
    by_cases eb : b = []
    · subst eb
      refine ⟨_, _, concat_w h q 0 0 b1 b2 c1 c2 _ _ _ h h h (by omega) (by omega) hq hq hq (grow0_c h) (fun ats A k1 k2 k3 => ap_none k1 rfl (by rw [k2]; exact ha.cells fun _ _ => rfl) (.inl rfl) ?_) (fun ats A k1 k2 k3 => ap_none k1 rfl (by rw [k2]; exact hb.cells fun _ _ => rfl) (.inl rfl) ?_), .nil rfl, Nat.le_refl _, fun _ _ => rfl⟩
      all_goals
        have : (2 * (0 + 0) + 256) * A.bytes ≤ 256 * 100 := Nat.mul_le_mul (by omega) k3
        exact Nat.le_trans this (by omega)
    · have hlb1 : 1 ≤ b.length := by cases b with | nil => exact (eb rfl).elim | cons _ _ => simp
      have k0 : ∀ z, z < h.next → (h.new (.cells (zeros zcs (0 + b.length)) 4)).get z = h.get z := fun z hz => Gn (by omega)
      have hr : (h.new (.cells (zeros zcs (0 + b.length)) 4)).get h.next = some (.cells (zeros zcs (0 + b.length)) 4) := AHeap.get_new_same _ _
      refine ⟨_, _, concat_w h q 0 b.length b1 b2 c1 c2 (.slice (some ⟨h.next, 0, none⟩) 0 0) (.slice (some ⟨h.next, 0, none⟩) 0 0) (.slice (some ⟨h.next + 1, 0, none⟩) (0 + b.length) 0) _ _ (((h.new (.cells (zeros zcs (0 + b.length)) 4)).kill h.next).new (.cells ([] ++ fl b) 4)) (by omega) hlb hq ((k0 q hql).trans hq) ((k0 q hql).trans hq) (grow_c h (0 + b.length) (by omega) (by omega)) (fun ats A k1 k2 k3 => ap_none k1 rfl (by rw [k2]; exact ha.cells k0) (.inr ⟨_, _, _, rfl⟩) ?_) (fun ats A k1 k2 k3 => ?_), ?_, ?_, ?_⟩
      · have : (2 * (0 + 0) + 256) * A.bytes ≤ 256 * 100 := Nat.mul_le_mul (by omega) k3
        exact Nat.le_trans this (by omega)
      · have := ap_u (off := 0) (len := 0) (k := b.length) (x := .slice b2 b.length c2) k1 rfl (by rw [k2]; exact hb.cells k0) (by have : (2 * (0 + b.length) + 256) * A.bytes ≤ 2000256 * 100 := Nat.mul_le_mul (by omega) k3; omega) (nb b eb) (by rw [k2]; exact hr) (fl_ones b) (old := []) (by rw [Nat.zero_mul]; rfl)
        rw [k2] at this; exact this
      · refine .some (by simpa using eb) (by simp) (by omega) (by simp [AHeap.kill]) ?_
        exact AHeap.get_new_same _ _
      · simp [AHeap.kill]; omega
      · intro z hz
        simp (disch := first | omega | simp only [nx] <;> omega | fail) only [hpl]
  · have hla1 : 1 ≤ a.length := by cases a with | nil => exact (ea rfl).elim | cons _ _ => simp
    have k0 : ∀ z, z < h.next → (h.new (.cells (zeros zcs (a.length + b.length)) 4)).get z = h.get z := fun z hz => Gn (by omega)
    have hr : (h.new (.cells (zeros zcs (a.length + b.length)) 4)).get h.next = some (.cells (zeros zcs (a.length + b.length)) 4) := AHeap.get_new_same _ _
    obtain ⟨g1, hg1⟩ : ∃ g1, g1 = ((h.new (.cells (zeros zcs (a.length + b.length)) 4)).kill h.next).new (.cells ([] ++ fl a) 4) := ⟨_, rfl⟩
    have n1 : g1.next = h.next + 2 := by rw [hg1]; rfl
    have k1' : ∀ z, z < h.next → g1.get z = h.get z := fun z hz => by rw [hg1]; simp (disch := first | omega | simp only [nx] <;> omega | fail) only [hpl]
    have hr1 : g1.get (h.next + 1) = some (.cells (fl a) 4) := by rw [hg1]; exact AHeap.get_new_same _ _
    have ap1 : ∀ ats A, appT T ats = some A → A.size = 4 → A.bytes ≤ 100 → aAppend T ats (.slice (some ⟨h.next, 0, none⟩) 0 0) (.slice b1 a.length c1) (h.new (.cells (zeros zcs (a.length + b.length)) 4)) = some (.slice (some ⟨h.next + 1, 0, none⟩) (0 + a.length) 0, g1) := fun ats A k1 k2 k3 => by
      have := ap_u (off := 0) (len := 0) (k := a.length) (x := .slice b1 a.length c1) k1 rfl (by rw [k2]; exact ha.cells k0) (by have : (2 * (0 + a.length) + 256) * A.bytes ≤ 2000256 * 100 := Nat.mul_le_mul (by omega) k3; omega) (nb a ea) (by rw [k2]; exact hr) (fl_ones a) (old := []) (by rw [Nat.zero_mul]; rfl)
      rw [k2] at this; rw [hg1]; exact this
    by_cases eb : b = []
    · subst eb
      refine ⟨_, _, concat_w h q a.length 0 b1 b2 c1 c2 _ _ _ _ g1 g1 hla (by omega) hq ((k0 q hql).trans hq) ((k1' q hql).trans hq) (grow_c h (a.length + 0) (by omega) (by omega)) ap1 (fun ats A k1 k2 k3 => ap_none k1 rfl (by rw [k2]; exact hb.cells k1') (.inr ⟨_, _, _, rfl⟩) ?_), ?_, by omega, k1'⟩
      · have : (2 * (0 + a.length + 0) + 256) * A.bytes ≤ 2000256 * 100 := Nat.mul_le_mul (by omega) k3
        exact Nat.le_trans this (by omega)
      · exact .some (by simpa using ea) (by simp) (by omega) (by omega) (by rw [List.append_nil]; exact hr1)
    · refine ⟨_, _, concat_w h q a.length b.length b1 b2 c1 c2 _ _ (.slice (some ⟨h.next + 2, 0, none⟩) (0 + a.length + b.length) 0) _ g1 ((g1.kill (h.next + 1)).new (.cells (fl a ++ fl b) 4)) hla hlb hq ((k0 q hql).trans hq) ((k1' q hql).trans hq) (grow_c h (a.length + b.length) (by omega) (by omega)) ap1 (fun ats A k1 k2 k3 => ?_), ?_, ?_, ?_⟩
      · have := ap_u (off := 0) (len := 0 + a.length) (k := b.length) (x := .slice b2 b.length c2) k1 rfl (by rw [k2]; exact hb.cells k1') (by have : (2 * (0 + a.length + b.length) + 256) * A.bytes ≤ 4000256 * 100 := Nat.mul_le_mul (by omega) k3; omega) (nb b eb) (by rw [k2]; exact hr1) (fl_ones b) (old := fl a) (by rw [k2, Nat.zero_add]; exact cellsOf_all (fl_length a))
        rw [k2, n1] at this; exact this
      · refine .some (by simpa using fun e => absurd e ea) (by simp) (by omega) (by simp [AHeap.kill]; omega) ?_
        rw [fl_app, ← n1]
        exact AHeap.get_new_same _ _
      · simp [AHeap.kill]; omega
      · intro z hz
        rw [← k1' z hz]
        simp (disch := first | omega | simp only [nx] <;> omega | fail) only [hpl]
end Go.Proofs.Ytebheelmgcggmaa
namespace Go.Proofs.Ytebheelmgcggmaa
open Go.Ab Go.Sort
theorem gcD {f : FuncId} {args : List Value} {h : AHeap} {l : List Rec} {r lo : Nat} {K0 : Value → AHeap → Prop} (hr : r < h.next) (hf : FWp Try.prog f args h K0)
    (hk : ∀ u h', K0 u h' → ∃ x, FS h' lo l false u x ∧ (∀ q, x = some q → q = r) ∧ ∀ z, z < h.next → ¬ z = r → h'.get z = h.get z) :
    FWp Try.prog f args h fun u g => u = cval false r l ∧ g = h.set r (.cells (fl l) 4) := by
  intro μ args' w hl st
  refine (hf μ args' w hl st).mono ?_
  rintro e w' ⟨u, v', h', μ', rfl, hK, ex, hv⟩
  obtain ⟨x, s, hx, hold⟩ := hk u h' hK
  have s' := s
  cases s with
  | @some r' n c rest hn h1 h2 h3 h4 =>
    obtain rfl := hx r' rfl
    refine ⟨_, v', h.set r' (.cells (fl l) 4), μ', rfl, ⟨rfl, rfl⟩, Ext.rename (μ' := μ') ex (fun r => r) (Nat.le_refl _) (fun _ _ => rfl) (fun q o ho => ?_) (fun _ _ _ _ _ _ h => h), ?_⟩
    · by_cases hq : q = r'
      · subst hq
        rw [AHeap.get_set_same] at ho; cases ho
        exact ⟨hr, .cells (fl l ++ rest) 4, h3, rfl, fun e c g => bo_fl _ _ g⟩
      · rw [Gs (by omega)] at ho
        obtain ⟨k1, e0, c0, i1, i2, i3⟩ := st.live q o ho
        exact ⟨k1, o, by rw [hold q k1 hq]; exact ho, rfl, fun e c g => (g.narrow i3.below).mono (fun _ _ => rfl) (Nat.le_refl _)⟩
    · exact vr_cval (ρ := fun r => r) s' hr (fun q hq => (hx q hq).symm) hv
theorem del_x (h : AHeap) (lo : Nat) (l : List Rec) (v fv : Value) (P : Rec → Bool) (s : OS h lo l v) (hl : l.length ≤ 1000000)
    (ask : ∀ x, x ∈ l → ∀ g, h.next ≤ g.next → (∀ z, z < h.next → (∀ n c, v ≠ .slice (some ⟨z, 0, none⟩) n c) → g.get z = h.get z) → VWp Try.prog fv [x.V] g fun u g' => u = .bool (P x) ∧ g' = g) :
    ∃ v' H x, FWp Try.prog 27 [v, fv] h (fun u g => u = v' ∧ g = H) ∧ FS H lo (l.filter fun x => !P x) (nilV v) v' x ∧ (∀ r, x = some r → ∃ n c, v = .slice (some ⟨r, 0, none⟩) n c) ∧ H.next = h.next ∧ ∀ z, (∀ n c, v ≠ .slice (some ⟨z, 0, none⟩) n c) → H.get z = h.get z := by
  have hd := del_os h lo l v fv P (fun pre g => h.next ≤ g.next ∧ ∀ z, z < h.next → (∀ n c, v ≠ .slice (some ⟨z, 0, none⟩) n c) → g.get z = h.get z) s hl ⟨Nat.le_refl _, fun _ _ _ => rfl⟩
    (fun r n c er pre g o hJ => ⟨hJ.1, fun z hz hv => by
      have : ¬ r = z := fun e => hv n c (by rw [← e]; exact er)
      rw [Gs (by omega)]; exact hJ.2 z hz hv⟩)
    (fun pre g o hJ => ⟨by have := hJ.1; simp; omega, fun z hz hv => by have := hJ.1; rw [Gn (by omega)]; exact hJ.2 z hz hv⟩)
    (fun pre g hJ => hJ.1)
    (fun pre x post hp g hJ => (ask x (by rw [← hp]; simp) g hJ.1 hJ.2).mono fun u g' ⟨e1, e2⟩ => by subst e2; exact ⟨e1, hJ, fun _ _ _ => rfl⟩)
  have fin : ∀ r n c, v = .slice (some ⟨r, 0, none⟩) n c → lo ≤ r → r < h.next → nilV v = false → ∃ v' H x, FWp Try.prog 27 [v, fv] h (fun u g => u = v' ∧ g = H) ∧ FS H lo (l.filter fun x => !P x) (nilV v) v' x ∧ (∀ r, x = some r → ∃ n c, v = .slice (some ⟨r, 0, none⟩) n c) ∧ H.next = h.next ∧ ∀ z, (∀ n c, v ≠ .slice (some ⟨z, 0, none⟩) n c) → H.get z = h.get z := by
    intro r n c er h1 h2 hnv
    rw [hnv] at hd ⊢
    refine ⟨cval false r (l.filter fun x => !P x), h.set r (.cells (fl (l.filter fun x => !P x)) 4), some r, gcD (lo := lo) h2 hd (fun u g hK => ?_), ?_, fun q hq => by cases hq; exact ⟨n, c, er⟩, rfl, fun z hz => ?_⟩
    · obtain ⟨⟨j1, j2⟩, x, fs, gx⟩ := hK
      refine ⟨x, fs, fun q hq => ?_, fun z hz hne => j2 z hz (fun n' c' e => ?_)⟩
      · obtain ⟨n', c', e⟩ := gx q hq
        rw [er] at e; cases e; rfl
      · rw [er] at e; cases e; exact hne rfl
    · exact .some rfl h1 h2 (by rw [AHeap.get_set_same, List.append_nil]) (.inl rfl)
    · have : ¬ r = z := fun e => hz n c (by rw [← e]; exact er)
      rw [Gs (by omega)]
  cases s with
  | nil e =>
    subst e
    refine ⟨.slice none 0 0, h, none, FWp.gcs ⟨fun _ => none, _, .slice0⟩ (hd.mono fun u g hK => ?_), .nil rfl, fun r hr => (by cases hr), rfl, fun _ _ => rfl⟩
    obtain ⟨⟨j1, j2⟩, x, fs, gx⟩ := hK
    refine ⟨?_, fun r o hr ho => by rw [j2 r hr (fun n c e => by cases e)]; exact ho⟩
    cases fs with
    | nil _ => rfl
  | @emp r e h1 h2 h3 => exact fin r _ _ rfl h1 h2 rfl
  | @some r n e hn h1 h2 h3 => exact fin r _ _ rfl h1 h2 rfl
theorem part1_c (h : AHeap) (q : Nat) (p : Lf) (bv dv : Value) (x : Rec) (hq : h.get q = some (LR p bv dv)) (hql : q < h.next) : FWp Try.prog 70 [x.V, P0 q] h fun u h' => u = .bool (!insR p.low p.high x.key) ∧ h' = h := by
  have tb70 := And.intro ty28 (And.intro ty33 (ty9))
  refine FWp.gcs (.flat rfl) ?_
  refine W.enter tyOK Try.func70 rfl rfl ?_
  simp only [entry]
  refine Wr <| Oa rfl Zx rfl <| Of rfl za rfl rfl <| On ?_
  refine Wr <| Oa rfl (zl (hv := by simp (disch := first | omega | simp only [nx] <;> omega | fail) only [aLoad, ty28, rowOf, hpl, hq, Value.cells] <;> rfl)) rfl <| Oa rfl (zf (hv := fa_ok (k := 0) ty33 rfl rfl ty9 rfl rfl)) rfl <| Oa rfl (zl (hv := by simp (disch := first | omega | simp only [nx] <;> omega | fail) only [aLoad, ty9, rowOf, hpl, hq, Value.cells] <;> rfl)) rfl <| OSuf.callD rfl (by simp only [aopnds, lk] <;> rfl) en57 (inside_c _ p bv dv x.key) rfl <| Oa rfl Zt rfl <| Oa rfl za rfl <| On ?_
  refine CWp.ret <| FQ.ret (by simp only [aRet, Try.f70, aResults, aResult, lk, Nat.reduceEqDiff, reduceIte] <;> rfl) ?_
  -- leaf: end
  exact ⟨rfl, fun r o hr ho => by simp (disch := first | omega | simp only [nx] <;> omega | fail) only [hpl]; exact ho⟩
theorem part_c (h : AHeap) (p : Lf) (bv dv : Value) (lo hi : List UInt8) (hb : RS h p.base bv) (hd : RS h p.deltas dv) (hlb : p.base.length ≤ 1000000) (hld : p.deltas.length ≤ 1000000) :
    ∃ nb nd, (nb = true → (partM p lo hi).base = []) ∧ (nd = true → (partM p lo hi).deltas = []) ∧ FWp Try.prog 45 [LV p bv dv, encS lo, encS hi] h fun u g => u = LV (partM p lo hi) (cval nb h.next (partM p lo hi).base) (cval nd (h.next + 1) (partM p lo hi).deltas) ∧ g = hand h (partM p lo hi) nb nd := by
  have tb45 := And.intro ty26 (And.intro ty28 (ty9))
  obtain ⟨b1, c1, rfl⟩ := hb.form
  obtain ⟨b2, c2, rfl⟩ := hd.form
  obtain ⟨h2, hh2⟩ : ∃ h2, h2 = (h.new (LR p (.slice b1 p.base.length c1) (.slice b2 p.deltas.length c2))).new (.cells zlf 1) := ⟨_, rfl⟩
  have e2 : h2.next = h.next + 2 := by rw [hh2]; rfl
  have k2 : ∀ z, z < h.next → h2.get z = h.get z := fun z hz => by rw [hh2]; simp (disch := first | omega | simp only [nx] <;> omega | fail) only [hpl]
  obtain ⟨bv', dv', H1, m, w, ob, od, hsep, hnil, hm1, hm2, hk⟩ := own_c h2 p _ _ (hb.mono (by omega) k2) (hd.mono (by omega) k2) hlb hld
  rw [e2] at ob hm1 hk
  have q0 : H1.get h.next = some (LR p (.slice b1 p.base.length c1) (.slice b2 p.deltas.length c2)) := by rw [hk _ (by omega), hh2]; simp (disch := first | omega | simp only [nx] <;> omega | fail) only [hpl]
  have q1 : H1.get (h.next + 1) = some (.cells zlf 1) := by rw [hk _ (by omega), hh2]; simp (disch := first | omega | simp only [nx] <;> omega | fail) only [hpl]
  have kk : ∀ z, z < h.next → H1.get z = h.get z := fun z hz => by rw [hk z (by omega)]; exact k2 z hz
  obtain ⟨x1, y1, rfl⟩ := ob.form
  obtain ⟨x2, y2, rfl⟩ := od.form
  obtain ⟨H2, hH2⟩ : ∃ H2, H2 = H1.new (LR { p with low := lo, high := hi } (.slice x1 p.base.length y1) (.slice x2 p.deltas.length y2)) := ⟨_, rfl⟩
  have nH2 : H2.next = H1.next + 1 := by rw [hH2]; rfl
  have kH2 : ∀ z, z < H1.next → H2.get z = H1.get z := fun z hz => by rw [hH2]; exact Gn (by omega)
  have g2 : H2.get H1.next = some (LR { p with low := lo, high := hi } (.slice x1 p.base.length y1) (.slice x2 p.deltas.length y2)) := by rw [hH2]; exact AHeap.get_new_same _ _
  have hkeep : (fun x : Rec => !(!insR lo hi x.key)) = fun r => insR lo hi r.key := by funext x; rw [Bool.not_not]
  have nb1 : ∀ z, H1.next ≤ z → ∀ n c, Value.slice x1 p.base.length y1 ≠ .slice (some ⟨z, 0, none⟩) n c := fun z hz n c e => by
    rw [e] at ob
    have := ob.row; omega
  have nd1 : ∀ z, H1.next ≤ z → ∀ n c, Value.slice x2 p.deltas.length y2 ≠ .slice (some ⟨z, 0, none⟩) n c := fun z hz n c e => by
    rw [e] at od
    have := od.row; omega
  obtain ⟨v1, H3, xb, w1, f1, gx1, n3, k3⟩ := del_x H2 (h.next + 2) p.base (.slice x1 p.base.length y1) (.func (.func 70) #[] #[P0 H1.next]) (fun x => !insR lo hi x.key) (ob.mono (by omega) (fun z _ hz => kH2 z hz)) hlb
    (fun x hx g hn hg => cl_v en70 (part1_c g H1.next { p with low := lo, high := hi } _ _ x (by rw [hg _ (by omega) (nb1 _ (Nat.le_refl _))]; exact g2) (by omega)))
  rw [hkeep] at f1
  have g3 : H3.get H1.next = some (LR { p with low := lo, high := hi } (.slice x1 p.base.length y1) (.slice x2 p.deltas.length y2)) := by rw [k3 _ (nb1 _ (Nat.le_refl _))]; exact g2
  have od3 : OS H3 m p.deltas (.slice x2 p.deltas.length y2) := (od.mono (h' := H2) (by omega) (fun z _ hz => kH2 z hz)).mono (by omega) (fun z hz _ => k3 z (fun n c e => by have := hsep z c n e; omega))
  obtain ⟨v2, H4, xd, w2, f2, gx2, n4, k4⟩ := del_x H3 m p.deltas (.slice x2 p.deltas.length y2) (.func (.func 70) #[] #[P0 H1.next]) (fun x => !insR lo hi x.key) od3 hld
    (fun x hx g hn hg => cl_v en70 (part1_c g H1.next { p with low := lo, high := hi } _ _ x (by rw [hg _ (by omega) (nd1 _ (Nat.le_refl _))]; exact g3) (by omega)))
  rw [hkeep] at f2
  have g4 : H4.get H1.next = some (LR { p with low := lo, high := hi } (.slice x1 p.base.length y1) (.slice x2 p.deltas.length y2)) := by rw [k4 _ (nd1 _ (Nat.le_refl _))]; exact g3
  have hxm : ∀ r, xb = some r → r < m := fun r hr => by obtain ⟨n, c, g1⟩ := gx1 r hr; exact hsep r c n g1
  have f1' : FS H4 (h.next + 2) (partM p lo hi).base (nilV (.slice x1 p.base.length y1)) v1 xb := f1.keep (Nat.le_refl _) (by omega) (fun r hr hr2 => k4 r (fun n c e => by
    have := hxm r hr
    rw [e] at od
    have := od.row; omega))
  rw [hH2] at w1
  obtain ⟨ub, uc, rfl⟩ := f1.form
  obtain ⟨vb, vc, rfl⟩ := f2.form
  have q14 : H4.get (h.next + 1) = some (.cells zlf 1) := by
    rw [k4 _ (fun n c e => by rw [e] at od; have := od.row; omega), k3 _ (fun n c e => by rw [e] at ob; have := ob.row; omega), kH2 _ (by omega)]; exact q1
  have old : ∀ z, z < h.next → H4.get z = h.get z := fun z hz => by
    rw [k4 _ (fun n c e => by rw [e] at od; have := od.row; omega), k3 _ (fun n c e => by rw [e] at ob; have := ob.row; omega), kH2 _ (by omega)]; exact kk z hz
  refine ⟨_, _, f1'.empty, f2.empty, gcL (K0 := fun u g => u = LV (partM p lo hi) (.slice ub (p.base.filter fun r => insR lo hi r.key).length uc) (.slice vb (p.deltas.filter fun r => insR lo hi r.key).length vc) ∧ H4.next ≤ g.next ∧ ∀ z, z < H4.next → ¬ z = H1.next → ¬ z = h.next + 1 → g.get z = H4.get z) ?_ ?_⟩
  · refine W.enter tyOK Try.func45 rfl rfl ?_
    simp only [entry]
    refine Wr <| Oa rfl Zx rfl <| Oa rfl (so_alloc (by simp only [aAlloc, ty28] <;> rfl)) rfl <| On ?_
    refine Wr <| Oa rfl (zl (hv := by simp (disch := first | omega | simp only [nx] <;> omega | fail) only [aLoad, ty28, rowOf, hpl, q0, g2, g3, g4, q14, rcl, Value.cells] <;> rfl)) rfl <| OSuf.callD rfl (by simp only [aopnds, lk] <;> rfl) en26 ((by rw [hh2] at w; exact w)) rfl <| Oa rfl (so_alloc (by simp only [aAlloc, ty28] <;> rfl)) rfl <| Oa rfl (zs (hv := by simp (disch := first | omega | simp only [nx] <;> omega | fail) only [aStore, ty28, writeRow, hpl, q0, g2, g3, g4, q14, rcl, Value.cells] <;> rfl)) rfl <| On ?_
    refine Wr <| Oa rfl sm rfl <| Oa rfl sm rfl <| Oa rfl (zf (hv := fa_ok (k := 0) ty28 rfl rfl ty9 rfl rfl)) rfl <| Oa rfl (zs (hv := by simp (disch := first | omega | simp only [nx] <;> omega | fail) only [aStore, ty9, writeRow, hpl, q0, g2, g3, g4, q14, rcl, Value.cells] <;> rfl)) rfl <| Oa rfl (zf (hv := fa_ok (k := 1) ty28 rfl rfl ty9 rfl rfl)) rfl <| Oa rfl (zs (hv := by simp (disch := first | omega | simp only [nx] <;> omega | fail) only [aStore, ty9, writeRow, hpl, q0, g2, g3, g4, q14, rcl, Value.cells] <;> rfl)) rfl <| On ?_
    refine Wr <| Oa rfl (so_makeFunc rfl (by simp only [aopnds, lk] <;> rfl) (by simp only [aopnds, lk] <;> rfl)) rfl <| Oa rfl za rfl <| On ?_
    refine W.seq <| CWp.sqd tyOK mixed (ms := [0, 1, 0, 7, 0, 16, 0, 127, 63, 511, 1023, 2047]) (by kernel_rfl) (
        .free rfl rfl (zf (hv := fa_ok (k := 3) ty28 rfl rfl ty26 rfl rfl)) rfl <| .read rfl rfl (zl (hv := by simp (disch := first | omega | simp only [nx] <;> omega | fail) only [aLoad, ty26, rowOf, hpl, q0, g2, g3, g4, q14, rcl, Value.cells] <;> rfl)) (by first | rfl | (simp [veq, veq1, veqs]; done) | (simp [veq, veq1, veqs, splice]; done)) trivial rfl <| .free rfl rfl sm rfl <| .call rfl rfl (fcallO (by simp only [aopnds, lk] <;> rfl) en27 (w1)) rfl ⟨.inl rfl, trivial⟩ rfl <| .free rfl rfl (zf (hv := fa_ok (k := 4) ty28 rfl rfl ty26 rfl rfl)) rfl <| .read rfl rfl (zl (hv := by simp (disch := first | omega | simp only [nx] <;> omega | fail) only [aLoad, ty26, rowOf, hpl, q0, g2, g3, g4, q14, rcl, Value.cells] <;> rfl)) (by first | rfl | (simp [veq, veq1, veqs]; done) | (simp [veq, veq1, veqs, splice]; done)) ⟨.inr (zl (hv := by simp (disch := first | omega | simp only [nx] <;> omega | fail) only [aLoad, ty26, rowOf, hpl, q0, g2, g3, g4, q14, rcl, Value.cells] <;> rfl)), trivial⟩ rfl <| .free rfl rfl sm rfl <| .call rfl rfl (fcallO (by simp only [aopnds, lk] <;> rfl) en27 (w2)) rfl ⟨.inl rfl, .inl rfl, trivial⟩ rfl <| .free rfl rfl (zf (hv := fa_ok (k := 3) ty28 rfl rfl ty26 rfl rfl)) rfl <| .change rfl rfl (zs (hv := by simp (disch := first | omega | simp only [nx] <;> omega | fail) only [aStore, ty26, writeRow, hpl, q0, g2, g3, g4, q14, rcl, Value.cells] <;> rfl)) rfl ⟨.inl rfl, .inl rfl, trivial⟩ rfl <| .free rfl rfl (zf (hv := fa_ok (k := 4) ty28 rfl rfl ty26 rfl rfl)) rfl <| .change rfl rfl (zs (hv := by simp (disch := first | omega | simp only [nx] <;> omega | fail) only [aStore, ty26, writeRow, hpl, q0, g2, g3, g4, q14, rcl, Value.cells] <;> rfl)) rfl ⟨.inl rfl, .inl rfl, trivial⟩ rfl <| .nil) <| SQ.normal ?_
    refine Wr <| Oa rfl (zl (hv := by simp (disch := first | omega | simp only [nx] <;> omega | fail) only [aLoad, ty28, rowOf, hpl, q0, g2, g3, g4, q14, rcl, Value.cells] <;> rfl)) rfl <| Oa rfl (zs (hv := by simp (disch := first | omega | simp only [nx] <;> omega | fail) only [aStore, ty28, writeRow, hpl, q0, g2, g3, g4, q14, rcl, Value.cells] <;> rfl)) rfl <| On ?_
    refine CWp.ret <| FQ.ret (by simp (disch := first | omega | simp only [nx] <;> omega | fail) only [aRet, Try.f45, aResults, aResult, lk, Nat.reduceEqDiff, reduceIte, aLoad, rowOf, hpl, q0, g2, g3, g4, q14, rcl, Value.cells, places, tb45] <;> rfl) ?_
    -- leaf: end
    exact ⟨rfl, by simp only [nx]; omega, fun z h1 h2 h3 => by simp (disch := first | omega | simp only [nx] <;> omega | fail) only [hpl]⟩
  · rintro u g ⟨rfl, hn, hg⟩
    exact ⟨_, _, xb, xd, rfl, f1'.keep (by omega) hn (fun r hr hr2 => hg r hr2 (by have := hxm r hr; omega) (by have := (f1'.lo hr).1; omega)), f2.keep (by omega) hn (fun r hr hr2 => hg r hr2 (fun e => by
      obtain ⟨n, c, e2⟩ := gx2 r hr
      exact nd1 r (by omega) n c e2) (by have := (f2.lo hr).1; omega)), fun r hr hr2 => by have := hxm r hr; have := (f2.lo hr2).1; omega, fun z hz => by rw [hg z (by omega) (by omega) (by omega)]; exact old z hz⟩
end Go.Proofs.Ytebheelmgcggmaa
namespace Go.Proofs.Ytebheelmgcggmaa
open Go.Ab Go.Sort
structure LVs (g : AHeap) (lo : Nat) (p : Lf) (v : Value) : Prop where
  ex : ∃ b c b' c', v = LV p (.slice b p.base.length c) (.slice b' p.deltas.length c') ∧ RSl g lo p.base (.slice b p.base.length c) ∧ RSl g lo p.deltas (.slice b' p.deltas.length c')
theorem LVs.mono {g g' : AHeap} {lo lo' : Nat} {p : Lf} {v : Value} (l : LVs g lo p v) (hl : lo' ≤ lo) (hn : g.next ≤ g'.next) (hk : ∀ z, lo ≤ z → z < g.next → g'.get z = g.get z) : LVs g' lo' p v := by
  obtain ⟨b, c, b', c', e, l1, l2⟩ := l.ex
  exact ⟨b, c, b', c', e, l1.mono hl hn hk, l2.mono hl hn hk⟩
abbrev LV0 : Value := LV ⟨[], [], 0, [], []⟩ (.slice none 0 0) (.slice none 0 0)
theorem split_c (h : AHeap) (p : Lf) (bv dv : Value) (hb : RS h p.base bv) (hd : RS h p.deltas dv) (hlb : p.base.length ≤ 1000000) (hld : p.deltas.length ≤ 1000000) (hK : (keysM p).length ≤ 12) :
    FWp Try.prog 21 [LV p bv dv] h fun u g => h.next ≤ g.next ∧ (∀ z, z < h.next → g.get z = h.get z) ∧
      (((keysM p).length < 2 ∧ u = .tuple #[LV0, LV0, .bool false]) ∨
       ∃ s va vb, 2 ≤ (keysM p).length ∧ (keysM p)[((keysM p).length + 1) / 2]? = some s ∧ u = .tuple #[va, vb, .bool true] ∧ LVs g h.next (partM p p.low s) va ∧ LVs g h.next (partM p s p.high) vb) := by
  have tb21 := And.intro ty28 (And.intro ty39 (ty9))
  obtain ⟨b1, c1, rfl⟩ := hb.form
  obtain ⟨b2, c2, rfl⟩ := hd.form
  obtain ⟨h3, hh3⟩ : ∃ h3, h3 = ((h.new (LR p (.slice b1 p.base.length c1) (.slice b2 p.deltas.length c2))).new (.cells zlf 1)).new (.cells zlf 1) := ⟨_, rfl⟩
  have e3 : h3.next = h.next + 3 := by rw [hh3]; rfl
  have k3 : ∀ z, z < h.next → h3.get z = h.get z := fun z hz => by rw [hh3]; simp (disch := first | omega | simp only [nx] <;> omega | fail) only [hpl]
  have hkc := keys_c h3 p _ _ (hb.mono (by omega) k3) (hd.mono (by omega) k3) hlb hld hK
  by_cases c0 : keysM p = []
  · simp only [kval, kheap, if_pos c0] at hkc
    refine W.enter tyOK Try.func21 rfl rfl ?_
    simp only [entry]
    refine Wr <| Oa rfl Zx rfl <| Oa rfl (so_alloc (by simp only [aAlloc, ty28] <;> rfl)) rfl <| Oa rfl (so_alloc (by simp only [aAlloc, ty28] <;> rfl)) rfl <| Of rfl za rfl rfl <| On ?_
    refine Wr <| Oa rfl (zl (hv := by simp (disch := first | omega | simp only [nx] <;> omega | fail) only [aLoad, ty28, rowOf, hpl, rcl, Value.cells] <;> rfl)) rfl <| OSuf.callD rfl (by simp only [aopnds, lk] <;> rfl) en11 ((by rw [hh3] at hkc; exact hkc)) rfl <| Oa rfl za rfl <| On ?_
    refine W.seq <| Wr <| Oa rfl sm rfl <| Oa rfl (Zn (hv := by simp (disch := first | omega | simp only [nx] <;> omega | fail) only [aLenOf, ty39, hpl, rcl, Value.cells, places, tb21] <;> rfl)) rfl <| Ot rfl (zb (hv := bi_lss)) rfl (by first | rfl | assumption | ((simp only [bl, rcl, Value.cells, places, tb21]) <;> first | done | assumption | omega) | (simp; done) | (simp; omega)) <| On ?_
    refine Wy <| W.seq <| CWp.sqd tyOK mixed (ms := [0, 0, 1, 7, 15]) (by kernel_rfl) (
        .read rfl rfl (zl (hv := by simp (disch := first | omega | simp only [nx] <;> omega | fail) only [aLoad, ty28, rowOf, hpl, rcl, Value.cells] <;> rfl)) (by first | rfl | (simp [veq, veq1, veqs]; done) | (simp [veq, veq1, veqs, splice]; done)) trivial rfl <| .read rfl rfl (zl (hv := by simp (disch := first | omega | simp only [nx] <;> omega | fail) only [aLoad, ty28, rowOf, hpl, rcl, Value.cells] <;> rfl)) (by first | rfl | (simp [veq, veq1, veqs]; done) | (simp [veq, veq1, veqs, splice]; done)) trivial rfl <| .change rfl rfl (zs (hv := by simp (disch := first | omega | simp only [nx] <;> omega | fail) only [aStore, ty28, writeRow, hpl, rcl, Value.cells] <;> rfl)) rfl ⟨.inr (zl (hv := by simp (disch := first | omega | simp only [nx] <;> omega | fail) only [aLoad, ty28, rowOf, hpl, rcl, Value.cells] <;> rfl)), .inl rfl, trivial⟩ rfl <| .change rfl rfl (zs (hv := by simp (disch := first | omega | simp only [nx] <;> omega | fail) only [aStore, ty28, writeRow, hpl, rcl, Value.cells] <;> rfl)) rfl ⟨.inl rfl, .inl rfl, trivial⟩ rfl <| .free rfl rfl za rfl <| .nil) <| SQ.normal ?_
    refine CWp.ret <| SQ.ret <| FQ.ret (by simp (disch := first | omega | simp only [nx] <;> omega | fail) only [aRet, Try.f21, aResults, aResult, lk, Nat.reduceEqDiff, reduceIte, aLoad, rowOf, hpl, rcl, Value.cells, places, tb21] <;> rfl) ?_
    -- leaf: end
    exact ⟨by simp only [nx]; omega, fun z hz => by simp (disch := first | omega | simp only [nx] <;> omega | fail) only [hpl], .inl ⟨by rw [c0]; simp, rfl⟩⟩
  simp only [kval, kheap, if_neg c0] at hkc
  by_cases kc1 : (keysM p).length < 2
  · refine W.enter tyOK Try.func21 rfl rfl ?_
    simp only [entry]
    refine Wr <| Oa rfl Zx rfl <| Oa rfl (so_alloc (by simp only [aAlloc, ty28] <;> rfl)) rfl <| Oa rfl (so_alloc (by simp only [aAlloc, ty28] <;> rfl)) rfl <| Of rfl za rfl rfl <| On ?_
    refine Wr <| Oa rfl (zl (hv := by simp (disch := first | omega | simp only [nx] <;> omega | fail) only [aLoad, ty28, rowOf, hpl, rcl, Value.cells] <;> rfl)) rfl <| OSuf.callD rfl (by simp only [aopnds, lk] <;> rfl) en11 ((by rw [hh3] at hkc; exact hkc)) rfl <| Oa rfl za rfl <| On ?_
    refine W.seq <| Wr <| Oa rfl sm rfl <| Oa rfl (Zn (hv := by simp (disch := first | omega | simp only [nx] <;> omega | fail) only [aLenOf, ty39, hpl, rcl, Value.cells, places, tb21] <;> rfl)) rfl <| Ot rfl (zb (hv := bi_lss)) rfl (by first | rfl | assumption | ((simp only [bl, rcl, Value.cells, places, tb21]) <;> first | done | assumption | omega) | (simp; done) | (simp; omega)) <| On ?_
    refine Wy <| W.seq <| CWp.sqd tyOK mixed (ms := [0, 0, 1, 7, 15]) (by kernel_rfl) (
        .read rfl rfl (zl (hv := by simp (disch := first | omega | simp only [nx] <;> omega | fail) only [aLoad, ty28, rowOf, hpl, rcl, Value.cells] <;> rfl)) (by first | rfl | (simp [veq, veq1, veqs]; done) | (simp [veq, veq1, veqs, splice]; done)) trivial rfl <| .read rfl rfl (zl (hv := by simp (disch := first | omega | simp only [nx] <;> omega | fail) only [aLoad, ty28, rowOf, hpl, rcl, Value.cells] <;> rfl)) (by first | rfl | (simp [veq, veq1, veqs]; done) | (simp [veq, veq1, veqs, splice]; done)) trivial rfl <| .change rfl rfl (zs (hv := by simp (disch := first | omega | simp only [nx] <;> omega | fail) only [aStore, ty28, writeRow, hpl, rcl, Value.cells] <;> rfl)) rfl ⟨.inr (zl (hv := by simp (disch := first | omega | simp only [nx] <;> omega | fail) only [aLoad, ty28, rowOf, hpl, rcl, Value.cells] <;> rfl)), .inl rfl, trivial⟩ rfl <| .change rfl rfl (zs (hv := by simp (disch := first | omega | simp only [nx] <;> omega | fail) only [aStore, ty28, writeRow, hpl, rcl, Value.cells] <;> rfl)) rfl ⟨.inl rfl, .inl rfl, trivial⟩ rfl <| .free rfl rfl za rfl <| .nil) <| SQ.normal ?_
    refine CWp.ret <| SQ.ret <| FQ.ret (by simp (disch := first | omega | simp only [nx] <;> omega | fail) only [aRet, Try.f21, aResults, aResult, lk, Nat.reduceEqDiff, reduceIte, aLoad, rowOf, hpl, rcl, Value.cells, places, tb21] <;> rfl) ?_
    -- leaf: end
    exact ⟨by simp only [nx]; omega, fun z hz => by simp (disch := first | omega | simp only [nx] <;> omega | fail) only [hpl], .inl ⟨kc1, rfl⟩⟩
  obtain ⟨n, hn⟩ : ∃ n, n = (keysM p).length := ⟨_, rfl⟩
  obtain ⟨s, hs⟩ : ∃ s, (keysM p)[((keysM p).length + 1) / 2]? = some s := ⟨(keysM p)[((keysM p).length + 1) / 2]'(by omega), by simp⟩
  obtain ⟨i, hi⟩ : ∃ i, i = ((keysM p).length + 1) / 2 := ⟨_, rfl⟩
  obtain ⟨g1, hg1⟩ : ∃ g1, g1 = h3.new (.cells ((keysM p).map encS) 1) := ⟨_, rfl⟩
  have n1 : g1.next = h.next + 4 := by rw [hg1]; simp; omega
  have kg1 : ∀ z, z < h3.next → g1.get z = h3.get z := fun z hz => by rw [hg1]; exact Gn (by omega)
  have r1 : g1.get h.next = some (LR p (.slice b1 p.base.length c1) (.slice b2 p.deltas.length c2)) := by rw [kg1 _ (by omega), hh3]; simp (disch := first | omega | simp only [nx] <;> omega | fail) only [hpl]
  have r2 : g1.get (h.next + 1) = some (.cells zlf 1) := by rw [kg1 _ (by omega), hh3]; simp (disch := first | omega | simp only [nx] <;> omega | fail) only [hpl]
  have r3 : g1.get (h.next + 2) = some (.cells zlf 1) := by rw [kg1 _ (by omega), hh3]; simp (disch := first | omega | simp only [nx] <;> omega | fail) only [hpl]
  have old1 : ∀ z, z < h.next → g1.get z = h.get z := fun z hz => by rw [kg1 _ (by omega)]; exact k3 z hz
  have l1 : ∀ t ti, T.get t = some ti → ti.agg = false → aLoad T t (PA h3.next i) g1 = some (encS s) := fun t ti ht ha => by
    have e4 : rowOf g1 h3.next = some ((keysM p).map encS) := by simp only [rowOf, hg1, AHeap.get_new_same]
    have e5 : ((keysM p).map encS)[i]? = some (encS s) := by rw [List.getElem?_map, hi, hs]; rfl
    simp only [aLoad, ht, e4, ha, cond_false, e5]
  obtain ⟨nb1, nd1, z1, z2, wa⟩ := part_c g1 p _ _ p.low s (hb.mono (by omega) old1) (hd.mono (by omega) old1) hlb hld
  obtain ⟨g2, hg2⟩ : ∃ g2, g2 = hand g1 (partM p p.low s) nb1 nd1 := ⟨_, rfl⟩
  have n2 : g2.next = h.next + 6 := by rw [hg2, hand_next]; omega
  have kg2 : ∀ z, z < g1.next → g2.get z = g1.get z := fun z hz => by rw [hg2]; exact hand_old _ _ _ _ _ hz
  obtain ⟨s1, s2⟩ := hand_rsl (h := g1) z1 z2
  rw [← hg2] at s1 s2 wa
  obtain ⟨nb2, nd2, z3, z4, wb⟩ := part_c g2 p _ _ s p.high (hb.mono (by omega) (fun z hz => by rw [kg2 z (by omega)]; exact old1 z hz)) (hd.mono (by omega) (fun z hz => by rw [kg2 z (by omega)]; exact old1 z hz)) hlb hld
  obtain ⟨g3, hg3⟩ : ∃ g3, g3 = hand g2 (partM p s p.high) nb2 nd2 := ⟨_, rfl⟩
  have n3 : g3.next = h.next + 8 := by rw [hg3, hand_next]; omega
  have kg3 : ∀ z, z < g2.next → g3.get z = g2.get z := fun z hz => by rw [hg3]; exact hand_old _ _ _ _ _ hz
  obtain ⟨s3, s4⟩ := hand_rsl (h := g2) z3 z4
  rw [← hg3] at s3 s4 wb
  obtain ⟨x1, y1, f1⟩ := s1.rs.form
  obtain ⟨x2, y2, f2⟩ := s2.rs.form
  obtain ⟨x3, y3, f3⟩ := s3.rs.form
  obtain ⟨x4, y4, f4⟩ := s4.rs.form
  rw [f1] at wa s1
  rw [f2] at wa s2
  rw [f3] at wb s3
  rw [f4] at wb s4
  have r12 : g2.get h.next = some (LR p (.slice b1 p.base.length c1) (.slice b2 p.deltas.length c2)) := by rw [kg2 _ (by omega)]; exact r1
  have r23 : g3.get (h.next + 1) = some (.cells zlf 1) := by rw [kg3 _ (by omega), kg2 _ (by omega)]; exact r2
  have r33 : g3.get (h.next + 2) = some (.cells zlf 1) := by rw [kg3 _ (by omega), kg2 _ (by omega)]; exact r3
  have old3 : ∀ z, z < h.next → g3.get z = h.get z := fun z hz => by rw [kg3 _ (by omega), kg2 _ (by omega)]; exact old1 z hz
  have kc2 : ¬ (((keysM p).length : Nat) : Int) < 2 := by omega
  have w1 : IntKind.i64.wrap ((((keysM p).length : Nat) : Int) + 1) = (((keysM p).length + 1 : Nat) : Int) := by rw [wrap_i64 (by omega) (by omega)]; omega
  have w2 : IntKind.i64.wrap ((((keysM p).length + 1 : Nat) : Int).tdiv 2) = (i : Int) := by
    rw [Int.tdiv_eq_ediv_of_nonneg (by omega), wrap_i64 (by omega) (by omega)]; omega
  have hidx : (0 ≤ (i : Int) ∧ (i : Int) < (((keysM p).length : Nat) : Int)) := by omega
  rw [hh3] at hkc
  refine W.enter tyOK Try.func21 rfl rfl ?_
  simp only [entry]
  refine Wr <| Oa rfl Zx rfl <| Oa rfl (so_alloc (by simp only [aAlloc, ty28] <;> rfl)) rfl <| Oa rfl (so_alloc (by simp only [aAlloc, ty28] <;> rfl)) rfl <| Of rfl za rfl rfl <| On ?_
  refine Wr <| Oa rfl (zl (hv := by simp (disch := first | omega | simp only [nx] <;> omega | fail) only [aLoad, ty28, rowOf, hpl, r1, r12, r23, r33, hidx, sb, rcl, Value.cells] <;> rfl)) rfl <| OSuf.callD rfl (by simp only [aopnds, lk] <;> rfl) en11 (hkc) rfl <| Oa rfl za rfl <| On ?_
  refine W.seq <| Wr <| Oa rfl sm rfl <| Oa rfl (Zn (hv := by simp (disch := first | omega | simp only [nx] <;> omega | fail) only [aLenOf, ty39, hpl, r1, r12, r23, r33, hidx, sb, rcl, Value.cells, places, tb21] <;> rfl)) rfl <| Of rfl (zb (hv := bi_lss)) rfl (by first | rfl | assumption | ((simp only [bl, r1, r12, r23, r33, hidx, sb, rcl, Value.cells, places, tb21]) <;> first | done | assumption | omega) | (simp; done) | (simp; omega)) <| On ?_
  refine Wn <| CWp.skip <| SQ.normal ?_
  refine Wr <| Oa rfl sm rfl <| Oa rfl sm rfl <| Oa rfl (Zn (hv := by simp (disch := first | omega | simp only [nx] <;> omega | fail) only [aLenOf, ty39, hpl, r1, r12, r23, r33, hidx, sb, rcl, Value.cells, places, tb21] <;> rfl)) rfl <| Oa rfl (zb (hv := bi_w bi_add (by first | (simp only [w1, w2] <;> rfl) | rfl))) rfl <| Oa rfl (zb (hv := bi_w (bi_quo (by decide)) (by first | (simp only [w1, w2] <;> rfl) | rfl))) rfl <| Oa rfl (zi (hv := by simp (disch := first | omega | simp only [nx] <;> omega | fail) only [aIndexAddr, ty39, ty9, hpl, r1, r12, r23, r33, hidx, sb, rcl, Value.cells, places, tb21] <;> rfl)) rfl <| Oa rfl (zl (hv := (by rw [hg1, hh3] at l1; exact l1 _ _ ty9 rfl))) rfl <| Oa rfl za rfl <| On ?_
  refine W.seq <| CWp.sqd tyOK mixed (ms := [0, 0, 2, 0, 15, 0, 0, 0, 128, 511, 1023, 2047, 4095]) (by kernel_rfl) (
      .read rfl rfl (zl (hv := by simp (disch := first | omega | simp only [nx] <;> omega | fail) only [aLoad, ty28, rowOf, hpl, r1, r12, r23, r33, hidx, sb, rcl, Value.cells] <;> rfl)) (by first | rfl | (simp [veq, veq1, veqs]; done) | (simp [veq, veq1, veqs, splice]; done)) trivial rfl <| .free rfl rfl (zf (hv := fa_ok (k := 0) ty28 rfl rfl ty9 rfl rfl)) rfl <| .read rfl rfl (zl (hv := by simp (disch := first | omega | simp only [nx] <;> omega | fail) only [aLoad, ty9, rowOf, hpl, r1, r12, r23, r33, hidx, sb, rcl, Value.cells] <;> rfl)) (by first | rfl | (simp [veq, veq1, veqs]; done) | (simp [veq, veq1, veqs, splice]; done)) trivial rfl <| .free rfl rfl sm rfl <| .call rfl rfl (fcallO (by simp only [aopnds, lk] <;> rfl) en45 ((by rw [hg1, hh3] at wa; exact wa))) rfl ⟨.inl rfl, .inl rfl, trivial⟩ rfl <| .read rfl rfl (zl (hv := by simp (disch := first | omega | simp only [nx] <;> omega | fail) only [aLoad, ty28, rowOf, hpl, r1, r12, r23, r33, hidx, sb, rcl, Value.cells] <;> rfl)) (by first | rfl | (simp [veq, veq1, veqs]; done) | (simp [veq, veq1, veqs, splice]; done)) ⟨.inr (zl (hv := by simp (disch := first | omega | simp only [nx] <;> omega | fail) only [aLoad, ty28, rowOf, hpl, r1, r12, r23, r33, hidx, sb, rcl, Value.cells] <;> rfl)), trivial⟩ rfl <| .free rfl rfl sm rfl <| .free rfl rfl (zf (hv := fa_ok (k := 1) ty28 rfl rfl ty9 rfl rfl)) rfl <| .read rfl rfl (zl (hv := by simp (disch := first | omega | simp only [nx] <;> omega | fail) only [aLoad, ty9, rowOf, hpl, r1, r12, r23, r33, hidx, sb, rcl, Value.cells] <;> rfl)) (by first | rfl | (simp [veq, veq1, veqs]; done) | (simp [veq, veq1, veqs, splice]; done)) ⟨.inr (zl (hv := by simp (disch := first | omega | simp only [nx] <;> omega | fail) only [aLoad, ty9, rowOf, hpl, r1, r12, r23, r33, hidx, sb, rcl, Value.cells] <;> rfl)), trivial⟩ rfl <| .call rfl rfl (fcallO (by simp only [aopnds, lk] <;> rfl) en45 (wb)) rfl ⟨.inl rfl, .inl rfl, .inl rfl, .inl rfl, trivial⟩ rfl <| .change rfl rfl (zs (hv := by simp (disch := first | omega | simp only [nx] <;> omega | fail) only [aStore, ty28, writeRow, hpl, r1, r12, r23, r33, hidx, sb, rcl, Value.cells] <;> rfl)) rfl ⟨.inl rfl, .inl rfl, .inl rfl, .inl rfl, trivial⟩ rfl <| .change rfl rfl (zs (hv := by simp (disch := first | omega | simp only [nx] <;> omega | fail) only [aStore, ty28, writeRow, hpl, r1, r12, r23, r33, hidx, sb, rcl, Value.cells] <;> rfl)) rfl ⟨.inl rfl, .inl rfl, .inl rfl, .inl rfl, trivial⟩ rfl <| .free rfl rfl za rfl <| .nil) <| SQ.normal ?_
  refine CWp.ret <| FQ.ret (by simp (disch := first | omega | simp only [nx] <;> omega | fail) only [aRet, Try.f21, aResults, aResult, lk, Nat.reduceEqDiff, reduceIte, aLoad, rowOf, hpl, r1, r12, r23, r33, hidx, sb, rcl, Value.cells, places, tb21] <;> rfl) ?_
  -- leaf: end
  refine ⟨by simp only [nx]; omega, fun z hz => by simp (disch := first | omega | simp only [nx] <;> omega | fail) only [hpl]; exact old3 z hz, .inr ⟨s, _, _, by omega, hs, rfl, ⟨_, _, _, _, rfl, ?_, ?_⟩, ⟨_, _, _, _, rfl, ?_, ?_⟩⟩⟩
  · exact s1.mono (by omega) (by simp only [nx]; omega) (fun z h1 h2 => by simp (disch := first | omega | simp only [nx] <;> omega | fail) only [hpl]; exact kg3 z h2)
  · exact s2.mono (by omega) (by simp only [nx]; omega) (fun z h1 h2 => by simp (disch := first | omega | simp only [nx] <;> omega | fail) only [hpl]; exact kg3 z h2)
  · exact s3.mono (by omega) (by simp only [nx]; omega) (fun z h1 h2 => by simp (disch := first | omega | simp only [nx] <;> omega | fail) only [hpl])
  · exact s4.mono (by omega) (by simp only [nx]; omega) (fun z h1 h2 => by simp (disch := first | omega | simp only [nx] <;> omega | fail) only [hpl])
end Go.Proofs.Ytebheelmgcggmaa
namespace Go.Proofs.Ytebheelmgcggmaa
open Go.Ab Go.Sort
theorem ins0_c (h : AHeap) (b : Option Addr) (c : Nat) : FWp Try.prog 79 [.slice b 0 c, I64 0, I64 0, SortJ.CF] h fun u h' => u = .tuple #[] ∧ h' = h := by
  refine W.enter tyOK Try.func79 rfl rfl ?_
  simp only [entry]
  have w0 : IntKind.i64.wrap ((0 : Int) + 1) = 1 := rfl
  refine Wr <| Oa rfl sm rfl <| Oa rfl (zb (hv := bi_w bi_add (by first | (simp only [w0] <;> rfl) | rfl))) rfl <| Oa rfl za rfl <| On ?_
  -- leaf: loop
  refine W.block (W.loop (fun n L h' => n = 0 ∧ h' = h ∧ L = [(0, .slice b 0 c), (1, I64 0), (2, I64 0), (3, SortJ.CF), (8, I64 1)]) (n := 0) ⟨rfl, rfl, rfl⟩ ?_ ?_)
  · simp [HasA, Tr.get_put, w0]
  · rintro n L h1 ⟨rfl, rfl, rfl⟩
    simp only [mkA]
    have hlt : ¬ (1 : Int) < 0 := by omega
    refine W.seq <| Wr <| Oa rfl sm rfl <| Oa rfl sm rfl <| Ofb rfl (zb (hv := bi_lss)) rfl <| On ?_
    refine Wn <| CWp.exit <| SQ.exit <| LQ.exit <| BQ.exit <| FQ.normal (by simp only [aRet, Try.f79, aResults, aResult, lk, Nat.reduceEqDiff, reduceIte] <;> rfl) ?_
    -- leaf: end
    exact ⟨rfl, rfl⟩
theorem stable0_c (h : AHeap) (b : Option Addr) (c : Nat) : FWp Try.prog 72 [.slice b 0 c, I64 0, SortJ.CF] h fun u h' => u = .tuple #[] ∧ h' = h := by
  refine W.enter tyOK Try.func72 rfl rfl ?_
  simp only [entry]
  refine Wr <| Oa rfl za rfl <| On ?_
  refine Wr <| Oa rfl sm rfl <| Oa rfl za rfl <| Oa rfl za rfl <| On ?_
  refine W.seq <| ?_
  -- leaf: loop
  refine W.cut (fun L h' => h' = h ∧ L = [(0, .slice b 0 c), (1, I64 0), (2, SortJ.CF), (6, I64 20), (7, I64 0)])
    (W.block (W.loop (fun n L h' => n = 0 ∧ h' = h ∧ L = [(0, .slice b 0 c), (1, I64 0), (2, SortJ.CF), (6, I64 20), (7, I64 0), (8, I64 20)]) (n := 0) ⟨rfl, rfl, rfl⟩ ?_ ?_)) ?_
  · simp [HasA, Tr.get_put]
  · rintro n L h1 ⟨rfl, rfl, rfl⟩
    simp only [mkA]
    have hlt : ¬ (20 : Int) ≤ 0 := by omega
    refine W.seq <| Wr <| Oa rfl sm rfl <| Oa rfl sm rfl <| Ofb rfl (zb (hv := bi_leq)) rfl <| On ?_
    refine Wn <| CWp.exit <| SQ.exit <| LQ.exit <| BQ.exit <| ?_
    -- leaf: cut
    refine NQ.normal (L := [(0, .slice b 0 c), (1, I64 0), (2, SortJ.CF), (6, I64 20), (7, I64 0)]) ?_ ⟨rfl, rfl⟩
    simp only [HasA, Tr.get_put, Nat.reduceEqDiff, reduceIte, and_self]
  rintro L a' h1 ha ⟨rfl, rfl⟩
  refine SQ.normal <| CWp.known ha ?_
  simp only [mkA]
  refine Wr <| Oa rfl sm rfl <| Oa rfl sm rfl <| Oa rfl sm rfl <| Oa rfl sm rfl <| OSuf.callD rfl (by simp only [aopnds, lk] <;> rfl) en79 (ins0_c _ _ _) rfl <| On ?_
  -- leaf: loop
  refine W.block (W.loop (fun n L h' => n = 0 ∧ h' = h1 ∧ L = [(0, .slice b 0 c), (1, I64 0), (2, SortJ.CF), (6, I64 20)]) (n := 0) ⟨rfl, rfl, rfl⟩ ?_ ?_)
  · simp [HasA, Tr.get_put]
  rintro n L h1 ⟨rfl, rfl, rfl⟩
  simp only [mkA]
  have hlt : ¬ (20 : Int) < 0 := by omega
  refine W.seq <| Wr <| Oa rfl sm rfl <| Oa rfl sm rfl <| Ofb rfl (zb (hv := bi_lss)) rfl <| On ?_
  refine Wn <| CWp.exit <| SQ.exit <| LQ.exit <| BQ.exit <| FQ.normal (by simp only [aRet, Try.f72, aResults, aResult, lk, Nat.reduceEqDiff, reduceIte] <;> rfl) ?_
  -- leaf: end
  exact ⟨rfl, rfl⟩
theorem sort0_c (h : AHeap) (b : Option Addr) (c : Nat) : FWp Try.prog 47 [.slice b 0 c, SortJ.CF] h fun u h' => u = .tuple #[] ∧ h' = h := by
  refine W.enter tyOK Try.func47 rfl rfl ?_
  simp only [entry]
  refine W.reg <| Oa rfl sm rfl <| Oa rfl sm rfl <| Oa rfl (Zn (hv := by simp (disch := first | omega | simp only [nx] <;> omega | fail) only [aLenOf, ty26, hpl] <;> rfl)) rfl <| Oa rfl sm rfl <| OSuf.callD rfl (by simp only [aopnds, lk] <;> rfl) en72 (stable0_c _ _ _) rfl <| OSuf.nil <| FQ.normal (by simp only [aRet, Try.f47, aResults, aResult, lk, Nat.reduceEqDiff, reduceIte] <;> rfl) ?_
  -- leaf: end
  exact ⟨rfl, rfl⟩
theorem mn_eq {x : Rec} (h : x.lsn ≤ 1099511627776) : SortJ.mn x = x.lsn := by simp only [SortJ.mn]; rw [if_neg (by omega)]
theorem sort_os (h : AHeap) (lo : Nat) (l : List Rec) (v : Value) (s : OS h lo l v) (hl : l.length ≤ 1000000) (hp : ∀ x ∈ l, 1 ≤ x.lsn ∧ x.lsn ≤ 1099511627776) :
    FWp Try.prog 47 [v, SortJ.CF] h fun u g => u = .tuple #[] ∧ ∃ l' : List Rec, l'.Perm l ∧ (l'.Pairwise fun x y => x.lsn ≤ y.lsn) ∧ OS g lo l' v ∧ g.next = h.next ∧ ∀ z, (∀ n c, v ≠ .slice (some ⟨z, 0, none⟩) n c) → g.get z = h.get z := by
  cases s with
  | nil e => subst e; exact (sort0_c h _ _).mono fun u g ⟨e1, e2⟩ => by subst e2; exact ⟨e1, [], .refl _, .nil, .nil rfl, rfl, fun _ _ => rfl⟩
  | emp e h1 h2 h3 => subst e; exact (sort0_c h _ _).mono fun u g ⟨e1, e2⟩ => by subst e2; exact ⟨e1, [], .refl _, .nil, .emp rfl h1 h2 h3, rfl, fun _ _ => rfl⟩
  | @some r n e hn h1 h2 h3 =>
    subst hn
    have hG : SortJ.Good l.toArray := fun k => by
      by_cases hk : k < l.length
      · rw [getElem!_pos _ k (by simpa using hk)]
        have := (hp (l[k]'hk) (List.getElem_mem hk)).1
        simp only [List.getElem_toArray]; omega
      · rw [getElem!_neg _ k (by simpa using hk)]
        exact Int.le_refl _
    have hc := SortJ.sort_c h r l.length (by omega) l.toArray (by simp) hG
    have e0 : h.set r (SortJ.row l.toArray) = h := by rw [AHeap.set_self]; simpa [SortJ.row] using h3
    rw [e0] at hc
    refine hc.mono ?_
    rintro u g ⟨rfl, d', hpm, hso, rfl⟩
    have hd : d'.size = l.length := by rw [hpm.1]; simp
    have hpl : d'.toList.Perm l := by
      have := hpm.2.2
      simp only [Array.toList_extract] at this
      have e1 : d'.toList.extract 0 l.length = d'.toList := by rw [List.extract_eq_take_drop, List.drop_zero, Nat.sub_zero, List.take_of_length_le (by simp [hd])]
      have e2 : l.extract 0 l.length = l := by rw [List.extract_eq_take_drop, List.drop_zero, Nat.sub_zero, List.take_of_length_le (by omega)]
      simp only [e1, e2] at this
      exact this
    refine ⟨rfl, d'.toList, hpl, ?_, .some (fun e' => e ?_) (by simp [hd]) h1 h2 (AHeap.get_set_same _ _ _), rfl, fun z hz => Gs (fun e' => hz _ _ (by rw [e']))⟩
    · rw [List.pairwise_iff_getElem]
      intro i j hi hj hij
      have := hso i j (by omega) hij (by simpa [hd] using hj)
      rw [getElem!_pos _ j (by simpa using hj), getElem!_pos _ i (by simpa using hi)] at this
      have m1 := hp _ (hpl.mem_iff.1 (List.getElem_mem hi))
      have m2 := hp _ (hpl.mem_iff.1 (List.getElem_mem hj))
      simp only [Array.getElem_toList] at m1 m2 ⊢
      simp only [SortJ.ltJ, decide_eq_false_iff_not] at this
      rw [mn_eq m1.2, mn_eq m2.2] at this
      omega
    · have := hpl.length_eq
      rw [e'] at this
      exact List.length_eq_zero_iff.1 this.symm
theorem fit_le {lo hi : List UInt8} {x : Rec} (h : fit lo hi x = true) : 1 ≤ x.lsn ∧ x.lsn ≤ 1099511627776 := by
  simp only [fit, Bool.and_eq_true, decide_eq_true_eq] at h
  exact h.1.2
theorem join_c (h : AHeap) (a b : Lf) (av aw bv bw : Value) (ha : RS h a.base av) (ha' : RS h a.deltas aw) (hb : RS h b.base bv) (hb' : RS h b.deltas bw) (l1 : a.base.length ≤ 1000000) (l2 : a.deltas.length ≤ 1000000) (l3 : b.base.length ≤ 1000000) (l4 : b.deltas.length ≤ 1000000) (hl : (a.deltas ++ b.deltas).length ≤ 1000000) (hl' : (a.base ++ b.base).length ≤ 1000000)
    (hok : joinOK a b = true) (hch : ∀ ds : List Rec, ds.Perm (a.deltas ++ b.deltas) → (ds.Pairwise fun x y => x.lsn ≤ y.lsn) → chk (joinD a b ds) = true) :
    FWp Try.prog 22 [LV a av aw, LV b bv bw] h fun u g => h.next ≤ g.next ∧ (∀ z, z < h.next → g.get z = h.get z) ∧ ∃ ds v, ds.Perm (a.deltas ++ b.deltas) ∧ (ds.Pairwise fun x y => x.lsn ≤ y.lsn) ∧ u = .tuple #[v, I64 0] ∧ LVs g h.next (joinD a b ds) v := by
  have tb22 := And.intro ty25 (And.intro ty26 (And.intro ty28 (And.intro ty9 (ty97))))
  obtain ⟨b1, c1, rfl⟩ := ha.form
  obtain ⟨b2, c2, rfl⟩ := ha'.form
  obtain ⟨b3, c3, rfl⟩ := hb.form
  obtain ⟨b4, c4, rfl⟩ := hb'.form
  simp only [joinOK, Bool.and_eq_true, decide_eq_true_eq] at hok
  obtain ⟨f1, f2, j1, j2, j3⟩ := hok
  obtain ⟨h3, hh3⟩ : ∃ h3, h3 = ((h.new (LR a (.slice b1 a.base.length c1) (.slice b2 a.deltas.length c2))).new (LR b (.slice b3 b.base.length c3) (.slice b4 b.deltas.length c4))).new (.cells zlf 1) := ⟨_, rfl⟩
  have e3 : h3.next = h.next + 3 := by rw [hh3]; rfl
  have k3 : ∀ z, z < h.next → h3.get z = h.get z := fun z hz => by rw [hh3]; simp (disch := first | omega | simp only [nx] <;> omega | fail) only [hpl]
  have m1 := may'_c h3 a _ _ (ha.mono (by omega) k3) (ha'.mono (by omega) k3) l1 l2
  have m2 := may'_c h3 b _ _ (hb.mono (by omega) k3) (hb'.mono (by omega) k3) l3 l4
  rw [f1] at m1
  rw [f2] at m2
  have r0 : h3.get h.next = some (LR a (.slice b1 a.base.length c1) (.slice b2 a.deltas.length c2)) := by rw [hh3]; simp (disch := first | omega | simp only [nx] <;> omega | fail) only [hpl]
  have r1 : h3.get (h.next + 1) = some (LR b (.slice b3 b.base.length c3) (.slice b4 b.deltas.length c4)) := by rw [hh3]; simp (disch := first | omega | simp only [nx] <;> omega | fail) only [hpl]
  have r2 : h3.get (h.next + 2) = some (.cells zlf 1) := by rw [hh3]; simp (disch := first | omega | simp only [nx] <;> omega | fail) only [hpl]
  obtain ⟨G1, hG1⟩ : ∃ G1, G1 = h3.new (.cells [.slice b1 a.base.length c1, .slice b3 b.base.length c3] 1) := ⟨_, rfl⟩
  have n1 : G1.next = h.next + 4 := by rw [hG1]; simp; omega
  have kG1 : ∀ z, z < h3.next → G1.get z = h3.get z := fun z hz => by rw [hG1]; exact Gn (by omega)
  have old1 : ∀ z, z < h.next → G1.get z = h.get z := fun z hz => by rw [kG1 _ (by omega)]; exact k3 z hz
  obtain ⟨v1, H1, w1, o1, hn1, k1⟩ := concat_c G1 h3.next a.base b.base b1 b3 c1 c3 (ha.mono (by omega) old1) (hb.mono (by omega) old1) l1 l3 (by omega) (by rw [hG1]; exact AHeap.get_new_same _ _)
  obtain ⟨G2, hG2⟩ : ∃ G2, G2 = H1.new (.cells [.slice b2 a.deltas.length c2, .slice b4 b.deltas.length c4] 1) := ⟨_, rfl⟩
  have n2 : G2.next = H1.next + 1 := by rw [hG2]; rfl
  have kG2 : ∀ z, z < H1.next → G2.get z = H1.get z := fun z hz => by rw [hG2]; exact Gn (by omega)
  have old2 : ∀ z, z < h.next → G2.get z = h.get z := fun z hz => by rw [kG2 _ (by omega), k1 _ (by omega)]; exact old1 z hz
  obtain ⟨v2, H2, w2, o2, hn2, k2⟩ := concat_c G2 H1.next a.deltas b.deltas b2 b4 c2 c4 (ha'.mono (by omega) old2) (hb'.mono (by omega) old2) l2 l4 (by omega) (by rw [hG2]; exact AHeap.get_new_same _ _)
  obtain ⟨x1, y1, rfl⟩ := o1.form
  obtain ⟨x2, y2, rfl⟩ := o2.form
  have r01 : H1.get h.next = some (LR a (.slice b1 a.base.length c1) (.slice b2 a.deltas.length c2)) := by rw [k1 _ (by omega), kG1 _ (by omega)]; exact r0
  have r11 : H1.get (h.next + 1) = some (LR b (.slice b3 b.base.length c3) (.slice b4 b.deltas.length c4)) := by rw [k1 _ (by omega), kG1 _ (by omega)]; exact r1
  have kk : ∀ z, z < H1.next → H2.get z = H1.get z := fun z hz => by rw [k2 _ (by omega), kG2 _ hz]
  have r02 : H2.get h.next = some (LR a (.slice b1 a.base.length c1) (.slice b2 a.deltas.length c2)) := by rw [kk _ (by omega)]; exact r01
  have r12 : H2.get (h.next + 1) = some (LR b (.slice b3 b.base.length c3) (.slice b4 b.deltas.length c4)) := by rw [kk _ (by omega)]; exact r11
  have r22 : H2.get (h.next + 2) = some (.cells zlf 1) := by rw [kk _ (by omega), k1 _ (by omega), kG1 _ (by omega)]; exact r2
  have old : ∀ z, z < h.next → H2.get z = h.get z := fun z hz => by rw [kk _ (by omega), k1 _ (by omega)]; exact old1 z hz
  obtain ⟨G3, hG3⟩ : ∃ G3, G3 = H2.new (LR (joinD a b (a.deltas ++ b.deltas)) (.slice x1 (a.base ++ b.base).length y1) (.slice x2 (a.deltas ++ b.deltas).length y2)) := ⟨_, rfl⟩
  have n3 : G3.next = H2.next + 1 := by rw [hG3]; rfl
  have kG3 : ∀ z, z < H2.next → G3.get z = H2.get z := fun z hz => by rw [hG3]; exact Gn (by omega)
  have hs := sort_os G3 G2.next (a.deltas ++ b.deltas) _ (o2.mono (by omega) (fun z _ hz => kG3 z hz)) hl (fun x hx => by
    rcases List.mem_append.1 hx with hx | hx
    · exact fit_le ((fits_of f1).1 x (List.mem_append.2 (.inr hx)))
    · exact fit_le ((fits_of f2).1 x (List.mem_append.2 (.inr hx))))
  rw [hG3] at hs
  have rG3 : G3.get H2.next = some (LR (joinD a b (a.deltas ++ b.deltas)) (.slice x1 (a.base ++ b.base).length y1) (.slice x2 (a.deltas ++ b.deltas).length y2)) := by rw [hG3]; exact AHeap.get_new_same _ _
  have nd1 : ∀ z, (z < G2.next ∨ H2.next ≤ z) → ∀ n c, Value.slice x2 (a.deltas ++ b.deltas).length y2 ≠ .slice (some ⟨z, 0, none⟩) n c := fun z hz n c e => by
    rw [e] at o2
    have := o2.row; omega
  refine W.enter tyOK Try.func22 rfl rfl ?_
  simp only [entry]
  refine Wr <| Oa rfl Zx rfl <| Oa rfl Zx rfl <| Oa rfl (so_alloc (by simp only [aAlloc, ty28] <;> rfl)) rfl <| Oa rfl za rfl <| On ?_
  refine W.seq <| Wr <| Oa rfl (zl (hv := by simp (disch := first | omega | simp only [nx] <;> omega | fail) only [aLoad, ty28, rowOf, hpl, r0, r1, r01, r11, r02, r12, rcl, Value.cells] <;> rfl)) rfl <| OSuf.callD rfl (by simp only [aopnds, lk] <;> rfl) en25 ((by rw [hh3] at m1; exact m1)) rfl <| Of rfl Zt rfl rfl <| Of rfl sm rfl rfl <| Oa ag (zl (hv := by simp (disch := first | omega | simp only [nx] <;> omega | fail) only [aLoad, ty28, rowOf, hpl, r0, r1, r01, r11, r02, r12, rcl, Value.cells] <;> rfl)) rfl <| OSuf.callD ag (by simp only [aopnds, lk] <;> rfl) en25 ((by rw [hh3] at m2; exact m2)) rfl <| Of ag Zt rfl rfl <| Of rfl Zp rfl rfl <| Of rfl sm rfl rfl <| Oa ag (zf (hv := fa_ok (k := 1) ty28 rfl rfl ty9 rfl rfl)) rfl <| Oa ag (zl (hv := by simp (disch := first | omega | simp only [nx] <;> omega | fail) only [aLoad, ty9, rowOf, hpl, r0, r1, r01, r11, r02, r12, rcl, Value.cells] <;> rfl)) rfl <| Of ag (zb (hv := bs_eql)) rfl (by simp [sst, j1]) <| Of rfl Zp rfl rfl <| Of rfl sm rfl rfl <| Oa ag (zf (hv := fa_ok (k := 1) ty28 rfl rfl ty9 rfl rfl)) rfl <| Oa ag (zl (hv := by simp (disch := first | omega | simp only [nx] <;> omega | fail) only [aLoad, ty9, rowOf, hpl, r0, r1, r01, r11, r02, r12, rcl, Value.cells] <;> rfl)) rfl <| Oa ag (zf (hv := fa_ok (k := 0) ty28 rfl rfl ty9 rfl rfl)) rfl <| Oa ag (zl (hv := by simp (disch := first | omega | simp only [nx] <;> omega | fail) only [aLoad, ty9, rowOf, hpl, r0, r1, r01, r11, r02, r12, rcl, Value.cells] <;> rfl)) rfl <| Of ag (zb (hv := bs_neq)) rfl (by simp [sst, j2]) <| Of rfl Zp rfl rfl <| Of rfl sm rfl rfl <| Oa ag (zf (hv := fa_ok (k := 2) ty28 rfl rfl ty25 rfl rfl)) rfl <| Oa ag (zl (hv := by simp (disch := first | omega | simp only [nx] <;> omega | fail) only [aLoad, ty25, rowOf, hpl, r0, r1, r01, r11, r02, r12, rcl, Value.cells] <;> rfl)) rfl <| Oa ag (zf (hv := fa_ok (k := 2) ty28 rfl rfl ty25 rfl rfl)) rfl <| Oa ag (zl (hv := by simp (disch := first | omega | simp only [nx] <;> omega | fail) only [aLoad, ty25, rowOf, hpl, r0, r1, r01, r11, r02, r12, rcl, Value.cells] <;> rfl)) rfl <| Of ag (zb (hv := bi_neq)) rfl (by simp [j3]) <| Of rfl Zp rfl rfl <| On ?_
  refine Wn <| CWp.skip <| SQ.normal ?_
  refine W.seq <| CWp.sql tyOK mixed (ms := [0, 1, 0, 4, 0, 16, 0, 64, 0, 256, 960, 1984, 0, 4096, 0, 16384, 61440, 131008, 262143, 0, 1048575]) (by kernel_rfl) (
      .free rfl rfl rfl (zf (hv := fa_ok (k := 0) ty28 rfl rfl ty9 rfl rfl)) rfl <| .read rfl rfl rfl (zl (hv := by simp (disch := first | omega | simp only [nx] <;> omega | fail) only [aLoad, ty9, rowOf, hpl, r0, r1, r01, r11, r02, r12, rcl, Value.cells] <;> rfl)) (by first | rfl | (simp [veq, veq1, veqs]; done) | (simp [veq, veq1, veqs, splice]; done)) trivial rfl <| .free rfl rfl rfl (zf (hv := fa_ok (k := 1) ty28 rfl rfl ty9 rfl rfl)) rfl <| .read rfl rfl rfl (zl (hv := by simp (disch := first | omega | simp only [nx] <;> omega | fail) only [aLoad, ty9, rowOf, hpl, r0, r1, r01, r11, r02, r12, rcl, Value.cells] <;> rfl)) (by first | rfl | (simp [veq, veq1, veqs]; done) | (simp [veq, veq1, veqs, splice]; done)) trivial rfl <| .free rfl rfl rfl (zf (hv := fa_ok (k := 2) ty28 rfl rfl ty25 rfl rfl)) rfl <| .read rfl rfl rfl (zl (hv := by simp (disch := first | omega | simp only [nx] <;> omega | fail) only [aLoad, ty25, rowOf, hpl, r0, r1, r01, r11, r02, r12, rcl, Value.cells] <;> rfl)) (by first | rfl | (simp [veq, veq1, veqs]; done) | (simp [veq, veq1, veqs, splice]; done)) trivial rfl <| .free rfl rfl rfl (zf (hv := fa_ok (k := 3) ty28 rfl rfl ty26 rfl rfl)) rfl <| .read rfl rfl rfl (zl (hv := by simp (disch := first | omega | simp only [nx] <;> omega | fail) only [aLoad, ty26, rowOf, hpl, r0, r1, r01, r11, r02, r12, rcl, Value.cells] <;> rfl)) (by first | rfl | (simp [veq, veq1, veqs]; done) | (simp [veq, veq1, veqs, splice]; done)) trivial rfl <| .free rfl rfl rfl (zf (hv := fa_ok (k := 3) ty28 rfl rfl ty26 rfl rfl)) rfl <| .read rfl rfl rfl (zl (hv := by simp (disch := first | omega | simp only [nx] <;> omega | fail) only [aLoad, ty26, rowOf, hpl, r0, r1, r01, r11, r02, r12, rcl, Value.cells] <;> rfl)) (by first | rfl | (simp [veq, veq1, veqs]; done) | (simp [veq, veq1, veqs, splice]; done)) trivial rfl <| .change rfl rfl rfl (so_buildSlice (by simp only [aparts, lk] <;> rfl) (by simp only [aBuildSlice, ty97, ty26, r0, r1, r01, r11, r02, r12, rcl, Value.cells, places, tb22] <;> rfl)) rfl ⟨.inl rfl, .inl rfl, .inr (zl (hv := by simp (disch := first | omega | simp only [nx] <;> omega | fail) only [aLoad, ty25, rowOf, hpl, r0, r1, r01, r11, r02, r12, rcl, Value.cells] <;> rfl)), .inr (zl (hv := by simp (disch := first | omega | simp only [nx] <;> omega | fail) only [aLoad, ty9, rowOf, hpl, r0, r1, r01, r11, r02, r12, rcl, Value.cells] <;> rfl)), .inr (zl (hv := by simp (disch := first | omega | simp only [nx] <;> omega | fail) only [aLoad, ty9, rowOf, hpl, r0, r1, r01, r11, r02, r12, rcl, Value.cells] <;> rfl)), trivial⟩ rfl <| .call rfl rfl rfl (fcallO (by simp only [aopnds, lk] <;> rfl) en46 ((by rw [hG1, hh3] at w1; exact w1))) rfl ⟨.inl rfl, .inl rfl, .inr (zl (hv := by simp (disch := first | omega | simp only [nx] <;> omega | fail) only [aLoad, ty25, rowOf, hpl, r0, r1, r01, r11, r02, r12, rcl, Value.cells] <;> rfl)), .inr (zl (hv := by simp (disch := first | omega | simp only [nx] <;> omega | fail) only [aLoad, ty9, rowOf, hpl, r0, r1, r01, r11, r02, r12, rcl, Value.cells] <;> rfl)), .inr (zl (hv := by simp (disch := first | omega | simp only [nx] <;> omega | fail) only [aLoad, ty9, rowOf, hpl, r0, r1, r01, r11, r02, r12, rcl, Value.cells] <;> rfl)), trivial⟩ rfl <| .free rfl rfl rfl (zf (hv := fa_ok (k := 4) ty28 rfl rfl ty26 rfl rfl)) rfl <| .read rfl rfl rfl (zl (hv := by simp (disch := first | omega | simp only [nx] <;> omega | fail) only [aLoad, ty26, rowOf, hpl, r0, r1, r01, r11, r02, r12, rcl, Value.cells] <;> rfl)) (by first | rfl | (simp [veq, veq1, veqs]; done) | (simp [veq, veq1, veqs, splice]; done)) ⟨.inr (zl (hv := by simp (disch := first | omega | simp only [nx] <;> omega | fail) only [aLoad, ty26, rowOf, hpl, r0, r1, r01, r11, r02, r12, rcl, Value.cells] <;> rfl)), .inr (zl (hv := by simp (disch := first | omega | simp only [nx] <;> omega | fail) only [aLoad, ty26, rowOf, hpl, r0, r1, r01, r11, r02, r12, rcl, Value.cells] <;> rfl)), trivial⟩ rfl <| .free rfl rfl rfl (zf (hv := fa_ok (k := 4) ty28 rfl rfl ty26 rfl rfl)) rfl <| .read rfl rfl rfl (zl (hv := by simp (disch := first | omega | simp only [nx] <;> omega | fail) only [aLoad, ty26, rowOf, hpl, r0, r1, r01, r11, r02, r12, rcl, Value.cells] <;> rfl)) (by first | rfl | (simp [veq, veq1, veqs]; done) | (simp [veq, veq1, veqs, splice]; done)) ⟨.inr (zl (hv := by simp (disch := first | omega | simp only [nx] <;> omega | fail) only [aLoad, ty26, rowOf, hpl, r0, r1, r01, r11, r02, r12, rcl, Value.cells] <;> rfl)), .inr (zl (hv := by simp (disch := first | omega | simp only [nx] <;> omega | fail) only [aLoad, ty26, rowOf, hpl, r0, r1, r01, r11, r02, r12, rcl, Value.cells] <;> rfl)), trivial⟩ rfl <| .late rfl rfl rfl (so_buildSlice (by simp only [aparts, lk] <;> rfl) (by simp only [aBuildSlice, ty97, ty26, r0, r1, r01, r11, r02, r12, rcl, Value.cells, places, tb22] <;> rfl)) rfl rfl ⟨.inl rfl, .inl rfl, .inr (zl (hv := by simp (disch := first | omega | simp only [nx] <;> omega | fail) only [aLoad, ty26, rowOf, hpl, r0, r1, r01, r11, r02, r12, rcl, Value.cells] <;> rfl)), .inr (zl (hv := by simp (disch := first | omega | simp only [nx] <;> omega | fail) only [aLoad, ty26, rowOf, hpl, r0, r1, r01, r11, r02, r12, rcl, Value.cells] <;> rfl)), .inr (zl (hv := by simp (disch := first | omega | simp only [nx] <;> omega | fail) only [aLoad, ty25, rowOf, hpl, r0, r1, r01, r11, r02, r12, rcl, Value.cells] <;> rfl)), .inr (zl (hv := by simp (disch := first | omega | simp only [nx] <;> omega | fail) only [aLoad, ty9, rowOf, hpl, r0, r1, r01, r11, r02, r12, rcl, Value.cells] <;> rfl)), .inr (zl (hv := by simp (disch := first | omega | simp only [nx] <;> omega | fail) only [aLoad, ty9, rowOf, hpl, r0, r1, r01, r11, r02, r12, rcl, Value.cells] <;> rfl)), trivial⟩ rfl <| .call rfl rfl rfl (fcallO (by simp only [aopnds, lk] <;> rfl) en46 ((by rw [hG2] at w2; exact w2))) rfl ⟨.inl rfl, .inl rfl, .inl rfl, .inl rfl, .inr (zl (hv := by simp (disch := first | omega | simp only [nx] <;> omega | fail) only [aLoad, ty25, rowOf, hpl, r0, r1, r01, r11, r02, r12, rcl, Value.cells] <;> rfl)), .inr (zl (hv := by simp (disch := first | omega | simp only [nx] <;> omega | fail) only [aLoad, ty9, rowOf, hpl, r0, r1, r01, r11, r02, r12, rcl, Value.cells] <;> rfl)), .inr (zl (hv := by simp (disch := first | omega | simp only [nx] <;> omega | fail) only [aLoad, ty9, rowOf, hpl, r0, r1, r01, r11, r02, r12, rcl, Value.cells] <;> rfl)), trivial⟩ rfl <| .free rfl rfl rfl (so_build (by simp only [aparts, lk] <;> rfl) (by simp only [aBuild, ty28, r0, r1, r01, r11, r02, r12, rcl, Value.cells, places, tb22] <;> rfl)) rfl <| .late rfl rfl rfl (so_alloc (by simp only [aAlloc, ty28] <;> rfl)) rfl rfl ⟨.inr (zl (hv := by simp (disch := first | omega | simp only [nx] <;> omega | fail) only [aLoad, ty26, rowOf, hpl, r0, r1, r01, r11, r02, r12, rcl, Value.cells] <;> rfl)), .inr (zl (hv := by simp (disch := first | omega | simp only [nx] <;> omega | fail) only [aLoad, ty26, rowOf, hpl, r0, r1, r01, r11, r02, r12, rcl, Value.cells] <;> rfl)), .inr (zl (hv := by simp (disch := first | omega | simp only [nx] <;> omega | fail) only [aLoad, ty26, rowOf, hpl, r0, r1, r01, r11, r02, r12, rcl, Value.cells] <;> rfl)), .inr (zl (hv := by simp (disch := first | omega | simp only [nx] <;> omega | fail) only [aLoad, ty26, rowOf, hpl, r0, r1, r01, r11, r02, r12, rcl, Value.cells] <;> rfl)), .inr (zl (hv := by simp (disch := first | omega | simp only [nx] <;> omega | fail) only [aLoad, ty25, rowOf, hpl, r0, r1, r01, r11, r02, r12, rcl, Value.cells] <;> rfl)), .inr (zl (hv := by simp (disch := first | omega | simp only [nx] <;> omega | fail) only [aLoad, ty9, rowOf, hpl, r0, r1, r01, r11, r02, r12, rcl, Value.cells] <;> rfl)), .inr (zl (hv := by simp (disch := first | omega | simp only [nx] <;> omega | fail) only [aLoad, ty9, rowOf, hpl, r0, r1, r01, r11, r02, r12, rcl, Value.cells] <;> rfl)), trivial⟩ rfl <| .change rfl rfl rfl (zs (hv := by simp (disch := first | omega | simp only [nx] <;> omega | fail) only [aStore, ty28, writeRow, hpl, r0, r1, r01, r11, r02, r12, rcl, Value.cells] <;> rfl)) rfl ⟨.inl rfl, .inl rfl, .inl rfl, .inl rfl, .inl rfl, .inl rfl, .inl rfl, trivial⟩ rfl <| .nil) <| SQ.normal ?_
  refine Wr <| Oa rfl (zf (hv := fa_ok (k := 4) ty28 rfl rfl ty26 rfl rfl)) rfl <| Oa rfl (zl (hv := by simp (disch := first | omega | simp only [nx] <;> omega | fail) only [aLoad, ty26, rowOf, hpl, r0, r1, r01, r11, r02, r12, rcl, Value.cells] <;> rfl)) rfl <| OSuf.call rfl (by simp only [aopnds, lk] <;> rfl) en47 (hs) ?_
  rintro _ g ⟨rfl, ds, d1, d2, d3, d4, d5⟩
  rw [← hG3] at d4 d5
  have q1 : g.get H2.next = some (LR (joinD a b ds) (.slice x1 (a.base ++ b.base).length y1) (.slice x2 (a.deltas ++ b.deltas).length y2)) := (by rw [d5 _ (nd1 _ (.inr (Nat.le_refl _)))]; exact rG3)
  have q2 : g.get (h.next + 2) = some (.cells zlf 1) := (by rw [d5 _ (nd1 _ (.inl (by omega))), kG3 _ (by omega)]; exact r22)
  have ob : OS g G1.next (a.base ++ b.base) (.slice x1 (a.base ++ b.base).length y1) := (o1.mono (by omega) (fun z h1 h2 => by rw [d5 _ (nd1 _ (.inl (by omega))), kG3 _ (by omega), kk _ h2]))
  have hm := may'_c g (joinD a b ds) _ _ ob.rs d3.rs hl' (by rw [show (joinD a b ds).deltas.length = (a.deltas ++ b.deltas).length from d1.length_eq]; exact hl)
  rw [hch ds d1 d2] at hm
  refine ⟨_, rfl, ?_⟩
  refine On ?_
  refine W.seq <| Wr <| Oa rfl (zl (hv := by simp (disch := first | omega | simp only [nx] <;> omega | fail) only [aLoad, ty28, rowOf, hpl, r0, r1, r01, r11, r02, r12, rcl, Value.cells, q1, q2] <;> rfl)) rfl <| OSuf.callD rfl (by simp only [aopnds, lk] <;> rfl) en25 (hm) rfl <| Of rfl Zt rfl rfl <| On ?_
  refine Wn <| CWp.skip <| SQ.normal ?_
  refine Wr <| Oa rfl (zl (hv := by simp (disch := first | omega | simp only [nx] <;> omega | fail) only [aLoad, ty28, rowOf, hpl, r0, r1, r01, r11, r02, r12, rcl, Value.cells, q1, q2] <;> rfl)) rfl <| Oa rfl (zs (hv := by simp (disch := first | omega | simp only [nx] <;> omega | fail) only [aStore, ty28, writeRow, hpl, r0, r1, r01, r11, r02, r12, rcl, Value.cells, q1, q2] <;> rfl)) rfl <| Oa rfl za rfl <| On ?_
  refine CWp.ret <| FQ.ret (by simp (disch := first | omega | simp only [nx] <;> omega | fail) only [aRet, Try.f22, aResults, aResult, lk, Nat.reduceEqDiff, reduceIte, aLoad, rowOf, hpl, r0, r1, r01, r11, r02, r12, rcl, Value.cells, places, tb22, q1, q2] <;> rfl) ?_
  -- leaf: end
  refine ⟨by simp only [nx]; omega, fun z hz => ?_, ds, _, d1, d2, rfl, ⟨x1, y1, x2, y2, ?_, ?_, ?_⟩⟩
  · simp (disch := first | omega | simp only [nx] <;> omega | fail) only [hpl]
    rw [d5 _ (nd1 _ (.inl (by omega))), kG3 _ (by omega)]; exact old z hz
  · rw [show (joinD a b ds).deltas.length = (a.deltas ++ b.deltas).length from d1.length_eq]; rfl
  · exact ob.rsl.mono (by omega) (by simp) (fun z h1 h2 => Gs (by omega))
  · have e : ds.length = (a.deltas ++ b.deltas).length := d1.length_eq
    have := d3.rsl.mono (h' := g.set (h.next + 2) (LR (joinD a b ds) (.slice x1 (a.base ++ b.base).length y1) (.slice x2 (a.deltas ++ b.deltas).length y2))) (lo' := h.next) (by omega) (by simp) (fun z h1 h2 => Gs (by omega))
    show RSl _ h.next ds (.slice x2 ds.length y2)
    rw [e]
    exact this
end Go.Proofs.Ytebheelmgcggmaa
namespace Go.Proofs.Ytebheelmgcggmaa
open Go.Ab Go.Sort
theorem neR {p q : Operand} (x y : Rec) : aBin Try.prog T .neq 33 p q x.V y.V = some (.bool (!eqRb x y)) := by
  have hs : pureRun Try.prog (Op.equal 33 x.V y.V) = some (eqRb x y) := by
    refine seq_equal Try.underlying33 (by kernel_rfl) ?_
    refine .cons (by decide) (x := encS x.key) (y := encS y.key) (by kernel_rfl) (by kernel_rfl) (eq_str Try.underlying9) ?_
    refine .cons (by decide) (x := U64 x.lsn) (y := U64 y.lsn) (by kernel_rfl) (by kernel_rfl) (eq_int Try.underlying25) ?_
    refine .cons (by decide) (x := .bool x.del) (y := .bool y.del) (by kernel_rfl) (by kernel_rfl) (eq_bool Try.underlying4) ?_
    refine .cons (by decide) (x := encS x.val) (y := encS y.val) (by kernel_rfl) (by kernel_rfl) (eq_str Try.underlying9) ?_
    exact .nil
  exact bi_sne rfl (by kernel_rfl) hs
theorem same_c (h : AHeap) (p : Lf) (av aw bv bw : Value) (ha : RS h p.base av) (ha' : RS h p.deltas aw) (hb : RS h p.base bv) (hb' : RS h p.deltas bw) (l1 : p.base.length ≤ 1000000) (l2 : p.deltas.length ≤ 1000000) :
    FWp Try.prog 20 [LV p av aw, LV p bv bw] h fun u h' => u = .bool true ∧ h' = h := by
  have tb20 := And.intro ty25 (And.intro ty26 (And.intro ty28 (And.intro ty33 (ty9))))
  obtain ⟨b1, c1, rfl⟩ := ha.form
  obtain ⟨b2, c2, rfl⟩ := ha'.form
  obtain ⟨b3, c3, rfl⟩ := hb.form
  obtain ⟨b4, c4, rfl⟩ := hb'.form
  refine FWp.gcs (.flat rfl) ?_
  obtain ⟨h2, hh2⟩ : ∃ h2, h2 = (h.new (.cells (lcs p (.slice b1 p.base.length c1) (.slice b2 p.deltas.length c2)) 1)).new (.cells (lcs p (.slice b3 p.base.length c3) (.slice b4 p.deltas.length c4)) 1) := ⟨_, rfl⟩
  have n2 : h2.next = h.next + 2 := by rw [hh2]; rfl
  have k2 : ∀ z, z < h.next → h2.get z = h.get z := fun z hz => by rw [hh2]; simp (disch := first | omega | simp only [nx] <;> omega | fail) only [hpl]
  have r0 : h2.get h.next = some (.cells (lcs p (.slice b1 p.base.length c1) (.slice b2 p.deltas.length c2)) 1) := by rw [hh2]; simp (disch := first | omega | simp only [nx] <;> omega | fail) only [hpl]
  have r1 : h2.get (h.next + 1) = some (.cells (lcs p (.slice b3 p.base.length c3) (.slice b4 p.deltas.length c4)) 1) := by rw [hh2]; simp (disch := first | omega | simp only [nx] <;> omega | fail) only [hpl]
  have ha2 := ha.mono (h' := h2) (by omega) k2
  have ha2' := ha'.mono (h' := h2) (by omega) k2
  have hb2 := hb.mono (h' := h2) (by omega) k2
  have hb2' := hb'.mono (h' := h2) (by omega) k2
  refine W.enter tyOK Try.func20 rfl rfl ?_
  simp only [entry]
  refine Wr <| Oa rfl Zx rfl <| Oa rfl Zx rfl <| Of rfl za rfl rfl <| On ?_
  refine W.seq <| Wr <| Oa rfl (zf (hv := fa_ok (k := 0) ty28 rfl rfl ty9 rfl rfl)) rfl <| Oa rfl (zl (hv := by simp (disch := first | omega | simp only [nx] <;> omega | fail) only [aLoad, ty9, rowOf, hpl, rcl, Value.cells] <;> rfl)) rfl <| Oa rfl (zf (hv := fa_ok (k := 0) ty28 rfl rfl ty9 rfl rfl)) rfl <| Oa rfl (zl (hv := by simp (disch := first | omega | simp only [nx] <;> omega | fail) only [aLoad, ty9, rowOf, hpl, rcl, Value.cells] <;> rfl)) rfl <| Of rfl (zb (hv := bs_neq)) rfl (by simp [sst]) <| Of rfl sm rfl rfl <| Oa ag (zf (hv := fa_ok (k := 1) ty28 rfl rfl ty9 rfl rfl)) rfl <| Oa ag (zl (hv := by simp (disch := first | omega | simp only [nx] <;> omega | fail) only [aLoad, ty9, rowOf, hpl, rcl, Value.cells] <;> rfl)) rfl <| Oa ag (zf (hv := fa_ok (k := 1) ty28 rfl rfl ty9 rfl rfl)) rfl <| Oa ag (zl (hv := by simp (disch := first | omega | simp only [nx] <;> omega | fail) only [aLoad, ty9, rowOf, hpl, rcl, Value.cells] <;> rfl)) rfl <| Of ag (zb (hv := bs_neq)) rfl (by simp [sst]) <| Of rfl Zp rfl rfl <| Of rfl sm rfl rfl <| Oa ag (zf (hv := fa_ok (k := 2) ty28 rfl rfl ty25 rfl rfl)) rfl <| Oa ag (zl (hv := by simp (disch := first | omega | simp only [nx] <;> omega | fail) only [aLoad, ty25, rowOf, hpl, rcl, Value.cells] <;> rfl)) rfl <| Oa ag (zf (hv := fa_ok (k := 2) ty28 rfl rfl ty25 rfl rfl)) rfl <| Oa ag (zl (hv := by simp (disch := first | omega | simp only [nx] <;> omega | fail) only [aLoad, ty25, rowOf, hpl, rcl, Value.cells] <;> rfl)) rfl <| Of ag (zb (hv := bi_neq)) rfl (by simp) <| Of rfl Zp rfl rfl <| Of rfl sm rfl rfl <| Oa ag (zf (hv := fa_ok (k := 3) ty28 rfl rfl ty26 rfl rfl)) rfl <| Oa ag (zl (hv := by simp (disch := first | omega | simp only [nx] <;> omega | fail) only [aLoad, ty26, rowOf, hpl, rcl, Value.cells] <;> rfl)) rfl <| Oa ag (Zn (hv := by simp (disch := first | omega | simp only [nx] <;> omega | fail) only [aLenOf, ty26, hpl, rcl, Value.cells, places, tb20] <;> rfl)) rfl <| Oa ag (zf (hv := fa_ok (k := 3) ty28 rfl rfl ty26 rfl rfl)) rfl <| Oa ag (zl (hv := by simp (disch := first | omega | simp only [nx] <;> omega | fail) only [aLoad, ty26, rowOf, hpl, rcl, Value.cells] <;> rfl)) rfl <| Oa ag (Zn (hv := by simp (disch := first | omega | simp only [nx] <;> omega | fail) only [aLenOf, ty26, hpl, rcl, Value.cells, places, tb20] <;> rfl)) rfl <| Of ag (zb (hv := bi_neq)) rfl (by simp) <| Of rfl Zp rfl rfl <| Of rfl sm rfl rfl <| Oa ag (zf (hv := fa_ok (k := 4) ty28 rfl rfl ty26 rfl rfl)) rfl <| Oa ag (zl (hv := by simp (disch := first | omega | simp only [nx] <;> omega | fail) only [aLoad, ty26, rowOf, hpl, rcl, Value.cells] <;> rfl)) rfl <| Oa ag (Zn (hv := by simp (disch := first | omega | simp only [nx] <;> omega | fail) only [aLenOf, ty26, hpl, rcl, Value.cells, places, tb20] <;> rfl)) rfl <| Oa ag (zf (hv := fa_ok (k := 4) ty28 rfl rfl ty26 rfl rfl)) rfl <| Oa ag (zl (hv := by simp (disch := first | omega | simp only [nx] <;> omega | fail) only [aLoad, ty26, rowOf, hpl, rcl, Value.cells] <;> rfl)) rfl <| Oa ag (Zn (hv := by simp (disch := first | omega | simp only [nx] <;> omega | fail) only [aLenOf, ty26, hpl, rcl, Value.cells, places, tb20] <;> rfl)) rfl <| Of ag (zb (hv := bi_neq)) rfl (by simp) <| Of rfl Zp rfl rfl <| On ?_
  refine Wn <| CWp.skip <| SQ.normal ?_
  refine W.seq <| Wr <| Oa rfl za rfl <| On ?_
  -- leaf: loop
  refine W.cut (fun L g => h2 = g ∧ L = [(2, P0 h.next), (3, P0 (h.next + 1))]) (W.block (W.loop (fun m L g => ∃ i : Nat, m + i = p.base.length ∧ h2 = g ∧ L = [(2, P0 h.next), (3, P0 (h.next + 1)), (5, I64 i)]) (n := p.base.length) ⟨0, rfl, hh2, rfl⟩ ?_ ?_)) ?_
  · simp [HasA, Tr.get_put]
  · rintro m L g ⟨k, hm, rfl, rfl⟩
    simp only [mkA]
    have w2 : IntKind.i64.wrap ((k : Int) + 1) = ((k + 1 : Nat) : Int) := by rw [wrap_i64 (by omega) (by omega)]; omega
    by_cases hk : (k : Int) < (p.base.length : Int)
    · obtain ⟨x, hx⟩ : ∃ x, p.base[k]? = some x := ⟨p.base[k]'(by omega), by simp⟩
      obtain ⟨_, r, off, rfl, hr1, hr2⟩ := RS.at_ ha2 hx
      obtain ⟨_, r', off', rfl, hr1', hr2'⟩ := RS.at_ hb2 hx
      have hc1 : (0 ≤ (k : Int) ∧ (k : Int) < (p.base.length : Int)) := by omega
      refine W.seq <| Wr <| Oa rfl sm rfl <| Oa rfl (zf (hv := fa_ok (k := 3) ty28 rfl rfl ty26 rfl rfl)) rfl <| Oa rfl (zl (hv := by simp (disch := first | omega | simp only [nx] <;> omega | fail) only [aLoad, ty26, rowOf, hpl, r0, r1, hc1, sb] <;> rfl)) rfl <| Oa rfl (Zn (hv := by simp (disch := first | omega | simp only [nx] <;> omega | fail) only [aLenOf, ty26, hpl, r0, r1, hc1, sb] <;> rfl)) rfl <| Ot rfl (zb (hv := bi_lss)) rfl (by first | rfl | assumption | ((simp only [bl, r0, r1, hc1, sb]) <;> first | done | assumption | omega) | (simp; done) | (simp; omega)) <| On ?_
      refine Wy <| CWp.skip <| SQ.normal ?_
      refine W.seq <| W.block <| W.seq <| W.regD tyOK mixed (by kernel_rfl) <| Sa rfl (zf (hv := fa_ok (k := 3) ty28 rfl rfl ty26 rfl rfl)) rfl <| Sa rfl (zl (hv := by simp (disch := first | omega | simp only [nx] <;> omega | fail) only [aLoad, ty26, rowOf, hpl, r0, r1, hc1, sb] <;> rfl)) rfl <| Sa rfl sm rfl <| Sa rfl (zi (hv := by simp (disch := first | omega | simp only [nx] <;> omega | fail) only [aIndexAddr, ty26, ty33, hpl, r0, r1, hc1, sb] <;> rfl)) rfl <| Sa rfl (zl (hv := (hr2 _ rfl).1 _ _ ty33 rfl rfl)) rfl <| Sa rfl (zf (hv := fa_ok (k := 3) ty28 rfl rfl ty26 rfl rfl)) rfl <| Sa rfl (zl (hv := by simp (disch := first | omega | simp only [nx] <;> omega | fail) only [aLoad, ty26, rowOf, hpl, r0, r1, hc1, sb] <;> rfl)) rfl <| Sa rfl sm rfl <| Sa rfl (zi (hv := by simp (disch := first | omega | simp only [nx] <;> omega | fail) only [aIndexAddr, ty26, ty33, hpl, r0, r1, hc1, sb] <;> rfl)) rfl <| Sa rfl (zl (hv := (hr2' _ rfl).1 _ _ ty33 rfl rfl)) rfl <| SqW.aopF rfl (zb (hv := neR x x)) (fun _ => rfl) (by simp [eqRb_self]) <| Sn ?_
      refine Wn <| CWp.skip <| BQ.normal <| SQ.normal ?_
      refine W.reg <| Oa rfl sm rfl <| Oa rfl (zb (hv := bi_w bi_add (by first | (simp only [w2] <;> rfl) | rfl))) rfl <| Oa rfl za rfl <| OSuf.nil <| ?_
      -- leaf: round
      refine LQ.normal (m := m - 1) (L := [(2, P0 h.next), (3, P0 (h.next + 1)), (5, I64 ((k + 1 : Nat) : Int))]) (by omega) ?_ ⟨k + 1, by omega, rfl, rfl⟩
      simp only [HasA, Tr.get_put, Nat.reduceEqDiff, reduceIte, w2, and_self]
    · refine W.seq <| Wr <| Oa rfl sm rfl <| Oa rfl (zf (hv := fa_ok (k := 3) ty28 rfl rfl ty26 rfl rfl)) rfl <| Oa rfl (zl (hv := by simp (disch := first | omega | simp only [nx] <;> omega | fail) only [aLoad, ty26, rowOf, hpl, r0, r1] <;> rfl)) rfl <| Oa rfl (Zn (hv := by simp (disch := first | omega | simp only [nx] <;> omega | fail) only [aLenOf, ty26, hpl, r0, r1] <;> rfl)) rfl <| Of rfl (zb (hv := bi_lss)) rfl (by first | rfl | assumption | ((simp only [bl, r0, r1]) <;> first | done | assumption | omega) | (simp; done) | (simp; omega)) <| On ?_
      refine Wn <| CWp.exit <| SQ.exit <| LQ.exit <| BQ.exit <| ?_
      -- leaf: cut
      refine NQ.normal (L := [(2, P0 h.next), (3, P0 (h.next + 1))]) ?_ ⟨rfl, rfl⟩
      simp only [HasA, Tr.get_put, Nat.reduceEqDiff, reduceIte, and_self]
  rintro L a' g ha ⟨rfl, rfl⟩
  refine SQ.normal <| CWp.known ha ?_
  simp only [mkA]
  refine W.seq <| Wr <| Oa rfl za rfl <| On ?_
  -- leaf: loop
  refine W.cut (fun L g => h2 = g ∧ L = [(2, P0 h.next), (3, P0 (h.next + 1))]) (W.block (W.loop (fun m L g => ∃ i : Nat, m + i = p.deltas.length ∧ h2 = g ∧ L = [(2, P0 h.next), (3, P0 (h.next + 1)), (6, I64 i)]) (n := p.deltas.length) ⟨0, rfl, rfl, rfl⟩ ?_ ?_)) ?_
  · simp [HasA, Tr.get_put]
  · rintro m L g ⟨k, hm, rfl, rfl⟩
    simp only [mkA]
    have w2 : IntKind.i64.wrap ((k : Int) + 1) = ((k + 1 : Nat) : Int) := by rw [wrap_i64 (by omega) (by omega)]; omega
    by_cases hk : (k : Int) < (p.deltas.length : Int)
    · obtain ⟨x, hx⟩ : ∃ x, p.deltas[k]? = some x := ⟨p.deltas[k]'(by omega), by simp⟩
      obtain ⟨_, r, off, rfl, hr1, hr2⟩ := RS.at_ ha2' hx
      obtain ⟨_, r', off', rfl, hr1', hr2'⟩ := RS.at_ hb2' hx
      have hc1 : (0 ≤ (k : Int) ∧ (k : Int) < (p.deltas.length : Int)) := by omega
      refine W.seq <| Wr <| Oa rfl sm rfl <| Oa rfl (zf (hv := fa_ok (k := 4) ty28 rfl rfl ty26 rfl rfl)) rfl <| Oa rfl (zl (hv := by simp (disch := first | omega | simp only [nx] <;> omega | fail) only [aLoad, ty26, rowOf, hpl, r0, r1, hc1, sb] <;> rfl)) rfl <| Oa rfl (Zn (hv := by simp (disch := first | omega | simp only [nx] <;> omega | fail) only [aLenOf, ty26, hpl, r0, r1, hc1, sb] <;> rfl)) rfl <| Ot rfl (zb (hv := bi_lss)) rfl (by first | rfl | assumption | ((simp only [bl, r0, r1, hc1, sb]) <;> first | done | assumption | omega) | (simp; done) | (simp; omega)) <| On ?_
      refine Wy <| CWp.skip <| SQ.normal ?_
      refine W.seq <| W.block <| W.seq <| W.regD tyOK mixed (by kernel_rfl) <| Sa rfl (zf (hv := fa_ok (k := 4) ty28 rfl rfl ty26 rfl rfl)) rfl <| Sa rfl (zl (hv := by simp (disch := first | omega | simp only [nx] <;> omega | fail) only [aLoad, ty26, rowOf, hpl, r0, r1, hc1, sb] <;> rfl)) rfl <| Sa rfl sm rfl <| Sa rfl (zi (hv := by simp (disch := first | omega | simp only [nx] <;> omega | fail) only [aIndexAddr, ty26, ty33, hpl, r0, r1, hc1, sb] <;> rfl)) rfl <| Sa rfl (zl (hv := (hr2 _ rfl).1 _ _ ty33 rfl rfl)) rfl <| Sa rfl (zf (hv := fa_ok (k := 4) ty28 rfl rfl ty26 rfl rfl)) rfl <| Sa rfl (zl (hv := by simp (disch := first | omega | simp only [nx] <;> omega | fail) only [aLoad, ty26, rowOf, hpl, r0, r1, hc1, sb] <;> rfl)) rfl <| Sa rfl sm rfl <| Sa rfl (zi (hv := by simp (disch := first | omega | simp only [nx] <;> omega | fail) only [aIndexAddr, ty26, ty33, hpl, r0, r1, hc1, sb] <;> rfl)) rfl <| Sa rfl (zl (hv := (hr2' _ rfl).1 _ _ ty33 rfl rfl)) rfl <| SqW.aopF rfl (zb (hv := neR x x)) (fun _ => rfl) (by simp [eqRb_self]) <| Sn ?_
      refine Wn <| CWp.skip <| BQ.normal <| SQ.normal ?_
      refine W.reg <| Oa rfl sm rfl <| Oa rfl (zb (hv := bi_w bi_add (by first | (simp only [w2] <;> rfl) | rfl))) rfl <| Oa rfl za rfl <| OSuf.nil <| ?_
      -- leaf: round
      refine LQ.normal (m := m - 1) (L := [(2, P0 h.next), (3, P0 (h.next + 1)), (6, I64 ((k + 1 : Nat) : Int))]) (by omega) ?_ ⟨k + 1, by omega, rfl, rfl⟩
      simp only [HasA, Tr.get_put, Nat.reduceEqDiff, reduceIte, w2, and_self]
    · refine W.seq <| Wr <| Oa rfl sm rfl <| Oa rfl (zf (hv := fa_ok (k := 4) ty28 rfl rfl ty26 rfl rfl)) rfl <| Oa rfl (zl (hv := by simp (disch := first | omega | simp only [nx] <;> omega | fail) only [aLoad, ty26, rowOf, hpl, r0, r1] <;> rfl)) rfl <| Oa rfl (Zn (hv := by simp (disch := first | omega | simp only [nx] <;> omega | fail) only [aLenOf, ty26, hpl, r0, r1] <;> rfl)) rfl <| Of rfl (zb (hv := bi_lss)) rfl (by first | rfl | assumption | ((simp only [bl, r0, r1]) <;> first | done | assumption | omega) | (simp; done) | (simp; omega)) <| On ?_
      refine Wn <| CWp.exit <| SQ.exit <| LQ.exit <| BQ.exit <| ?_
      -- leaf: cut
      refine NQ.normal (L := [(2, P0 h.next), (3, P0 (h.next + 1))]) ?_ ⟨rfl, rfl⟩
      simp only [HasA, Tr.get_put, Nat.reduceEqDiff, reduceIte, and_self]
  rintro L a' g ha ⟨rfl, rfl⟩
  refine SQ.normal <| CWp.known ha ?_
  simp only [mkA]
  refine Wr <| Ot rfl za rfl rfl <| On ?_
  refine CWp.ret <| FQ.ret (by simp only [aRet, Try.f20, aResults, aResult, lk, Nat.reduceEqDiff, reduceIte] <;> rfl) ?_
  -- leaf: end
  exact ⟨rfl, fun r o hr ho => by rw [hh2]; simp (disch := first | omega | simp only [nx] <;> omega | fail) only [hpl]; exact ho⟩
end Go.Proofs.Ytebheelmgcggmaa
namespace Go.Proofs.Ytebheelmgcggmaa
open Go.Ab Go.Sort
theorem splits_c (h : AHeap) (b : Option Addr) (c : Nat) (ns : List Nat) (M K : Nat) (hv : RG h 1 ns.length (ns.map U16) (.slice b ns.length c)) (hns : ∀ n ∈ ns, n < 65536) (hm : M < 65536) (hK : K < 256) :
    FWp Try.prog 6 [.slice b ns.length c, U16 M, .int .u8 K] h fun u _ => u = .bool true := by
  have tb6 := And.intro ty22 (And.intro ty25 (And.intro ty28 (And.intro ty31 (And.intro ty33 (And.intro ty36 (And.intro ty39 (And.intro ty4 (And.intro ty5 (And.intro ty58 (ty9))))))))))
  obtain ⟨e1, he1⟩ : ∃ e1, e1 = M % 500 := ⟨_, rfl⟩
  have w1 : Int.tmod (M : Int) 500 = (e1 : Int) := by rw [Int.tmod_eq_emod_of_nonneg (by omega)]; omega
  have w2 : IntKind.u64.wrap (e1 : Int) = (e1 : Int) := wrap_u64 (by omega) (by omega)
  obtain ⟨U, hU⟩ : ∃ U, U = (ns.take 50).map fun n => keyed (1 + n % 400) := ⟨_, rfl⟩
  have hlU : U.length ≤ 50 := by rw [hU, List.length_map, List.length_take]; omega
  have hkU : ∀ r ∈ U, ∃ n, 1 ≤ n ∧ n ≤ 400 ∧ r = keyed n := fun r hr => by
    rw [hU] at hr
    obtain ⟨n, _, rfl⟩ := List.mem_map.1 hr
    exact ⟨1 + n % 400, by omega, by omega, rfl⟩
  have hmU : ∀ i N, i < 50 → ns[i]? = some N → keyed (1 + N % 400) ∈ U := fun i N hi hN => by
    rw [hU]
    exact List.mem_map.2 ⟨N, List.mem_of_getElem? (l := ns.take 50) (i := i) (by rw [List.getElem?_take_of_lt hi]; exact hN), rfl⟩
  refine W.enter tyOK Try.func6 rfl rfl ?_
  simp only [entry]
  refine Wr <| Of rfl za rfl rfl <| On ?_
  refine W.seq <| Wr <| OSuf.callD rfl (by simp only [aopnds, lk] <;> rfl) en7 (works_c _) rfl <| Of rfl Zt rfl rfl <| On ?_
  refine Wn <| CWp.skip <| SQ.normal ?_
  refine Wr <| Oa rfl (so_alloc (by simp only [aAlloc, ty28] <;> rfl)) rfl <| On ?_
  refine W.seq <| Wr <| Oa rfl za rfl <| On ?_
  -- leaf: loop
  refine W.cut (fun L g => (∃ F, PInv F U U ∧ L2 (h.next + 1) g h.next F ∧ h.next + 1 ≤ g.next) ∧ L = [(1, U16 M), (2, .int .u8 K), (7, P0 h.next)]) (W.block (W.loop (fun m L g => ∃ (i : Nat) (F : Lf), m + i = min ns.length 50 ∧ PInv F U ((ns.take i).map fun n => keyed (1 + n % 400)) ∧ L2 (h.next + 1) g h.next F ∧ h.next + 1 ≤ g.next ∧ (∀ z, z < h.next → g.get z = h.get z) ∧ L = [(0, .slice b ns.length c), (1, U16 M), (2, .int .u8 K), (7, P0 h.next), (8, I64 i)]) (n := min ns.length 50) ⟨0, ⟨[], [], 0, [], []⟩, rfl, ⟨rfl, rfl, rfl, .nil, .nil, by simp [Lf.all], by simp, hlU, hkU⟩, ⟨none, 0, none, 0, ?_, ⟨⟨_, _, rfl, .inl ⟨rfl, rfl, rfl⟩⟩, fun a n c e => by cases e⟩, ⟨⟨_, _, rfl, .inl ⟨rfl, rfl, rfl⟩⟩, fun a n c e => by cases e⟩⟩, by simp, fun z hz => by simp (disch := first | omega | simp only [nx] <;> omega | fail) only [hpl], rfl⟩ ?_ ?_)) ?_
  · simp (disch := first | omega | simp only [nx] <;> omega | fail) only [hpl]; rfl
  · simp [HasA, Tr.get_put]
  · rintro m L g ⟨i, F, hm, inv, hL, lt, old, rfl⟩
    simp only [mkA]
    have w6 : IntKind.i64.wrap ((i : Int) + 1) = ((i + 1 : Nat) : Int) := by rw [wrap_i64 (by omega) (by omega)]; omega
    have fin : ¬ i < min ns.length 50 → PInv F U U := fun hi => inv.less fun r hr => by
      rw [hU] at hr
      rcases Nat.le_total ns.length 50 with h9 | h9
      · rw [List.take_of_length_le (by omega)] at hr ⊢; exact hr
      · have : i = 50 := by omega
        rw [this]; exact hr
    by_cases c1 : (i : Int) < (ns.length : Int)
    · by_cases c2 : (i : Int) < 50
      · obtain ⟨N, hN⟩ : ∃ N, ns[i]? = some N := ⟨ns[i]'(by omega), by simp⟩
        obtain ⟨r, hr⟩ : ∃ r, r = keyed (1 + N % 400) := ⟨_, rfl⟩
        have hA1 : ((ns.take (i + 1)).map fun n => keyed (1 + n % 400)) = ((ns.take i).map fun n => keyed (1 + n % 400)) ++ [r] := by rw [List.take_add_one, hN, hr]; simp
        obtain ⟨_, rr, off, rfl, hr1, hr2⟩ := RG.at_ (hv.mono (by omega) old) (i := i) (by omega)
        obtain ⟨b1, d1, b2, d2, b3, d3, b4, d4, H, q0, q1, wa, hL2, hn, hk⟩ := app_step hL (by omega) lt inv.l6 r
        have q2 : H.get h.next = some (LR F (.slice b1 F.base.length d1) (.slice b2 F.deltas.length d2)) := by rw [q1]; exact q0
        have ld : ∀ G : AHeap, G.get rr = g.get rr → ∀ t ti, T.get t = some ti → ti.agg = true → ti.size = 1 → aLoad T t (PA rr (off + i)) G = some (.agg #[U16 N]) := fun G hG t ti ht ha hs => by
          have := (hr2 G hG).1 t ti [U16 N] ht ha (by rw [hs, cellsOf_mk (by simp; omega), Nat.mul_one, one_at (x := U16 N) (by simp [hN])])
          simpa using this
        have hc1 : (0 ≤ (i : Int) ∧ (i : Int) < (ns.length : Int)) := by omega
        have kc := keyed_c g N (hns N (List.mem_of_getElem? hN))
        rw [← hr] at kc
        refine W.seq <| Wr <| Oa rfl sm rfl <| Oa rfl sm rfl <| Oa rfl (Zn (hv := by simp (disch := first | omega | simp only [nx] <;> omega | fail) only [aLenOf, ty22, hpl, hc1, sb, q0, q2, Value.cells, places, tb6] <;> rfl)) rfl <| Ot rfl (zb (hv := bi_lss)) rfl (by first | rfl | assumption | ((simp only [bl, hc1, sb, q0, q2, Value.cells, places, tb6]) <;> first | done | assumption | omega) | (simp; done) | (simp; omega)) <| Ot rfl sm rfl rfl <| Oa ag sm rfl <| Ot ag (zb (hv := bi_lss)) rfl (by first | rfl | assumption | ((simp only [bl, hc1, sb, q0, q2, Value.cells, places, tb6]) <;> first | done | assumption | omega) | (simp; done) | (simp; omega)) <| Ot rfl Zp rfl rfl <| On ?_
        refine Wy <| CWp.skip <| SQ.normal ?_
        refine W.seq <| W.block <| CWp.sqd tyOK mixed (ms := [0, 0, 0, 6, 14, 30, 63, 127, 255, 255, 511]) (by kernel_rfl) (
            .read rfl rfl (zl (hv := by simp (disch := first | omega | simp only [nx] <;> omega | fail) only [aLoad, ty28, rowOf, hpl, hc1, sb, q0, q2, Value.cells] <;> rfl)) (by first | rfl | (simp [veq, veq1, veqs]; done) | (simp [veq, veq1, veqs, splice]; done)) trivial rfl <| .free rfl rfl sm rfl <| .free rfl rfl sm rfl <| .free rfl rfl (zi (hv := by simp (disch := first | omega | simp only [nx] <;> omega | fail) only [aIndexAddr, ty22, ty36, hpl, hc1, sb, q0, q2, Value.cells, places, tb6] <;> rfl)) rfl <| .read rfl rfl (zl (hv := ld _ (by first | rfl | exact hk _ hr1 | (rw [Gs (by omega)]; exact hk _ hr1)) _ _ ty36 rfl rfl)) (by first | rfl | (simp [veq, veq1, veqs]; done) | (simp [veq, veq1, veqs, splice]; done)) trivial rfl <| .call rfl rfl (fcallO (by simp only [aopnds, lk] <;> rfl) en9 (kc)) rfl ⟨.inl rfl, .inr (zl (hv := by simp (disch := first | omega | simp only [nx] <;> omega | fail) only [aLoad, ty28, rowOf, hpl, hc1, sb, q0, q2, Value.cells] <;> rfl)), trivial⟩ rfl <| .call rfl rfl (fcallO (by simp only [aopnds, lk] <;> rfl) en10 (wa)) rfl ⟨.inl rfl, .inl rfl, trivial⟩ rfl <| .free rfl rfl sm rfl <| .free rfl rfl (ze (hv := by simp (disch := first | omega | simp only [nx] <;> omega | fail) only [aExtract, hpl, hc1, sb, q0, q2, Value.cells, places, tb6] <;> rfl)) rfl <| .free rfl rfl (ze (hv := by simp (disch := first | omega | simp only [nx] <;> omega | fail) only [aExtract, hpl, hc1, sb, q0, q2, Value.cells, places, tb6] <;> rfl)) rfl <| .change rfl rfl (zs (hv := by simp (disch := first | omega | simp only [nx] <;> omega | fail) only [aStore, ty28, writeRow, hpl, hc1, sb, q0, q2, Value.cells] <;> rfl)) rfl ⟨.inl rfl, .inl rfl, trivial⟩ rfl <| .nil) <| BQ.normal <| SQ.normal ?_
        refine W.reg <| Oa rfl sm rfl <| Oa rfl (zb (hv := bi_w bi_add (by first | (simp only [w6] <;> rfl) | rfl))) rfl <| Oa rfl za rfl <| OSuf.nil <| ?_
        -- leaf: round
        refine LQ.normal (m := m - 1) (L := [(0, .slice (some ⟨rr, off, none⟩) ns.length c), (1, U16 M), (2, .int .u8 K), (7, P0 h.next), (8, I64 ((i + 1 : Nat) : Int))]) (by omega) ?_ ⟨i + 1, _, by omega, ?_, hL2, by simp only [nx]; omega, fun z hz => ?_, rfl⟩
        · simp only [HasA, Tr.get_put, Nat.reduceEqDiff, reduceIte, w6, and_self]
        · rw [hA1]
          exact (inv.app (by rw [hr]; exact hmU i N (by omega) hN)).less fun x hx => by
            rcases List.mem_append.1 hx with hx | hx
            · exact List.mem_cons_of_mem _ hx
            · rw [List.mem_singleton.1 hx]; exact List.mem_cons_self
        · rw [Gs (by omega), hk _ (by omega)]; exact old z hz
      · refine W.seq <| Wr <| Oa rfl sm rfl <| Oa rfl sm rfl <| Oa rfl (Zn (hv := by simp (disch := first | omega | simp only [nx] <;> omega | fail) only [aLenOf, ty22, hpl] <;> rfl)) rfl <| Otb rfl (zb (hv := bi_lss)) rfl <| Ot rfl sm rfl rfl <| Oa ag sm rfl <| Ofb ag (zb (hv := bi_lss)) rfl <| Of rfl Zp rfl rfl <| On ?_
        refine Wn <| CWp.exit <| SQ.exit <| LQ.exit <| BQ.exit <| ?_
        -- leaf: cut
        refine NQ.normal (L := [(1, U16 M), (2, .int .u8 K), (7, P0 h.next)]) ?_ ⟨⟨F, fin (by omega), hL, lt⟩, rfl⟩
        simp only [HasA, Tr.get_put, Nat.reduceEqDiff, reduceIte, and_self]
    · refine W.seq <| Wr <| Oa rfl sm rfl <| Oa rfl sm rfl <| Oa rfl (Zn (hv := by simp (disch := first | omega | simp only [nx] <;> omega | fail) only [aLenOf, ty22, hpl] <;> rfl)) rfl <| Ofb rfl (zb (hv := bi_lss)) rfl <| Of rfl sm rfl rfl <| OSuf.pass ag rfl <| OSuf.pass ag rfl <| Of rfl Zp rfl rfl <| On ?_
      refine Wn <| CWp.exit <| SQ.exit <| LQ.exit <| BQ.exit <| ?_
      -- leaf: cut
      refine NQ.normal (L := [(1, U16 M), (2, .int .u8 K), (7, P0 h.next)]) ?_ ⟨⟨F, fin (by omega), hL, lt⟩, rfl⟩
      simp only [HasA, Tr.get_put, Nat.reduceEqDiff, reduceIte, and_self]
  rintro L a' g ha ⟨⟨F, inv, hL, lt⟩, rfl⟩
  obtain ⟨b1, d1, b2, d2, b3, d3, b4, d4, H, q0, wf, hL1, hn1, hk1⟩ := fold_step hL lt inv.l6 e1 (inv.fold_six _)
  have invP := (inv.fold (e1 : Int)).1
  obtain ⟨P, hP⟩ : ∃ P, P = foldM F e1 := ⟨_, rfl⟩
  rw [← hP] at invP wf hL1
  obtain ⟨G1, hG1⟩ : ∃ G1, G1 = H.set h.next (LR P (.slice b3 P.base.length d3) (.slice b4 P.deltas.length d4)) := ⟨_, rfl⟩
  have hLp := hL1 h.next (by omega)
  rw [← hG1] at hLp
  have nG1 : g.next ≤ G1.next := by rw [hG1]; exact hn1
  have p1 : G1.get h.next = some (LR P (.slice b3 P.base.length d3) (.slice b4 P.deltas.length d4)) := by rw [hG1]; exact AHeap.get_set_same _ _ _
  obtain ⟨pb, pc, pb', pc', p1', p2, p3⟩ := hLp.ex
  have e9 := p1'.symm.trans p1
  simp only [Option.some.injEq, AObj.cells.injEq, List.cons.injEq, Value.slice.injEq, and_true, true_and] at e9
  obtain ⟨⟨rfl, rfl⟩, rfl, rfl⟩ := e9
  obtain ⟨ks, hks⟩ : ∃ ks, ks = keysL P.all := ⟨_, rfl⟩
  have ek1 : keysM P = ks := by rw [keysM, if_pos invP.chk, hks]
  have hl6 := invP.keys_six
  rw [ek1] at hl6
  obtain ⟨K1, hK1⟩ : ∃ K1, K1 = kheap G1 ks := ⟨_, rfl⟩
  have n1 := (kheap_next G1 ks).1
  rw [← hK1] at n1
  have k1 : ∀ y, y < G1.next → K1.get y = G1.get y := fun y hy => by rw [hK1]; exact kheap_old G1 ks y hy
  have wk1 := keys_c G1 P _ _ p2.rs p3.rs invP.l6.1 invP.l6.2 (by rw [ek1]; exact hl6)
  rw [ek1] at wk1
  have rg1 := kval_rg G1 ks
  obtain ⟨kb, kc, e1'⟩ := rg1.form
  rw [e1', ← hK1] at wk1 rg1
  have p2' := p2.mono (Nat.le_refl _) n1 (fun z _ hz => k1 z hz)
  have p3' := p3.mono (Nat.le_refl _) n1 (fun z _ hz => k1 z hz)
  have a1 : K1.get h.next = some (LR P (.slice pb P.base.length pc) (.slice pb' P.deltas.length pc')) := by rw [k1 _ (by omega)]; exact p1
  have ws := split_c K1 P _ _ p2'.rs p3'.rs invP.l6.1 invP.l6.2 (by rw [ek1]; exact hl6)
  rw [ek1] at ws
  rw [hG1] at wk1
  have hq0 : H.get h.next = some (LR F (.slice b1 F.base.length d1) (.slice b2 F.deltas.length d2)) := by rw [hk1 _ (by omega)]; exact q0
  by_cases c2 : ks.length < 2
  · have ws' := ws.mono (K' := fun u g => u = .tuple #[LV0, LV0, .bool false]) fun u g hu => by
      rcases hu.2.2 with ⟨_, e⟩ | ⟨_, _, _, h9, _⟩
      · exact e
      · omega
    refine SQ.normal <| CWp.known ha ?_
    simp only [mkA]
    refine Wr <| Oa rfl (zl (hv := by simp (disch := first | omega | simp only [nx] <;> omega | fail) only [aLoad, ty28, rowOf, hpl, q0, hq0, a1, rcl, Value.cells] <;> rfl)) rfl <| Oa rfl sm rfl <| Oa rfl (zb (hv := bi_w (bi_rem (by decide)) (by first | (simp only [w1, w2] <;> rfl) | rfl))) rfl <| Oa rfl (so_conw (so_conv tyOK (by simp only [lk] <;> rfl) ty31 ⟨_, rfl⟩ ty25 rfl) (by first | (simp only [w1, w2] <;> rfl) | rfl)) rfl <| OSuf.callD rfl (by simp only [aopnds, lk] <;> rfl) en8 (wf) rfl <| Oa rfl (zs (hv := by simp (disch := first | omega | simp only [nx] <;> omega | fail) only [aStore, ty28, writeRow, hpl, q0, hq0, a1, rcl, Value.cells] <;> rfl)) rfl <| On ?_
    refine Wr <| Oa rfl (zl (hv := by simp (disch := first | omega | simp only [nx] <;> omega | fail) only [aLoad, ty28, rowOf, hpl, q0, hq0, a1, rcl, Value.cells] <;> rfl)) rfl <| OSuf.callD rfl (by simp only [aopnds, lk] <;> rfl) en11 (wk1) rfl <| Oa rfl za rfl <| On ?_
    refine Wr <| Oa rfl (zl (hv := by simp (disch := first | omega | simp only [nx] <;> omega | fail) only [aLoad, ty28, rowOf, hpl, q0, hq0, a1, rcl, Value.cells] <;> rfl)) rfl <| OSuf.call rfl (by simp only [aopnds, lk] <;> rfl) en21 (ws') ?_
    rintro _ g2 rfl
    refine ⟨_, rfl, ?_⟩
    refine Oa rfl sm rfl <| Oa rfl (ze (hv := by simp (disch := first | omega | simp only [nx] <;> omega | fail) only [aExtract, hpl, q0, hq0, a1, rcl, Value.cells, places, tb6] <;> rfl)) rfl <| Oa rfl (ze (hv := by simp (disch := first | omega | simp only [nx] <;> omega | fail) only [aExtract, hpl, q0, hq0, a1, rcl, Value.cells, places, tb6] <;> rfl)) rfl <| Of rfl (ze (hv := by simp (disch := first | omega | simp only [nx] <;> omega | fail) only [aExtract, hpl, q0, hq0, a1, rcl, Value.cells, places, tb6] <;> rfl)) rfl (rfl) <| Oa rfl (so_alloc (by simp only [aAlloc, ty28] <;> rfl)) rfl <| Oa rfl (so_alloc (by simp only [aAlloc, ty28] <;> rfl)) rfl <| Oa rfl (zs (hv := by simp (disch := first | omega | simp only [nx] <;> omega | fail) only [aStore, ty28, writeRow, hpl, q0, hq0, a1, rcl, Value.cells] <;> rfl)) rfl <| Oa rfl (zs (hv := by simp (disch := first | omega | simp only [nx] <;> omega | fail) only [aStore, ty28, writeRow, hpl, q0, hq0, a1, rcl, Value.cells] <;> rfl)) rfl <| Of rfl za rfl rfl <| On ?_
    refine W.seq <| Wr <| Of rfl sm rfl rfl <| Oa rfl sm rfl <| Oa rfl (Zn (hv := by simp (disch := first | omega | simp only [nx] <;> omega | fail) only [aLenOf, ty39, hpl, q0, hq0, a1, rcl, Value.cells, places, tb6] <;> rfl)) rfl <| Oa rfl (zb (hv := bi_geq)) rfl <| Of rfl (zb (hv := bb_neq tyOK ty4 rfl)) rfl (by simp; omega) <| On ?_
    refine Wn <| CWp.skip <| SQ.normal ?_
    refine W.seq <| Wr <| Of rfl sm rfl rfl <| Ot rfl Zt rfl rfl <| On ?_
    refine Wy <| Wr <| Ot rfl za rfl rfl <| On ?_
    refine CWp.ret <| SQ.ret <| FQ.ret (by simp only [aRet, Try.f6, aResults, aResult, lk, Nat.reduceEqDiff, reduceIte] <;> rfl) ?_
    -- leaf: end
    rfl
  have ws' := ws.mono (K' := fun u g => K1.next ≤ g.next ∧ (∀ z, z < K1.next → g.get z = K1.get z) ∧ ∃ s b1 c1 b1' c1' b2 c2 b2' c2', ks[(ks.length + 1) / 2]? = some s ∧ u = .tuple #[LV (partM P [] s) (.slice b1 (partM P [] s).base.length c1) (.slice b1' (partM P [] s).deltas.length c1'), LV (partM P s []) (.slice b2 (partM P s []).base.length c2) (.slice b2' (partM P s []).deltas.length c2'), .bool true] ∧ RSl g K1.next (partM P [] s).base (.slice b1 (partM P [] s).base.length c1) ∧ RSl g K1.next (partM P [] s).deltas (.slice b1' (partM P [] s).deltas.length c1') ∧ RSl g K1.next (partM P s []).base (.slice b2 (partM P s []).base.length c2) ∧ RSl g K1.next (partM P s []).deltas (.slice b2' (partM P s []).deltas.length c2')) fun u g hu => by
    refine ⟨hu.1, hu.2.1, ?_⟩
    rcases hu.2.2 with ⟨h9, _⟩ | ⟨s, va, vb, _, hs, e, la, lb⟩
    · omega
    · rw [invP.low] at la
      rw [invP.high] at lb
      obtain ⟨x1, y1, x2, y2, rfl, l1, l2⟩ := la.ex
      obtain ⟨x3, y3, x4, y4, rfl, l3, l4⟩ := lb.ex
      exact ⟨s, _, _, _, _, _, _, _, _, hs, e, l1, l2, l3, l4⟩
  refine SQ.normal <| CWp.known ha ?_
  simp only [mkA]
  refine Wr <| Oa rfl (zl (hv := by simp (disch := first | omega | simp only [nx] <;> omega | fail) only [aLoad, ty28, rowOf, hpl, q0, hq0, a1, rcl, Value.cells] <;> rfl)) rfl <| Oa rfl sm rfl <| Oa rfl (zb (hv := bi_w (bi_rem (by decide)) (by first | (simp only [w1, w2] <;> rfl) | rfl))) rfl <| Oa rfl (so_conw (so_conv tyOK (by simp only [lk] <;> rfl) ty31 ⟨_, rfl⟩ ty25 rfl) (by first | (simp only [w1, w2] <;> rfl) | rfl)) rfl <| OSuf.callD rfl (by simp only [aopnds, lk] <;> rfl) en8 (wf) rfl <| Oa rfl (zs (hv := by simp (disch := first | omega | simp only [nx] <;> omega | fail) only [aStore, ty28, writeRow, hpl, q0, hq0, a1, rcl, Value.cells] <;> rfl)) rfl <| On ?_
  refine Wr <| Oa rfl (zl (hv := by simp (disch := first | omega | simp only [nx] <;> omega | fail) only [aLoad, ty28, rowOf, hpl, q0, hq0, a1, rcl, Value.cells] <;> rfl)) rfl <| OSuf.callD rfl (by simp only [aopnds, lk] <;> rfl) en11 (wk1) rfl <| Oa rfl za rfl <| On ?_
  refine Wr <| Oa rfl (zl (hv := by simp (disch := first | omega | simp only [nx] <;> omega | fail) only [aLoad, ty28, rowOf, hpl, q0, hq0, a1, rcl, Value.cells] <;> rfl)) rfl <| OSuf.call rfl (by simp only [aopnds, lk] <;> rfl) en21 (ws') ?_
  rintro _ g2 ⟨n2, k2, s, b1, c1, b1', c1', b2, c2, b2', c2', hs, rfl, l1, l2, l3, l4⟩
  refine ⟨_, rfl, ?_⟩
  refine Oa rfl sm rfl <| Oa rfl (ze (hv := by simp (disch := first | omega | simp only [nx] <;> omega | fail) only [aExtract, hpl, q0, hq0, a1, rcl, Value.cells, places, tb6] <;> rfl)) rfl <| Oa rfl (ze (hv := by simp (disch := first | omega | simp only [nx] <;> omega | fail) only [aExtract, hpl, q0, hq0, a1, rcl, Value.cells, places, tb6] <;> rfl)) rfl <| Ot rfl (ze (hv := by simp (disch := first | omega | simp only [nx] <;> omega | fail) only [aExtract, hpl, q0, hq0, a1, rcl, Value.cells, places, tb6] <;> rfl)) rfl (rfl) <| Oa rfl (so_alloc (by simp only [aAlloc, ty28] <;> rfl)) rfl <| Oa rfl (so_alloc (by simp only [aAlloc, ty28] <;> rfl)) rfl <| Oa rfl (zs (hv := by simp (disch := first | omega | simp only [nx] <;> omega | fail) only [aStore, ty28, writeRow, hpl, q0, hq0, a1, rcl, Value.cells] <;> rfl)) rfl <| Oa rfl (zs (hv := by simp (disch := first | omega | simp only [nx] <;> omega | fail) only [aStore, ty28, writeRow, hpl, q0, hq0, a1, rcl, Value.cells] <;> rfl)) rfl <| Ot rfl za rfl rfl <| On ?_
  refine W.seq <| ?_
  -- leaf: upto
  have hin : s ∈ keysL P.all := by rw [← hks]; exact List.mem_of_getElem? hs
  obtain ⟨m, hm'⟩ : ∃ m, m = (ks.length + 1) / 2 := ⟨_, rfl⟩
  rw [← hm'] at hs
  obtain ⟨cA, cB⟩ := invP.cut_chk hin
  obtain ⟨kA, kB⟩ := invP.cut_keys (by rw [← hks]; exact hs)
  obtain ⟨jok, jds⟩ := invP.cut_join hin
  have hgt := fun k => invP.cut_get hin k
  have fA : (partM P [] s).base.length ≤ 50 ∧ (partM P [] s).deltas.length ≤ 50 := ⟨Nat.le_trans (List.length_filter_le _ _) invP.lb, Nat.le_trans (List.length_filter_le _ _) invP.ld⟩
  have fB : (partM P s []).base.length ≤ 50 ∧ (partM P s []).deltas.length ≤ 50 := ⟨Nat.le_trans (List.length_filter_le _ _) invP.lb, Nat.le_trans (List.length_filter_le _ _) invP.ld⟩
  have hAh : (partM P [] s).high = s := rfl
  have hBl : (partM P s []).low = s := rfl
  obtain ⟨A, hA⟩ : ∃ A, A = partM P [] s := ⟨_, rfl⟩
  obtain ⟨B, hB⟩ : ∃ B, B = partM P s [] := ⟨_, rfl⟩
  rw [← hA] at cA kA jok jds l1 l2 fA hAh
  rw [← hB] at cB kB jok jds l3 l4 fB hBl
  simp only [← hA, ← hB] at hgt
  rw [← hks] at kA kB
  rw [← hA, ← hB]
  obtain ⟨G3, hG3⟩ : ∃ G3, G3 = (((g2.new (.cells zlf 1)).new (.cells zlf 1)).set g2.next (LR A (.slice b1 A.base.length c1) (.slice b1' A.deltas.length c1'))).set (g2.next + 1) (LR B (.slice b2 B.base.length c2) (.slice b2' B.deltas.length c2')) := ⟨_, rfl⟩
  show CWp _ _ _ _ ((((g2.new (.cells zlf 1)).new (.cells zlf 1)).set g2.next (LR A (.slice b1 A.base.length c1) (.slice b1' A.deltas.length c1'))).set (g2.next + 1) (LR B (.slice b2 B.base.length c2) (.slice b2' B.deltas.length c2'))) _
  rw [← hG3]
  refine CWp.known (L := [(2, .int .u8 K), (7, P0 h.next), (9, .slice kb ks.length kc), (10, P0 g2.next), (11, P0 (g2.next + 1)), (12, .bool true)]) ⟨(by simp only [lk] <;> rfl), (by simp only [lk] <;> rfl), (by simp only [lk] <;> rfl), (by simp only [lk] <;> rfl), (by simp only [lk] <;> rfl), (by simp only [lk] <;> rfl), trivial⟩ ?_
  simp only [mkA]
  have n3 : G3.next = g2.next + 2 := by rw [hG3]; rfl
  have k3 : ∀ z, z < g2.next → G3.get z = g2.get z := fun z hz => by rw [hG3]; simp (disch := first | omega | simp only [nx] <;> omega | fail) only [hpl]
  have p3A : G3.get g2.next = some (LR A (.slice b1 A.base.length c1) (.slice b1' A.deltas.length c1')) := by rw [hG3]; simp (disch := first | omega | simp only [nx] <;> omega | fail) only [hpl]
  have p3B : G3.get (g2.next + 1) = some (LR B (.slice b2 B.base.length c2) (.slice b2' B.deltas.length c2')) := by rw [hG3]; simp (disch := first | omega | simp only [nx] <;> omega | fail) only [hpl]
  have p3P : G3.get h.next = some (LR P (.slice pb P.base.length pc) (.slice pb' P.deltas.length pc')) := by rw [k3 _ (by omega), k2 _ (by omega)]; exact a1
  have l1 := l1.mono (h' := G3) (Nat.le_refl _) (by omega) (fun z _ hz => k3 z hz)
  have l2 := l2.mono (h' := G3) (Nat.le_refl _) (by omega) (fun z _ hz => k3 z hz)
  have l3 := l3.mono (h' := G3) (Nat.le_refl _) (by omega) (fun z _ hz => k3 z hz)
  have l4 := l4.mono (h' := G3) (Nat.le_refl _) (by omega) (fun z _ hz => k3 z hz)
  have p2 := p2'.mono (h' := G3) (Nat.le_refl _) (by omega) (fun z _ hz => by rw [k3 z (by omega), k2 z hz])
  have p3 := p3'.mono (h' := G3) (Nat.le_refl _) (by omega) (fun z _ hz => by rw [k3 z (by omega), k2 z hz])
  have wj := (join_c G3 A B _ _ _ _ l1.rs l2.rs l3.rs l4.rs (by omega) (by omega) (by omega) (by omega) (by rw [List.length_append]; omega) (by rw [List.length_append]; omega) jok (fun ds d1 d2 => by rw [jds ds d1 d2]; exact invP.chk)).mono (K' := fun u g => G3.next ≤ g.next ∧ (∀ z, z < G3.next → g.get z = G3.get z) ∧ ∃ b c b' c', u = .tuple #[LV P (.slice b P.base.length c) (.slice b' P.deltas.length c'), I64 0] ∧ RSl g G3.next P.base (.slice b P.base.length c) ∧ RSl g G3.next P.deltas (.slice b' P.deltas.length c')) fun u g hu => by
    obtain ⟨u1, u2, ds, v, d1, d2, rfl, lv⟩ := hu
    rw [jds ds d1 d2] at lv
    obtain ⟨x1, y1, x2, y2, rfl, z1, z2⟩ := lv.ex
    exact ⟨u1, u2, _, _, _, _, rfl, z1, z2⟩
  refine Wr <| Oa rfl sm rfl <| Oa rfl sm rfl <| Oa rfl (Zn (hv := by simp (disch := first | omega | simp only [nx] <;> omega | fail) only [aLenOf, ty39, hpl, p3A, p3B, p3P, rcl, Value.cells, places, tb6] <;> rfl)) rfl <| Oa rfl (zb (hv := bi_geq)) rfl <| Of rfl (zb (hv := bb_neq tyOK ty4 rfl)) rfl (by simp; omega) <| On ?_
  refine Wn <| CWp.skip <| SQ.normal ?_
  refine W.seq <| Wr <| Ot rfl sm rfl (rfl) <| Of rfl Zt rfl rfl <| On ?_
  refine Wn <| CWp.skip <| SQ.normal ?_
  refine Wr <| Oa rfl (zl (hv := by simp (disch := first | omega | simp only [nx] <;> omega | fail) only [aLoad, ty28, rowOf, hpl, p3A, p3B, p3P, rcl, Value.cells] <;> rfl)) rfl <| Oa rfl (zl (hv := by simp (disch := first | omega | simp only [nx] <;> omega | fail) only [aLoad, ty28, rowOf, hpl, p3A, p3B, p3P, rcl, Value.cells] <;> rfl)) rfl <| OSuf.call rfl (by simp only [aopnds, lk] <;> rfl) en22 (wj) ?_
  rintro _ g4 ⟨n4, k4, b5, c5, b6, c6, rfl, l5, l6⟩
  refine ⟨_, rfl, ?_⟩
  refine Oa rfl sm rfl <| Oa rfl (ze (hv := by simp (disch := first | omega | simp only [nx] <;> omega | fail) only [aExtract, hpl, p3A, p3B, p3P, rcl, Value.cells, places, tb6] <;> rfl)) rfl <| Oa rfl (ze (hv := by simp (disch := first | omega | simp only [nx] <;> omega | fail) only [aExtract, hpl, p3A, p3B, p3P, rcl, Value.cells, places, tb6] <;> rfl)) rfl <| Oa rfl (so_alloc (by simp only [aAlloc, ty28] <;> rfl)) rfl <| Oa rfl (zs (hv := by simp (disch := first | omega | simp only [nx] <;> omega | fail) only [aStore, ty28, writeRow, hpl, p3A, p3B, p3P, rcl, Value.cells] <;> rfl)) rfl <| Oa rfl za rfl <| On ?_
  -- leaf: upto
  obtain ⟨G5, hG5⟩ : ∃ G5, G5 = g4.new (LR P (.slice b5 P.base.length c5) (.slice b6 P.deltas.length c6)) := ⟨_, rfl⟩
  show CWp _ _ _ _ (g4.new (LR P (.slice b5 P.base.length c5) (.slice b6 P.deltas.length c6))) _
  rw [← hG5]
  refine CWp.known (L := [(2, .int .u8 K), (7, P0 h.next), (9, .slice kb ks.length kc), (10, P0 g2.next), (11, P0 (g2.next + 1)), (13, P0 g4.next), (14, I64 0)]) ⟨(by simp only [lk] <;> rfl), (by simp only [lk] <;> rfl), (by simp only [lk] <;> rfl), (by simp only [lk] <;> rfl), (by simp only [lk] <;> rfl), (by simp only [lk] <;> rfl), (by simp only [lk] <;> rfl), trivial⟩ ?_
  simp only [mkA]
  have n5 : G5.next = g4.next + 1 := by rw [hG5]; rfl
  have k5 : ∀ z, z < g4.next → G5.get z = g4.get z := fun z hz => by rw [hG5]; simp (disch := first | omega | simp only [nx] <;> omega | fail) only [hpl]
  have p5C : G5.get g4.next = some (LR P (.slice b5 P.base.length c5) (.slice b6 P.deltas.length c6)) := by rw [hG5]; exact AHeap.get_new_same _ _
  have k35 : ∀ z, z < G3.next → G5.get z = G3.get z := fun z hz => by rw [k5 z (by omega), k4 z hz]
  obtain ⟨K6, hK6⟩ : ∃ K6, K6 = kheap G5 (ks.take m) := ⟨_, rfl⟩
  have n6 := (kheap_next G5 (ks.take m)).1
  rw [← hK6] at n6
  have k6 : ∀ y, y < G5.next → K6.get y = G5.get y := fun y hy => by rw [hK6]; exact kheap_old G5 _ y hy
  obtain ⟨K7, hK7⟩ : ∃ K7, K7 = kheap K6 (ks.drop m) := ⟨_, rfl⟩
  have n7 := (kheap_next K6 (ks.drop m)).1
  rw [← hK7] at n7
  have k7 : ∀ y, y < K6.next → K7.get y = K6.get y := fun y hy => by rw [hK7]; exact kheap_old K6 _ y hy
  have k37 : ∀ z, z < G3.next → K7.get z = G3.get z := fun z hz => by rw [k7 z (by omega), k6 z (by omega), k35 z hz]
  have k57 : ∀ z, z < G5.next → K7.get z = G5.get z := fun z hz => by rw [k7 z (by omega), k6 z (by omega)]
  have hmk : m < ks.length := (List.getElem?_eq_some_iff.1 hs).1
  have htl : (ks.take m).length = m := by rw [List.length_take]; omega
  have hdl : (ks.drop m).length = ks.length - m := List.length_drop
  have wkA := keys_c G5 A _ _ (l1.mono (Nat.le_refl _) (by omega) (fun z _ hz => k35 z hz)).rs (l2.mono (Nat.le_refl _) (by omega) (fun z _ hz => k35 z hz)).rs (by omega) (by omega) (by rw [kA]; omega)
  have wkB := keys_c K6 B _ _ (l3.mono (Nat.le_refl _) (by omega) (fun z _ hz => by rw [k6 z (by omega), k35 z hz])).rs (l4.mono (Nat.le_refl _) (by omega) (fun z _ hz => by rw [k6 z (by omega), k35 z hz])).rs (by omega) (by omega) (by rw [kB]; omega)
  rw [kA] at wkA
  rw [kB] at wkB
  have rgA := kval_rg G5 (ks.take m)
  have rgB := kval_rg K6 (ks.drop m)
  obtain ⟨xa, ya, eA⟩ := rgA.form
  obtain ⟨xb, yb, eB⟩ := rgB.form
  rw [eA, ← hK6] at wkA
  rw [eB, ← hK7] at wkB rgB
  have L1 := l1.mono (h' := K7) (Nat.le_refl _) (by omega) (fun z _ hz => k37 z hz)
  have L2' := l2.mono (h' := K7) (Nat.le_refl _) (by omega) (fun z _ hz => k37 z hz)
  have L3 := l3.mono (h' := K7) (Nat.le_refl _) (by omega) (fun z _ hz => k37 z hz)
  have L4 := l4.mono (h' := K7) (Nat.le_refl _) (by omega) (fun z _ hz => k37 z hz)
  have P2 := p2.mono (h' := K7) (Nat.le_refl _) (by omega) (fun z _ hz => k37 z hz)
  have P3 := p3.mono (h' := K7) (Nat.le_refl _) (by omega) (fun z _ hz => k37 z hz)
  have C2 := l5.mono (h' := K7) (Nat.le_refl _) (by omega) (fun z _ hz => by rw [k57 z (by omega), k5 z hz])
  have C3 := l6.mono (h' := K7) (Nat.le_refl _) (by omega) (fun z _ hz => by rw [k57 z (by omega), k5 z hz])
  have wS := same_c K7 P _ _ _ _ C2.rs C3.rs P2.rs P3.rs invP.l6.1 invP.l6.2
  have wA := check_c K7 A _ _ L1.rs L2'.rs (by omega) (by omega)
  have wB := check_c K7 B _ _ L3.rs L4.rs (by omega) (by omega)
  rw [if_pos cA] at wA
  rw [if_pos cB] at wB
  have q5A : G5.get g2.next = some (LR A (.slice b1 A.base.length c1) (.slice b1' A.deltas.length c1')) := by rw [k35 _ (by omega)]; exact p3A
  have q5B : G5.get (g2.next + 1) = some (LR B (.slice b2 B.base.length c2) (.slice b2' B.deltas.length c2')) := by rw [k35 _ (by omega)]; exact p3B
  have q6A : K6.get g2.next = some (LR A (.slice b1 A.base.length c1) (.slice b1' A.deltas.length c1')) := by rw [k6 _ (by omega)]; exact q5A
  have q6B : K6.get (g2.next + 1) = some (LR B (.slice b2 B.base.length c2) (.slice b2' B.deltas.length c2')) := by rw [k6 _ (by omega)]; exact q5B
  have q7A : K7.get g2.next = some (LR A (.slice b1 A.base.length c1) (.slice b1' A.deltas.length c1')) := by rw [k7 _ (by omega)]; exact q6A
  have q7B : K7.get (g2.next + 1) = some (LR B (.slice b2 B.base.length c2) (.slice b2' B.deltas.length c2')) := by rw [k7 _ (by omega)]; exact q6B
  have q7P : K7.get h.next = some (LR P (.slice pb P.base.length pc) (.slice pb' P.deltas.length pc')) := by rw [k37 _ (by omega)]; exact p3P
  have q7C : K7.get g4.next = some (LR P (.slice b5 P.base.length c5) (.slice b6 P.deltas.length c6)) := by rw [k57 _ (by omega)]; exact p5C
  have w7 : IntKind.i64.wrap (((ks.take m).length : Int) + ((ks.drop m).length : Int)) = (ks.length : Int) := by rw [htl, hdl, wrap_i64 (by omega) (by omega)]; omega
  have w8 : IntKind.i64.wrap ((ks.length : Int) + 1) = ((ks.length + 1 : Nat) : Int) := by rw [wrap_i64 (by omega) (by omega)]; omega
  have w9 : IntKind.i64.wrap (((ks.length + 1 : Nat) : Int).tdiv 2) = (m : Int) := by
    rw [Int.tdiv_eq_ediv_of_nonneg (by omega), wrap_i64 (by omega) (by omega)]; omega
  obtain ⟨_, rr, off, rfl, hr1, hr2⟩ := RG.at_ rgB (i := 0) (by omega)
  have ld : ∀ t ti, T.get t = some ti → ti.agg = false → aLoad T t (PA rr off) K7 = some (encS s) := fun t ti ht ha => by
    have := (hr2 K7 rfl).2 0 t ti (encS s) ht ha (by simp [hs])
    simpa using this
  have hc0 : (0 ≤ (0 : Int) ∧ (0 : Int) < ((ks.drop m).length : Int)) := by omega
  refine W.seq <| CWp.sqd tyOK mixed (ms := [0, 1, 0, 7, 15, 31]) (by kernel_rfl) (
      .read rfl rfl (zl (hv := by simp (disch := first | omega | simp only [nx] <;> omega | fail) only [aLoad, ty28, rowOf, hpl, p5C, q5A, q5B, q6A, q6B, q7A, q7B, q7P, q7C, hc0, sb, rcl, Value.cells] <;> rfl)) (by first | rfl | (simp [veq, veq1, veqs]; done) | (simp [veq, veq1, veqs, splice]; done)) trivial rfl <| .call rfl rfl (fcallO (by simp only [aopnds, lk] <;> rfl) en11 (wkA)) rfl ⟨.inl rfl, trivial⟩ rfl <| .read rfl rfl (zl (hv := by simp (disch := first | omega | simp only [nx] <;> omega | fail) only [aLoad, ty28, rowOf, hpl, p5C, q5A, q5B, q6A, q6B, q7A, q7B, q7P, q7C, hc0, sb, rcl, Value.cells] <;> rfl)) (by first | rfl | (simp [veq, veq1, veqs]; done) | (simp [veq, veq1, veqs, splice]; done)) ⟨.inr (zl (hv := by simp (disch := first | omega | simp only [nx] <;> omega | fail) only [aLoad, ty28, rowOf, hpl, p5C, q5A, q5B, q6A, q6B, q7A, q7B, q7P, q7C, hc0, sb, rcl, Value.cells] <;> rfl)), trivial⟩ rfl <| .call rfl rfl (fcallO (by simp only [aopnds, lk] <;> rfl) en11 (wkB)) rfl ⟨.inl rfl, .inl rfl, trivial⟩ rfl <| .free rfl rfl za rfl <| .free rfl rfl za rfl <| .nil) <| SQ.normal ?_
  refine W.seq <| W.seq <| W.regD tyOK mixed (by kernel_rfl) <| Sa rfl sm rfl <| SqW.aopF rfl (zb (hv := bi_neq)) (fun _ => rfl) (rfl) <| SqW.aopF rfl sm (fun _ => rfl) rfl <| Sa ag (zl (hv := by simp (disch := first | omega | simp only [nx] <;> omega | fail) only [aLoad, ty28, rowOf, hpl, p5C, q5A, q5B, q6A, q6B, q7A, q7B, q7P, q7C, hc0, sb, rcl, Value.cells] <;> rfl)) rfl <| Sa ag (zl (hv := by simp (disch := first | omega | simp only [nx] <;> omega | fail) only [aLoad, ty28, rowOf, hpl, p5C, q5A, q5B, q6A, q6B, q7A, q7B, q7P, q7C, hc0, sb, rcl, Value.cells] <;> rfl)) rfl <| SqW.callD ag (by simp only [aopnds, lk] <;> rfl) en20 (wS) rfl <| SqW.aopF ag Zt (fun _ => rfl) rfl <| SqW.aopF rfl Zp (fun _ => rfl) rfl <| SqW.aopF rfl sm (fun _ => rfl) rfl <| Sa ag sm rfl <| Sa ag (Zn (hv := by simp (disch := first | omega | simp only [nx] <;> omega | fail) only [aLenOf, ty39, hpl, p5C, q5A, q5B, q6A, q6B, q7A, q7B, q7P, q7C, hc0, sb, rcl, Value.cells, places, tb6] <;> rfl)) rfl <| Sa ag sm rfl <| Sa ag (Zn (hv := by simp (disch := first | omega | simp only [nx] <;> omega | fail) only [aLenOf, ty39, hpl, p5C, q5A, q5B, q6A, q6B, q7A, q7B, q7P, q7C, hc0, sb, rcl, Value.cells, places, tb6] <;> rfl)) rfl <| Sa ag (zb (hv := bi_w bi_add (by first | (simp only [w7, w8, w9] <;> rfl) | rfl))) rfl <| Sa ag sm rfl <| Sa ag (Zn (hv := by simp (disch := first | omega | simp only [nx] <;> omega | fail) only [aLenOf, ty39, hpl, p5C, q5A, q5B, q6A, q6B, q7A, q7B, q7P, q7C, hc0, sb, rcl, Value.cells, places, tb6] <;> rfl)) rfl <| SqW.aopF ag (zb (hv := bi_neq)) (fun _ => rfl) (by simp) <| SqW.aopF rfl Zp (fun _ => rfl) rfl <| SqW.aopF rfl sm (fun _ => rfl) rfl <| Sa ag sm rfl <| Sa ag (Zn (hv := by simp (disch := first | omega | simp only [nx] <;> omega | fail) only [aLenOf, ty39, hpl, p5C, q5A, q5B, q6A, q6B, q7A, q7B, q7P, q7C, hc0, sb, rcl, Value.cells, places, tb6] <;> rfl)) rfl <| Sa ag sm rfl <| Sa ag (Zn (hv := by simp (disch := first | omega | simp only [nx] <;> omega | fail) only [aLenOf, ty39, hpl, p5C, q5A, q5B, q6A, q6B, q7A, q7B, q7P, q7C, hc0, sb, rcl, Value.cells, places, tb6] <;> rfl)) rfl <| Sa ag (zb (hv := bi_w bi_add (by first | (simp only [w7, w8, w9] <;> rfl) | rfl))) rfl <| Sa ag (zb (hv := bi_w (bi_quo (by decide)) (by first | (simp only [w7, w8, w9] <;> rfl) | rfl))) rfl <| SqW.aopF ag (zb (hv := bi_neq)) (fun _ => rfl) (by simp [htl]) <| SqW.aopF rfl Zp (fun _ => rfl) rfl <| SqW.aopF rfl sm (fun _ => rfl) rfl <| Sa ag (zl (hv := by simp (disch := first | omega | simp only [nx] <;> omega | fail) only [aLoad, ty28, rowOf, hpl, p5C, q5A, q5B, q6A, q6B, q7A, q7B, q7P, q7C, hc0, sb, rcl, Value.cells] <;> rfl)) rfl <| SqW.callD ag (by simp only [aopnds, lk] <;> rfl) en12 (wA) rfl <| SqW.aopF ag (zb (hv := bi_neq)) (fun _ => rfl) (rfl) <| SqW.aopF rfl Zp (fun _ => rfl) rfl <| SqW.aopF rfl sm (fun _ => rfl) rfl <| Sa ag (zl (hv := by simp (disch := first | omega | simp only [nx] <;> omega | fail) only [aLoad, ty28, rowOf, hpl, p5C, q5A, q5B, q6A, q6B, q7A, q7B, q7P, q7C, hc0, sb, rcl, Value.cells] <;> rfl)) rfl <| SqW.callD ag (by simp only [aopnds, lk] <;> rfl) en12 (wB) rfl <| SqW.aopF ag (zb (hv := bi_neq)) (fun _ => rfl) (rfl) <| SqW.aopF rfl Zp (fun _ => rfl) rfl <| SqW.aopF rfl sm (fun _ => rfl) rfl <| Sa ag (zf (hv := fa_ok (k := 1) ty28 rfl rfl ty9 rfl rfl)) rfl <| Sa ag (zl (hv := by simp (disch := first | omega | simp only [nx] <;> omega | fail) only [aLoad, ty9, rowOf, hpl, p5C, q5A, q5B, q6A, q6B, q7A, q7B, q7P, q7C, hc0, sb, rcl, Value.cells] <;> rfl)) rfl <| Sa ag (zf (hv := fa_ok (k := 0) ty28 rfl rfl ty9 rfl rfl)) rfl <| Sa ag (zl (hv := by simp (disch := first | omega | simp only [nx] <;> omega | fail) only [aLoad, ty9, rowOf, hpl, p5C, q5A, q5B, q6A, q6B, q7A, q7B, q7P, q7C, hc0, sb, rcl, Value.cells] <;> rfl)) rfl <| SqW.aopF ag (zb (hv := bs_neq)) (fun _ => rfl) (by simp [sst, hAh, hBl]) <| SqW.aopF rfl Zp (fun _ => rfl) rfl <| SqW.aopF rfl sm (fun _ => rfl) rfl <| Sa ag (zf (hv := fa_ok (k := 0) ty28 rfl rfl ty9 rfl rfl)) rfl <| Sa ag (zl (hv := by simp (disch := first | omega | simp only [nx] <;> omega | fail) only [aLoad, ty9, rowOf, hpl, p5C, q5A, q5B, q6A, q6B, q7A, q7B, q7P, q7C, hc0, sb, rcl, Value.cells] <;> rfl)) rfl <| Sa ag sm rfl <| Sa ag (zi (hv := by simp (disch := first | omega | simp only [nx] <;> omega | fail) only [aIndexAddr, ty39, ty9, hpl, p5C, q5A, q5B, q6A, q6B, q7A, q7B, q7P, q7C, hc0, sb, rcl, Value.cells, places, tb6] <;> rfl)) rfl <| Sa ag (zl (hv := ld _ _ ty9 rfl)) rfl <| SqW.aopF ag (zb (hv := bs_neq)) (fun _ => rfl) (by simp [sst, hAh, hBl]) <| SqW.aopF rfl Zp (fun _ => rfl) rfl <| Sn ?_
  refine Wn <| CWp.skip <| SQ.normal ?_
  -- leaf: upto
  refine CWp.known (L := [(2, .int .u8 K), (7, P0 h.next), (10, P0 g2.next), (11, P0 (g2.next + 1))]) ⟨(by simp only [lk] <;> rfl), (by simp only [lk] <;> rfl), (by simp only [lk] <;> rfl), (by simp only [lk] <;> rfl), trivial⟩ ?_
  simp only [mkA]
  have w10 : Int.tmod (K : Int) 8 = ((K % 8 : Nat) : Int) := by rw [Int.tmod_eq_emod_of_nonneg (by omega)]; omega
  have w11 : IntKind.u8.wrap (97 + ((K % 8 : Nat) : Int)) = ((97 + K % 8 : Nat) : Int) := by rw [wrap_u8 (by omega) (by omega)]; omega
  obtain ⟨k, hk⟩ : ∃ k, k = [UInt8.ofNat (((97 + K % 8 : Nat) : Int)).toNat] := ⟨_, rfl⟩
  obtain ⟨G8, hG8⟩ : ∃ G8, G8 = K7.new (.cells [.int .u8 ((97 + K % 8 : Nat) : Int)] 1) := ⟨_, rfl⟩
  have n8 : G8.next = K7.next + 1 := by rw [hG8]; rfl
  have k8 : ∀ z, z < K7.next → G8.get z = K7.get z := fun z hz => by rw [hG8]; simp (disch := first | omega | simp only [nx] <;> omega | fail) only [hpl]
  have wgP := get_c G8 P _ _ (P2.mono (Nat.le_refl _) (by omega) (fun z _ hz => k8 z hz)).rs (P3.mono (Nat.le_refl _) (by omega) (fun z _ hz => k8 z hz)).rs invP.l6.1 invP.l6.2 k
  have kA : ∀ (r : Rec) (z : Nat), z < K7.next → ((G8.new (.cells zcs 1)).set (K7.next + 1) (.cells r.cs 1)).get z = K7.get z := fun r z hz => by rw [Gs (by omega), Gn (by omega)]; exact k8 z hz
  have kB : ∀ (r r' : Rec) (z : Nat), z < K7.next → ((((G8.new (.cells zcs 1)).set (K7.next + 1) (.cells r.cs 1)).new (.cells zcs 1)).set (K7.next + 1 + 1) (.cells r'.cs 1)).get z = K7.get z := fun r r' z hz => by rw [Gs (by omega), Gn (by simp only [nx]; omega)]; exact kA r z hz
  have nA : ∀ r : Rec, K7.next ≤ ((G8.new (.cells zcs 1)).set (K7.next + 1) (.cells r.cs 1)).next := fun r => by simp only [nx]; omega
  have nB : ∀ r r' : Rec, K7.next ≤ ((((G8.new (.cells zcs 1)).set (K7.next + 1) (.cells r.cs 1)).new (.cells zcs 1)).set (K7.next + 1 + 1) (.cells r'.cs 1)).next := fun r r' => by simp only [nx]; omega
  have wgA := fun r : Rec => get_c _ A _ _ (L1.mono (Nat.le_refl _) (nA r) (fun z _ hz => kA r z hz)).rs (L2'.mono (Nat.le_refl _) (nA r) (fun z _ hz => kA r z hz)).rs (by omega) (by omega) k
  have wgB := fun r r' : Rec => get_c _ B _ _ (L3.mono (Nat.le_refl _) (nB r r') (fun z _ hz => kB r r' z hz)).rs (L4.mono (Nat.le_refl _) (nB r r') (fun z _ hz => kB r r' z hz)).rs (by omega) (by omega) k
  obtain ⟨r, f, hr⟩ : ∃ r f, getM P k = (r, f) := ⟨_, _, rfl⟩
  rw [hr] at wgP
  dsimp only at wgP
  rw [hG8] at wgP wgA wgB
  rw [hk] at wgP wgA wgB
  rcases hgt k with ⟨z1, z2⟩ | ⟨z1, z2⟩
  · rw [hr] at z1
    rw [hk] at z1 z2
    rw [z1] at wgA
    rw [z2] at wgB
    dsimp only at wgA wgB
    cases f with
    | true =>
      refine Wr <| Oa rfl sm rfl <| Oa rfl (zb (hv := bi_w (bi_rem (by decide)) (by first | (simp only [w10, w11] <;> rfl) | rfl))) rfl <| Oa rfl (zb (hv := bi_w bi_add (by first | (simp only [w10, w11] <;> rfl) | rfl))) rfl <| Oa rfl (so_buildSlice (by simp only [aparts, lk] <;> rfl) (by simp only [aBuildSlice, ty58, ty5, q7A, q7B, q7P, rcl, Value.cells, places, tb6] <;> rfl)) rfl <| Oa rfl (so_convert (by simp only [lk] <;> rfl) (conv_b ty58 rfl ty5 rfl ty9 rfl (one_b (AHeap.get_new_same _ _)) rfl)) rfl <| Oa rfl za rfl <| On ?_
      refine Wr <| Oa rfl (zl (hv := by simp (disch := first | omega | simp only [nx] <;> omega | fail) only [aLoad, ty28, rowOf, hpl, q7A, q7B, q7P, rcl, Value.cells] <;> rfl)) rfl <| Oa rfl sm rfl <| OSuf.callD rfl (by simp only [aopnds, lk] <;> rfl) en16 (wgP) rfl <| Oa rfl sm rfl <| Oa rfl (ze (hv := by simp (disch := first | omega | simp only [nx] <;> omega | fail) only [aExtract, hpl, q7A, q7B, q7P, rcl, Value.cells, places, tb6] <;> rfl)) rfl <| Oa rfl (ze (hv := by simp (disch := first | omega | simp only [nx] <;> omega | fail) only [aExtract, hpl, q7A, q7B, q7P, rcl, Value.cells, places, tb6] <;> rfl)) rfl <| Oa rfl (so_alloc (by simp only [aAlloc, ty33] <;> rfl)) rfl <| Oa rfl (zs (hv := by simp (disch := first | omega | simp only [nx] <;> omega | fail) only [aStore, ty33, writeRow, hpl, q7A, q7B, q7P, rcl, Value.cells] <;> rfl)) rfl <| Oa rfl za rfl <| On ?_
      refine Wr <| Oa rfl (zl (hv := by simp (disch := first | omega | simp only [nx] <;> omega | fail) only [aLoad, ty28, rowOf, hpl, q7A, q7B, q7P, rcl, Value.cells] <;> rfl)) rfl <| Oa rfl sm rfl <| OSuf.callD rfl (by simp only [aopnds, lk] <;> rfl) en16 (wgA r) rfl <| Oa rfl sm rfl <| Oa rfl (ze (hv := by simp (disch := first | omega | simp only [nx] <;> omega | fail) only [aExtract, hpl, q7A, q7B, q7P, rcl, Value.cells, places, tb6] <;> rfl)) rfl <| Ot rfl (ze (hv := by simp (disch := first | omega | simp only [nx] <;> omega | fail) only [aExtract, hpl, q7A, q7B, q7P, rcl, Value.cells, places, tb6] <;> rfl)) rfl (rfl) <| Oa rfl (so_alloc (by simp only [aAlloc, ty33] <;> rfl)) rfl <| Oa rfl (zs (hv := by simp (disch := first | omega | simp only [nx] <;> omega | fail) only [aStore, ty33, writeRow, hpl, q7A, q7B, q7P, rcl, Value.cells] <;> rfl)) rfl <| Ot rfl za rfl rfl <| On ?_
      refine Wr <| Oa rfl (zl (hv := by simp (disch := first | omega | simp only [nx] <;> omega | fail) only [aLoad, ty28, rowOf, hpl, q7A, q7B, q7P, rcl, Value.cells] <;> rfl)) rfl <| Oa rfl sm rfl <| OSuf.callD rfl (by simp only [aopnds, lk] <;> rfl) en16 (wgB r r) rfl <| Oa rfl sm rfl <| Oa rfl (ze (hv := by simp (disch := first | omega | simp only [nx] <;> omega | fail) only [aExtract, hpl, q7A, q7B, q7P, rcl, Value.cells, places, tb6] <;> rfl)) rfl <| Of rfl (ze (hv := by simp (disch := first | omega | simp only [nx] <;> omega | fail) only [aExtract, hpl, q7A, q7B, q7P, rcl, Value.cells, places, tb6] <;> rfl)) rfl (rfl) <| Oa rfl (so_alloc (by simp only [aAlloc, ty33] <;> rfl)) rfl <| Oa rfl (zs (hv := by simp (disch := first | omega | simp only [nx] <;> omega | fail) only [aStore, ty33, writeRow, hpl, q7A, q7B, q7P, rcl, Value.cells] <;> rfl)) rfl <| Of rfl za rfl rfl <| On ?_
      refine W.seq <| Wr <| Ot rfl sm rfl rfl <| Ot rfl sm rfl rfl <| Of ag sm rfl rfl <| Of rfl Zp rfl rfl <| On ?_
      refine Wn <| CWp.skip <| SQ.normal ?_
      refine Wr <| Oa rfl sm rfl <| Ot rfl sm rfl rfl <| Ot rfl sm rfl rfl <| OSuf.pass ag rfl <| Ot rfl Zp rfl rfl <| Ot rfl (zb (hv := bb_eql tyOK ty4 rfl)) rfl (rfl) <| Ot rfl sm rfl rfl <| Ot ag sm rfl rfl <| Of ag Zt rfl rfl <| Of ag sm rfl rfl <| Oa ag (zl (hv := by simp (disch := first | omega | simp only [nx] <;> omega | fail) only [aLoad, ty33, rowOf, hpl, q7A, q7B, q7P, rcl, Value.cells] <;> rfl)) rfl <| Oa ag (zl (hv := by simp (disch := first | omega | simp only [nx] <;> omega | fail) only [aLoad, ty33, rowOf, hpl, q7A, q7B, q7P, rcl, Value.cells] <;> rfl)) rfl <| Ot ag (zb (hv := eqR _ _)) rfl (by rw [eqRb_self]) <| Ot ag Zp rfl rfl <| Ot rfl Zp rfl rfl <| Ot rfl sm rfl rfl <| Of ag sm rfl rfl <| Ot ag Zt rfl rfl <| Ot ag sm rfl rfl <| OSuf.pass ag rfl <| OSuf.pass ag rfl <| OSuf.pass ag rfl <| Ot ag Zp rfl rfl <| Ot rfl Zp rfl rfl <| Ot rfl za rfl rfl <| On ?_
      refine CWp.ret <| FQ.ret (by simp only [aRet, Try.f6, aResults, aResult, lk, Nat.reduceEqDiff, reduceIte] <;> rfl) ?_
      -- leaf: end
      rfl
    | false =>
      refine Wr <| Oa rfl sm rfl <| Oa rfl (zb (hv := bi_w (bi_rem (by decide)) (by first | (simp only [w10, w11] <;> rfl) | rfl))) rfl <| Oa rfl (zb (hv := bi_w bi_add (by first | (simp only [w10, w11] <;> rfl) | rfl))) rfl <| Oa rfl (so_buildSlice (by simp only [aparts, lk] <;> rfl) (by simp only [aBuildSlice, ty58, ty5, q7A, q7B, q7P, rcl, Value.cells, places, tb6] <;> rfl)) rfl <| Oa rfl (so_convert (by simp only [lk] <;> rfl) (conv_b ty58 rfl ty5 rfl ty9 rfl (one_b (AHeap.get_new_same _ _)) rfl)) rfl <| Oa rfl za rfl <| On ?_
      refine Wr <| Oa rfl (zl (hv := by simp (disch := first | omega | simp only [nx] <;> omega | fail) only [aLoad, ty28, rowOf, hpl, q7A, q7B, q7P, rcl, Value.cells] <;> rfl)) rfl <| Oa rfl sm rfl <| OSuf.callD rfl (by simp only [aopnds, lk] <;> rfl) en16 (wgP) rfl <| Oa rfl sm rfl <| Oa rfl (ze (hv := by simp (disch := first | omega | simp only [nx] <;> omega | fail) only [aExtract, hpl, q7A, q7B, q7P, rcl, Value.cells, places, tb6] <;> rfl)) rfl <| Oa rfl (ze (hv := by simp (disch := first | omega | simp only [nx] <;> omega | fail) only [aExtract, hpl, q7A, q7B, q7P, rcl, Value.cells, places, tb6] <;> rfl)) rfl <| Oa rfl (so_alloc (by simp only [aAlloc, ty33] <;> rfl)) rfl <| Oa rfl (zs (hv := by simp (disch := first | omega | simp only [nx] <;> omega | fail) only [aStore, ty33, writeRow, hpl, q7A, q7B, q7P, rcl, Value.cells] <;> rfl)) rfl <| Oa rfl za rfl <| On ?_
      refine Wr <| Oa rfl (zl (hv := by simp (disch := first | omega | simp only [nx] <;> omega | fail) only [aLoad, ty28, rowOf, hpl, q7A, q7B, q7P, rcl, Value.cells] <;> rfl)) rfl <| Oa rfl sm rfl <| OSuf.callD rfl (by simp only [aopnds, lk] <;> rfl) en16 (wgA r) rfl <| Oa rfl sm rfl <| Oa rfl (ze (hv := by simp (disch := first | omega | simp only [nx] <;> omega | fail) only [aExtract, hpl, q7A, q7B, q7P, rcl, Value.cells, places, tb6] <;> rfl)) rfl <| Of rfl (ze (hv := by simp (disch := first | omega | simp only [nx] <;> omega | fail) only [aExtract, hpl, q7A, q7B, q7P, rcl, Value.cells, places, tb6] <;> rfl)) rfl (rfl) <| Oa rfl (so_alloc (by simp only [aAlloc, ty33] <;> rfl)) rfl <| Oa rfl (zs (hv := by simp (disch := first | omega | simp only [nx] <;> omega | fail) only [aStore, ty33, writeRow, hpl, q7A, q7B, q7P, rcl, Value.cells] <;> rfl)) rfl <| Of rfl za rfl rfl <| On ?_
      refine Wr <| Oa rfl (zl (hv := by simp (disch := first | omega | simp only [nx] <;> omega | fail) only [aLoad, ty28, rowOf, hpl, q7A, q7B, q7P, rcl, Value.cells] <;> rfl)) rfl <| Oa rfl sm rfl <| OSuf.callD rfl (by simp only [aopnds, lk] <;> rfl) en16 (wgB r r) rfl <| Oa rfl sm rfl <| Oa rfl (ze (hv := by simp (disch := first | omega | simp only [nx] <;> omega | fail) only [aExtract, hpl, q7A, q7B, q7P, rcl, Value.cells, places, tb6] <;> rfl)) rfl <| Of rfl (ze (hv := by simp (disch := first | omega | simp only [nx] <;> omega | fail) only [aExtract, hpl, q7A, q7B, q7P, rcl, Value.cells, places, tb6] <;> rfl)) rfl (rfl) <| Oa rfl (so_alloc (by simp only [aAlloc, ty33] <;> rfl)) rfl <| Oa rfl (zs (hv := by simp (disch := first | omega | simp only [nx] <;> omega | fail) only [aStore, ty33, writeRow, hpl, q7A, q7B, q7P, rcl, Value.cells] <;> rfl)) rfl <| Of rfl za rfl rfl <| On ?_
      refine W.seq <| Wr <| Of rfl sm rfl rfl <| Of rfl sm rfl rfl <| OSuf.pass ag rfl <| Of rfl Zp rfl rfl <| On ?_
      refine Wn <| CWp.skip <| SQ.normal ?_
      refine Wr <| Oa rfl sm rfl <| Of rfl sm rfl rfl <| Of rfl sm rfl rfl <| Of ag sm rfl rfl <| Of rfl Zp rfl rfl <| Ot rfl (zb (hv := bb_eql tyOK ty4 rfl)) rfl (rfl) <| Ot rfl sm rfl rfl <| Of ag sm rfl rfl <| Ot ag Zt rfl rfl <| Ot ag sm rfl rfl <| OSuf.pass ag rfl <| OSuf.pass ag rfl <| OSuf.pass ag rfl <| Ot ag Zp rfl rfl <| Ot rfl Zp rfl rfl <| Ot rfl sm rfl rfl <| Of ag sm rfl rfl <| Ot ag Zt rfl rfl <| Ot ag sm rfl rfl <| OSuf.pass ag rfl <| OSuf.pass ag rfl <| OSuf.pass ag rfl <| Ot ag Zp rfl rfl <| Ot rfl Zp rfl rfl <| Ot rfl za rfl rfl <| On ?_
      refine CWp.ret <| FQ.ret (by simp only [aRet, Try.f6, aResults, aResult, lk, Nat.reduceEqDiff, reduceIte] <;> rfl) ?_
      -- leaf: end
      rfl
  · rw [hr] at z2
    rw [hk] at z1 z2
    rw [z1] at wgA
    rw [z2] at wgB
    dsimp only at wgA wgB
    cases f with
    | true =>
      refine Wr <| Oa rfl sm rfl <| Oa rfl (zb (hv := bi_w (bi_rem (by decide)) (by first | (simp only [w10, w11] <;> rfl) | rfl))) rfl <| Oa rfl (zb (hv := bi_w bi_add (by first | (simp only [w10, w11] <;> rfl) | rfl))) rfl <| Oa rfl (so_buildSlice (by simp only [aparts, lk] <;> rfl) (by simp only [aBuildSlice, ty58, ty5, q7A, q7B, q7P, rcl, Value.cells, places, tb6] <;> rfl)) rfl <| Oa rfl (so_convert (by simp only [lk] <;> rfl) (conv_b ty58 rfl ty5 rfl ty9 rfl (one_b (AHeap.get_new_same _ _)) rfl)) rfl <| Oa rfl za rfl <| On ?_
      refine Wr <| Oa rfl (zl (hv := by simp (disch := first | omega | simp only [nx] <;> omega | fail) only [aLoad, ty28, rowOf, hpl, q7A, q7B, q7P, rcl, Value.cells] <;> rfl)) rfl <| Oa rfl sm rfl <| OSuf.callD rfl (by simp only [aopnds, lk] <;> rfl) en16 (wgP) rfl <| Oa rfl sm rfl <| Oa rfl (ze (hv := by simp (disch := first | omega | simp only [nx] <;> omega | fail) only [aExtract, hpl, q7A, q7B, q7P, rcl, Value.cells, places, tb6] <;> rfl)) rfl <| Oa rfl (ze (hv := by simp (disch := first | omega | simp only [nx] <;> omega | fail) only [aExtract, hpl, q7A, q7B, q7P, rcl, Value.cells, places, tb6] <;> rfl)) rfl <| Oa rfl (so_alloc (by simp only [aAlloc, ty33] <;> rfl)) rfl <| Oa rfl (zs (hv := by simp (disch := first | omega | simp only [nx] <;> omega | fail) only [aStore, ty33, writeRow, hpl, q7A, q7B, q7P, rcl, Value.cells] <;> rfl)) rfl <| Oa rfl za rfl <| On ?_
      refine Wr <| Oa rfl (zl (hv := by simp (disch := first | omega | simp only [nx] <;> omega | fail) only [aLoad, ty28, rowOf, hpl, q7A, q7B, q7P, rcl, Value.cells] <;> rfl)) rfl <| Oa rfl sm rfl <| OSuf.callD rfl (by simp only [aopnds, lk] <;> rfl) en16 (wgA r) rfl <| Oa rfl sm rfl <| Oa rfl (ze (hv := by simp (disch := first | omega | simp only [nx] <;> omega | fail) only [aExtract, hpl, q7A, q7B, q7P, rcl, Value.cells, places, tb6] <;> rfl)) rfl <| Of rfl (ze (hv := by simp (disch := first | omega | simp only [nx] <;> omega | fail) only [aExtract, hpl, q7A, q7B, q7P, rcl, Value.cells, places, tb6] <;> rfl)) rfl (rfl) <| Oa rfl (so_alloc (by simp only [aAlloc, ty33] <;> rfl)) rfl <| Oa rfl (zs (hv := by simp (disch := first | omega | simp only [nx] <;> omega | fail) only [aStore, ty33, writeRow, hpl, q7A, q7B, q7P, rcl, Value.cells] <;> rfl)) rfl <| Of rfl za rfl rfl <| On ?_
      refine Wr <| Oa rfl (zl (hv := by simp (disch := first | omega | simp only [nx] <;> omega | fail) only [aLoad, ty28, rowOf, hpl, q7A, q7B, q7P, rcl, Value.cells] <;> rfl)) rfl <| Oa rfl sm rfl <| OSuf.callD rfl (by simp only [aopnds, lk] <;> rfl) en16 (wgB r rec0) rfl <| Oa rfl sm rfl <| Oa rfl (ze (hv := by simp (disch := first | omega | simp only [nx] <;> omega | fail) only [aExtract, hpl, q7A, q7B, q7P, rcl, Value.cells, places, tb6] <;> rfl)) rfl <| Ot rfl (ze (hv := by simp (disch := first | omega | simp only [nx] <;> omega | fail) only [aExtract, hpl, q7A, q7B, q7P, rcl, Value.cells, places, tb6] <;> rfl)) rfl (rfl) <| Oa rfl (so_alloc (by simp only [aAlloc, ty33] <;> rfl)) rfl <| Oa rfl (zs (hv := by simp (disch := first | omega | simp only [nx] <;> omega | fail) only [aStore, ty33, writeRow, hpl, q7A, q7B, q7P, rcl, Value.cells] <;> rfl)) rfl <| Ot rfl za rfl rfl <| On ?_
      refine W.seq <| Wr <| Of rfl sm rfl rfl <| Of rfl sm rfl rfl <| OSuf.pass ag rfl <| Of rfl Zp rfl rfl <| On ?_
      refine Wn <| CWp.skip <| SQ.normal ?_
      refine Wr <| Oa rfl sm rfl <| Of rfl sm rfl rfl <| Of rfl sm rfl rfl <| Ot ag sm rfl rfl <| Ot rfl Zp rfl rfl <| Ot rfl (zb (hv := bb_eql tyOK ty4 rfl)) rfl (rfl) <| Ot rfl sm rfl rfl <| Of ag sm rfl rfl <| Ot ag Zt rfl rfl <| Ot ag sm rfl rfl <| OSuf.pass ag rfl <| OSuf.pass ag rfl <| OSuf.pass ag rfl <| Ot ag Zp rfl rfl <| Ot rfl Zp rfl rfl <| Ot rfl sm rfl rfl <| Ot ag sm rfl rfl <| Of ag Zt rfl rfl <| Of ag sm rfl rfl <| Oa ag (zl (hv := by simp (disch := first | omega | simp only [nx] <;> omega | fail) only [aLoad, ty33, rowOf, hpl, q7A, q7B, q7P, rcl, Value.cells] <;> rfl)) rfl <| Oa ag (zl (hv := by simp (disch := first | omega | simp only [nx] <;> omega | fail) only [aLoad, ty33, rowOf, hpl, q7A, q7B, q7P, rcl, Value.cells] <;> rfl)) rfl <| Oa ag (zb (hv := eqR _ _)) rfl <| Oa ag Zp rfl <| Oa rfl Zp rfl <| Oa rfl za rfl <| On ?_
      refine CWp.ret <| FQ.ret (by simp only [aRet, Try.f6, aResults, aResult, lk, Nat.reduceEqDiff, reduceIte] <;> rfl) ?_
      -- leaf: end
      exact congrArg Value.bool (eqRb_self r)
    | false =>
      refine Wr <| Oa rfl sm rfl <| Oa rfl (zb (hv := bi_w (bi_rem (by decide)) (by first | (simp only [w10, w11] <;> rfl) | rfl))) rfl <| Oa rfl (zb (hv := bi_w bi_add (by first | (simp only [w10, w11] <;> rfl) | rfl))) rfl <| Oa rfl (so_buildSlice (by simp only [aparts, lk] <;> rfl) (by simp only [aBuildSlice, ty58, ty5, q7A, q7B, q7P, rcl, Value.cells, places, tb6] <;> rfl)) rfl <| Oa rfl (so_convert (by simp only [lk] <;> rfl) (conv_b ty58 rfl ty5 rfl ty9 rfl (one_b (AHeap.get_new_same _ _)) rfl)) rfl <| Oa rfl za rfl <| On ?_
      refine Wr <| Oa rfl (zl (hv := by simp (disch := first | omega | simp only [nx] <;> omega | fail) only [aLoad, ty28, rowOf, hpl, q7A, q7B, q7P, rcl, Value.cells] <;> rfl)) rfl <| Oa rfl sm rfl <| OSuf.callD rfl (by simp only [aopnds, lk] <;> rfl) en16 (wgP) rfl <| Oa rfl sm rfl <| Oa rfl (ze (hv := by simp (disch := first | omega | simp only [nx] <;> omega | fail) only [aExtract, hpl, q7A, q7B, q7P, rcl, Value.cells, places, tb6] <;> rfl)) rfl <| Oa rfl (ze (hv := by simp (disch := first | omega | simp only [nx] <;> omega | fail) only [aExtract, hpl, q7A, q7B, q7P, rcl, Value.cells, places, tb6] <;> rfl)) rfl <| Oa rfl (so_alloc (by simp only [aAlloc, ty33] <;> rfl)) rfl <| Oa rfl (zs (hv := by simp (disch := first | omega | simp only [nx] <;> omega | fail) only [aStore, ty33, writeRow, hpl, q7A, q7B, q7P, rcl, Value.cells] <;> rfl)) rfl <| Oa rfl za rfl <| On ?_
      refine Wr <| Oa rfl (zl (hv := by simp (disch := first | omega | simp only [nx] <;> omega | fail) only [aLoad, ty28, rowOf, hpl, q7A, q7B, q7P, rcl, Value.cells] <;> rfl)) rfl <| Oa rfl sm rfl <| OSuf.callD rfl (by simp only [aopnds, lk] <;> rfl) en16 (wgA r) rfl <| Oa rfl sm rfl <| Oa rfl (ze (hv := by simp (disch := first | omega | simp only [nx] <;> omega | fail) only [aExtract, hpl, q7A, q7B, q7P, rcl, Value.cells, places, tb6] <;> rfl)) rfl <| Of rfl (ze (hv := by simp (disch := first | omega | simp only [nx] <;> omega | fail) only [aExtract, hpl, q7A, q7B, q7P, rcl, Value.cells, places, tb6] <;> rfl)) rfl (rfl) <| Oa rfl (so_alloc (by simp only [aAlloc, ty33] <;> rfl)) rfl <| Oa rfl (zs (hv := by simp (disch := first | omega | simp only [nx] <;> omega | fail) only [aStore, ty33, writeRow, hpl, q7A, q7B, q7P, rcl, Value.cells] <;> rfl)) rfl <| Of rfl za rfl rfl <| On ?_
      refine Wr <| Oa rfl (zl (hv := by simp (disch := first | omega | simp only [nx] <;> omega | fail) only [aLoad, ty28, rowOf, hpl, q7A, q7B, q7P, rcl, Value.cells] <;> rfl)) rfl <| Oa rfl sm rfl <| OSuf.callD rfl (by simp only [aopnds, lk] <;> rfl) en16 (wgB r rec0) rfl <| Oa rfl sm rfl <| Oa rfl (ze (hv := by simp (disch := first | omega | simp only [nx] <;> omega | fail) only [aExtract, hpl, q7A, q7B, q7P, rcl, Value.cells, places, tb6] <;> rfl)) rfl <| Of rfl (ze (hv := by simp (disch := first | omega | simp only [nx] <;> omega | fail) only [aExtract, hpl, q7A, q7B, q7P, rcl, Value.cells, places, tb6] <;> rfl)) rfl (rfl) <| Oa rfl (so_alloc (by simp only [aAlloc, ty33] <;> rfl)) rfl <| Oa rfl (zs (hv := by simp (disch := first | omega | simp only [nx] <;> omega | fail) only [aStore, ty33, writeRow, hpl, q7A, q7B, q7P, rcl, Value.cells] <;> rfl)) rfl <| Of rfl za rfl rfl <| On ?_
      refine W.seq <| Wr <| Of rfl sm rfl rfl <| Of rfl sm rfl rfl <| OSuf.pass ag rfl <| Of rfl Zp rfl rfl <| On ?_
      refine Wn <| CWp.skip <| SQ.normal ?_
      refine Wr <| Oa rfl sm rfl <| Of rfl sm rfl rfl <| Of rfl sm rfl rfl <| Of ag sm rfl rfl <| Of rfl Zp rfl rfl <| Ot rfl (zb (hv := bb_eql tyOK ty4 rfl)) rfl (rfl) <| Ot rfl sm rfl rfl <| Of ag sm rfl rfl <| Ot ag Zt rfl rfl <| Ot ag sm rfl rfl <| OSuf.pass ag rfl <| OSuf.pass ag rfl <| OSuf.pass ag rfl <| Ot ag Zp rfl rfl <| Ot rfl Zp rfl rfl <| Ot rfl sm rfl rfl <| Of ag sm rfl rfl <| Ot ag Zt rfl rfl <| Ot ag sm rfl rfl <| OSuf.pass ag rfl <| OSuf.pass ag rfl <| OSuf.pass ag rfl <| Ot ag Zp rfl rfl <| Ot rfl Zp rfl rfl <| Ot rfl za rfl rfl <| On ?_
      refine CWp.ret <| FQ.ret (by simp only [aRet, Try.f6, aResults, aResult, lk, Nat.reduceEqDiff, reduceIte] <;> rfl) ?_
      -- leaf: end
      rfl
end Go.Proofs.Ytebheelmgcggmaa
