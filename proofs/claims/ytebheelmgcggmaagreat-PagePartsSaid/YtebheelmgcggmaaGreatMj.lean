/-
  Merged: PgX, PgY, PgZ, PhA, PhB.
-/
import Derived.Test.YtebheelmgcggmaaGreatMb
import Derived.Test.YtebheelmgcggmaaGreatMe
import Derived.Test.YtebheelmgcggmaaGreatMf
import Derived.Test.YtebheelmgcggmaaGreatMi
set_option linter.unusedSimpArgs false
set_option linter.unusedVariables false
set_option maxRecDepth 10000
set_option maxHeartbeats 8000000
namespace Go.Proofs.YtebheelmgcggmaaGreat
open Go.Ab Go.Sort
def partM (p : Lf) (lo hi : List UInt8) : Lf := { p with low := lo, high := hi, base := p.base.filter fun r => insR lo hi r.key, deltas := p.deltas.filter fun r => insR lo hi r.key }
def joinOK (a b : Lf) : Bool := chk a && (chk b && decide (a.high ≠ [] ∧ a.high = b.low ∧ a.full = b.full))
def joinD (a b : Lf) (ds : List Rec) : Lf := ⟨a.low, b.high, a.full, a.base ++ b.base, ds⟩
theorem perm_lsn {a b : List Rec} (hp : a.Perm b) (ha : a.Pairwise fun x y => x.lsn ≤ y.lsn) (hb : b.Pairwise fun x y => ltL x y = true) : a = b := by
  refine List.Perm.eq_of_pairwise (le := fun a b => a.lsn ≤ b.lsn) (fun x y hx hy h3 h4 => ?_) ha (hb.imp fun {a b} h => by simp only [ltL, decide_eq_true_eq] at h; omega) hp
  have hx' : x ∈ b := hp.mem_iff.1 hx
  have h5 : ∀ {k : List Rec}, (k.Pairwise fun a b => ltL a b = true) → x ∈ k → y ∈ k → x = y := fun {k} hk => by
    induction k with
    | nil => intro h; cases h
    | cons z k ih =>
      obtain ⟨z1, z2⟩ := List.pairwise_cons.1 hk
      intro ha hb
      simp only [ltL, decide_eq_true_eq] at z1
      cases ha with
      | head => cases hb with
        | head => rfl
        | tail _ hb => have := z1 y hb; omega
      | tail _ ha => cases hb with
        | head => have := z1 x ha; omega
        | tail _ hb => exact ih z2 ha hb
  exact h5 hb hx' hy
namespace PInv
variable {p : Lf} {U C : List Rec}
end PInv
end Go.Proofs.YtebheelmgcggmaaGreat
namespace Go.Proofs.YtebheelmgcggmaaGreat
open Go.Ab Go.Sort
section
variable {P : Program} {T : Tr TI} {ρ : Operand → Option Value} {h : AHeap} {dst : Option Tmp} {ty : TypeId} {pos : String} {af : Array Edge} {g : Option (Nat × Bool)} {xs : Array Operand} {ats : Array TypeId} {u v : Value}
theorem so_cap (hx : aopnds ρ xs.toList = some [u]) (hv : aCapOf T ats u = some v) : aop P T ⟨dst, .call ⟨.builtin .cap, xs, ats⟩, ty, pos, af, g⟩ ρ h = some (v, h) := by simp only [aop, hx, aBuiltin, hv, keep]
theorem apz_none {k : IntKind} {n : Int} : aAppend T ats u (.int k n) h = none := by
  simp only [aAppend, aLen]
  cases appT T ats <;> rfl
theorem so_appz {k : IntKind} {n : Int} {r : Value × AHeap} (hx : aopnds ρ xs.toList = some [u, .int k n]) (hv : aAppendZ T ats u (.int k n) h = some r) : aop P T ⟨dst, .call ⟨.builtin .append, xs, ats⟩, ty, pos, af, g⟩ ρ h = some r := by
  simp only [aop, hx, aBuiltin, apz_none, hv]
theorem apz {t t2 elem : TypeId} {ti ui ei : TI} {k k2 : IntKind} {n : Nat} {z : Value} (ha : ats.toList = [t, t2]) (ht : T.get t = some ti) (hti : ti.und = .slice elem) (hu : T.get t2 = some ui) (hui : ui.und = .int k2) (he : T.get elem = some ei) (hz : ei.zero = some z)
    (hc : z.cells.toList.all flat1 = true ∧ z.cells.size = ei.size ∧ 1 ≤ ei.size ∧ 1 ≤ ei.bytes) (h1 : 1 ≤ n ∧ n ≤ 16777216) (h2 : (2 * n + 256) * ei.bytes ≤ 281474976710656) :
    aAppendZ T ats (.slice none 0 0) (.int k n) h = some (.slice (some ⟨h.next, 0, none⟩) n 0, h.new (.cells (zeros z.cells.toList n) ei.size)) := by
  simp only [aAppendZ, ha, ht, hti, hu, hui, he, hz, Int.toNat_natCast]
  rw [if_pos ⟨hc, ⟨by omega, by omega⟩, h2⟩]
theorem cap_0 {t e : TypeId} {ti : TI} (ha : ats.toList = [t]) (ht : T.get t = some ti) (hti : ti.und = .slice e) : aCapOf T ats (.slice none 0 0) = some (.int .i64 0) := by simp only [aCapOf, ha, ht, hti]
end
abbrev zcs : List Value := [.string ⟨#[]⟩, .int .u64 0, .bool false, .string ⟨#[]⟩]
theorem grow0_c (h : AHeap) : FWp Tryz.prog 99 [.slice none 0 0, I64 0] h fun u g => u = .slice none 0 0 ∧ g = h := by
  refine W.enter tyOK Tryz.func99 rfl rfl ?_
  simp only [entry]
  refine Wr <| Oa rfl za rfl <| On ?_
  refine W.seq <| Wr <| Oa rfl sm rfl <| Ofb rfl (zb (hv := bi_lss)) rfl <| On ?_
  refine Wn <| CWp.skip <| SQ.normal ?_
  refine W.seq <| Wr <| Oa rfl sm rfl <| Oa rfl sm rfl <| Oa rfl (so_cap (by simp only [aopnds, lk] <;> rfl) (cap_0 rfl ty23 rfl)) rfl <| Oa rfl sm rfl <| Oa rfl (Zn (hv := by simp (disch := first | omega | simp only [nx]; omega) only [aLenOf, ty23, hpl] <;> rfl)) rfl <| Oa rfl (zb (hv := bi_w bi_sub rfl)) rfl <| Oa rfl (zb (hv := bi_w bi_sub rfl)) rfl <| Oa rfl za rfl <| On ?_
  refine Wr <| Oa rfl sm rfl <| Ofb rfl (zb (hv := bi_gtr)) rfl <| On ?_
  refine Wn <| CWp.skip <| SQ.normal ?_
  refine Wr <| Oa rfl sm rfl <| Oa rfl za rfl <| On ?_
  refine CWp.ret <| FQ.ret (by simp only [aRet, Tryz.f99, aResults, aResult, lk, Nat.reduceEqDiff, reduceIte] <;> rfl) ?_
  exact ⟨rfl, rfl⟩
theorem grow_c (h : AHeap) (n : Nat) (h1 : 1 ≤ n) (h2 : n ≤ 2000000) : FWp Tryz.prog 99 [.slice none 0 0, I64 n] h fun u g => u = .slice (some ⟨h.next, 0, none⟩) 0 0 ∧ g = h.new (.cells (zeros zcs n) 4) := by
  have w2 : IntKind.i64.wrap ((0 : Int) - ((0 : Nat) : Int)) = 0 := rfl
  have w3 : IntKind.i64.wrap ((n : Int) - 0) = (n : Int) := by rw [wrap_i64 (by omega) (by omega)]; omega
  have hr : (h.new (.cells (zeros zcs n) 4)).get h.next = some (.cells (zeros zcs n) 4) := Gq
  refine W.enter tyOK Tryz.func99 rfl rfl ?_
  simp only [entry]
  refine Wr <| Oa rfl za rfl <| On ?_
  refine W.seq <| Wr <| Oa rfl sm rfl <| Ofb rfl (zb (hv := bi_lss)) rfl <| On ?_
  refine Wn <| CWp.skip <| SQ.normal ?_
  refine W.seq <| Wr <| Oa rfl sm rfl <| Oa rfl sm rfl <| Oa rfl (so_cap (by simp only [aopnds, lk] <;> rfl) (cap_0 rfl ty23 rfl)) rfl <| Oa rfl sm rfl <| Oa rfl (Zn (hv := by simp (disch := first | omega | simp only [nx]; omega) only [aLenOf, ty23, hpl] <;> rfl)) rfl <| Oa rfl (zb (hv := bi_w bi_sub (by first | (simp only [w2, w3] <;> rfl) | rfl))) rfl <| Oa rfl (zb (hv := bi_w bi_sub (by first | (simp only [w2, w3] <;> rfl) | rfl))) rfl <| Oa rfl za rfl <| On ?_
  refine Wr <| Oa rfl sm rfl <| Otb rfl (zb (hv := bi_gtr)) rfl <| On ?_
  refine Wy <| W.reg <| Oa rfl sm rfl <| Oa rfl sm rfl <| Oa rfl (so_cap (by simp only [aopnds, lk] <;> rfl) (cap_0 rfl ty23 rfl)) rfl <| Oa rfl (so_slice (by simp only [lk] <;> rfl) (by simp only [oopnd, lk] <;> rfl) (by simp only [oopnd, lk] <;> rfl) (by simp only [oopnd, lk] <;> rfl) (sl_0 (x := (0, 0, 0)) ty23 rfl ty27 rfl)) rfl <| Oa rfl sm rfl <| Oa rfl (so_appz (by simp only [aopnds, lk] <;> rfl) (apz (n := n) (z := .agg #[.string ⟨#[]⟩, .int .u64 0, .bool false, .string ⟨#[]⟩]) rfl ty23 rfl ty3 rfl ty27 rfl ⟨rfl, rfl, by decide, by decide⟩ (by omega) (by show (2 * n + 256) * 48 ≤ _; omega))) rfl <| Oa rfl sm rfl <| Oa rfl (Zn (hv := by simp (disch := first | omega | simp only [nx]; omega) only [aLenOf, ty23, hpl] <;> rfl)) rfl <| Oa rfl (so_slice (by simp only [lk] <;> rfl) (by simp only [oopnd, lk] <;> rfl) (by simp only [oopnd, lk] <;> rfl) (by simp only [oopnd, lk] <;> rfl) (sl_u ty23 rfl ty27 (bounds_hi (n := 0) (by omega)) hr)) rfl <| Oa rfl za rfl <| On ?_
  refine Wr <| Oa rfl sm rfl <| Oa rfl za rfl <| On ?_
  refine CWp.ret <| FQ.ret (by simp only [aRet, Tryz.f99, aResults, aResult, lk, Nat.reduceEqDiff, reduceIte] <;> rfl) ?_
  exact ⟨rfl, rfl⟩
theorem concat_w (h : AHeap) (q la lb : Nat) (b1 b2 : Option Addr) (c1 c2 : Nat) (v0 v1 v2 : Value) (g0 g1 g2 : AHeap) (hla : la ≤ 1000000) (hlb : lb ≤ 1000000)
    (hq : h.get q = some (.cells [.slice b1 la c1, .slice b2 lb c2] 1)) (hq0 : g0.get q = some (.cells [.slice b1 la c1, .slice b2 lb c2] 1)) (hq1 : g1.get q = some (.cells [.slice b1 la c1, .slice b2 lb c2] 1))
    (hg : FWp Tryz.prog 99 [.slice none 0 0, I64 ((la + lb : Nat) : Int)] h fun u g => u = v0 ∧ g = g0)
    (a1 : ∀ ats A, appT T ats = some A → A.size = 4 → A.bytes ≤ 100 → aAppend T ats v0 (.slice b1 la c1) g0 = some (v1, g1))
    (a2 : ∀ ats A, appT T ats = some A → A.size = 4 → A.bytes ≤ 100 → aAppend T ats v1 (.slice b2 lb c2) g1 = some (v2, g2)) :
    FWp Tryz.prog 72 [.slice (some ⟨q, 0, none⟩) 2 3] h fun u g => u = v2 ∧ g = g2 := by
  refine W.enter tyOK Tryz.func72 rfl rfl ?_
  simp only [entry]
  refine Wr <| Oa rfl za rfl <| On ?_
  refine Wr <| Oa rfl za rfl <| On ?_
  refine W.seq <| Wr <| Oa rfl sm rfl <| Oa rfl (Zn (hv := by simp (disch := first | omega | simp only [nx]; omega) only [aLenOf, ty95, hpl] <;> rfl)) rfl <| Oa rfl sm rfl <| On ?_
  refine W.cut (fun L g => g = h ∧ L = [(0, .slice (some ⟨q, 0, none⟩) 2 3), (3, I64 ((la + lb : Nat) : Int))]) (W.block (W.loop (fun m L g => ∃ i s : Nat, m + i = 2 ∧ (i = 0 → s = 0) ∧ (i = 1 → s = la) ∧ (i = 2 → s = la + lb) ∧ g = h ∧ L = [(0, .slice (some ⟨q, 0, none⟩) 2 3), (3, I64 s), (9, .slice (some ⟨q, 0, none⟩) 2 3), (10, I64 2), (11, I64 i)]) (n := 2) ⟨0, 0, rfl, fun _ => rfl, by omega, by omega, rfl, rfl⟩ ?_ ?_)) ?_
  · simp [HasA, Tr.get_put]
  · rintro m L g ⟨i, s, hm, e0, e1, e2, rfl, rfl⟩
    simp only [mkA]
    have w2 : IntKind.i64.wrap ((i : Int) + 1) = ((i + 1 : Nat) : Int) := by rw [wrap_i64 (by omega) (by omega)]; omega
    obtain rfl | rfl | rfl : i = 0 ∨ i = 1 ∨ i = 2 := by omega
    · obtain rfl := e0 rfl
      have w3 : IntKind.i64.wrap (((0 : Nat) : Int) + (la : Int)) = (la : Int) := by rw [wrap_i64 (by omega) (by omega)]; omega
      refine Wr <| Ot rfl (zb (hv := bi_lss)) rfl (by first | rfl | assumption | ((simp only [bl, hq]) <;> first | done | assumption | omega) | (simp; done) | (simp; omega)) <| On ?_
      refine W.seq <| Wy <| CWp.skip <| SQ.normal ?_
      refine W.seq <| W.block <| Wr <| Oa rfl (zi (hv := by simp (disch := first | omega | simp only [nx]; omega) only [aIndexAddr, ty95, ty23, hpl, hq] <;> rfl)) rfl <| Oa rfl (zl (hv := by simp (disch := first | omega | simp only [nx]; omega) only [aLoad, ty23, rowOf, hpl, hq] <;> rfl)) rfl <| Oa rfl za rfl <| On ?_
      refine Wr <| Oa rfl sm rfl <| Oa rfl sm rfl <| Oa rfl (Zn (hv := by simp (disch := first | omega | simp only [nx]; omega) only [aLenOf, ty23, hpl, hq] <;> rfl)) rfl <| Oa rfl (zb (hv := bi_w bi_add (by first | (simp only [w2, w3] <;> rfl) | rfl))) rfl <| Oa rfl za rfl <| On ?_
      refine Wr <| Oa rfl sm rfl <| Of rfl (zb (hv := bi_lss)) rfl (by first | rfl | assumption | ((simp only [bl, hq]) <;> first | done | assumption | omega) | (simp; done) | (simp; omega)) <| On ?_
      refine Wn <| CWp.skip <| BQ.normal <| SQ.normal ?_
      refine W.reg <| Oa rfl (zb (hv := bi_w bi_add (by first | (simp only [w2, w3] <;> rfl) | rfl))) rfl <| Oa rfl sm rfl <| OSuf.nil <| ?_
      refine LQ.normal (m := 1) (L := [(0, .slice (some ⟨q, 0, none⟩) 2 3), (3, I64 la), (9, .slice (some ⟨q, 0, none⟩) 2 3), (10, I64 2), (11, I64 ((0 + 1 : Nat) : Int))]) (by omega) ?_ ⟨1, la, rfl, by omega, fun _ => rfl, by omega, rfl, rfl⟩
      simp only [HasA, Tr.get_put, Nat.reduceEqDiff, reduceIte, w2, w3, and_self]
    · obtain rfl := e1 rfl
      have w3 : IntKind.i64.wrap ((s : Int) + (lb : Int)) = ((s + lb : Nat) : Int) := by rw [wrap_i64 (by omega) (by omega)]; omega
      refine Wr <| Ot rfl (zb (hv := bi_lss)) rfl (by first | rfl | assumption | ((simp only [bl, hq]) <;> first | done | assumption | omega) | (simp; done) | (simp; omega)) <| On ?_
      refine W.seq <| Wy <| CWp.skip <| SQ.normal ?_
      refine W.seq <| W.block <| Wr <| Oa rfl (zi (hv := by simp (disch := first | omega | simp only [nx]; omega) only [aIndexAddr, ty95, ty23, hpl, hq] <;> rfl)) rfl <| Oa rfl (zl (hv := by simp (disch := first | omega | simp only [nx]; omega) only [aLoad, ty23, rowOf, hpl, hq] <;> rfl)) rfl <| Oa rfl za rfl <| On ?_
      refine Wr <| Oa rfl sm rfl <| Oa rfl sm rfl <| Oa rfl (Zn (hv := by simp (disch := first | omega | simp only [nx]; omega) only [aLenOf, ty23, hpl, hq] <;> rfl)) rfl <| Oa rfl (zb (hv := bi_w bi_add (by first | (simp only [w2, w3] <;> rfl) | rfl))) rfl <| Oa rfl za rfl <| On ?_
      refine Wr <| Oa rfl sm rfl <| Of rfl (zb (hv := bi_lss)) rfl (by first | rfl | assumption | ((simp only [bl, hq]) <;> first | done | assumption | omega) | (simp; done) | (simp; omega)) <| On ?_
      refine Wn <| CWp.skip <| BQ.normal <| SQ.normal ?_
      refine W.reg <| Oa rfl (zb (hv := bi_w bi_add (by first | (simp only [w2, w3] <;> rfl) | rfl))) rfl <| Oa rfl sm rfl <| OSuf.nil <| ?_
      refine LQ.normal (m := 0) (L := [(0, .slice (some ⟨q, 0, none⟩) 2 3), (3, I64 ((s + lb : Nat) : Int)), (9, .slice (some ⟨q, 0, none⟩) 2 3), (10, I64 2), (11, I64 ((1 + 1 : Nat) : Int))]) (by omega) ?_ ⟨2, s + lb, rfl, by omega, by omega, fun _ => rfl, rfl, rfl⟩
      simp only [HasA, Tr.get_put, Nat.reduceEqDiff, reduceIte, w2, w3, and_self]
    · obtain rfl := e2 rfl
      refine Wr <| Ofb rfl (zb (hv := bi_lss)) rfl <| On ?_
      refine W.seq <| Wn <| CWp.exit <| SQ.exit <| LQ.exit <| BQ.exit <| ?_
      refine NQ.normal (L := [(0, .slice (some ⟨q, 0, none⟩) 2 3), (3, I64 ((la + lb : Nat) : Int))]) ?_ ⟨rfl, rfl⟩
      simp only [HasA, Tr.get_put, Nat.reduceEqDiff, reduceIte, and_self]
  rintro L a' g ha ⟨rfl, rfl⟩
  refine SQ.normal <| CWp.known ha ?_
  simp only [mkA]
  refine Wr <| Oa rfl sm rfl <| OSuf.callD rfl (by simp only [aopnds, lk] <;> rfl) en99 (hg) rfl <| Oa rfl za rfl <| On ?_
  refine W.seq <| Wr <| Oa rfl sm rfl <| Oa rfl (Zn (hv := by simp (disch := first | omega | simp only [nx]; omega) only [aLenOf, ty95, hpl] <;> rfl)) rfl <| Oa rfl sm rfl <| On ?_
  refine W.cut (fun L g => g = g2 ∧ L = [(6, v2)]) (W.block (W.loop (fun m L g => ∃ (i : Nat) (v : Value), m + i = 2 ∧ (i = 0 → v = v0 ∧ g = g0) ∧ (i = 1 → v = v1 ∧ g = g1) ∧ (i = 2 → v = v2 ∧ g = g2) ∧ L = [(6, v), (25, .slice (some ⟨q, 0, none⟩) 2 3), (26, I64 2), (27, I64 i)]) (n := 2) ⟨0, v0, rfl, fun _ => ⟨rfl, rfl⟩, by omega, by omega, rfl⟩ ?_ ?_)) ?_
  · simp [HasA, Tr.get_put]
  · rintro m L g ⟨i, v, hm, e0, e1, e2, rfl⟩
    simp only [mkA]
    have w2 : IntKind.i64.wrap ((i : Int) + 1) = ((i + 1 : Nat) : Int) := by rw [wrap_i64 (by omega) (by omega)]; omega
    obtain rfl | rfl | rfl : i = 0 ∨ i = 1 ∨ i = 2 := by omega
    · obtain ⟨rfl, rfl⟩ := e0 rfl
      refine Wr <| Ot rfl (zb (hv := bi_lss)) rfl (by first | rfl | assumption | ((simp only [bl, hq0]) <;> first | done | assumption | omega) | (simp; done) | (simp; omega)) <| On ?_
      refine W.seq <| Wy <| CWp.skip <| SQ.normal ?_
      refine W.seq <| W.block <| Wr <| Oa rfl (zi (hv := by simp (disch := first | omega | simp only [nx]; omega) only [aIndexAddr, ty95, ty23, hpl, hq0] <;> rfl)) rfl <| Oa rfl (zl (hv := by simp (disch := first | omega | simp only [nx]; omega) only [aLoad, ty23, rowOf, hpl, hq0] <;> rfl)) rfl <| Oa rfl za rfl <| On ?_
      refine W.reg <| Oa rfl sm rfl <| Oa rfl sm rfl <| Oa rfl (so_append (by simp only [aopnds, lk] <;> rfl) (a1 _ _ (by simp only [appT, ty23, ty27] <;> rfl) rfl (by decide))) rfl <| Oa rfl za rfl <| OSuf.nil <| BQ.normal <| SQ.normal ?_
      refine W.reg <| Oa rfl (zb (hv := bi_w bi_add (by first | (simp only [w2] <;> rfl) | rfl))) rfl <| Oa rfl sm rfl <| OSuf.nil <| ?_
      refine LQ.normal (m := 1) (L := [(6, v1), (25, .slice (some ⟨q, 0, none⟩) 2 3), (26, I64 2), (27, I64 ((0 + 1 : Nat) : Int))]) (by omega) ?_ ⟨1, v1, rfl, by omega, fun _ => ⟨rfl, rfl⟩, by omega, rfl⟩
      simp only [HasA, Tr.get_put, Nat.reduceEqDiff, reduceIte, w2, and_self]
    · obtain ⟨rfl, rfl⟩ := e1 rfl
      refine Wr <| Ot rfl (zb (hv := bi_lss)) rfl (by first | rfl | assumption | ((simp only [bl, hq1]) <;> first | done | assumption | omega) | (simp; done) | (simp; omega)) <| On ?_
      refine W.seq <| Wy <| CWp.skip <| SQ.normal ?_
      refine W.seq <| W.block <| Wr <| Oa rfl (zi (hv := by simp (disch := first | omega | simp only [nx]; omega) only [aIndexAddr, ty95, ty23, hpl, hq1] <;> rfl)) rfl <| Oa rfl (zl (hv := by simp (disch := first | omega | simp only [nx]; omega) only [aLoad, ty23, rowOf, hpl, hq1] <;> rfl)) rfl <| Oa rfl za rfl <| On ?_
      refine W.reg <| Oa rfl sm rfl <| Oa rfl sm rfl <| Oa rfl (so_append (by simp only [aopnds, lk] <;> rfl) (a2 _ _ (by simp only [appT, ty23, ty27] <;> rfl) rfl (by decide))) rfl <| Oa rfl za rfl <| OSuf.nil <| BQ.normal <| SQ.normal ?_
      refine W.reg <| Oa rfl (zb (hv := bi_w bi_add (by first | (simp only [w2] <;> rfl) | rfl))) rfl <| Oa rfl sm rfl <| OSuf.nil <| ?_
      refine LQ.normal (m := 0) (L := [(6, v2), (25, .slice (some ⟨q, 0, none⟩) 2 3), (26, I64 2), (27, I64 ((1 + 1 : Nat) : Int))]) (by omega) ?_ ⟨2, v2, rfl, by omega, by omega, fun _ => ⟨rfl, rfl⟩, rfl⟩
      simp only [HasA, Tr.get_put, Nat.reduceEqDiff, reduceIte, w2, and_self]
    · obtain ⟨rfl, rfl⟩ := e2 rfl
      refine Wr <| Ofb rfl (zb (hv := bi_lss)) rfl <| On ?_
      refine W.seq <| Wn <| CWp.exit <| SQ.exit <| LQ.exit <| BQ.exit <| ?_
      refine NQ.normal (L := [(6, v)]) ?_ ⟨rfl, rfl⟩
      simp only [HasA, Tr.get_put, Nat.reduceEqDiff, reduceIte, and_self]
  rintro L a' g ha ⟨rfl, rfl⟩
  refine SQ.normal <| CWp.known ha ?_
  simp only [mkA]
  refine Wr <| Oa rfl sm rfl <| Oa rfl za rfl <| On ?_
  refine CWp.ret <| FQ.ret (by simp only [aRet, Tryz.f72, aResults, aResult, lk, Nat.reduceEqDiff, reduceIte] <;> rfl) ?_
  exact ⟨rfl, rfl⟩
theorem ap_none {h : AHeap} {ats : Array TypeId} {A : AppT} {s x : Value} (ha : appT T ats = some A) (hl : aLen x = some 0) (hx : aCells h A.size 0 x = some []) (hs : s = .slice none 0 0 ∨ ∃ r off len, s = .slice (some ⟨r, off, none⟩) len 0) (hb : (2 * (vLen s + 0) + 256) * A.bytes ≤ 281474976710656) : aAppend T ats s x h = some (s, h) := by
  rcases hs with rfl | ⟨r, off, len, rfl⟩ <;> simp only [aAppend, ha, hl, hx, Nat.ble_eq_true_of_le hb, cond_true] <;> rfl
theorem RS.cells {h : AHeap} {l : List Rec} {b : Option Addr} {n c : Nat} (s : RS h l (.slice b n c)) {g : AHeap} (hk : ∀ z, z < h.next → g.get z = h.get z) : aCells g 4 l.length (.slice b n c) = some (fl l) := by
  obtain ⟨b', c', e, hr⟩ := s.ex
  cases e
  rcases hr with ⟨rfl, hn, rfl⟩ | ⟨r, off, rfl, hr⟩
  · have : l = [] := List.length_eq_zero_iff.1 hn
    subst this; rfl
  · by_cases h0 : l.length = 0
    · have : l = [] := List.length_eq_zero_iff.1 h0
      subst this; rfl
    · obtain ⟨hr1, vs, hr2, hr3⟩ := hr h0
      have e0 : Nat.beq (l.length * 4) 0 = false := by
        cases e : Nat.beq (l.length * 4) 0 with
        | false => rfl
        | true => have := Nat.eq_of_beq_eq_true e; omega
      have e2 : rowOf g r = some vs := by rw [rowOf_eq (hk r hr1)]; exact hr2
      simp only [aCells, e0, cond_false, Nat.ble_eq_true_of_le (Nat.le_refl l.length), cond_true, e2, hr3]
theorem fl_ones : ∀ l : List Rec, oneCells (fl l) = true
  | [] => rfl
  | x :: l => by
    have := fl_ones l
    rw [fl_cons]
    simp only [oneCells, List.all_append, Bool.and_eq_true] at this ⊢
    exact ⟨fl_one' x, this⟩
where fl_one' (x : Rec) : x.cs.all Value.oneCell' = true := rfl
theorem concat_c (h : AHeap) (q : Nat) (a b : List Rec) (b1 b2 : Option Addr) (c1 c2 : Nat) (ha : RS h a (.slice b1 a.length c1)) (hb : RS h b (.slice b2 b.length c2)) (hla : a.length ≤ 1000000) (hlb : b.length ≤ 1000000) (hql : q < h.next)
    (hq : h.get q = some (.cells [.slice b1 a.length c1, .slice b2 b.length c2] 1)) :
    ∃ v' H, FWp Tryz.prog 72 [.slice (some ⟨q, 0, none⟩) 2 3] h (fun u g => u = v' ∧ g = H) ∧ OS H h.next (a ++ b) v' ∧ h.next ≤ H.next ∧ ∀ z, z < h.next → H.get z = h.get z := by
  have nb : ∀ l : List Rec, ¬ l = [] → Nat.beq l.length 0 = false := fun l hl => by
    cases l with
    | nil => exact (hl rfl).elim
    | cons _ _ => rfl
  by_cases ea : a = []
  · subst ea
    by_cases eb : b = []
    · subst eb
      refine ⟨_, _, concat_w h q 0 0 b1 b2 c1 c2 _ _ _ h h h (by omega) (by omega) hq hq hq (grow0_c h) (fun ats A k1 k2 k3 => ap_none k1 rfl (by rw [k2]; exact ha.cells fun _ _ => rfl) (.inl rfl) ?_) (fun ats A k1 k2 k3 => ap_none k1 rfl (by rw [k2]; exact hb.cells fun _ _ => rfl) (.inl rfl) ?_), .nil rfl, Nat.le_refl _, fun _ _ => rfl⟩
      all_goals
        have : (2 * (0 + 0) + 256) * A.bytes ≤ 256 * 100 := Nat.mul_le_mul (by omega) k3
        exact Nat.le_trans this (by omega)
    · have hlb1 : 1 ≤ b.length := by cases b with | nil => exact (eb rfl).elim | cons _ _ => simp
      have k0 : ∀ z, z < h.next → (h.new (.cells (zeros zcs (0 + b.length)) 4)).get z = h.get z := fun z hz => Gn (by omega)
      have hr : (h.new (.cells (zeros zcs (0 + b.length)) 4)).get h.next = some (.cells (zeros zcs (0 + b.length)) 4) := Gq
      refine ⟨_, _, concat_w h q 0 b.length b1 b2 c1 c2 (.slice (some ⟨h.next, 0, none⟩) 0 0) (.slice (some ⟨h.next, 0, none⟩) 0 0) (.slice (some ⟨h.next + 1, 0, none⟩) (0 + b.length) 0) _ _ (((h.new (.cells (zeros zcs (0 + b.length)) 4)).kill h.next).new (.cells ([] ++ fl b) 4)) (by omega) hlb hq ((k0 q hql).trans hq) ((k0 q hql).trans hq) (grow_c h (0 + b.length) (by omega) (by omega)) (fun ats A k1 k2 k3 => ap_none k1 rfl (by rw [k2]; exact ha.cells k0) (.inr ⟨_, _, _, rfl⟩) ?_) (fun ats A k1 k2 k3 => ?_), ?_, ?_, ?_⟩
      · have : (2 * (0 + 0) + 256) * A.bytes ≤ 256 * 100 := Nat.mul_le_mul (by omega) k3
        exact Nat.le_trans this (by omega)
      · have := ap_u (off := 0) (len := 0) (k := b.length) (x := .slice b2 b.length c2) k1 rfl (by rw [k2]; exact hb.cells k0) (by have : (2 * (0 + b.length) + 256) * A.bytes ≤ 2000256 * 100 := Nat.mul_le_mul (by omega) k3; omega) (nb b eb) (by rw [k2]; exact hr) (fl_ones b) (old := []) (by rw [Nat.zero_mul]; rfl)
        rw [k2] at this; exact this
      · refine .some (by simpa using eb) (by simp) (by omega) (by simp [AHeap.kill]) ?_
        exact Gq
      · simp [AHeap.kill]; omega
      · intro z hz
        simp (disch := first | omega | simp only [nx]; omega) only [hpl]
  · have hla1 : 1 ≤ a.length := by cases a with | nil => exact (ea rfl).elim | cons _ _ => simp
    have k0 : ∀ z, z < h.next → (h.new (.cells (zeros zcs (a.length + b.length)) 4)).get z = h.get z := fun z hz => Gn (by omega)
    have hr : (h.new (.cells (zeros zcs (a.length + b.length)) 4)).get h.next = some (.cells (zeros zcs (a.length + b.length)) 4) := Gq
    obtain ⟨g1, hg1⟩ : ∃ g1, g1 = ((h.new (.cells (zeros zcs (a.length + b.length)) 4)).kill h.next).new (.cells ([] ++ fl a) 4) := ⟨_, rfl⟩
    have n1 : g1.next = h.next + 2 := by rw [hg1]; rfl
    have k1' : ∀ z, z < h.next → g1.get z = h.get z := fun z hz => by rw [hg1]; simp (disch := first | omega | simp only [nx]; omega) only [hpl]
    have hr1 : g1.get (h.next + 1) = some (.cells (fl a) 4) := by rw [hg1]; exact Gq
    have ap1 : ∀ ats A, appT T ats = some A → A.size = 4 → A.bytes ≤ 100 → aAppend T ats (.slice (some ⟨h.next, 0, none⟩) 0 0) (.slice b1 a.length c1) (h.new (.cells (zeros zcs (a.length + b.length)) 4)) = some (.slice (some ⟨h.next + 1, 0, none⟩) (0 + a.length) 0, g1) := fun ats A k1 k2 k3 => by
      have := ap_u (off := 0) (len := 0) (k := a.length) (x := .slice b1 a.length c1) k1 rfl (by rw [k2]; exact ha.cells k0) (by have : (2 * (0 + a.length) + 256) * A.bytes ≤ 2000256 * 100 := Nat.mul_le_mul (by omega) k3; omega) (nb a ea) (by rw [k2]; exact hr) (fl_ones a) (old := []) (by rw [Nat.zero_mul]; rfl)
      rw [k2] at this; rw [hg1]; exact this
    by_cases eb : b = []
    · subst eb
      refine ⟨_, _, concat_w h q a.length 0 b1 b2 c1 c2 _ _ _ _ g1 g1 hla (by omega) hq ((k0 q hql).trans hq) ((k1' q hql).trans hq) (grow_c h (a.length + 0) (by omega) (by omega)) ap1 (fun ats A k1 k2 k3 => ap_none k1 rfl (by rw [k2]; exact hb.cells k1') (.inr ⟨_, _, _, rfl⟩) ?_), ?_, by omega, k1'⟩
      · have : (2 * (0 + a.length + 0) + 256) * A.bytes ≤ 2000256 * 100 := Nat.mul_le_mul (by omega) k3
        exact Nat.le_trans this (by omega)
      · exact .some (by simpa using ea) (by simp) (by omega) (by omega) (by rw [List.append_nil]; exact hr1)
    · refine ⟨_, _, concat_w h q a.length b.length b1 b2 c1 c2 _ _ (.slice (some ⟨h.next + 2, 0, none⟩) (0 + a.length + b.length) 0) _ g1 ((g1.kill (h.next + 1)).new (.cells (fl a ++ fl b) 4)) hla hlb hq ((k0 q hql).trans hq) ((k1' q hql).trans hq) (grow_c h (a.length + b.length) (by omega) (by omega)) ap1 (fun ats A k1 k2 k3 => ?_), ?_, ?_, ?_⟩
      · have := ap_u (off := 0) (len := 0 + a.length) (k := b.length) (x := .slice b2 b.length c2) k1 rfl (by rw [k2]; exact hb.cells k1') (by have : (2 * (0 + a.length + b.length) + 256) * A.bytes ≤ 4000256 * 100 := Nat.mul_le_mul (by omega) k3; omega) (nb b eb) (by rw [k2]; exact hr1) (fl_ones b) (old := fl a) (by rw [k2, Nat.zero_add]; exact cellsOf_all (fl_length a))
        rw [k2, n1] at this; exact this
      · refine .some (by simpa using fun e => absurd e ea) (by simp) (by omega) (by simp [AHeap.kill]; omega) ?_
        rw [fl_app, ← n1]
        exact Gq
      · simp [AHeap.kill]; omega
      · intro z hz
        rw [← k1' z hz]
        simp (disch := first | omega | simp only [nx]; omega) only [hpl]
end Go.Proofs.YtebheelmgcggmaaGreat
namespace Go.Proofs.YtebheelmgcggmaaGreat
open Go.Ab Go.Sort
theorem gcD {f : FuncId} {args : List Value} {h : AHeap} {l : List Rec} {r lo : Nat} {K0 : Value → AHeap → Prop} (hr : r < h.next) (hf : FWp Tryz.prog f args h K0)
    (hk : ∀ u h', K0 u h' → ∃ x, FS h' lo l false u x ∧ (∀ q, x = some q → q = r) ∧ ∀ z, z < h.next → ¬ z = r → h'.get z = h.get z) :
    FWp Tryz.prog f args h fun u g => u = cval false r l ∧ g = h.set r (.cells (fl l) 4) := by
  intro μ args' w hl st
  refine (hf μ args' w hl st).mono ?_
  rintro e w' ⟨u, v', h', μ', rfl, hK, ex, hv⟩
  obtain ⟨x, s, hx, hold⟩ := hk u h' hK
  have s' := s
  cases s with
  | @some r' n c rest hn h1 h2 h3 h4 =>
    obtain rfl := hx r' rfl
    refine ⟨_, v', h.set r' (.cells (fl l) 4), μ', rfl, ⟨rfl, rfl⟩, Ext.rename (μ' := μ') ex (fun r => r) (Nat.le_refl _) (fun _ _ => rfl) (fun q o ho => ?_) (fun _ _ _ _ _ _ h => h), ?_⟩
    · by_cases hq : q = r'
      · subst hq
        rw [AHeap.get_set_same] at ho; cases ho
        exact ⟨hr, .cells (fl l ++ rest) 4, h3, rfl, fun e c g => bo_fl _ _ g⟩
      · rw [Gs (by omega)] at ho
        obtain ⟨k1, e0, c0, i1, i2, i3⟩ := st.live q o ho
        exact ⟨k1, o, by rw [hold q k1 hq]; exact ho, rfl, fun e c g => (g.narrow i3.below).mono (fun _ _ => rfl) (Nat.le_refl _)⟩
    · exact vr_cval (ρ := fun r => r) s' hr (fun q hq => (hx q hq).symm) hv
theorem del_x (h : AHeap) (lo : Nat) (l : List Rec) (v fv : Value) (P : Rec → Bool) (s : OS h lo l v) (hl : l.length ≤ 1000000)
    (ask : ∀ x, x ∈ l → ∀ g, h.next ≤ g.next → (∀ z, z < h.next → (∀ n c, v ≠ .slice (some ⟨z, 0, none⟩) n c) → g.get z = h.get z) → VWp Tryz.prog fv [x.V] g fun u g' => u = .bool (P x) ∧ g' = g) :
    ∃ v' H x, FWp Tryz.prog 53 [v, fv] h (fun u g => u = v' ∧ g = H) ∧ FS H lo (l.filter fun x => !P x) (nilV v) v' x ∧ (∀ r, x = some r → ∃ n c, v = .slice (some ⟨r, 0, none⟩) n c) ∧ H.next = h.next ∧ ∀ z, (∀ n c, v ≠ .slice (some ⟨z, 0, none⟩) n c) → H.get z = h.get z := by
  have hd := del_os h lo l v fv P (fun pre g => h.next ≤ g.next ∧ ∀ z, z < h.next → (∀ n c, v ≠ .slice (some ⟨z, 0, none⟩) n c) → g.get z = h.get z) s hl ⟨Nat.le_refl _, fun _ _ _ => rfl⟩
    (fun r n c er pre g o hJ => ⟨hJ.1, fun z hz hv => by
      have : ¬ r = z := fun e => hv n c (by rw [← e]; exact er)
      rw [Gs (by omega)]; exact hJ.2 z hz hv⟩)
    (fun pre g o hJ => ⟨by have := hJ.1; simp; omega, fun z hz hv => by have := hJ.1; rw [Gn (by omega)]; exact hJ.2 z hz hv⟩)
    (fun pre g hJ => hJ.1)
    (fun pre x post hp g hJ => (ask x (by rw [← hp]; simp) g hJ.1 hJ.2).mono fun u g' ⟨e1, e2⟩ => by subst e2; exact ⟨e1, hJ, fun _ _ _ => rfl⟩)
  have fin : ∀ r n c, v = .slice (some ⟨r, 0, none⟩) n c → lo ≤ r → r < h.next → nilV v = false → ∃ v' H x, FWp Tryz.prog 53 [v, fv] h (fun u g => u = v' ∧ g = H) ∧ FS H lo (l.filter fun x => !P x) (nilV v) v' x ∧ (∀ r, x = some r → ∃ n c, v = .slice (some ⟨r, 0, none⟩) n c) ∧ H.next = h.next ∧ ∀ z, (∀ n c, v ≠ .slice (some ⟨z, 0, none⟩) n c) → H.get z = h.get z := by
    intro r n c er h1 h2 hnv
    rw [hnv] at hd ⊢
    refine ⟨cval false r (l.filter fun x => !P x), h.set r (.cells (fl (l.filter fun x => !P x)) 4), some r, gcD (lo := lo) h2 hd (fun u g hK => ?_), ?_, fun q hq => by cases hq; exact ⟨n, c, er⟩, rfl, fun z hz => ?_⟩
    · obtain ⟨⟨j1, j2⟩, x, fs, gx⟩ := hK
      refine ⟨x, fs, fun q hq => ?_, fun z hz hne => j2 z hz (fun n' c' e => ?_)⟩
      · obtain ⟨n', c', e⟩ := gx q hq
        rw [er] at e; cases e; rfl
      · rw [er] at e; cases e; exact hne rfl
    · exact .some rfl h1 h2 (by rw [AHeap.get_set_same, List.append_nil]) (.inl rfl)
    · have : ¬ r = z := fun e => hz n c (by rw [← e]; exact er)
      rw [Gs (by omega)]
  cases s with
  | nil e =>
    subst e
    refine ⟨.slice none 0 0, h, none, FWp.gcs ⟨fun _ => none, _, .slice0⟩ (hd.mono fun u g hK => ?_), .nil rfl, fun r hr => (by cases hr), rfl, fun _ _ => rfl⟩
    obtain ⟨⟨j1, j2⟩, x, fs, gx⟩ := hK
    refine ⟨?_, fun r o hr ho => by rw [j2 r hr (fun n c e => by cases e)]; exact ho⟩
    cases fs with
    | nil _ => rfl
  | @emp r e h1 h2 h3 => exact fin r _ _ rfl h1 h2 rfl
  | @some r n e hn h1 h2 h3 => exact fin r _ _ rfl h1 h2 rfl
theorem part1_c (h : AHeap) (q : Nat) (p : Lf) (bv dv : Value) (x : Rec) (hq : h.get q = some (LR p bv dv)) (hql : q < h.next) : FWp Tryz.prog 98 [x.V, P0 q] h fun u h' => u = .bool (!insR p.low p.high x.key) ∧ h' = h := by
  have tb98 := And.intro ty25 (And.intro ty27 (ty9))
  refine FWp.gcs (.flat rfl) ?_
  refine W.enter tyOK Tryz.func98 rfl rfl ?_
  simp only [entry]
  refine Wr <| Oa rfl Zx rfl <| Of rfl za rfl rfl <| On ?_
  refine Wr <| Oa rfl (zl (hv := by simp (disch := first | omega | simp only [nx]; omega) only [aLoad, ty25, rowOf, hpl, hq, Value.cells] <;> rfl)) rfl <| Oa rfl (zf (hv := fa_ok (k := 0) ty27 rfl rfl ty9 rfl rfl)) rfl <| Oa rfl (zl (hv := by simp (disch := first | omega | simp only [nx]; omega) only [aLoad, ty9, rowOf, hpl, hq, Value.cells] <;> rfl)) rfl <| OSuf.callD rfl (by simp only [aopnds, lk] <;> rfl) en78 (inside_c _ p bv dv x.key) rfl <| Oa rfl Zt rfl <| Oa rfl za rfl <| On ?_
  refine CWp.ret <| FQ.ret (by simp only [aRet, Tryz.f98, aResults, aResult, lk, Nat.reduceEqDiff, reduceIte] <;> rfl) ?_
  exact ⟨rfl, fun r o hr ho => by simp (disch := first | omega | simp only [nx]; omega) only [hpl]; exact ho⟩
theorem part_c (h : AHeap) (p : Lf) (bv dv : Value) (lo hi : List UInt8) (hb : RS h p.base bv) (hd : RS h p.deltas dv) (hlb : p.base.length ≤ 1000000) (hld : p.deltas.length ≤ 1000000) :
    ∃ nb nd, (nb = true → (partM p lo hi).base = []) ∧ (nd = true → (partM p lo hi).deltas = []) ∧ FWp Tryz.prog 70 [LV p bv dv, encS lo, encS hi] h fun u g => u = LV (partM p lo hi) (cval nb h.next (partM p lo hi).base) (cval nd (h.next + 1) (partM p lo hi).deltas) ∧ g = hand h (partM p lo hi) nb nd := by
  have tb70 := And.intro ty23 (And.intro ty25 (ty9))
  obtain ⟨b1, c1, rfl⟩ := hb.form
  obtain ⟨b2, c2, rfl⟩ := hd.form
  obtain ⟨h2, hh2⟩ : ∃ h2, h2 = (h.new (LR p (.slice b1 p.base.length c1) (.slice b2 p.deltas.length c2))).new (.cells zlf 1) := ⟨_, rfl⟩
  have e2 : h2.next = h.next + 2 := by rw [hh2]; rfl
  have k2 : ∀ z, z < h.next → h2.get z = h.get z := fun z hz => by rw [hh2]; simp (disch := first | omega | simp only [nx]; omega) only [hpl]
  obtain ⟨bv', dv', H1, m, w, ob, od, hsep, hnil, hm1, hm2, hk⟩ := own_c h2 p _ _ (hb.mono (by omega) k2) (hd.mono (by omega) k2) hlb hld
  rw [e2] at ob hm1 hk
  have q0 : H1.get h.next = some (LR p (.slice b1 p.base.length c1) (.slice b2 p.deltas.length c2)) := by rw [hk _ (by omega), hh2]; simp (disch := first | omega | simp only [nx]; omega) only [hpl]
  have q1 : H1.get (h.next + 1) = some (.cells zlf 1) := by rw [hk _ (by omega), hh2]; simp (disch := first | omega | simp only [nx]; omega) only [hpl]
  have kk : ∀ z, z < h.next → H1.get z = h.get z := fun z hz => by rw [hk z (by omega)]; exact k2 z hz
  obtain ⟨x1, y1, rfl⟩ := ob.form
  obtain ⟨x2, y2, rfl⟩ := od.form
  obtain ⟨H2, hH2⟩ : ∃ H2, H2 = H1.new (LR { p with low := lo, high := hi } (.slice x1 p.base.length y1) (.slice x2 p.deltas.length y2)) := ⟨_, rfl⟩
  have nH2 : H2.next = H1.next + 1 := by rw [hH2]; rfl
  have kH2 : ∀ z, z < H1.next → H2.get z = H1.get z := fun z hz => by rw [hH2]; exact Gn (by omega)
  have g2 : H2.get H1.next = some (LR { p with low := lo, high := hi } (.slice x1 p.base.length y1) (.slice x2 p.deltas.length y2)) := by rw [hH2]; exact Gq
  have hkeep : (fun x : Rec => !(!insR lo hi x.key)) = fun r => insR lo hi r.key := by funext x; rw [Bool.not_not]
  have nb1 : ∀ z, H1.next ≤ z → ∀ n c, Value.slice x1 p.base.length y1 ≠ .slice (some ⟨z, 0, none⟩) n c := fun z hz n c e => by
    rw [e] at ob
    have := ob.row; omega
  have nd1 : ∀ z, H1.next ≤ z → ∀ n c, Value.slice x2 p.deltas.length y2 ≠ .slice (some ⟨z, 0, none⟩) n c := fun z hz n c e => by
    rw [e] at od
    have := od.row; omega
  obtain ⟨v1, H3, xb, w1, f1, gx1, n3, k3⟩ := del_x H2 (h.next + 2) p.base (.slice x1 p.base.length y1) (.func (.func 98) #[] #[P0 H1.next]) (fun x => !insR lo hi x.key) (ob.mono (by omega) (fun z _ hz => kH2 z hz)) hlb
    (fun x hx g hn hg => cl_v en98 (part1_c g H1.next { p with low := lo, high := hi } _ _ x (by rw [hg _ (by omega) (nb1 _ (Nat.le_refl _))]; exact g2) (by omega)))
  rw [hkeep] at f1
  have g3 : H3.get H1.next = some (LR { p with low := lo, high := hi } (.slice x1 p.base.length y1) (.slice x2 p.deltas.length y2)) := by rw [k3 _ (nb1 _ (Nat.le_refl _))]; exact g2
  have od3 : OS H3 m p.deltas (.slice x2 p.deltas.length y2) := (od.mono (h' := H2) (by omega) (fun z _ hz => kH2 z hz)).mono (by omega) (fun z hz _ => k3 z (fun n c e => by have := hsep z c n e; omega))
  obtain ⟨v2, H4, xd, w2, f2, gx2, n4, k4⟩ := del_x H3 m p.deltas (.slice x2 p.deltas.length y2) (.func (.func 98) #[] #[P0 H1.next]) (fun x => !insR lo hi x.key) od3 hld
    (fun x hx g hn hg => cl_v en98 (part1_c g H1.next { p with low := lo, high := hi } _ _ x (by rw [hg _ (by omega) (nd1 _ (Nat.le_refl _))]; exact g3) (by omega)))
  rw [hkeep] at f2
  have g4 : H4.get H1.next = some (LR { p with low := lo, high := hi } (.slice x1 p.base.length y1) (.slice x2 p.deltas.length y2)) := by rw [k4 _ (nd1 _ (Nat.le_refl _))]; exact g3
  have hxm : ∀ r, xb = some r → r < m := fun r hr => by obtain ⟨n, c, g1⟩ := gx1 r hr; exact hsep r c n g1
  have f1' : FS H4 (h.next + 2) (partM p lo hi).base (nilV (.slice x1 p.base.length y1)) v1 xb := f1.keep (Nat.le_refl _) (by omega) (fun r hr hr2 => k4 r (fun n c e => by
    have := hxm r hr
    rw [e] at od
    have := od.row; omega))
  rw [hH2] at w1
  obtain ⟨ub, uc, rfl⟩ := f1.form
  obtain ⟨vb, vc, rfl⟩ := f2.form
  have q14 : H4.get (h.next + 1) = some (.cells zlf 1) := by
    rw [k4 _ (fun n c e => by rw [e] at od; have := od.row; omega), k3 _ (fun n c e => by rw [e] at ob; have := ob.row; omega), kH2 _ (by omega)]; exact q1
  have old : ∀ z, z < h.next → H4.get z = h.get z := fun z hz => by
    rw [k4 _ (fun n c e => by rw [e] at od; have := od.row; omega), k3 _ (fun n c e => by rw [e] at ob; have := ob.row; omega), kH2 _ (by omega)]; exact kk z hz
  refine ⟨_, _, f1'.empty, f2.empty, gcL (K0 := fun u g => u = LV (partM p lo hi) (.slice ub (p.base.filter fun r => insR lo hi r.key).length uc) (.slice vb (p.deltas.filter fun r => insR lo hi r.key).length vc) ∧ H4.next ≤ g.next ∧ ∀ z, z < H4.next → ¬ z = H1.next → ¬ z = h.next + 1 → g.get z = H4.get z) ?_ ?_⟩
  · refine W.enter tyOK Tryz.func70 rfl rfl ?_
    simp only [entry]
    refine Wr <| Oa rfl Zx rfl <| Oa rfl (so_alloc (by simp only [aAlloc, ty25] <;> rfl)) rfl <| On ?_
    refine Wr <| Oa rfl (zl (hv := by simp (disch := first | omega | simp only [nx]; omega) only [aLoad, ty25, rowOf, hpl, q0, g2, g3, g4, q14, rcl, Value.cells] <;> rfl)) rfl <| OSuf.callD rfl (by simp only [aopnds, lk] <;> rfl) en36 ((by rw [hh2] at w; exact w)) rfl <| Oa rfl (so_alloc (by simp only [aAlloc, ty25] <;> rfl)) rfl <| Oa rfl (zs (hv := by simp (disch := first | omega | simp only [nx]; omega) only [aStore, ty25, writeRow, hpl, q0, g2, g3, g4, q14, rcl, Value.cells] <;> rfl)) rfl <| On ?_
    refine Wr <| Oa rfl sm rfl <| Oa rfl sm rfl <| Oa rfl (zf (hv := fa_ok (k := 0) ty25 rfl rfl ty9 rfl rfl)) rfl <| Oa rfl (zs (hv := by simp (disch := first | omega | simp only [nx]; omega) only [aStore, ty9, writeRow, hpl, q0, g2, g3, g4, q14, rcl, Value.cells] <;> rfl)) rfl <| Oa rfl (zf (hv := fa_ok (k := 1) ty25 rfl rfl ty9 rfl rfl)) rfl <| Oa rfl (zs (hv := by simp (disch := first | omega | simp only [nx]; omega) only [aStore, ty9, writeRow, hpl, q0, g2, g3, g4, q14, rcl, Value.cells] <;> rfl)) rfl <| On ?_
    refine Wr <| Oa rfl (so_makeFunc rfl (by simp only [aopnds, lk] <;> rfl) (by simp only [aopnds, lk] <;> rfl)) rfl <| Oa rfl za rfl <| On ?_
    refine W.seq <| CWp.sqd tyOK mixed (ms := [0, 1, 0, 7, 0, 16, 0, 127, 63, 511, 1023, 2047]) (by kernel_rfl) (
        .free rfl rfl (zf (hv := fa_ok (k := 3) ty25 rfl rfl ty23 rfl rfl)) rfl <| .read rfl rfl (zl (hv := by simp (disch := first | omega | simp only [nx]; omega) only [aLoad, ty23, rowOf, hpl, q0, g2, g3, g4, q14, rcl, Value.cells] <;> rfl)) (by first | rfl | (simp [veq, veq1, veqs]; done) | (simp [veq, veq1, veqs, splice]; done)) trivial rfl <| .free rfl rfl sm rfl <| .call rfl rfl (fcallO (by simp only [aopnds, lk] <;> rfl) en53 (w1)) rfl ⟨.inl rfl, trivial⟩ rfl <| .free rfl rfl (zf (hv := fa_ok (k := 4) ty25 rfl rfl ty23 rfl rfl)) rfl <| .read rfl rfl (zl (hv := by simp (disch := first | omega | simp only [nx]; omega) only [aLoad, ty23, rowOf, hpl, q0, g2, g3, g4, q14, rcl, Value.cells] <;> rfl)) (by first | rfl | (simp [veq, veq1, veqs]; done) | (simp [veq, veq1, veqs, splice]; done)) ⟨.inr (zl (hv := by simp (disch := first | omega | simp only [nx]; omega) only [aLoad, ty23, rowOf, hpl, q0, g2, g3, g4, q14, rcl, Value.cells] <;> rfl)), trivial⟩ rfl <| .free rfl rfl sm rfl <| .call rfl rfl (fcallO (by simp only [aopnds, lk] <;> rfl) en53 (w2)) rfl ⟨.inl rfl, .inl rfl, trivial⟩ rfl <| .free rfl rfl (zf (hv := fa_ok (k := 3) ty25 rfl rfl ty23 rfl rfl)) rfl <| .change rfl rfl (zs (hv := by simp (disch := first | omega | simp only [nx]; omega) only [aStore, ty23, writeRow, hpl, q0, g2, g3, g4, q14, rcl, Value.cells] <;> rfl)) rfl ⟨.inl rfl, .inl rfl, trivial⟩ rfl <| .free rfl rfl (zf (hv := fa_ok (k := 4) ty25 rfl rfl ty23 rfl rfl)) rfl <| .change rfl rfl (zs (hv := by simp (disch := first | omega | simp only [nx]; omega) only [aStore, ty23, writeRow, hpl, q0, g2, g3, g4, q14, rcl, Value.cells] <;> rfl)) rfl ⟨.inl rfl, .inl rfl, trivial⟩ rfl <| .nil) <| SQ.normal ?_
    refine Wr <| Oa rfl (zl (hv := by simp (disch := first | omega | simp only [nx]; omega) only [aLoad, ty25, rowOf, hpl, q0, g2, g3, g4, q14, rcl, Value.cells] <;> rfl)) rfl <| Oa rfl (zs (hv := by simp (disch := first | omega | simp only [nx]; omega) only [aStore, ty25, writeRow, hpl, q0, g2, g3, g4, q14, rcl, Value.cells] <;> rfl)) rfl <| On ?_
    refine CWp.ret <| FQ.ret (by simp (disch := first | omega | simp only [nx]; omega) only [aRet, Tryz.f70, aResults, aResult, lk, Nat.reduceEqDiff, reduceIte, aLoad, rowOf, hpl, q0, g2, g3, g4, q14, rcl, Value.cells, places, tb70] <;> rfl) ?_
    exact ⟨rfl, by simp only [nx]; omega, fun z h1 h2 h3 => by simp (disch := first | omega | simp only [nx]; omega) only [hpl]⟩
  · rintro u g ⟨rfl, hn, hg⟩
    exact ⟨_, _, xb, xd, rfl, f1'.keep (by omega) hn (fun r hr hr2 => hg r hr2 (by have := hxm r hr; omega) (by have := (f1'.lo hr).1; omega)), f2.keep (by omega) hn (fun r hr hr2 => hg r hr2 (fun e => by
      obtain ⟨n, c, e2⟩ := gx2 r hr
      exact nd1 r (by omega) n c e2) (by have := (f2.lo hr).1; omega)), fun r hr hr2 => by have := hxm r hr; have := (f2.lo hr2).1; omega, fun z hz => by rw [hg z (by omega) (by omega) (by omega)]; exact old z hz⟩
end Go.Proofs.YtebheelmgcggmaaGreat
namespace Go.Proofs.YtebheelmgcggmaaGreat
open Go.Ab Go.Sort
structure LVs (g : AHeap) (lo : Nat) (p : Lf) (v : Value) : Prop where
  ex : ∃ b c b' c', v = LV p (.slice b p.base.length c) (.slice b' p.deltas.length c') ∧ RSl g lo p.base (.slice b p.base.length c) ∧ RSl g lo p.deltas (.slice b' p.deltas.length c')
theorem LVs.mono {g g' : AHeap} {lo lo' : Nat} {p : Lf} {v : Value} (l : LVs g lo p v) (hl : lo' ≤ lo) (hn : g.next ≤ g'.next) (hk : ∀ z, lo ≤ z → z < g.next → g'.get z = g.get z) : LVs g' lo' p v := by
  obtain ⟨b, c, b', c', e, l1, l2⟩ := l.ex
  exact ⟨b, c, b', c', e, l1.mono hl hn hk, l2.mono hl hn hk⟩
abbrev LV0 : Value := LV ⟨[], [], 0, [], []⟩ (.slice none 0 0) (.slice none 0 0)
theorem split_c (h : AHeap) (p : Lf) (bv dv : Value) (hb : RS h p.base bv) (hd : RS h p.deltas dv) (hlb : p.base.length ≤ 1000000) (hld : p.deltas.length ≤ 1000000) (hK : (keysM p).length ≤ 1000000) :
    FWp Tryz.prog 30 [LV p bv dv] h fun u g => h.next ≤ g.next ∧ (∀ z, z < h.next → g.get z = h.get z) ∧
      (((keysM p).length < 2 ∧ u = .tuple #[LV0, LV0, .bool false]) ∨
       ∃ s va vb, 2 ≤ (keysM p).length ∧ (keysM p)[((keysM p).length + 1) / 2]? = some s ∧ u = .tuple #[va, vb, .bool true] ∧ LVs g h.next (partM p p.low s) va ∧ LVs g h.next (partM p s p.high) vb) := by
  have tb30 := And.intro ty25 (And.intro ty37 (ty9))
  obtain ⟨b1, c1, rfl⟩ := hb.form
  obtain ⟨b2, c2, rfl⟩ := hd.form
  obtain ⟨h3, hh3⟩ : ∃ h3, h3 = ((h.new (LR p (.slice b1 p.base.length c1) (.slice b2 p.deltas.length c2))).new (.cells zlf 1)).new (.cells zlf 1) := ⟨_, rfl⟩
  have e3 : h3.next = h.next + 3 := by rw [hh3]; rfl
  have k3 : ∀ z, z < h.next → h3.get z = h.get z := fun z hz => by rw [hh3]; simp (disch := first | omega | simp only [nx]; omega) only [hpl]
  have hkc := keys_c h3 p _ _ (hb.mono (by omega) k3) (hd.mono (by omega) k3) hlb hld hK
  by_cases c0 : keysM p = []
  · simp only [kval, kheap, if_pos c0] at hkc
    refine W.enter tyOK Tryz.func30 rfl rfl ?_
    simp only [entry]
    refine Wr <| Oa rfl Zx rfl <| Oa rfl (so_alloc (by simp only [aAlloc, ty25] <;> rfl)) rfl <| Oa rfl (so_alloc (by simp only [aAlloc, ty25] <;> rfl)) rfl <| Of rfl za rfl rfl <| On ?_
    refine Wr <| Oa rfl (zl (hv := by simp (disch := first | omega | simp only [nx]; omega) only [aLoad, ty25, rowOf, hpl, rcl, Value.cells] <;> rfl)) rfl <| OSuf.callD rfl (by simp only [aopnds, lk] <;> rfl) en17 ((by rw [hh3] at hkc; exact hkc)) rfl <| Oa rfl za rfl <| On ?_
    refine W.seq <| Wr <| Oa rfl sm rfl <| Oa rfl (Zn (hv := by simp (disch := first | omega | simp only [nx]; omega) only [aLenOf, ty37, hpl, rcl, Value.cells, places, tb30] <;> rfl)) rfl <| Ot rfl (zb (hv := bi_lss)) rfl (by first | rfl | assumption | ((simp only [bl, rcl, Value.cells, places, tb30]) <;> first | done | assumption | omega) | (simp; done) | (simp; omega)) <| On ?_
    refine Wy <| W.seq <| CWp.sqd tyOK mixed (ms := [0, 0, 1, 7, 15]) (by kernel_rfl) (
        .read rfl rfl (zl (hv := by simp (disch := first | omega | simp only [nx]; omega) only [aLoad, ty25, rowOf, hpl, rcl, Value.cells] <;> rfl)) (by first | rfl | (simp [veq, veq1, veqs]; done) | (simp [veq, veq1, veqs, splice]; done)) trivial rfl <| .read rfl rfl (zl (hv := by simp (disch := first | omega | simp only [nx]; omega) only [aLoad, ty25, rowOf, hpl, rcl, Value.cells] <;> rfl)) (by first | rfl | (simp [veq, veq1, veqs]; done) | (simp [veq, veq1, veqs, splice]; done)) trivial rfl <| .change rfl rfl (zs (hv := by simp (disch := first | omega | simp only [nx]; omega) only [aStore, ty25, writeRow, hpl, rcl, Value.cells] <;> rfl)) rfl ⟨.inr (zl (hv := by simp (disch := first | omega | simp only [nx]; omega) only [aLoad, ty25, rowOf, hpl, rcl, Value.cells] <;> rfl)), .inl rfl, trivial⟩ rfl <| .change rfl rfl (zs (hv := by simp (disch := first | omega | simp only [nx]; omega) only [aStore, ty25, writeRow, hpl, rcl, Value.cells] <;> rfl)) rfl ⟨.inl rfl, .inl rfl, trivial⟩ rfl <| .free rfl rfl za rfl <| .nil) <| SQ.normal ?_
    refine CWp.ret <| SQ.ret <| FQ.ret (by simp (disch := first | omega | simp only [nx]; omega) only [aRet, Tryz.f30, aResults, aResult, lk, Nat.reduceEqDiff, reduceIte, aLoad, rowOf, hpl, rcl, Value.cells, places, tb30] <;> rfl) ?_
    exact ⟨by simp only [nx]; omega, fun z hz => by simp (disch := first | omega | simp only [nx]; omega) only [hpl], .inl ⟨by rw [c0]; simp, rfl⟩⟩
  simp only [kval, kheap, if_neg c0] at hkc
  by_cases kc1 : (keysM p).length < 2
  · refine W.enter tyOK Tryz.func30 rfl rfl ?_
    simp only [entry]
    refine Wr <| Oa rfl Zx rfl <| Oa rfl (so_alloc (by simp only [aAlloc, ty25] <;> rfl)) rfl <| Oa rfl (so_alloc (by simp only [aAlloc, ty25] <;> rfl)) rfl <| Of rfl za rfl rfl <| On ?_
    refine Wr <| Oa rfl (zl (hv := by simp (disch := first | omega | simp only [nx]; omega) only [aLoad, ty25, rowOf, hpl, rcl, Value.cells] <;> rfl)) rfl <| OSuf.callD rfl (by simp only [aopnds, lk] <;> rfl) en17 ((by rw [hh3] at hkc; exact hkc)) rfl <| Oa rfl za rfl <| On ?_
    refine W.seq <| Wr <| Oa rfl sm rfl <| Oa rfl (Zn (hv := by simp (disch := first | omega | simp only [nx]; omega) only [aLenOf, ty37, hpl, rcl, Value.cells, places, tb30] <;> rfl)) rfl <| Ot rfl (zb (hv := bi_lss)) rfl (by first | rfl | assumption | ((simp only [bl, rcl, Value.cells, places, tb30]) <;> first | done | assumption | omega) | (simp; done) | (simp; omega)) <| On ?_
    refine Wy <| W.seq <| CWp.sqd tyOK mixed (ms := [0, 0, 1, 7, 15]) (by kernel_rfl) (
        .read rfl rfl (zl (hv := by simp (disch := first | omega | simp only [nx]; omega) only [aLoad, ty25, rowOf, hpl, rcl, Value.cells] <;> rfl)) (by first | rfl | (simp [veq, veq1, veqs]; done) | (simp [veq, veq1, veqs, splice]; done)) trivial rfl <| .read rfl rfl (zl (hv := by simp (disch := first | omega | simp only [nx]; omega) only [aLoad, ty25, rowOf, hpl, rcl, Value.cells] <;> rfl)) (by first | rfl | (simp [veq, veq1, veqs]; done) | (simp [veq, veq1, veqs, splice]; done)) trivial rfl <| .change rfl rfl (zs (hv := by simp (disch := first | omega | simp only [nx]; omega) only [aStore, ty25, writeRow, hpl, rcl, Value.cells] <;> rfl)) rfl ⟨.inr (zl (hv := by simp (disch := first | omega | simp only [nx]; omega) only [aLoad, ty25, rowOf, hpl, rcl, Value.cells] <;> rfl)), .inl rfl, trivial⟩ rfl <| .change rfl rfl (zs (hv := by simp (disch := first | omega | simp only [nx]; omega) only [aStore, ty25, writeRow, hpl, rcl, Value.cells] <;> rfl)) rfl ⟨.inl rfl, .inl rfl, trivial⟩ rfl <| .free rfl rfl za rfl <| .nil) <| SQ.normal ?_
    refine CWp.ret <| SQ.ret <| FQ.ret (by simp (disch := first | omega | simp only [nx]; omega) only [aRet, Tryz.f30, aResults, aResult, lk, Nat.reduceEqDiff, reduceIte, aLoad, rowOf, hpl, rcl, Value.cells, places, tb30] <;> rfl) ?_
    exact ⟨by simp only [nx]; omega, fun z hz => by simp (disch := first | omega | simp only [nx]; omega) only [hpl], .inl ⟨kc1, rfl⟩⟩
  obtain ⟨n, hn⟩ : ∃ n, n = (keysM p).length := ⟨_, rfl⟩
  obtain ⟨s, hs⟩ : ∃ s, (keysM p)[((keysM p).length + 1) / 2]? = some s := ⟨(keysM p)[((keysM p).length + 1) / 2]'(by omega), by simp⟩
  obtain ⟨i, hi⟩ : ∃ i, i = ((keysM p).length + 1) / 2 := ⟨_, rfl⟩
  obtain ⟨g1, hg1⟩ : ∃ g1, g1 = h3.new (.cells ((keysM p).map encS) 1) := ⟨_, rfl⟩
  have n1 : g1.next = h.next + 4 := by rw [hg1]; simp; omega
  have kg1 : ∀ z, z < h3.next → g1.get z = h3.get z := fun z hz => by rw [hg1]; exact Gn (by omega)
  have r1 : g1.get h.next = some (LR p (.slice b1 p.base.length c1) (.slice b2 p.deltas.length c2)) := by rw [kg1 _ (by omega), hh3]; simp (disch := first | omega | simp only [nx]; omega) only [hpl]
  have r2 : g1.get (h.next + 1) = some (.cells zlf 1) := by rw [kg1 _ (by omega), hh3]; simp (disch := first | omega | simp only [nx]; omega) only [hpl]
  have r3 : g1.get (h.next + 2) = some (.cells zlf 1) := by rw [kg1 _ (by omega), hh3]; simp (disch := first | omega | simp only [nx]; omega) only [hpl]
  have old1 : ∀ z, z < h.next → g1.get z = h.get z := fun z hz => by rw [kg1 _ (by omega)]; exact k3 z hz
  have l1 : ∀ t ti, T.get t = some ti → ti.agg = false → aLoad T t (PA h3.next i) g1 = some (encS s) := fun t ti ht ha => by
    have e4 : rowOf g1 h3.next = some ((keysM p).map encS) := by simp only [rowOf, hg1, AHeap.get_new_same]
    have e5 : ((keysM p).map encS)[i]? = some (encS s) := by rw [List.getElem?_map, hi, hs]; rfl
    simp only [aLoad, ht, e4, ha, cond_false, e5]
  obtain ⟨nb1, nd1, z1, z2, wa⟩ := part_c g1 p _ _ p.low s (hb.mono (by omega) old1) (hd.mono (by omega) old1) hlb hld
  obtain ⟨g2, hg2⟩ : ∃ g2, g2 = hand g1 (partM p p.low s) nb1 nd1 := ⟨_, rfl⟩
  have n2 : g2.next = h.next + 6 := by rw [hg2, hand_next]; omega
  have kg2 : ∀ z, z < g1.next → g2.get z = g1.get z := fun z hz => by rw [hg2]; exact hand_old _ _ _ _ _ hz
  obtain ⟨s1, s2⟩ := hand_rsl (h := g1) z1 z2
  rw [← hg2] at s1 s2 wa
  obtain ⟨nb2, nd2, z3, z4, wb⟩ := part_c g2 p _ _ s p.high (hb.mono (by omega) (fun z hz => by rw [kg2 z (by omega)]; exact old1 z hz)) (hd.mono (by omega) (fun z hz => by rw [kg2 z (by omega)]; exact old1 z hz)) hlb hld
  obtain ⟨g3, hg3⟩ : ∃ g3, g3 = hand g2 (partM p s p.high) nb2 nd2 := ⟨_, rfl⟩
  have n3 : g3.next = h.next + 8 := by rw [hg3, hand_next]; omega
  have kg3 : ∀ z, z < g2.next → g3.get z = g2.get z := fun z hz => by rw [hg3]; exact hand_old _ _ _ _ _ hz
  obtain ⟨s3, s4⟩ := hand_rsl (h := g2) z3 z4
  rw [← hg3] at s3 s4 wb
  obtain ⟨x1, y1, f1⟩ := s1.rs.form
  obtain ⟨x2, y2, f2⟩ := s2.rs.form
  obtain ⟨x3, y3, f3⟩ := s3.rs.form
  obtain ⟨x4, y4, f4⟩ := s4.rs.form
  rw [f1] at wa s1
  rw [f2] at wa s2
  rw [f3] at wb s3
  rw [f4] at wb s4
  have r12 : g2.get h.next = some (LR p (.slice b1 p.base.length c1) (.slice b2 p.deltas.length c2)) := by rw [kg2 _ (by omega)]; exact r1
  have r23 : g3.get (h.next + 1) = some (.cells zlf 1) := by rw [kg3 _ (by omega), kg2 _ (by omega)]; exact r2
  have r33 : g3.get (h.next + 2) = some (.cells zlf 1) := by rw [kg3 _ (by omega), kg2 _ (by omega)]; exact r3
  have old3 : ∀ z, z < h.next → g3.get z = h.get z := fun z hz => by rw [kg3 _ (by omega), kg2 _ (by omega)]; exact old1 z hz
  have kc2 : ¬ (((keysM p).length : Nat) : Int) < 2 := by omega
  have w1 : IntKind.i64.wrap ((((keysM p).length : Nat) : Int) + 1) = (((keysM p).length + 1 : Nat) : Int) := by rw [wrap_i64 (by omega) (by omega)]; omega
  have w2 : IntKind.i64.wrap ((((keysM p).length + 1 : Nat) : Int).tdiv 2) = (i : Int) := by
    rw [Int.tdiv_eq_ediv_of_nonneg (by omega), wrap_i64 (by omega) (by omega)]; omega
  have hidx : (0 ≤ (i : Int) ∧ (i : Int) < (((keysM p).length : Nat) : Int)) := by omega
  rw [hh3] at hkc
  refine W.enter tyOK Tryz.func30 rfl rfl ?_
  simp only [entry]
  refine Wr <| Oa rfl Zx rfl <| Oa rfl (so_alloc (by simp only [aAlloc, ty25] <;> rfl)) rfl <| Oa rfl (so_alloc (by simp only [aAlloc, ty25] <;> rfl)) rfl <| Of rfl za rfl rfl <| On ?_
  refine Wr <| Oa rfl (zl (hv := by simp (disch := first | omega | simp only [nx]; omega) only [aLoad, ty25, rowOf, hpl, r1, r12, r23, r33, hidx, sb, rcl, Value.cells] <;> rfl)) rfl <| OSuf.callD rfl (by simp only [aopnds, lk] <;> rfl) en17 (hkc) rfl <| Oa rfl za rfl <| On ?_
  refine W.seq <| Wr <| Oa rfl sm rfl <| Oa rfl (Zn (hv := by simp (disch := first | omega | simp only [nx]; omega) only [aLenOf, ty37, hpl, r1, r12, r23, r33, hidx, sb, rcl, Value.cells, places, tb30] <;> rfl)) rfl <| Of rfl (zb (hv := bi_lss)) rfl (by first | rfl | assumption | ((simp only [bl, r1, r12, r23, r33, hidx, sb, rcl, Value.cells, places, tb30]) <;> first | done | assumption | omega) | (simp; done) | (simp; omega)) <| On ?_
  refine Wn <| CWp.skip <| SQ.normal ?_
  refine Wr <| Oa rfl sm rfl <| Oa rfl sm rfl <| Oa rfl (Zn (hv := by simp (disch := first | omega | simp only [nx]; omega) only [aLenOf, ty37, hpl, r1, r12, r23, r33, hidx, sb, rcl, Value.cells, places, tb30] <;> rfl)) rfl <| Oa rfl (zb (hv := bi_w bi_add (by first | (simp only [w1, w2] <;> rfl) | rfl))) rfl <| Oa rfl (zb (hv := bi_w (bi_quo (by decide)) (by first | (simp only [w1, w2] <;> rfl) | rfl))) rfl <| Oa rfl (zi (hv := by simp (disch := first | omega | simp only [nx]; omega) only [aIndexAddr, ty37, ty9, hpl, r1, r12, r23, r33, hidx, sb, rcl, Value.cells, places, tb30] <;> rfl)) rfl <| Oa rfl (zl (hv := (by rw [hg1, hh3] at l1; exact l1 _ _ ty9 rfl))) rfl <| Oa rfl za rfl <| On ?_
  refine W.seq <| CWp.sqd tyOK mixed (ms := [0, 0, 2, 0, 15, 0, 0, 0, 128, 511, 1023, 2047, 4095]) (by kernel_rfl) (
      .read rfl rfl (zl (hv := by simp (disch := first | omega | simp only [nx]; omega) only [aLoad, ty25, rowOf, hpl, r1, r12, r23, r33, hidx, sb, rcl, Value.cells] <;> rfl)) (by first | rfl | (simp [veq, veq1, veqs]; done) | (simp [veq, veq1, veqs, splice]; done)) trivial rfl <| .free rfl rfl (zf (hv := fa_ok (k := 0) ty25 rfl rfl ty9 rfl rfl)) rfl <| .read rfl rfl (zl (hv := by simp (disch := first | omega | simp only [nx]; omega) only [aLoad, ty9, rowOf, hpl, r1, r12, r23, r33, hidx, sb, rcl, Value.cells] <;> rfl)) (by first | rfl | (simp [veq, veq1, veqs]; done) | (simp [veq, veq1, veqs, splice]; done)) trivial rfl <| .free rfl rfl sm rfl <| .call rfl rfl (fcallO (by simp only [aopnds, lk] <;> rfl) en70 ((by rw [hg1, hh3] at wa; exact wa))) rfl ⟨.inl rfl, .inl rfl, trivial⟩ rfl <| .read rfl rfl (zl (hv := by simp (disch := first | omega | simp only [nx]; omega) only [aLoad, ty25, rowOf, hpl, r1, r12, r23, r33, hidx, sb, rcl, Value.cells] <;> rfl)) (by first | rfl | (simp [veq, veq1, veqs]; done) | (simp [veq, veq1, veqs, splice]; done)) ⟨.inr (zl (hv := by simp (disch := first | omega | simp only [nx]; omega) only [aLoad, ty25, rowOf, hpl, r1, r12, r23, r33, hidx, sb, rcl, Value.cells] <;> rfl)), trivial⟩ rfl <| .free rfl rfl sm rfl <| .free rfl rfl (zf (hv := fa_ok (k := 1) ty25 rfl rfl ty9 rfl rfl)) rfl <| .read rfl rfl (zl (hv := by simp (disch := first | omega | simp only [nx]; omega) only [aLoad, ty9, rowOf, hpl, r1, r12, r23, r33, hidx, sb, rcl, Value.cells] <;> rfl)) (by first | rfl | (simp [veq, veq1, veqs]; done) | (simp [veq, veq1, veqs, splice]; done)) ⟨.inr (zl (hv := by simp (disch := first | omega | simp only [nx]; omega) only [aLoad, ty9, rowOf, hpl, r1, r12, r23, r33, hidx, sb, rcl, Value.cells] <;> rfl)), trivial⟩ rfl <| .call rfl rfl (fcallO (by simp only [aopnds, lk] <;> rfl) en70 (wb)) rfl ⟨.inl rfl, .inl rfl, .inl rfl, .inl rfl, trivial⟩ rfl <| .change rfl rfl (zs (hv := by simp (disch := first | omega | simp only [nx]; omega) only [aStore, ty25, writeRow, hpl, r1, r12, r23, r33, hidx, sb, rcl, Value.cells] <;> rfl)) rfl ⟨.inl rfl, .inl rfl, .inl rfl, .inl rfl, trivial⟩ rfl <| .change rfl rfl (zs (hv := by simp (disch := first | omega | simp only [nx]; omega) only [aStore, ty25, writeRow, hpl, r1, r12, r23, r33, hidx, sb, rcl, Value.cells] <;> rfl)) rfl ⟨.inl rfl, .inl rfl, .inl rfl, .inl rfl, trivial⟩ rfl <| .free rfl rfl za rfl <| .nil) <| SQ.normal ?_
  refine CWp.ret <| FQ.ret (by simp (disch := first | omega | simp only [nx]; omega) only [aRet, Tryz.f30, aResults, aResult, lk, Nat.reduceEqDiff, reduceIte, aLoad, rowOf, hpl, r1, r12, r23, r33, hidx, sb, rcl, Value.cells, places, tb30] <;> rfl) ?_
  refine ⟨by simp only [nx]; omega, fun z hz => by simp (disch := first | omega | simp only [nx]; omega) only [hpl]; exact old3 z hz, .inr ⟨s, _, _, by omega, hs, rfl, ⟨_, _, _, _, rfl, ?_, ?_⟩, ⟨_, _, _, _, rfl, ?_, ?_⟩⟩⟩
  · exact s1.mono (by omega) (by simp only [nx]; omega) (fun z h1 h2 => by simp (disch := first | omega | simp only [nx]; omega) only [hpl]; exact kg3 z h2)
  · exact s2.mono (by omega) (by simp only [nx]; omega) (fun z h1 h2 => by simp (disch := first | omega | simp only [nx]; omega) only [hpl]; exact kg3 z h2)
  · exact s3.mono (by omega) (by simp only [nx]; omega) (fun z h1 h2 => by simp (disch := first | omega | simp only [nx]; omega) only [hpl])
  · exact s4.mono (by omega) (by simp only [nx]; omega) (fun z h1 h2 => by simp (disch := first | omega | simp only [nx]; omega) only [hpl])
end Go.Proofs.YtebheelmgcggmaaGreat
namespace Go.Proofs.YtebheelmgcggmaaGreat
open Go.Ab Go.Sort
theorem ins0_c (h : AHeap) (b : Option Addr) (c : Nat) : FWp Tryz.prog 105 [.slice b 0 c, I64 0, I64 0, SortJ.CF] h fun u h' => u = .tuple #[] ∧ h' = h := by
  refine W.enter tyOK Tryz.func105 rfl rfl ?_
  simp only [entry]
  have w0 : IntKind.i64.wrap ((0 : Int) + 1) = 1 := rfl
  refine Wr <| Oa rfl sm rfl <| Oa rfl (zb (hv := bi_w bi_add (by first | (simp only [w0] <;> rfl) | rfl))) rfl <| Oa rfl za rfl <| On ?_
  refine W.block (W.loop (fun n L h' => n = 0 ∧ h' = h ∧ L = [(0, .slice b 0 c), (1, I64 0), (2, I64 0), (3, SortJ.CF), (8, I64 1)]) (n := 0) ⟨rfl, rfl, rfl⟩ ?_ ?_)
  · simp [HasA, Tr.get_put, w0]
  · rintro n L h1 ⟨rfl, rfl, rfl⟩
    simp only [mkA]
    have hlt : ¬ (1 : Int) < 0 := by omega
    refine W.seq <| Wr <| Oa rfl sm rfl <| Oa rfl sm rfl <| Ofb rfl (zb (hv := bi_lss)) rfl <| On ?_
    refine Wn <| CWp.exit <| SQ.exit <| LQ.exit <| BQ.exit <| FQ.normal (by simp only [aRet, Tryz.f105, aResults, aResult, lk, Nat.reduceEqDiff, reduceIte] <;> rfl) ?_
    exact ⟨rfl, rfl⟩
theorem stable0_c (h : AHeap) (b : Option Addr) (c : Nat) : FWp Tryz.prog 100 [.slice b 0 c, I64 0, SortJ.CF] h fun u h' => u = .tuple #[] ∧ h' = h := by
  refine W.enter tyOK Tryz.func100 rfl rfl ?_
  simp only [entry]
  refine Wr <| Oa rfl za rfl <| On ?_
  refine Wr <| Oa rfl sm rfl <| Oa rfl za rfl <| Oa rfl za rfl <| On ?_
  refine W.seq <| ?_
  refine W.cut (fun L h' => h' = h ∧ L = [(0, .slice b 0 c), (1, I64 0), (2, SortJ.CF), (6, I64 20), (7, I64 0)])
    (W.block (W.loop (fun n L h' => n = 0 ∧ h' = h ∧ L = [(0, .slice b 0 c), (1, I64 0), (2, SortJ.CF), (6, I64 20), (7, I64 0), (8, I64 20)]) (n := 0) ⟨rfl, rfl, rfl⟩ ?_ ?_)) ?_
  · simp [HasA, Tr.get_put]
  · rintro n L h1 ⟨rfl, rfl, rfl⟩
    simp only [mkA]
    have hlt : ¬ (20 : Int) ≤ 0 := by omega
    refine W.seq <| Wr <| Oa rfl sm rfl <| Oa rfl sm rfl <| Ofb rfl (zb (hv := bi_leq)) rfl <| On ?_
    refine Wn <| CWp.exit <| SQ.exit <| LQ.exit <| BQ.exit <| ?_
    refine NQ.normal (L := [(0, .slice b 0 c), (1, I64 0), (2, SortJ.CF), (6, I64 20), (7, I64 0)]) ?_ ⟨rfl, rfl⟩
    simp only [HasA, Tr.get_put, Nat.reduceEqDiff, reduceIte, and_self]
  rintro L a' h1 ha ⟨rfl, rfl⟩
  refine SQ.normal <| CWp.known ha ?_
  simp only [mkA]
  refine Wr <| Oa rfl sm rfl <| Oa rfl sm rfl <| Oa rfl sm rfl <| Oa rfl sm rfl <| OSuf.callD rfl (by simp only [aopnds, lk] <;> rfl) en105 (ins0_c _ _ _) rfl <| On ?_
  refine W.block (W.loop (fun n L h' => n = 0 ∧ h' = h1 ∧ L = [(0, .slice b 0 c), (1, I64 0), (2, SortJ.CF), (6, I64 20)]) (n := 0) ⟨rfl, rfl, rfl⟩ ?_ ?_)
  · simp [HasA, Tr.get_put]
  rintro n L h1 ⟨rfl, rfl, rfl⟩
  simp only [mkA]
  have hlt : ¬ (20 : Int) < 0 := by omega
  refine W.seq <| Wr <| Oa rfl sm rfl <| Oa rfl sm rfl <| Ofb rfl (zb (hv := bi_lss)) rfl <| On ?_
  refine Wn <| CWp.exit <| SQ.exit <| LQ.exit <| BQ.exit <| FQ.normal (by simp only [aRet, Tryz.f100, aResults, aResult, lk, Nat.reduceEqDiff, reduceIte] <;> rfl) ?_
  exact ⟨rfl, rfl⟩
theorem sort0_c (h : AHeap) (b : Option Addr) (c : Nat) : FWp Tryz.prog 73 [.slice b 0 c, SortJ.CF] h fun u h' => u = .tuple #[] ∧ h' = h := by
  refine W.enter tyOK Tryz.func73 rfl rfl ?_
  simp only [entry]
  refine W.reg <| Oa rfl sm rfl <| Oa rfl sm rfl <| Oa rfl (Zn (hv := by simp (disch := first | omega | simp only [nx]; omega) only [aLenOf, ty23, hpl] <;> rfl)) rfl <| Oa rfl sm rfl <| OSuf.callD rfl (by simp only [aopnds, lk] <;> rfl) en100 (stable0_c _ _ _) rfl <| OSuf.nil <| FQ.normal (by simp only [aRet, Tryz.f73, aResults, aResult, lk, Nat.reduceEqDiff, reduceIte] <;> rfl) ?_
  exact ⟨rfl, rfl⟩
theorem mn_eq {x : Rec} (h : x.lsn ≤ 1099511627776) : SortJ.mn x = x.lsn := by simp only [SortJ.mn]; rw [if_neg (by omega)]
theorem sort_os (h : AHeap) (lo : Nat) (l : List Rec) (v : Value) (s : OS h lo l v) (hl : l.length ≤ 1000000) (hp : ∀ x ∈ l, 1 ≤ x.lsn ∧ x.lsn ≤ 1099511627776) :
    FWp Tryz.prog 73 [v, SortJ.CF] h fun u g => u = .tuple #[] ∧ ∃ l' : List Rec, l'.Perm l ∧ (l'.Pairwise fun x y => x.lsn ≤ y.lsn) ∧ OS g lo l' v ∧ g.next = h.next ∧ ∀ z, (∀ n c, v ≠ .slice (some ⟨z, 0, none⟩) n c) → g.get z = h.get z := by
  cases s with
  | nil e => subst e; exact (sort0_c h _ _).mono fun u g ⟨e1, e2⟩ => by subst e2; exact ⟨e1, [], .refl _, .nil, .nil rfl, rfl, fun _ _ => rfl⟩
  | emp e h1 h2 h3 => subst e; exact (sort0_c h _ _).mono fun u g ⟨e1, e2⟩ => by subst e2; exact ⟨e1, [], .refl _, .nil, .emp rfl h1 h2 h3, rfl, fun _ _ => rfl⟩
  | @some r n e hn h1 h2 h3 =>
    subst hn
    have hG : SortJ.Good l.toArray := fun k => by
      by_cases hk : k < l.length
      · rw [getElem!_pos _ k (by simpa using hk)]
        have := (hp (l[k]'hk) (List.getElem_mem hk)).1
        simp only [List.getElem_toArray]; omega
      · rw [getElem!_neg _ k (by simpa using hk)]
        exact Int.le_refl _
    have hc := SortJ.sort_c h r l.length (by omega) l.toArray (by simp) hG
    have e0 : h.set r (SortJ.row l.toArray) = h := by rw [AHeap.set_self]; simpa [SortJ.row] using h3
    rw [e0] at hc
    refine hc.mono ?_
    rintro u g ⟨rfl, d', hpm, hso, rfl⟩
    have hd : d'.size = l.length := by rw [hpm.1]; simp
    have hpl : d'.toList.Perm l := by
      have := hpm.2.2
      simp only [Array.toList_extract] at this
      have e1 : d'.toList.extract 0 l.length = d'.toList := by rw [List.extract_eq_take_drop, List.drop_zero, Nat.sub_zero, List.take_of_length_le (by simp [hd])]
      have e2 : l.extract 0 l.length = l := by rw [List.extract_eq_take_drop, List.drop_zero, Nat.sub_zero, List.take_of_length_le (by omega)]
      simp only [e1, e2] at this
      exact this
    refine ⟨rfl, d'.toList, hpl, ?_, .some (fun e' => e ?_) (by simp [hd]) h1 h2 (Gp), rfl, fun z hz => Gs (fun e' => hz _ _ (by rw [e']))⟩
    · rw [List.pairwise_iff_getElem]
      intro i j hi hj hij
      have := hso i j (by omega) hij (by simpa [hd] using hj)
      rw [getElem!_pos _ j (by simpa using hj), getElem!_pos _ i (by simpa using hi)] at this
      have m1 := hp _ (hpl.mem_iff.1 (List.getElem_mem hi))
      have m2 := hp _ (hpl.mem_iff.1 (List.getElem_mem hj))
      simp only [Array.getElem_toList] at m1 m2 ⊢
      simp only [SortJ.ltJ, decide_eq_false_iff_not] at this
      rw [mn_eq m1.2, mn_eq m2.2] at this
      omega
    · have := hpl.length_eq
      rw [e'] at this
      exact List.length_eq_zero_iff.1 this.symm
theorem fit_le {lo hi : List UInt8} {x : Rec} (h : fit lo hi x = true) : 1 ≤ x.lsn ∧ x.lsn ≤ 1099511627776 := by
  simp only [fit, Bool.and_eq_true, decide_eq_true_eq] at h
  exact h.1.2
end Go.Proofs.YtebheelmgcggmaaGreat
