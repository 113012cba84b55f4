/-
  Merged: RhN, RhP, RiT, RiU, RiW.
-/
import Derived.Test.YtebheelmgcggmaaMp
import Derived.Test.YtebheelmgcggmaaMf
import Derived.Test.YtebheelmgcggmaaMa
set_option linter.unusedSimpArgs false
set_option linter.unusedVariables false
set_option maxRecDepth 10000
set_option maxHeartbeats 8000000
namespace Go.Proofs.Ytebheelmgcggmaa
open Go.Ab Go.Sort
theorem recS_none : (recS none).2.2 = none := rfl
theorem recsS_none : ∀ (n : Nat), (recsS n none).2 = none
  | 0 => rfl
  | n + 1 => by simp only [recsS, recS_none]; exact recsS_none n
theorem recsS_in : ∀ (i : Nat) (s : Rdr), ∀ x ∈ (recsS i s).1, x.2.key.length ≤ lenS s ∧ x.2.val.length ≤ lenS s
  | 0, s, x, hx => by cases hx
  | i + 1, s, x, hx => by
    simp only [recsS, List.mem_cons] at hx
    rcases hx with rfl | hx
    · simp only [recS]
      refine ⟨textS_len _, Nat.le_trans (textS_len _) (Nat.le_trans (numS_le _) (Nat.le_trans (numS_le _) (textS_le _)))⟩
    · have h1 := recsS_in i _ x hx
      have h2 := recS_le s
      omega
def recE (d : Nat) (r : Rec) : List UInt8 := num r.key.length ++ r.key ++ num r.lsn.toNat ++ num d ++ num r.val.length ++ r.val
def recsE (L : List (Nat × Rec)) : List UInt8 := (L.map fun z => recE z.1 z.2).flatten
theorem numS_inv {x y : List UInt8} {n : Nat} (h : numS (some x) = (n, some y)) : x = num n ++ y := by
  simp only [numS] at h
  split at h
  · rename_i m r e
    simp only [Prod.mk.injEq, Option.some.injEq] at h
    obtain ⟨rfl, rfl⟩ := h
    exact (rd_inv _ _ _ _ e).2.1
  · cases h
theorem numS_fwd {n : Nat} (r : List UInt8) (h : n < 18446744073709551616) : numS (some (num n ++ r)) = (n, some r) := by
  simp only [numS, rd_num n 0 r (by omega) (by simpa using h) (by omega)]
theorem textS_inv {x t y : List UInt8} (h : textS (some x) = (t, some y)) : x = num t.length ++ t ++ y := by
  obtain ⟨n, s, e⟩ : ∃ n s, numS (some x) = (n, s) := ⟨_, _, rfl⟩
  unfold textS at h
  rw [e] at h
  cases s with
  | none => cases h
  | some m =>
    have e2 := numS_inv e
    simp only at h
    split at h
    · cases h
    · rename_i hl
      simp only [Prod.mk.injEq, Option.some.injEq] at h
      obtain ⟨rfl, rfl⟩ := h
      rw [List.length_take, Nat.min_eq_left (by omega), List.append_assoc, List.take_append_drop]
      exact e2
theorem textS_fwd {t : List UInt8} (r : List UInt8) (h : t.length < 18446744073709551616) : textS (some (num t.length ++ t ++ r)) = (t, some r) := by
  unfold textS
  rw [List.append_assoc, numS_fwd _ h]
  simp only
  rw [if_neg (by simp), List.take_left', List.drop_left'] <;> rfl
theorem numS_some {s : Rdr} {n : Nat} {y : List UInt8} (h : numS s = (n, some y)) : ∃ x, s = some x := by
  cases s with
  | none => cases h
  | some x => exact ⟨x, rfl⟩
theorem textS_some {s : Rdr} {t y : List UInt8} (h : textS s = (t, some y)) : ∃ x, s = some x := by
  cases s with
  | none => cases h
  | some x => exact ⟨x, rfl⟩
theorem recS_inv {x y : List UInt8} (h : (recS (some x)).2.2 = some y) : x = recE (recS (some x)).1 (recS (some x)).2.1 ++ y := by
  obtain ⟨key, ra, ek⟩ : ∃ a b, textS (some x) = (a, b) := ⟨_, _, rfl⟩
  obtain ⟨lsn, rb, en⟩ : ∃ a b, numS ra = (a, b) := ⟨_, _, rfl⟩
  obtain ⟨del, rd, ed⟩ : ∃ a b, numS rb = (a, b) := ⟨_, _, rfl⟩
  obtain ⟨val, re, ev⟩ : ∃ a b, textS rd = (a, b) := ⟨_, _, rfl⟩
  have e : recS (some x) = (del, ⟨key, lsn, ((del : Int) == 1), val⟩, re) := by simp only [recS, ek, en, ed, ev]
  rw [e] at h ⊢
  simp only at h
  subst h
  obtain ⟨d, rfl⟩ := textS_some ev
  obtain ⟨c, rfl⟩ := numS_some ed
  obtain ⟨b, rfl⟩ := numS_some en
  rw [textS_inv ek, numS_inv en, numS_inv ed, textS_inv ev]
  simp [recE, List.append_assoc]
structure RdOK (z : Nat × Rec) : Prop where
  k : z.2.key.length < 18446744073709551616
  l : ∃ n : Nat, z.2.lsn = n ∧ n < 18446744073709551616
  v : z.2.val.length < 18446744073709551616
  d : z.2.del = ((z.1 : Int) == 1)
  n : z.1 < 18446744073709551616
theorem recS_fwd {z : Nat × Rec} (y : List UInt8) (g : RdOK z) : recS (some (recE z.1 z.2 ++ y)) = (z.1, z.2, some y) := by
  obtain ⟨d, r⟩ := z
  obtain ⟨h1, ⟨n, h2, h3⟩, h4, h5, h6⟩ := g
  obtain ⟨key, lsn, del, val⟩ := r
  simp only at h1 h2 h3 h4 h5 h6
  subst h2 h5
  have e1 : recE d ⟨key, n, ((d : Int) == 1), val⟩ ++ y = num key.length ++ key ++ (num n ++ (num d ++ (num val.length ++ val ++ y))) := by simp [recE, List.append_assoc]
  simp only [recS]
  rw [e1, textS_fwd _ h1]
  simp only
  rw [numS_fwd _ h3]
  simp only
  rw [numS_fwd _ h6]
  simp only
  rw [textS_fwd _ h4]
theorem recsS_inv : ∀ (n : Nat) {x y : List UInt8}, (recsS n (some x)).2 = some y → x = recsE (recsS n (some x)).1 ++ y
  | 0, x, y, h => by simp only [recsS] at h ⊢; cases h; rfl
  | n + 1, x, y, h => by
    simp only [recsS] at h ⊢
    cases hs : (recS (some x)).2.2 with
    | none => rw [hs, recsS_none] at h; cases h
    | some m =>
      rw [hs] at h
      have h1 := recS_inv hs
      have h2 := recsS_inv n h
      simp only [recsE, List.map_cons, List.flatten_cons, List.append_assoc] at h2 ⊢
      rw [← h2]; exact h1
theorem recsS_fwd : ∀ (L : List (Nat × Rec)) (y : List UInt8), (∀ z ∈ L, RdOK z) → recsS L.length (some (recsE L ++ y)) = (L, some y)
  | [], y, _ => rfl
  | z :: L, y, h => by
    have e : recsE (z :: L) ++ y = recE z.1 z.2 ++ (recsE L ++ y) := by simp [recsE, List.append_assoc]
    rw [e, List.length_cons]
    simp only [recsS]
    rw [recS_fwd _ (h z List.mem_cons_self)]
    simp only
    rw [recsS_fwd L y fun w hw => h w (List.mem_cons_of_mem _ hw)]
theorem recsS_ok : ∀ (n : Nat) (s : Rdr), lenS s ≤ 400000 → ∀ z ∈ (recsS n s).1, RdOK z
  | 0, s, _, z, hz => by cases hz
  | n + 1, s, hs, z, hz => by
    simp only [recsS, List.mem_cons] at hz
    rcases hz with rfl | hz
    · have h1 := recsS_in (n + 1) s (recS s |> fun x => (x.1, x.2.1)) (by simp [recsS])
      refine ⟨by have := h1.1; simp only at this ⊢; omega, ⟨_, rfl, numS_lt _⟩, by have := h1.2; simp only at this ⊢; omega, rfl, numS_lt _⟩
    · exact recsS_ok n _ (Nat.le_trans (recS_le s) hs) z hz
theorem imgR_recs : ∀ (l : List Rec) (s : List UInt8), l.foldl imgR s = s ++ recsE (l.map fun r => (delN r, r))
  | [], s => by simp [recsE]
  | r :: l, s => by
    rw [List.foldl_cons, imgR_recs l]
    simp [recsE, imgR, recE, List.append_assoc]
theorem headS_inv {l y : List UInt8} {low high : List UInt8} {full n : Nat} (h : headS (some l) = (low, high, full, n, some y)) : l = num low.length ++ low ++ num high.length ++ high ++ num full ++ num n ++ y := by
  obtain ⟨a, s1, e1⟩ : ∃ a b, textS (some l) = (a, b) := ⟨_, _, rfl⟩
  obtain ⟨b, s2, e2⟩ : ∃ a b, textS s1 = (a, b) := ⟨_, _, rfl⟩
  obtain ⟨c, s3, e3⟩ : ∃ a b, numS s2 = (a, b) := ⟨_, _, rfl⟩
  obtain ⟨d, s4, e4⟩ : ∃ a b, numS s3 = (a, b) := ⟨_, _, rfl⟩
  simp only [headS, e1, e2, e3, e4, Prod.mk.injEq] at h
  obtain ⟨rfl, rfl, rfl, rfl, rfl⟩ := h
  obtain ⟨m3, rfl⟩ := numS_some e4
  obtain ⟨m2, rfl⟩ := numS_some e3
  obtain ⟨m1, rfl⟩ := textS_some e2
  rw [textS_inv e1, textS_inv e2, numS_inv e3, numS_inv e4]
  simp [List.append_assoc]
end Go.Proofs.Ytebheelmgcggmaa
namespace Go.Proofs.Ytebheelmgcggmaa
open Go.Ab Go.Sort
theorem headS_fwd {low high : List UInt8} {full n : Nat} (y : List UInt8) (h1 : low.length < 18446744073709551616) (h2 : high.length < 18446744073709551616) (h3 : full < 18446744073709551616) (h4 : n < 18446744073709551616) :
    headS (some (num low.length ++ low ++ num high.length ++ high ++ num full ++ num n ++ y)) = (low, high, full, n, some y) := by
  have e : num low.length ++ low ++ num high.length ++ high ++ num full ++ num n ++ y = num low.length ++ low ++ (num high.length ++ high ++ (num full ++ (num n ++ y))) := by simp [List.append_assoc]
  rw [e]
  simp only [headS]
  rw [textS_fwd _ h1]
  simp only
  rw [textS_fwd _ h2]
  simp only
  rw [numS_fwd _ h3]
  simp only
  rw [numS_fwd _ h4]
theorem foldM_parts (p : Lf) (e : Int) : (foldM p e).low = p.low ∧ (foldM p e).high = p.high ∧ (foldM p e).full = p.full := by
  simp only [foldM]; split <;> exact ⟨rfl, rfl, rfl⟩
theorem chk_img {p : Lf} {e : Int} (hc : chk p = true) : chk ⟨p.low, p.high, p.full, (foldM p e).base, []⟩ = true := by
  obtain ⟨f1, f2, f3, f4, f5⟩ := fits_of hc
  have hc' := hc
  simp only [chk, Bool.and_eq_true, decide_eq_true_eq] at hc'
  have hb : (foldM p e).base.Pairwise (fun a b => ltK a b = true) ∧ (foldM p e).base.length ≤ 64 ∧ ∀ x ∈ (foldM p e).base, fit p.low p.high x = true := by
    simp only [foldM]
    split
    · rename_i h
      obtain ⟨g1, g2, _⟩ := PInv.into_all (p.deltas.filter fun r => decide (r.lsn ≤ e)) p.base f2
      refine ⟨g1, h.2, fun x hx => ?_⟩
      rcases g2 x hx with hx | hx
      · exact f1 x (List.mem_append.2 (.inr (List.mem_filter.1 hx).1))
      · exact f1 x (List.mem_append.2 (.inl hx))
    · exact ⟨f2, f4, fun x hx => f1 x (List.mem_append.2 (.inl hx))⟩
  simp only [chk, Bool.and_eq_true, decide_eq_true_eq, List.all_eq_true]
  exact ⟨⟨hc'.1.1, hc'.1.2.1, hc'.1.2.2.1, hc'.1.2.2.2.1, hb.2.1, by simp⟩, fun x hx => hb.2.2 x (by simpa [Lf.all] using hx), pw_risB hb.1, rfl⟩
theorem rdok_of {r : Rec} (h : FB r) (hd : 0 ≤ r.lsn) : RdOK (delN r, r) := by
  have h1 := h.key
  have h2 := h.lsn
  have h3 := h.val
  refine ⟨by show r.key.length < _; omega, ⟨r.lsn.toNat, by show r.lsn = _; omega, by omega⟩, by show r.val.length < _; omega, ?_, ?_⟩
  · simp only [delN]; cases r.del <;> rfl
  · simp only [delN]; split <;> omega
theorem img_back {p : Lf} {e : Int} (hc : chk p = true) (hp : 0 ≤ p.full) : readOK (imgM p e) = true ∧ leafS (imgM p e) = ⟨p.low, p.high, p.full, (foldM p e).base, []⟩ ∧ (imgM p e).length ≤ 400000 := by
  have fm := fm_of (e := e) hc hp
  obtain ⟨m1, m2, m3⟩ := foldM_parts p e
  obtain ⟨g1, g2, g3, g4, g5, g6⟩ := fm
  rw [m1] at g1
  rw [m2] at g2
  rw [m3] at g3 g4
  have eI : imgM p e = num p.low.length ++ p.low ++ num p.high.length ++ p.high ++ num p.full.toNat ++ num (foldM p e).base.length ++ (recsE ((foldM p e).base.map fun r => (delN r, r)) ++ []) := by
    rw [imgM, if_pos hc, img, imgR_recs, img0, m1, m2, m3]; simp
  have eH : headS (some (imgM p e)) = (p.low, p.high, p.full.toNat, (foldM p e).base.length, some (recsE ((foldM p e).base.map fun r => (delN r, r)) ++ [])) := by
    rw [eI]; exact headS_fwd _ (by omega) (by omega) (by omega) (by omega)
  have eR := recsS_fwd ((foldM p e).base.map fun r => (delN r, r)) [] (fun z hz => by
    obtain ⟨r, hr, rfl⟩ := List.mem_map.1 hz
    exact rdok_of (g6 r hr) (by have := (g6 r hr).pos; omega))
  rw [List.length_map] at eR
  have eL : leafS (imgM p e) = ⟨p.low, p.high, p.full, (foldM p e).base, []⟩ := by
    simp only [leafS, eH, eR]
    simp [Function.comp_def]
    omega
  refine ⟨?_, eL, ?_⟩
  · simp only [readOK, eH, eR]
    rw [eL, chk_img hc, decide_eq_true g5]
    simp only [Bool.true_and, endS, Bool.and_true, List.all_eq_true]
    intro z hz
    obtain ⟨r, hr, rfl⟩ := List.mem_map.1 hz
    simp only [delN, decide_eq_true_eq]
    by_cases h9 : r.del = true <;> simp [h9]
  · have h1 := img0_len (M := foldM p e) (fm_of hc hp)
    have h2 := imgs_len (s := img0 (foldM p e)) (foldM p e).base g6
    rw [imgM, if_pos hc, img]; omega
end Go.Proofs.Ytebheelmgcggmaa
namespace Go.Proofs.Ytebheelmgcggmaa
open Go.Ab Go.Sort
abbrev SL (s : List UInt8) : Prop := s.length < 9223372036854775808
structure LB (p : Lf) : Prop where
  low : SL p.low
  high : SL p.high
  ky : ∀ r ∈ p.all, SL r.key ∧ SL r.val
theorem max_sl {n : Nat} (h : n ≤ maxLen) : n < 9223372036854775808 := Nat.lt_of_le_of_lt h (by decide)
def AtB (b : Option Addr) (n : Nat) : Prop := (b = none ∧ n = 0) ∨ ∃ r, b = some ⟨r, 0, none⟩
theorem rd_recs {h : AHeap} {n : Nat} {w : Value} (hr : Rd Try.prog h (n + 3) 26 [w]) : ∃ (b : Option Addr) (l : List Rec), w = .slice b l.length 0 ∧ AtB b l.length ∧ RS h l (.slice b l.length 0) ∧ ∀ r ∈ l, SL r.key ∧ SL r.val := by
  unfold Rd at hr
  rw [Try.underlying26] at hr
  simp only at hr
  rcases hr with h1 | ⟨r, vss, h1, h2, h3, h4, h5⟩
  · exact ⟨none, [], by simpa using h1, .inl ⟨rfl, rfl⟩, ⟨_, _, rfl, .inl ⟨rfl, rfl, rfl⟩⟩, by simp⟩
  · have key : ∃ l : List Rec, vss = l.map Rec.cs ∧ ∀ r ∈ l, SL r.key ∧ SL r.val := by
      clear h1 h2 h4
      induction vss with
      | nil => exact ⟨[], rfl, by simp⟩
      | cons v vss ih =>
        obtain ⟨l, e1, e2⟩ := ih fun x hx => h5 x (List.mem_cons_of_mem _ hx)
        obtain ⟨fss, g1, g2, g3⟩ := Rd.fields Try.underlying33 (h5 v List.mem_cons_self).2
        match fss, g2 with
        | [a, b, c, d], _ =>
          obtain ⟨_, x1⟩ := g3 0 _ a rfl rfl
          obtain ⟨_, x2⟩ := g3 1 _ b rfl rfl
          obtain ⟨_, x3⟩ := g3 2 _ c rfl rfl
          obtain ⟨_, x4⟩ := g3 3 _ d rfl rfl
          obtain ⟨⟨⟨k⟩⟩, rfl, m1⟩ := Rd.string Try.underlying9 x1
          obtain ⟨i, rfl, _⟩ := Rd.int Try.underlying25 x2
          obtain ⟨o, rfl⟩ := Rd.bool Try.underlying4 x3
          obtain ⟨⟨⟨w⟩⟩, rfl, m4⟩ := Rd.string Try.underlying9 x4
          refine ⟨⟨k, i, o, w⟩ :: l, by rw [g1, e1]; rfl, fun x hx => ?_⟩
          cases hx with
          | head => exact ⟨max_sl m1, max_sl m4⟩
          | tail _ hx => exact e2 x hx
    obtain ⟨l, rfl, h6⟩ := key
    have hl : (l.map Rec.cs).length = l.length := List.length_map _
    rw [hl] at h1
    refine ⟨some ⟨r, 0, none⟩, l, by simpa using h1, .inr ⟨r, rfl⟩, ⟨_, _, rfl, .inr ⟨_, _, rfl, fun hn => ⟨h3, (l.map Rec.cs).flatten, ?_, cellsOf_all (fl_length l)⟩⟩⟩, h6⟩
    have := h4 (fun e => hn (by rw [← hl, e]; rfl))
    simp only [rowOf, this]
theorem rd_leaf {h : AHeap} {n : Nat} {v : Value} (hr : RdV Try.prog h (n + 4) 28 v) : ∃ (p : Lf) (b1 b2 : Option Addr), v = LV p (.slice b1 p.base.length 0) (.slice b2 p.deltas.length 0) ∧ AtB b1 p.base.length ∧ AtB b2 p.deltas.length ∧ RS h p.base (.slice b1 p.base.length 0) ∧ RS h p.deltas (.slice b2 p.deltas.length 0) ∧ LB p := by
  unfold RdV at hr
  rw [Try.underlying28] at hr
  simp only at hr
  obtain ⟨vs, rfl, hr⟩ := hr
  obtain ⟨fss, g1, g2, g3⟩ := Rd.fields Try.underlying28 hr
  match fss, g2 with
  | [a, b, c, d, e], _ =>
    obtain ⟨_, x1⟩ := g3 0 _ a rfl rfl
    obtain ⟨_, x2⟩ := g3 1 _ b rfl rfl
    obtain ⟨_, x3⟩ := g3 2 _ c rfl rfl
    obtain ⟨l4, x4⟩ := g3 3 _ d rfl rfl
    obtain ⟨l5, x5⟩ := g3 4 _ e rfl rfl
    obtain ⟨⟨⟨lo⟩⟩, rfl, m1⟩ := Rd.string Try.underlying9 x1
    obtain ⟨⟨⟨hi⟩⟩, rfl, m2⟩ := Rd.string Try.underlying9 x2
    obtain ⟨i, rfl, _⟩ := Rd.int Try.underlying25 x3
    match d, l4.trans (by kernel_rfl : _ = 1), e, l5.trans (by kernel_rfl : _ = 1) with
    | [w4], _, [w5], _ =>
      obtain ⟨b1, l1, rfl, a1, r1, s1⟩ := rd_recs x4
      obtain ⟨b2, l2, rfl, a2, r2, s2⟩ := rd_recs x5
      refine ⟨⟨lo, hi, i, l1, l2⟩, b1, b2, by rw [g1]; rfl, a1, a2, r1, r2, ⟨max_sl m1, max_sl m2, fun r hr => ?_⟩⟩
      rcases List.mem_append.1 hr with hr | hr
      · exact s1 r hr
      · exact s2 r hr
def cutM (p : Lf) : Lf := { p with base := p.base.take 70, deltas := p.deltas.take 70 }
theorem sl_cut {h : AHeap} {t elem : TypeId} {ti ei : TI} {b : Option Addr} {n m : Nat} (ht : T.get t = some ti) (hu : ti.und = .slice elem) (he : T.get elem = some ei) (hb : AtB b n) (hm : m ≤ n) : aSlice T t (.slice b n 0) none (some (I64 m)) none h = some (.slice b m 0) := by
  rcases hb with ⟨rfl, rfl⟩ | ⟨r, rfl⟩
  · obtain rfl : m = 0 := by omega
    exact sl_0 (x := (0, 0, 0)) ht hu he rfl
  · simp only [aSlice, ht, hu, he, bounds_hi hm]; rfl
theorem rs_take {h : AHeap} {l : List Rec} {b : Option Addr} {m : Nat} (s : RS h l (.slice b l.length 0)) (hm : m ≤ l.length) : RS h (l.take m) (.slice b m 0) := by
  have hl : (l.take m).length = m := by rw [List.length_take]; omega
  obtain ⟨b', c', e, hr⟩ := s.ex
  cases e
  refine ⟨b, 0, by rw [hl], ?_⟩
  rcases hr with ⟨rfl, h1, h2⟩ | ⟨r, off, rfl, hr⟩
  · exact .inl ⟨rfl, by rw [hl]; omega, rfl⟩
  · refine .inr ⟨r, off, rfl, fun h0 => ?_⟩
    rw [hl] at h0 ⊢
    obtain ⟨h1, vs, h2, h3⟩ := hr (by omega)
    refine ⟨h1, vs, h2, ?_⟩
    have e : fl l = fl (l.take m) ++ fl (l.drop m) := by rw [← fl_app, List.take_append_drop]
    have h4 : cellsOf (fl l) 0 (m * 4) = some (fl (l.take m)) := by
      rw [cellsOf_mk (by rw [fl_length]; omega), List.drop_zero, e, List.take_left' (by rw [fl_length, hl])]
    have := cellsOf_sub h3 h4
    rwa [Nat.add_zero] at this
theorem cut_c (h : AHeap) (p : Lf) (b1 b2 : Option Addr) (h1 : AtB b1 p.base.length) (h2 : AtB b2 p.deltas.length) :
    FWp Try.prog 17 [LV p (.slice b1 p.base.length 0) (.slice b2 p.deltas.length 0)] h fun u g => u = LV (cutM p) (.slice b1 (cutM p).base.length 0) (.slice b2 (cutM p).deltas.length 0) ∧ h.next ≤ g.next ∧ ∀ z, z < h.next → g.get z = h.get z := by
  have tb17 := And.intro ty26 (And.intro ty28 (And.intro ty3 (ty33)))
  have e1 : (if (70 : Int) < ((p.base.length : Nat) : Int) then (70 : Int) else ((p.base.length : Nat) : Int)) = ((min 70 p.base.length : Nat) : Int) := by split <;> omega
  have e2 : (if (70 : Int) < ((p.deltas.length : Nat) : Int) then (70 : Int) else ((p.deltas.length : Nat) : Int)) = ((min 70 p.deltas.length : Nat) : Int) := by split <;> omega
  refine W.enter tyOK Try.func17 rfl rfl ?_
  simp only [entry]
  refine Wr <| Oa rfl Zx rfl <| Oa rfl (so_alloc (by simp only [aAlloc, ty28] <;> rfl)) rfl <| On ?_
  refine Wr <| Oa rfl (zf (hv := fa_ok (k := 3) ty28 rfl rfl ty26 rfl rfl)) rfl <| Oa rfl (zl (hv := by simp (disch := first | omega | simp only [nx]; omega) only [aLoad, ty26, rowOf, hpl, rcl, Value.cells] <;> rfl)) rfl <| Oa rfl (zf (hv := fa_ok (k := 3) ty28 rfl rfl ty26 rfl rfl)) rfl <| Oa rfl (zl (hv := by simp (disch := first | omega | simp only [nx]; omega) only [aLoad, ty26, rowOf, hpl, rcl, Value.cells] <;> rfl)) rfl <| Oa rfl (Zn (hv := by simp (disch := first | omega | simp only [nx]; omega) only [aLenOf, ty26, hpl, rcl, Value.cells, places, tb17] <;> rfl)) rfl <| Oa rfl (so_min (by simp only [aopnds, lk] <;> rfl)) rfl <| Oa rfl (so_slice (by simp only [lk] <;> rfl) (by simp only [oopnd, lk] <;> rfl) (by simp only [oopnd, lk] <;> rfl) (by simp only [oopnd, lk] <;> rfl) ((by rw [e1]; exact sl_cut ty26 rfl ty33 h1 (Nat.min_le_right _ _)))) rfl <| Oa rfl (zf (hv := fa_ok (k := 3) ty28 rfl rfl ty26 rfl rfl)) rfl <| Oa rfl (zs (hv := by simp (disch := first | omega | simp only [nx]; omega) only [aStore, ty26, writeRow, hpl, rcl, Value.cells] <;> rfl)) rfl <| On ?_
  refine Wr <| Oa rfl (zf (hv := fa_ok (k := 4) ty28 rfl rfl ty26 rfl rfl)) rfl <| Oa rfl (zl (hv := by simp (disch := first | omega | simp only [nx]; omega) only [aLoad, ty26, rowOf, hpl, rcl, Value.cells] <;> rfl)) rfl <| Oa rfl (zf (hv := fa_ok (k := 4) ty28 rfl rfl ty26 rfl rfl)) rfl <| Oa rfl (zl (hv := by simp (disch := first | omega | simp only [nx]; omega) only [aLoad, ty26, rowOf, hpl, rcl, Value.cells] <;> rfl)) rfl <| Oa rfl (Zn (hv := by simp (disch := first | omega | simp only [nx]; omega) only [aLenOf, ty26, hpl, rcl, Value.cells, places, tb17] <;> rfl)) rfl <| Oa rfl (so_min (by simp only [aopnds, lk] <;> rfl)) rfl <| Oa rfl (so_slice (by simp only [lk] <;> rfl) (by simp only [oopnd, lk] <;> rfl) (by simp only [oopnd, lk] <;> rfl) (by simp only [oopnd, lk] <;> rfl) ((by rw [e2]; exact sl_cut ty26 rfl ty33 h2 (Nat.min_le_right _ _)))) rfl <| Oa rfl (zf (hv := fa_ok (k := 4) ty28 rfl rfl ty26 rfl rfl)) rfl <| Oa rfl (zs (hv := by simp (disch := first | omega | simp only [nx]; omega) only [aStore, ty26, writeRow, hpl, rcl, Value.cells] <;> rfl)) rfl <| On ?_
  refine Wr <| Oa rfl (zl (hv := by simp (disch := first | omega | simp only [nx]; omega) only [aLoad, ty28, rowOf, hpl, rcl, Value.cells] <;> rfl)) rfl <| Oa rfl (zs (hv := by simp (disch := first | omega | simp only [nx]; omega) only [aStore, ty28, writeRow, hpl, rcl, Value.cells] <;> rfl)) rfl <| On ?_
  refine CWp.ret <| FQ.ret (by simp (disch := first | omega | simp only [nx]; omega) only [aRet, Try.f17, aResults, aResult, lk, Nat.reduceEqDiff, reduceIte, aLoad, rowOf, hpl, rcl, Value.cells, places, tb17] <;> rfl) ?_
  refine ⟨?_, by simp only [nx]; omega, fun z hz => by simp (disch := first | omega | simp only [nx]; omega) only [hpl]⟩
  simp only [cutM, List.length_take]
  rfl
theorem rd_full {h : AHeap} {n : Nat} {p : Lf} {bv dv : Value} (hr : RdV Try.prog h (n + 4) 28 (LV p bv dv)) : 0 ≤ p.full := by
  unfold RdV at hr
  rw [Try.underlying28] at hr
  simp only at hr
  obtain ⟨vs, e, hr⟩ := hr
  obtain ⟨fss, g1, g2, g3⟩ := Rd.fields Try.underlying28 hr
  match fss, g2 with
  | [a, b, c, d, e'], _ =>
    obtain ⟨l1, x1⟩ := g3 0 _ a rfl rfl
    obtain ⟨l2, x2⟩ := g3 1 _ b rfl rfl
    obtain ⟨_, x3⟩ := g3 2 _ c rfl rfl
    obtain ⟨s1, rfl, _⟩ := Rd.string Try.underlying9 x1
    obtain ⟨s2, rfl, _⟩ := Rd.string Try.underlying9 x2
    obtain ⟨i, rfl, hi⟩ := Rd.int Try.underlying25 x3
    have h1 : [encS p.low, encS p.high, U64 p.full, bv, dv] = vs := by
      have := congrArg (fun v : Value => match v with | .agg a => a.toList | _ => []) e
      simpa using this
    rw [g1] at h1
    have h2 : p.full = i := by
      have := congrArg (fun l : List Value => l[2]?) h1
      simpa using this
    rw [h2]
    simp [Lit.wf, IntKind.min, IntKind.max, IntKind.bits, IntKind.signed] at hi; omega
theorem rdv_str {h : AHeap} {n : Nat} {v : Value} (hr : RdV Try.prog h (n + 1) 9 v) : ∃ l : List UInt8, v = encS l := by
  unfold RdV at hr
  rw [Try.underlying9] at hr
  simp only at hr
  obtain ⟨⟨⟨k⟩⟩, h1, _⟩ := Rd.string Try.underlying9 hr
  exact ⟨k, by simpa using h1⟩
end Go.Proofs.Ytebheelmgcggmaa
namespace Go.Proofs.Ytebheelmgcggmaa
open Go.Ab Go.Sort
def eqRb (x y : Rec) : Bool := (⟨⟨x.key⟩⟩ : ByteArray) == ⟨⟨y.key⟩⟩ && (x.lsn == y.lsn && (x.del == y.del && ((⟨⟨x.val⟩⟩ : ByteArray) == ⟨⟨y.val⟩⟩ && true)))
theorem eqRb_self (x : Rec) : eqRb x x = true := by simp [eqRb, beq_str]
theorem neR {p q : Operand} (x y : Rec) : aBin Try.prog T .neq 33 p q x.V y.V = some (.bool (!eqRb x y)) := by
  have hs : pureRun Try.prog (Op.equal 33 x.V y.V) = some (eqRb x y) := by
    refine seq_equal Try.underlying33 (by kernel_rfl) ?_
    refine .cons (by decide) (x := encS x.key) (y := encS y.key) (by kernel_rfl) (by kernel_rfl) (eq_str Try.underlying9) ?_
    refine .cons (by decide) (x := U64 x.lsn) (y := U64 y.lsn) (by kernel_rfl) (by kernel_rfl) (eq_int Try.underlying25) ?_
    refine .cons (by decide) (x := .bool x.del) (y := .bool y.del) (by kernel_rfl) (by kernel_rfl) (eq_bool Try.underlying4) ?_
    refine .cons (by decide) (x := encS x.val) (y := encS y.val) (by kernel_rfl) (by kernel_rfl) (eq_str Try.underlying9) ?_
    exact .nil
  exact bi_sne rfl (by kernel_rfl) hs
theorem same_c (h : AHeap) (p : Lf) (av aw bv bw : Value) (ha : RS h p.base av) (ha' : RS h p.deltas aw) (hb : RS h p.base bv) (hb' : RS h p.deltas bw) (l1 : p.base.length ≤ 1000000) (l2 : p.deltas.length ≤ 1000000) :
    FWp Try.prog 20 [LV p av aw, LV p bv bw] h fun u h' => u = .bool true ∧ h' = h := by
  have tb20 := And.intro ty25 (And.intro ty26 (And.intro ty28 (And.intro ty33 (ty9))))
  obtain ⟨b1, c1, rfl⟩ := ha.form
  obtain ⟨b2, c2, rfl⟩ := ha'.form
  obtain ⟨b3, c3, rfl⟩ := hb.form
  obtain ⟨b4, c4, rfl⟩ := hb'.form
  refine FWp.gcs (.flat rfl) ?_
  obtain ⟨h2, hh2⟩ : ∃ h2, h2 = (h.new (.cells (lcs p (.slice b1 p.base.length c1) (.slice b2 p.deltas.length c2)) 1)).new (.cells (lcs p (.slice b3 p.base.length c3) (.slice b4 p.deltas.length c4)) 1) := ⟨_, rfl⟩
  have n2 : h2.next = h.next + 2 := by rw [hh2]; rfl
  have k2 : ∀ z, z < h.next → h2.get z = h.get z := fun z hz => by rw [hh2]; simp (disch := first | omega | simp only [nx]; omega) only [hpl]
  have r0 : h2.get h.next = some (.cells (lcs p (.slice b1 p.base.length c1) (.slice b2 p.deltas.length c2)) 1) := by rw [hh2]; simp (disch := first | omega | simp only [nx]; omega) only [hpl]
  have r1 : h2.get (h.next + 1) = some (.cells (lcs p (.slice b3 p.base.length c3) (.slice b4 p.deltas.length c4)) 1) := by rw [hh2]; simp (disch := first | omega | simp only [nx]; omega) only [hpl]
  have ha2 := ha.mono (h' := h2) (by omega) k2
  have ha2' := ha'.mono (h' := h2) (by omega) k2
  have hb2 := hb.mono (h' := h2) (by omega) k2
  have hb2' := hb'.mono (h' := h2) (by omega) k2
  refine W.enter tyOK Try.func20 rfl rfl ?_
  simp only [entry]
  refine Wr <| Oa rfl Zx rfl <| Oa rfl Zx rfl <| Of rfl za rfl rfl <| On ?_
  refine W.seq <| Wr <| Oa rfl (zf (hv := fa_ok (k := 0) ty28 rfl rfl ty9 rfl rfl)) rfl <| Oa rfl (zl (hv := by simp (disch := first | omega | simp only [nx]; omega) only [aLoad, ty9, rowOf, hpl, rcl, Value.cells] <;> rfl)) rfl <| Oa rfl (zf (hv := fa_ok (k := 0) ty28 rfl rfl ty9 rfl rfl)) rfl <| Oa rfl (zl (hv := by simp (disch := first | omega | simp only [nx]; omega) only [aLoad, ty9, rowOf, hpl, rcl, Value.cells] <;> rfl)) rfl <| Of rfl (zb (hv := bs_neq)) rfl (by simp [sst]) <| Of rfl sm rfl rfl <| Oa ag (zf (hv := fa_ok (k := 1) ty28 rfl rfl ty9 rfl rfl)) rfl <| Oa ag (zl (hv := by simp (disch := first | omega | simp only [nx]; omega) only [aLoad, ty9, rowOf, hpl, rcl, Value.cells] <;> rfl)) rfl <| Oa ag (zf (hv := fa_ok (k := 1) ty28 rfl rfl ty9 rfl rfl)) rfl <| Oa ag (zl (hv := by simp (disch := first | omega | simp only [nx]; omega) only [aLoad, ty9, rowOf, hpl, rcl, Value.cells] <;> rfl)) rfl <| Of ag (zb (hv := bs_neq)) rfl (by simp [sst]) <| Of rfl Zp rfl rfl <| Of rfl sm rfl rfl <| Oa ag (zf (hv := fa_ok (k := 2) ty28 rfl rfl ty25 rfl rfl)) rfl <| Oa ag (zl (hv := by simp (disch := first | omega | simp only [nx]; omega) only [aLoad, ty25, rowOf, hpl, rcl, Value.cells] <;> rfl)) rfl <| Oa ag (zf (hv := fa_ok (k := 2) ty28 rfl rfl ty25 rfl rfl)) rfl <| Oa ag (zl (hv := by simp (disch := first | omega | simp only [nx]; omega) only [aLoad, ty25, rowOf, hpl, rcl, Value.cells] <;> rfl)) rfl <| Of ag (zb (hv := bi_neq)) rfl (by simp) <| Of rfl Zp rfl rfl <| Of rfl sm rfl rfl <| Oa ag (zf (hv := fa_ok (k := 3) ty28 rfl rfl ty26 rfl rfl)) rfl <| Oa ag (zl (hv := by simp (disch := first | omega | simp only [nx]; omega) only [aLoad, ty26, rowOf, hpl, rcl, Value.cells] <;> rfl)) rfl <| Oa ag (Zn (hv := by simp (disch := first | omega | simp only [nx]; omega) only [aLenOf, ty26, hpl, rcl, Value.cells, places, tb20] <;> rfl)) rfl <| Oa ag (zf (hv := fa_ok (k := 3) ty28 rfl rfl ty26 rfl rfl)) rfl <| Oa ag (zl (hv := by simp (disch := first | omega | simp only [nx]; omega) only [aLoad, ty26, rowOf, hpl, rcl, Value.cells] <;> rfl)) rfl <| Oa ag (Zn (hv := by simp (disch := first | omega | simp only [nx]; omega) only [aLenOf, ty26, hpl, rcl, Value.cells, places, tb20] <;> rfl)) rfl <| Of ag (zb (hv := bi_neq)) rfl (by simp) <| Of rfl Zp rfl rfl <| Of rfl sm rfl rfl <| Oa ag (zf (hv := fa_ok (k := 4) ty28 rfl rfl ty26 rfl rfl)) rfl <| Oa ag (zl (hv := by simp (disch := first | omega | simp only [nx]; omega) only [aLoad, ty26, rowOf, hpl, rcl, Value.cells] <;> rfl)) rfl <| Oa ag (Zn (hv := by simp (disch := first | omega | simp only [nx]; omega) only [aLenOf, ty26, hpl, rcl, Value.cells, places, tb20] <;> rfl)) rfl <| Oa ag (zf (hv := fa_ok (k := 4) ty28 rfl rfl ty26 rfl rfl)) rfl <| Oa ag (zl (hv := by simp (disch := first | omega | simp only [nx]; omega) only [aLoad, ty26, rowOf, hpl, rcl, Value.cells] <;> rfl)) rfl <| Oa ag (Zn (hv := by simp (disch := first | omega | simp only [nx]; omega) only [aLenOf, ty26, hpl, rcl, Value.cells, places, tb20] <;> rfl)) rfl <| Of ag (zb (hv := bi_neq)) rfl (by simp) <| Of rfl Zp rfl rfl <| On ?_
  refine Wn <| CWp.skip <| SQ.normal ?_
  refine W.seq <| Wr <| Oa rfl za rfl <| On ?_
  refine W.cut (fun L g => h2 = g ∧ L = [(2, P0 h.next), (3, P0 (h.next + 1))]) (W.block (W.loop (fun m L g => ∃ i : Nat, m + i = p.base.length ∧ h2 = g ∧ L = [(2, P0 h.next), (3, P0 (h.next + 1)), (5, I64 i)]) (n := p.base.length) ⟨0, rfl, hh2, rfl⟩ ?_ ?_)) ?_
  · simp [HasA, Tr.get_put]
  · rintro m L g ⟨k, hm, rfl, rfl⟩
    simp only [mkA]
    have w2 : IntKind.i64.wrap ((k : Int) + 1) = ((k + 1 : Nat) : Int) := by rw [wrap_i64 (by omega) (by omega)]; omega
    by_cases hk : (k : Int) < (p.base.length : Int)
    · obtain ⟨x, hx⟩ : ∃ x, p.base[k]? = some x := ⟨p.base[k]'(by omega), by simp⟩
      obtain ⟨_, r, off, rfl, hr1, hr2⟩ := RS.at_ ha2 hx
      obtain ⟨_, r', off', rfl, hr1', hr2'⟩ := RS.at_ hb2 hx
      have hc1 : (0 ≤ (k : Int) ∧ (k : Int) < (p.base.length : Int)) := by omega
      refine W.seq <| Wr <| Oa rfl sm rfl <| Oa rfl (zf (hv := fa_ok (k := 3) ty28 rfl rfl ty26 rfl rfl)) rfl <| Oa rfl (zl (hv := by simp (disch := first | omega | simp only [nx]; omega) only [aLoad, ty26, rowOf, hpl, r0, r1, hc1, sb] <;> rfl)) rfl <| Oa rfl (Zn (hv := by simp (disch := first | omega | simp only [nx]; omega) only [aLenOf, ty26, hpl, r0, r1, hc1, sb] <;> rfl)) rfl <| Ot rfl (zb (hv := bi_lss)) rfl (by first | rfl | assumption | ((simp only [bl, r0, r1, hc1, sb]) <;> first | done | assumption | omega) | (simp; done) | (simp; omega)) <| On ?_
      refine Wy <| CWp.skip <| SQ.normal ?_
      refine W.seq <| W.block <| Wd <| Sa rfl (zf (hv := fa_ok (k := 3) ty28 rfl rfl ty26 rfl rfl)) rfl <| Sa rfl (zl (hv := by simp (disch := first | omega | simp only [nx]; omega) only [aLoad, ty26, rowOf, hpl, r0, r1, hc1, sb] <;> rfl)) rfl <| Sa rfl sm rfl <| Sa rfl (zi (hv := by simp (disch := first | omega | simp only [nx]; omega) only [aIndexAddr, ty26, ty33, hpl, r0, r1, hc1, sb] <;> rfl)) rfl <| Sa rfl (zl (hv := (hr2 _ rfl).1 _ _ ty33 rfl rfl)) rfl <| Sa rfl (zf (hv := fa_ok (k := 3) ty28 rfl rfl ty26 rfl rfl)) rfl <| Sa rfl (zl (hv := by simp (disch := first | omega | simp only [nx]; omega) only [aLoad, ty26, rowOf, hpl, r0, r1, hc1, sb] <;> rfl)) rfl <| Sa rfl sm rfl <| Sa rfl (zi (hv := by simp (disch := first | omega | simp only [nx]; omega) only [aIndexAddr, ty26, ty33, hpl, r0, r1, hc1, sb] <;> rfl)) rfl <| Sa rfl (zl (hv := (hr2' _ rfl).1 _ _ ty33 rfl rfl)) rfl <| Sf rfl (zb (hv := neR x x)) rfl (by simp [eqRb_self]) <| Sn ?_
      refine Wn <| CWp.skip <| BQ.normal <| SQ.normal ?_
      refine W.reg <| Oa rfl sm rfl <| Oa rfl (zb (hv := bi_w bi_add (by first | (simp only [w2] <;> rfl) | rfl))) rfl <| Oa rfl za rfl <| OSuf.nil <| ?_
      refine LQ.normal (m := m - 1) (L := [(2, P0 h.next), (3, P0 (h.next + 1)), (5, I64 ((k + 1 : Nat) : Int))]) (by omega) ?_ ⟨k + 1, by omega, rfl, rfl⟩
      simp only [HasA, Tr.get_put, Nat.reduceEqDiff, reduceIte, w2, and_self]
    · refine W.seq <| Wr <| Oa rfl sm rfl <| Oa rfl (zf (hv := fa_ok (k := 3) ty28 rfl rfl ty26 rfl rfl)) rfl <| Oa rfl (zl (hv := by simp (disch := first | omega | simp only [nx]; omega) only [aLoad, ty26, rowOf, hpl, r0, r1] <;> rfl)) rfl <| Oa rfl (Zn (hv := by simp (disch := first | omega | simp only [nx]; omega) only [aLenOf, ty26, hpl, r0, r1] <;> rfl)) rfl <| Of rfl (zb (hv := bi_lss)) rfl (by first | rfl | assumption | ((simp only [bl, r0, r1]) <;> first | done | assumption | omega) | (simp; done) | (simp; omega)) <| On ?_
      refine Wn <| CWp.exit <| SQ.exit <| LQ.exit <| BQ.exit <| ?_
      refine NQ.normal (L := [(2, P0 h.next), (3, P0 (h.next + 1))]) ?_ ⟨rfl, rfl⟩
      simp only [HasA, Tr.get_put, Nat.reduceEqDiff, reduceIte, and_self]
  rintro L a' g ha ⟨rfl, rfl⟩
  refine SQ.normal <| CWp.known ha ?_
  simp only [mkA]
  refine W.seq <| Wr <| Oa rfl za rfl <| On ?_
  refine W.cut (fun L g => h2 = g ∧ L = [(2, P0 h.next), (3, P0 (h.next + 1))]) (W.block (W.loop (fun m L g => ∃ i : Nat, m + i = p.deltas.length ∧ h2 = g ∧ L = [(2, P0 h.next), (3, P0 (h.next + 1)), (6, I64 i)]) (n := p.deltas.length) ⟨0, rfl, rfl, rfl⟩ ?_ ?_)) ?_
  · simp [HasA, Tr.get_put]
  · rintro m L g ⟨k, hm, rfl, rfl⟩
    simp only [mkA]
    have w2 : IntKind.i64.wrap ((k : Int) + 1) = ((k + 1 : Nat) : Int) := by rw [wrap_i64 (by omega) (by omega)]; omega
    by_cases hk : (k : Int) < (p.deltas.length : Int)
    · obtain ⟨x, hx⟩ : ∃ x, p.deltas[k]? = some x := ⟨p.deltas[k]'(by omega), by simp⟩
      obtain ⟨_, r, off, rfl, hr1, hr2⟩ := RS.at_ ha2' hx
      obtain ⟨_, r', off', rfl, hr1', hr2'⟩ := RS.at_ hb2' hx
      have hc1 : (0 ≤ (k : Int) ∧ (k : Int) < (p.deltas.length : Int)) := by omega
      refine W.seq <| Wr <| Oa rfl sm rfl <| Oa rfl (zf (hv := fa_ok (k := 4) ty28 rfl rfl ty26 rfl rfl)) rfl <| Oa rfl (zl (hv := by simp (disch := first | omega | simp only [nx]; omega) only [aLoad, ty26, rowOf, hpl, r0, r1, hc1, sb] <;> rfl)) rfl <| Oa rfl (Zn (hv := by simp (disch := first | omega | simp only [nx]; omega) only [aLenOf, ty26, hpl, r0, r1, hc1, sb] <;> rfl)) rfl <| Ot rfl (zb (hv := bi_lss)) rfl (by first | rfl | assumption | ((simp only [bl, r0, r1, hc1, sb]) <;> first | done | assumption | omega) | (simp; done) | (simp; omega)) <| On ?_
      refine Wy <| CWp.skip <| SQ.normal ?_
      refine W.seq <| W.block <| Wd <| Sa rfl (zf (hv := fa_ok (k := 4) ty28 rfl rfl ty26 rfl rfl)) rfl <| Sa rfl (zl (hv := by simp (disch := first | omega | simp only [nx]; omega) only [aLoad, ty26, rowOf, hpl, r0, r1, hc1, sb] <;> rfl)) rfl <| Sa rfl sm rfl <| Sa rfl (zi (hv := by simp (disch := first | omega | simp only [nx]; omega) only [aIndexAddr, ty26, ty33, hpl, r0, r1, hc1, sb] <;> rfl)) rfl <| Sa rfl (zl (hv := (hr2 _ rfl).1 _ _ ty33 rfl rfl)) rfl <| Sa rfl (zf (hv := fa_ok (k := 4) ty28 rfl rfl ty26 rfl rfl)) rfl <| Sa rfl (zl (hv := by simp (disch := first | omega | simp only [nx]; omega) only [aLoad, ty26, rowOf, hpl, r0, r1, hc1, sb] <;> rfl)) rfl <| Sa rfl sm rfl <| Sa rfl (zi (hv := by simp (disch := first | omega | simp only [nx]; omega) only [aIndexAddr, ty26, ty33, hpl, r0, r1, hc1, sb] <;> rfl)) rfl <| Sa rfl (zl (hv := (hr2' _ rfl).1 _ _ ty33 rfl rfl)) rfl <| Sf rfl (zb (hv := neR x x)) rfl (by simp [eqRb_self]) <| Sn ?_
      refine Wn <| CWp.skip <| BQ.normal <| SQ.normal ?_
      refine W.reg <| Oa rfl sm rfl <| Oa rfl (zb (hv := bi_w bi_add (by first | (simp only [w2] <;> rfl) | rfl))) rfl <| Oa rfl za rfl <| OSuf.nil <| ?_
      refine LQ.normal (m := m - 1) (L := [(2, P0 h.next), (3, P0 (h.next + 1)), (6, I64 ((k + 1 : Nat) : Int))]) (by omega) ?_ ⟨k + 1, by omega, rfl, rfl⟩
      simp only [HasA, Tr.get_put, Nat.reduceEqDiff, reduceIte, w2, and_self]
    · refine W.seq <| Wr <| Oa rfl sm rfl <| Oa rfl (zf (hv := fa_ok (k := 4) ty28 rfl rfl ty26 rfl rfl)) rfl <| Oa rfl (zl (hv := by simp (disch := first | omega | simp only [nx]; omega) only [aLoad, ty26, rowOf, hpl, r0, r1] <;> rfl)) rfl <| Oa rfl (Zn (hv := by simp (disch := first | omega | simp only [nx]; omega) only [aLenOf, ty26, hpl, r0, r1] <;> rfl)) rfl <| Of rfl (zb (hv := bi_lss)) rfl (by first | rfl | assumption | ((simp only [bl, r0, r1]) <;> first | done | assumption | omega) | (simp; done) | (simp; omega)) <| On ?_
      refine Wn <| CWp.exit <| SQ.exit <| LQ.exit <| BQ.exit <| ?_
      refine NQ.normal (L := [(2, P0 h.next), (3, P0 (h.next + 1))]) ?_ ⟨rfl, rfl⟩
      simp only [HasA, Tr.get_put, Nat.reduceEqDiff, reduceIte, and_self]
  rintro L a' g ha ⟨rfl, rfl⟩
  refine SQ.normal <| CWp.known ha ?_
  simp only [mkA]
  refine Wr <| Ot rfl za rfl rfl <| On ?_
  refine CWp.ret <| FQ.ret (by simp only [aRet, Try.f20, aResults, aResult, lk, Nat.reduceEqDiff, reduceIte] <;> rfl) ?_
  exact ⟨rfl, fun r o hr ho => by rw [hh2]; simp (disch := first | omega | simp only [nx]; omega) only [hpl]; exact ho⟩
end Go.Proofs.Ytebheelmgcggmaa
namespace Go.Proofs.Ytebheelmgcggmaa
open Go.Ab Go.Sort
theorem img_of {l : List UInt8} (hl : l.length ≤ 400000) (e : Int) (h : readOK l = true) : imgM (leafS l) e = l := by
  obtain ⟨low, high, full, n, s4, eH⟩ : ∃ a b c d f, headS (some l) = (a, b, c, d, f) := ⟨_, _, _, _, _, rfl⟩
  have hL : leafS l = ⟨low, high, full, (recsS n s4).1.map (·.2), []⟩ := by simp only [leafS, eH]
  have hR : readOK l = (decide (n ≤ 64) && (recsS n s4).1.all (fun x => decide (x.1 ≤ 1)) && (endS (recsS n s4).2 && chk (leafS l))) := by simp only [readOK, eH]
  have l4 : lenS s4 ≤ 400000 := by have := headS_le (some l); rw [eH] at this; exact Nat.le_trans this hl
  rw [hR] at h
  simp only [Bool.and_eq_true, decide_eq_true_eq] at h
  obtain ⟨⟨h1, h2⟩, h3, h4⟩ := h
  have hs : (recsS n s4).2 = some [] := by
    cases hx : (recsS n s4).2 with
    | none => rw [hx] at h3; cases h3
    | some m => cases m with
      | nil => rfl
      | cons c t => rw [hx] at h3; cases h3
  obtain ⟨x, rfl⟩ : ∃ x, s4 = some x := by
    cases s4 with
    | none => rw [recsS_none] at hs; cases hs
    | some x => exact ⟨x, rfl⟩
  have g1 := headS_inv eH
  have g2 := recsS_inv n hs
  rw [List.append_nil] at g2
  have hok := recsS_ok n (some x) l4
  have hf : foldM (leafS l) e = leafS l := by
    have e1 : foldB e (leafS l) = (leafS l).base := by rw [hL]; simp [foldB]
    have hb : (leafS l).base.length ≤ 64 := by rw [hL]; simp [recsS_len, h1]
    rw [foldM, e1, if_pos ⟨h4, hb⟩, hL]; rfl
  rw [imgM, if_pos h4, hf, img, imgR_recs, hL]
  conv => rhs; rw [g1, g2]
  have hm : ((recsS n (some x)).1.map (·.2)).map (fun r => (delN r, r)) = (recsS n (some x)).1 := by
    rw [List.map_map]
    refine (List.map_congr_left (g := id) fun z hz => ?_).trans (List.map_id _)
    have hz1 := of_decide_eq_true (List.all_eq_true.1 h2 z hz)
    have hd := (hok z hz).d
    obtain ⟨d, r⟩ := z
    simp only at hz1 hd
    have : delN r = d := by
      simp only [delN, hd]
      by_cases h9 : d = 1
      · subst h9; rfl
      · have : d = 0 := by omega
        subst this; rfl
    simp only [Function.comp, this, id]
  show img0 _ ++ recsE (((recsS n (some x)).1.map (·.2)).map fun r => (delN r, r)) = _
  rw [hm]
  simp [img0, recsS_len]
theorem images_c (h : AHeap) (p : Lf) (e : Int) (s : List UInt8) (b1 b2 : Option Addr) (a1 : AtB b1 p.base.length) (a2 : AtB b2 p.deltas.length)
    (h1 : RS h p.base (.slice b1 p.base.length 0)) (h2 : RS h p.deltas (.slice b2 p.deltas.length 0)) (hp : 0 ≤ p.full) :
    FWp Try.prog 5 [LV p (.slice b1 p.base.length 0) (.slice b2 p.deltas.length 0), U64 e, encS s] h fun u _ => u = .bool true := by
  have tb5 := And.intro ty26 (And.intro ty28 (And.intro ty3 (And.intro ty33 (ty9))))
  obtain ⟨l, hl⟩ : ∃ l, l = s.take 4000 := ⟨_, rfl⟩
  have hll : l.length ≤ 400000 := by rw [hl]; simp; omega
  have e0 : (ByteArray.mk ⟨s⟩).size = s.length := rfl
  obtain ⟨m, hm, hm2⟩ : ∃ m : Nat, (if (4000 : Int) < (s.length : Int) then 4000 else (s.length : Int)) = (m : Int) ∧ m = min s.length 4000 := by
    refine ⟨min s.length 4000, ?_, rfl⟩
    split <;> omega
  have hlm : s.take m = l := by
    rw [hl, hm2]
    rcases Nat.le_total s.length 4000 with h1 | h1
    · rw [Nat.min_eq_left h1, List.take_of_length_le h1, List.take_of_length_le (Nat.le_refl _)]
    · rw [Nat.min_eq_right h1]
  have hsl : ∀ (t : TypeId) (ti : TI) (G : AHeap), T.get t = some ti → ti.und = .string → aSlice T t (encS s) none (some (I64 (m : Int))) none G = some (encS l) := fun t ti G h1 h2 => by
    rw [sl_strh (l := s) h1 h2 (by omega), hlm]
  obtain ⟨P, hP⟩ : ∃ P, P = cutM p := ⟨_, rfl⟩
  have lP : P.base.length ≤ 70 ∧ P.deltas.length ≤ 70 := by rw [hP]; simp only [cutM, List.length_take]; omega
  have fP : 0 ≤ P.full := by rw [hP]; exact hp
  have tk : ∀ (l : List Rec) (b : Option Addr), RS h l (.slice b l.length 0) → RS h (l.take 70) (.slice b (l.take 70).length 0) := fun l b s => by
    have hl : (l.take 70).length = min 70 l.length := List.length_take
    have e : l.take 70 = l.take (min 70 l.length) := by
      rcases Nat.le_total 70 l.length with h9 | h9
      · rw [Nat.min_eq_left h9]
      · rw [Nat.min_eq_right h9, List.take_of_length_le h9, List.take_of_length_le (Nat.le_refl _)]
    rw [hl, e]
    exact rs_take s (Nat.min_le_right _ _)
  have s1 : RS h P.base (.slice b1 P.base.length 0) := by rw [hP]; exact tk _ _ h1
  have s2 : RS h P.deltas (.slice b2 P.deltas.length 0) := by rw [hP]; exact tk _ _ h2
  have cp := fun G : AHeap => cut_c G p b1 b2 a1 a2
  rw [← hP] at cp
  refine W.enter tyOK Try.func5 rfl rfl ?_
  simp only [entry]
  refine Wr <| Oa rfl Zx rfl <| Of rfl za rfl rfl <| On ?_
  refine W.seq <| Wr <| OSuf.callD rfl (by simp only [aopnds, lk] <;> rfl) en7 (works_c _) rfl <| Of rfl Zt rfl rfl <| On ?_
  refine Wn <| CWp.skip <| SQ.normal ?_
  refine Wr <| Oa rfl (zl (hv := by simp (disch := first | omega | simp only [nx]; omega) only [aLoad, ty28, rowOf, hpl, Value.cells] <;> rfl)) rfl <| OSuf.call rfl (by simp only [aopnds, lk] <;> rfl) en17 (cp _) ?_
  rintro _ G1 ⟨rfl, n1, k1⟩
  simp only [nx] at n1
  have qp1 : G1.get h.next = some (LR p (.slice b1 p.base.length 0) (.slice b2 p.deltas.length 0)) := (by rw [k1 _ (by simp)]; simp (disch := first | omega | simp only [nx]; omega) only [hpl] <;> rfl)
  refine ⟨_, rfl, ?_⟩
  refine Oa rfl (zs (hv := by simp (disch := first | omega | simp only [nx]; omega) only [aStore, ty28, writeRow, hpl, Value.cells, qp1] <;> rfl)) rfl <| On ?_
  obtain ⟨A1, hA1⟩ : ∃ A1, A1 = G1.set h.next (LR P (.slice b1 P.base.length 0) (.slice b2 P.deltas.length 0)) := ⟨_, rfl⟩
  show CWp _ _ _ _ (G1.set h.next (LR P (.slice b1 P.base.length 0) (.slice b2 P.deltas.length 0))) _
  rw [← hA1]
  have nA1 : A1.next = G1.next := by rw [hA1]; rfl
  have qp : A1.get h.next = some (LR P (.slice b1 P.base.length 0) (.slice b2 P.deltas.length 0)) := by rw [hA1]; exact zP
  have old : ∀ z, z < h.next → A1.get z = h.get z := fun z hz => by rw [hA1, zS (by omega), k1 z (by simp; omega)]; simp (disch := first | omega | simp only [nx]; omega) only [hpl]
  have t1 := s1.mono (h' := A1) (by omega) old
  have t2 := s2.mono (h' := A1) (by omega) old
  refine CWp.known (L := [(1, U64 e), (2, encS s), (3, P0 h.next), (6, .bool false)]) ⟨(by simp only [lk] <;> rfl), (by simp only [lk] <;> rfl), (by simp only [lk] <;> rfl), (by simp only [lk] <;> rfl), trivial⟩ ?_
  simp only [mkA]
  have him := image_c A1 P _ _ e t1 t2 (by omega) (by omega) fP
  have hck := check_c A1 P _ _ t1 t2 (by omega) (by omega)
  obtain ⟨c, hcv⟩ : ∃ c : Int, c = if chk P = true then 0 else 2 := ⟨_, rfl⟩
  rw [← hcv] at hck
  have rn : ∀ G : AHeap, RS G [] (.slice none 0 0) := fun G => ⟨⟨_, _, rfl, .inl ⟨rfl, rfl, rfl⟩⟩⟩
  refine Wr <| Oa rfl (zl (hv := by simp (disch := first | omega | simp only [nx]; omega) only [aLoad, ty28, rowOf, hpl, qp, Value.cells] <;> rfl)) rfl <| Oa rfl sm rfl <| OSuf.callD rfl (by simp only [aopnds, lk] <;> rfl) en18 (him) rfl <| Oa rfl za rfl <| On ?_
  refine W.seq <| Wr <| Oa rfl (zl (hv := by simp (disch := first | omega | simp only [nx]; omega) only [aLoad, ty28, rowOf, hpl, qp, Value.cells] <;> rfl)) rfl <| OSuf.callD rfl (by simp only [aopnds, lk] <;> rfl) en12 (hck) rfl <| Oa rfl (zb (hv := bi_neq)) rfl <| On ?_
  refine W.cut (fun L g => L = [(1, U64 e), (2, encS s), (6, .bool false)]) ?_ ?_
  · by_cases hc : chk P = true
    · rw [if_pos hc] at hcv
      subst hcv
      obtain ⟨nb, nd, hnb, hnd, wf⟩ := fold_c A1 P _ _ e t1 t2 (by omega) (by omega) (fun h9 => by omega)
      obtain ⟨ib1, ib2, ib3⟩ := img_back (e := e) hc fP
      obtain ⟨F, hF⟩ : ∃ F, F = foldM P e := ⟨_, rfl⟩
      rw [← hF] at wf hnb hnd ib2
      obtain ⟨F0, hF0⟩ : ∃ F0 : Lf, F0 = ⟨P.low, P.high, P.full, F.base, []⟩ := ⟨_, rfl⟩
      rw [← hF0] at ib2
      obtain ⟨m1, m2, m3⟩ := foldM_parts P e
      rw [← hF] at m1 m2 m3
      have hl64 : F.base.length ≤ 64 := by rw [hF]; exact (fm_of hc fP).base
      obtain ⟨hr1, hr2⟩ := hand_rs (h := A1) (p := F) (nb := nb) (nd := nd) hnb hnd
      have hnx := hand_next A1 F nb nd
      generalize hand A1 F nb nd = H1 at wf hr1 hr2 hnx
      obtain ⟨x1, y1, ev1⟩ : ∃ x y, cval nb A1.next F.base = .slice x F.base.length y := by
        cases nb with
        | true => exact ⟨none, 0, by rw [hnb rfl]; rfl⟩
        | false => exact ⟨_, _, rfl⟩
      obtain ⟨x2, y2, ev2⟩ : ∃ x y, cval nd (A1.next + 1) F.deltas = .slice x F.deltas.length y := by
        cases nd with
        | true => exact ⟨none, 0, by rw [hnd rfl]; rfl⟩
        | false => exact ⟨_, _, rfl⟩
      rw [ev1, ev2] at wf
      rw [ev1] at hr1
      have pt : ∀ G : AHeap, FWp Try.prog 19 [encS (imgM P e)] G fun u g => ∃ b, u = .tuple #[LV F0 (.slice b F.base.length 0) (.slice none 0 0), I64 0] ∧ SV g 4 G.next (fl F.base) (.slice b F.base.length 0) ∧ G.next ≤ g.next ∧ ∀ z, z < G.next → g.get z = G.get z := fun G =>
        (parse_c G _ ib3).mono fun u g ⟨hu, h1, h2⟩ => by
          rcases hu with ⟨_, bv, rfl, hs⟩ | ⟨hf, _⟩
          · rw [ib2] at hs ⊢
            have eb : F0.base = F.base := by rw [hF0]
            rw [eb] at hs
            obtain ⟨b, rfl⟩ := sv_form hs
            exact ⟨b, rfl, hs, h1, h2⟩
          · rw [ib1] at hf; cases hf
      refine W.no (by simp only [lk] <;> rfl) ?_
      refine Wr <| Oa rfl (zl (hv := by simp (disch := first | omega | simp only [nx]; omega) only [aLoad, ty28, rowOf, hpl, qp, Value.cells] <;> rfl)) rfl <| Oa rfl sm rfl <| OSuf.callD rfl (by simp only [aopnds, lk] <;> rfl) en8 (wf) rfl <| Oa rfl (so_alloc (by simp only [aAlloc, ty28] <;> rfl)) rfl <| Oa rfl (zs (hv := by simp (disch := first | omega | simp only [nx]; omega) only [aStore, ty28, writeRow, hpl, qp, Value.cells] <;> rfl)) rfl <| On ?_
      refine Wr <| Oa rfl (zf (hv := fa_ok (k := 4) ty28 rfl rfl ty26 rfl rfl)) rfl <| Oa rfl (zs (hv := by simp (disch := first | omega | simp only [nx]; omega) only [aStore, ty26, writeRow, hpl, qp, Value.cells] <;> rfl)) rfl <| On ?_
      refine Wr <| Oa rfl sm rfl <| OSuf.call rfl (by simp only [aopnds, lk] <;> rfl) en19 (pt _) ?_
      rintro _ g2 ⟨b, rfl, sg, n2, k2⟩
      simp only [nx] at n2 k2 sg
      have q8 : g2.get H1.next = some (LR F0 (.slice x1 F.base.length y1) (.slice none 0 0)) := (by rw [k2 _ (by omega), hF0, ← m1, ← m2, ← m3]; simp (disch := first | omega | simp only [nx]; omega) only [hpl] <;> rfl)
      refine ⟨_, rfl, ?_⟩
      refine Oa rfl sm rfl <| Oa rfl (ze (hv := by simp (disch := first | omega | simp only [nx]; omega) only [aExtract, hpl, qp, Value.cells, places, tb5, q8] <;> rfl)) rfl <| Oa rfl (ze (hv := by simp (disch := first | omega | simp only [nx]; omega) only [aExtract, hpl, qp, Value.cells, places, tb5, q8] <;> rfl)) rfl <| Oa rfl (so_alloc (by simp only [aAlloc, ty28] <;> rfl)) rfl <| Oa rfl (zs (hv := by simp (disch := first | omega | simp only [nx]; omega) only [aStore, ty28, writeRow, hpl, qp, Value.cells, q8] <;> rfl)) rfl <| Oa rfl za rfl <| On ?_
      refine Wr <| Oa rfl sm rfl <| Of rfl (zb (hv := bi_neq)) rfl (by first | rfl | assumption | ((simp only [bl, qp, Value.cells, places, tb5, q8]) <;> first | done | assumption | omega) | (simp; done) | (simp; omega)) <| Of rfl sm rfl rfl <| Oa ag (zl (hv := by simp (disch := first | omega | simp only [nx]; omega) only [aLoad, ty28, rowOf, hpl, qp, Value.cells, q8] <;> rfl)) rfl <| Oa ag (zl (hv := by simp (disch := first | omega | simp only [nx]; omega) only [aLoad, ty28, rowOf, hpl, qp, Value.cells, q8] <;> rfl)) rfl <| OSuf.callD ag (by simp only [aopnds, lk] <;> rfl) en20 (same_c _ F0 _ _ _ _ (by rw [hF0]; exact sv_rs (sg.mono (by simp only [nx]; omega) (fun z hz he => by simp (disch := first | omega | simp only [nx]; omega) only [hpl]))) (by rw [hF0]; exact rn _) (by rw [hF0]; exact hr1.mono (by simp only [nx]; omega) (fun z hz => by simp (disch := first | omega | simp only [nx]; omega) only [hpl]; rw [k2 z (by omega)]; simp (disch := first | omega | simp only [nx]; omega) only [hpl])) (by rw [hF0]; exact rn _) (by rw [hF0]; show F.base.length ≤ _; omega) (by rw [hF0]; simp)) rfl <| Of ag Zt rfl rfl <| Of rfl Zp rfl rfl <| On ?_
      refine Wn <| CWp.skip <| ?_
      refine NQ.normal (L := [(1, U64 e), (2, encS s), (6, .bool false)]) ?_ rfl
      simp only [HasA, Tr.get_put, Nat.reduceEqDiff, reduceIte, and_self]
    · rw [if_neg hc] at hcv
      subst hcv
      have hi : imgM P e = [] := by rw [imgM, if_neg hc]
      refine W.yes (by simp only [lk] <;> rfl) ?_
      refine Wr <| Oa rfl sm rfl <| Of rfl (zb (hv := bs_neq)) rfl (by simp [hi]) <| On ?_
      refine Wn <| CWp.skip <| ?_
      refine NQ.normal (L := [(1, U64 e), (2, encS s), (6, .bool false)]) ?_ rfl
      simp only [HasA, Tr.get_put, Nat.reduceEqDiff, reduceIte, and_self]
  rintro L a' g ha rfl
  cases hc : readOK l with
  | true =>
    have pt : ∀ G : AHeap, FWp Try.prog 19 [encS l] G fun u g => ∃ b, u = .tuple #[LV (leafS l) (.slice b (leafS l).base.length 0) (.slice none 0 0), I64 0] ∧ SV g 4 G.next (fl (leafS l).base) (.slice b (leafS l).base.length 0) ∧ G.next ≤ g.next ∧ ∀ z, z < G.next → g.get z = G.get z := fun G =>
      (parse_c G l hll).mono fun u g ⟨hu, h1, h2⟩ => by
        rcases hu with ⟨_, bv, rfl, hs⟩ | ⟨hf, _⟩
        · obtain ⟨b, rfl⟩ := sv_form hs
          exact ⟨b, rfl, hs, h1, h2⟩
        · rw [hc] at hf; cases hf
    have hio := img_of hll e hc
    have hbl : (leafS l).base.length ≤ 64 := by
      have h := hc
      simp only [readOK, Bool.and_eq_true] at h
      have h := h.2.2
      simp only [chk, Bool.and_eq_true, decide_eq_true_eq] at h
      omega
    have hfu : 0 ≤ (leafS l).full := by simp only [leafS]; omega
    have hig : ∀ (G : AHeap) (b : Option Addr), RS G (leafS l).base (.slice b (leafS l).base.length 0) → FWp Try.prog 18 [LV (leafS l) (.slice b (leafS l).base.length 0) (.slice none 0 0), U64 e] G fun u g => u = encS l ∧ g = G := fun G b hG => by
      have := image_c G (leafS l) _ _ e hG (rn G) (by omega) (by simp [leafS]) hfu
      rw [hio] at this; exact this
    refine SQ.normal <| CWp.known ha ?_
    simp only [mkA]
    refine Wr <| Oa rfl sm rfl <| Oa rfl sm rfl <| Oa rfl (Zn (hv := by simp (disch := first | omega | simp only [nx]; omega) only [aLenOf, ty9, hpl, e0, hm, Value.cells, places, tb5] <;> rfl)) rfl <| Oa rfl (so_min (by simp only [aopnds, lk] <;> rfl)) rfl <| Oa rfl (so_slice (by simp only [lk] <;> rfl) (by simp only [oopnd, lk] <;> rfl) (by simp only [oopnd, lk] <;> rfl) (by simp only [oopnd, lk] <;> rfl) (by rw [hm]; exact hsl _ _ _ ty9 rfl)) rfl <| Oa rfl za rfl <| On ?_
    refine Wr <| Oa rfl sm rfl <| OSuf.call rfl (by simp only [aopnds, lk] <;> rfl) en19 (pt _) ?_
    rintro _ g1 ⟨b1, rfl, s1, n1, k1⟩
    refine ⟨_, rfl, ?_⟩
    refine Oa rfl sm rfl <| Oa rfl (ze (hv := by simp (disch := first | omega | simp only [nx]; omega) only [aExtract, hpl, e0, hm, Value.cells, places, tb5] <;> rfl)) rfl <| Oa rfl (ze (hv := by simp (disch := first | omega | simp only [nx]; omega) only [aExtract, hpl, e0, hm, Value.cells, places, tb5] <;> rfl)) rfl <| Oa rfl (so_alloc (by simp only [aAlloc, ty28] <;> rfl)) rfl <| Oa rfl (zs (hv := by simp (disch := first | omega | simp only [nx]; omega) only [aStore, ty28, writeRow, hpl, e0, hm, Value.cells] <;> rfl)) rfl <| Oa rfl za rfl <| On ?_
    refine W.seq <| Wr <| Oa rfl sm rfl <| Of rfl (zb (hv := bi_neq)) rfl (by first | rfl | assumption | ((simp only [bl, e0, hm, Value.cells, places, tb5]) <;> first | done | assumption | omega) | (simp; done) | (simp; omega)) <| On ?_
    refine Wn <| CWp.skip <| SQ.normal ?_
    refine Wr <| Oa rfl (zf (hv := fa_ok (k := 4) ty28 rfl rfl ty26 rfl rfl)) rfl <| Oa rfl (zl (hv := by simp (disch := first | omega | simp only [nx]; omega) only [aLoad, ty26, rowOf, hpl, e0, hm, Value.cells] <;> rfl)) rfl <| Oa rfl (Zn (hv := by simp (disch := first | omega | simp only [nx]; omega) only [aLenOf, ty26, hpl, e0, hm, Value.cells, places, tb5] <;> rfl)) rfl <| Ot rfl (zb (hv := bi_eql)) rfl (by first | rfl | assumption | ((simp only [bl, e0, hm, Value.cells, places, tb5]) <;> first | done | assumption | omega) | (simp; done) | (simp; omega)) <| Ot rfl sm rfl rfl <| Oa ag (zl (hv := by simp (disch := first | omega | simp only [nx]; omega) only [aLoad, ty28, rowOf, hpl, e0, hm, Value.cells] <;> rfl)) rfl <| Oa ag sm rfl <| OSuf.callD ag (by simp only [aopnds, lk] <;> rfl) en18 (hig _ b1 (sv_rs (s1.mono (by simp only [nx]; omega) (fun z hz he => by simp (disch := first | omega | simp only [nx]; omega) only [hpl])))) rfl <| Oa ag sm rfl <| Oa ag (zb (hv := bs_eql)) rfl <| Oa rfl Zp rfl <| Oa rfl za rfl <| On ?_
    refine CWp.ret <| FQ.ret (by simp only [aRet, Try.f5, aResults, aResult, lk, Nat.reduceEqDiff, reduceIte] <;> rfl) ?_
    simp
  | false =>
    have pt : ∀ G : AHeap, FWp Try.prog 19 [encS l] G fun u g => u = .tuple #[LV ⟨[], [], 0, [], []⟩ (.slice none 0 0) (.slice none 0 0), I64 4] ∧ G.next ≤ g.next ∧ ∀ z, z < G.next → g.get z = G.get z := fun G =>
      (parse_c G l hll).mono fun u g ⟨hu, h1, h2⟩ => by
        rcases hu with ⟨hf, _⟩ | ⟨_, rfl⟩
        · rw [hc] at hf; cases hf
        · exact ⟨rfl, h1, h2⟩
    refine SQ.normal <| CWp.known ha ?_
    simp only [mkA]
    refine Wr <| Oa rfl sm rfl <| Oa rfl sm rfl <| Oa rfl (Zn (hv := by simp (disch := first | omega | simp only [nx]; omega) only [aLenOf, ty9, hpl, e0, hm, Value.cells, places, tb5] <;> rfl)) rfl <| Oa rfl (so_min (by simp only [aopnds, lk] <;> rfl)) rfl <| Oa rfl (so_slice (by simp only [lk] <;> rfl) (by simp only [oopnd, lk] <;> rfl) (by simp only [oopnd, lk] <;> rfl) (by simp only [oopnd, lk] <;> rfl) (by rw [hm]; exact hsl _ _ _ ty9 rfl)) rfl <| Oa rfl za rfl <| On ?_
    refine Wr <| Oa rfl sm rfl <| OSuf.call rfl (by simp only [aopnds, lk] <;> rfl) en19 (pt _) ?_
    rintro _ g1 ⟨rfl, n1, k1⟩
    refine ⟨_, rfl, ?_⟩
    refine Oa rfl sm rfl <| Oa rfl (ze (hv := by simp (disch := first | omega | simp only [nx]; omega) only [aExtract, hpl, e0, hm, Value.cells, places, tb5] <;> rfl)) rfl <| Oa rfl (ze (hv := by simp (disch := first | omega | simp only [nx]; omega) only [aExtract, hpl, e0, hm, Value.cells, places, tb5] <;> rfl)) rfl <| Oa rfl (so_alloc (by simp only [aAlloc, ty28] <;> rfl)) rfl <| Oa rfl (zs (hv := by simp (disch := first | omega | simp only [nx]; omega) only [aStore, ty28, writeRow, hpl, e0, hm, Value.cells] <;> rfl)) rfl <| Oa rfl za rfl <| On ?_
    refine W.seq <| Wr <| Oa rfl sm rfl <| Ot rfl (zb (hv := bi_neq)) rfl (by first | rfl | assumption | ((simp only [bl, e0, hm, Value.cells, places, tb5]) <;> first | done | assumption | omega) | (simp; done) | (simp; omega)) <| On ?_
    refine Wy <| Wr <| Oa rfl sm rfl <| Ot rfl (zb (hv := bi_eql)) rfl (by first | rfl | assumption | ((simp only [bl, e0, hm, Value.cells, places, tb5]) <;> first | done | assumption | omega) | (simp; done) | (simp; omega)) <| Ot rfl sm rfl rfl <| Oa ag (zl (hv := by simp (disch := first | omega | simp only [nx]; omega) only [aLoad, ty28, rowOf, hpl, e0, hm, Value.cells] <;> rfl)) rfl <| Oa ag (so_build (by simp only [aparts, lk] <;> rfl) (by simp only [aBuild, ty28, e0, hm, Value.cells, places, tb5] <;> rfl)) rfl <| OSuf.callD ag (by simp only [aopnds, lk] <;> rfl) en20 (same_c _ ⟨[], [], 0, [], [] ⟩ _ _ _ _ (rn _) (rn _) (rn _) (rn _) (by simp) (by simp)) rfl <| Ot rfl Zp rfl rfl <| Ot rfl za rfl rfl <| On ?_
    refine CWp.ret <| SQ.ret <| FQ.ret (by simp only [aRet, Try.f5, aResults, aResult, lk, Nat.reduceEqDiff, reduceIte] <;> rfl) ?_
    rfl
end Go.Proofs.Ytebheelmgcggmaa
