/-
  Merged: RgE, RgF, RgG, RgH.
-/
import Derived.Test.YtebheelmgcggmaaGreatMo
set_option linter.unusedSimpArgs false
set_option linter.unusedVariables false
set_option maxRecDepth 10000
set_option maxHeartbeats 8000000
namespace Go.Proofs.YtebheelmgcggmaaGreat
open Go.Ab Go.Sort
theorem sv_atb {h : AHeap} {lo : Nat} {l : List Rec} {b : Option Addr} (s : SV h 4 lo (fl l) (.slice b l.length 0)) : AtB b l.length := by
  obtain ⟨b', e, _, hr⟩ := s.form
  have e9 : b = b' := by injection e
  subst e9
  by_cases hl : l = []
  · left
    have := s.empty (fl_nil.2 hl)
    injection this with e1
    exact ⟨e1, by rw [hl]; rfl⟩
  · obtain ⟨y, h1, _⟩ := hr (fun e => hl (fl_nil.1 e))
    exact .inr ⟨y, h1⟩
theorem svr_lo {h : AHeap} {lo : Nat} {l : List Rec} {b : Option Addr} (s : SV h 4 lo (fl l) (.slice b l.length 0)) {i : Nat} (hi : i ≤ l.length) :
    ∃ x, (∀ t elem ti ei, T.get t = some ti → ti.und = .slice elem → T.get elem = some ei → ei.size = 4 → aSlice T t (.slice b l.length 0) (some (I64 i)) none none h = some x) ∧ aLen x = some (l.length - i) ∧ ∀ g : AHeap, (∀ z, svRow (.slice b l.length 0) = some z → g.get z = h.get z) → aCells g 4 (l.length - i) x = some (fl (l.drop i)) := by
  by_cases hl : l = []
  · have e := s.empty (fl_nil.2 hl)
    injection e with e1
    subst e1
    subst hl
    have : i = 0 := by simpa using hi
    subst this
    exact ⟨_, fun t elem ti ei h1 h2 h3 _ => sl_0 (x := (0, 0, 0)) h1 h2 h3 rfl, rfl, fun _ _ => rfl⟩
  · obtain ⟨b', e, _, hr⟩ := s.form
    have e9 : b = b' := by injection e
    subst e9
    obtain ⟨y, rfl, hy, _, _, hg⟩ := hr (fun e => hl (fl_nil.1 e))
    refine ⟨.slice (some ⟨y, 0 + i * 4, none⟩) (l.length - i) 0, fun t elem ti ei g1 g2 g3 g4 => by rw [← g4]; exact sl_u g1 g2 g3 (bounds_lo hi) (by rw [g4]; exact hg), rfl, fun g hk => ?_⟩
    have e : rowOf g y = some (fl l) := by simp only [rowOf, hk y rfl, hg]
    refine aCells_part e xA ?_
    have e2 : fl l = fl (l.take i) ++ fl (l.drop i) := by rw [← fl_app, List.take_append_drop]
    rw [cellsOf_mk (by rw [fl_length]; omega), e2, Nat.zero_add, List.drop_left' (by rw [fl_length, List.length_take]; omega), List.take_of_length_le (by rw [fl_length, List.length_drop]; omega)]
theorem first_ge (k : List UInt8) : ∀ l : List Rec, ∃ i, i ≤ l.length ∧ (∀ (j : Nat) (x : Rec), j < i → l[j]? = some x → ltStr x.key k = true) ∧ ∀ x : Rec, l[i]? = some x → ltStr x.key k = false
  | [] => ⟨0, Nat.le_refl _, by omega, by simp⟩
  | a :: l => by
    cases c : ltStr a.key k with
    | false => exact ⟨0, Nat.zero_le _, by omega, fun x hx => by have : a = x := by simpa using hx
                                                                 rw [← this]; exact c⟩
    | true =>
      obtain ⟨i, h1, h2, h3⟩ := first_ge k l
      refine ⟨i + 1, by simp; omega, fun j x hj hx => ?_, fun x hx => h3 x xV⟩
      cases j with
      | zero =>
        have : a = x := by simpa using hx
        rw [← this]; exact c
      | succ j => exact h2 j x xA xV
theorem into_at {r : Rec} : ∀ {l : List Rec} {i : Nat}, (∀ (j : Nat) (x : Rec), j < i → l[j]? = some x → ltStr x.key r.key = true) → i ≤ l.length → (∀ x : Rec, l[i]? = some x → ltStr x.key r.key = false) →
    (∀ x : Rec, l[i]? = some x → x.key = r.key → x.lsn < r.lsn → into r l = l.set i r) ∧ (∀ x : Rec, l[i]? = some x → x.key = r.key → ¬ x.lsn < r.lsn → into r l = l) ∧ ((∀ x : Rec, l[i]? = some x → ¬ x.key = r.key) → into r l = l.take i ++ r :: l.drop i)
  | [], i, _, hi, _ => by
    have : i = 0 := by simpa using hi
    subst this
    exact ⟨fun x hx => by simp at hx, fun x hx => by simp at hx, fun _ => rfl⟩
  | a :: l, 0, _, _, h3 => by
    have h4 : ¬ ltStr a.key r.key = true := by rw [h3 a rfl]; decide
    refine ⟨fun x hx hk hl => ?_, fun x hx hk hl => ?_, fun hk => ?_⟩
    · have : a = x := by simpa using hx
      subst this
      rw [into, if_neg h4, if_pos hk, if_pos hl]; rfl
    · have : a = x := by simpa using hx
      subst this
      rw [into, if_neg h4, if_pos hk, if_neg hl]
    · rw [into, if_neg h4, if_neg (hk a rfl)]; rfl
  | a :: l, i + 1, h1, hi, h3 => by
    have h4 := h1 0 a xA rfl
    obtain ⟨e1, e2, e3⟩ := into_at (r := r) (l := l) (i := i) (fun j x hj hx => h1 (j + 1) x xA xV) xY (fun x hx => h3 x xV)
    refine ⟨fun x hx hk hl => ?_, fun x hx hk hl => ?_, fun hk => ?_⟩
    · simp only [into, h4, if_true]; rw [e1 x xV hk hl]; rfl
    · simp only [into, h4, if_true]; rw [e2 x xV hk hl]
    · simp only [into, h4, if_true]; rw [e3 (fun x hx => hk x xV)]; rfl
theorem into0_c (h : AHeap) (lo : Nat) (l : List Rec) (r : Rec) (b : Option Addr) (s : SV h 4 lo (fl l) (.slice b l.length 0)) (hl : l.length ≤ 1000000) (hlo : lo ≤ h.next) (hk : ∀ x ∈ l, SL x.key) (hr : SL r.key) :
    ∃ b' H, FWp Tryz.prog 56 [.slice b l.length 0, r.V] h (fun u g => u = .slice b' (into r l).length 0 ∧ g = H) ∧ SV H 4 lo (fl (into r l)) (.slice b' (into r l).length 0) ∧ h.next ≤ H.next ∧ (∀ z, z < h.next → ¬ svRow (.slice b l.length 0) = some z → H.get z = h.get z) ∧ ∀ z, svRow (.slice b' (into r l).length 0) = some z → svRow (.slice b l.length 0) = some z ∨ h.next ≤ z := by
  have tb56 := And.intro ty22 (And.intro ty23 (And.intro ty27 (ty9)))
  obtain ⟨i, hi, hlt, hge⟩ := first_ge r.key l
  obtain ⟨p1, p2, p3⟩ := into_at hlt hi hge
  obtain ⟨h1, hh1⟩ : ∃ h1, h1 = h.new (.cells [encS r.key, U64 r.lsn, .bool r.del, encS r.val] 1) := ⟨_, rfl⟩
  have n1 : h1.next = h.next + 1 := by rw [hh1]; rfl
  have k1 : ∀ z, z < h.next → h1.get z = h.get z := fun z hz => by rw [hh1]; exact zN xA
  have u0 : h1.get h.next = some (.cells [encS r.key, U64 r.lsn, .bool r.del, encS r.val] 1) := by rw [hh1]; exact zQ
  have s1 : SV h1 4 lo (fl l) (.slice b l.length 0) := s.mono xA (fun z hz _ => k1 z hz)
  have rs1 := sv_rs s1
  by_cases heq : ∃ x, l[i]? = some x ∧ x.key = r.key
  · obtain ⟨x0, hx0, hkx⟩ := heq
    have hi0 := (List.getElem?_eq_some_iff.1 hx0).1
    obtain ⟨_, q, off, eb, hq1, hq2⟩ := RS.at_ rs1 hx0
    have hc0 : (0 ≤ (i : Int) ∧ (i : Int) < (l.length : Int)) := by omega
    have hne : l ≠ [] := fun e => by rw [e] at hi0; simp at hi0
    obtain ⟨b', e', _, hr'⟩ := s1.form
    have e9 : b = b' := by injection e'
    subst e9
    obtain ⟨y, ey, hy1, hy2, hy3, hy4⟩ := hr' (fun e => hne (fl_nil.1 e))
    rw [eb] at ey
    cases ey
    simp only [Nat.zero_add] at hq2
    have tk : List.take 4 (List.drop 0 [encS r.key, U64 r.lsn, .bool r.del, encS r.val]) = [encS r.key, U64 r.lsn, .bool r.del, encS r.val] := rfl
    have tz : Nat.beq (List.toArray [encS r.key, U64 r.lsn, .bool r.del, encS r.val]).size 4 = true := rfl
    have to : oneCells [encS r.key, U64 r.lsn, .bool r.del, encS r.val] = true := rfl
    have tl : [encS r.key, U64 r.lsn, .bool r.del, encS r.val].length = 4 := rfl
    by_cases hls : x0.lsn < r.lsn
    · rw [p1 x0 hx0 hkx hls, List.length_set]
      have hsp := fl_set (l := l) r (i := i) hi0
      have hbl := fl_ble (l := l) (i := i) hi0
      have hsp' : splice (fl l) (i * 4) [encS r.key, U64 r.lsn, .bool r.del, encS r.val] = fl (l.set i r) := hsp
      refine ⟨b, h1.set q (.cells (fl (l.set i r)) 4), ?_, ?_, by simp only [nx]; omega, fun z hz hv => ?_, fun z hz => .inl hz⟩
      · refine W.enter tyOK Tryz.func56 rfl rfl ?_
        simp only [entry]
        refine Wr <| ja Zx <| ja za <| On ?_
        refine Wr <| ja za <| On ?_
        refine W.seq <| ?_
        refine W.cut (fun L g => h1 = g ∧ L = [(0, .slice b l.length 0), (3, P0 h.next), (5, I64 i)]) (W.block (W.loop (fun m L g => ∃ j : Nat, m + j = i ∧ h1 = g ∧ L = [(0, .slice b l.length 0), (3, P0 h.next), (5, I64 j)]) (n := i) ⟨0, rfl, hh1, rfl⟩ ?_ ?_)) ?_
        · simp [HasA, Tr.get_put]
        · rintro m L g ⟨j, hm, rfl, rfl⟩
          simp only [mkA]
          have w2 : IntKind.i64.wrap ((j : Int) + 1) = ((j + 1 : Nat) : Int) := by rw [wrap_i64 xA xA]; omega
          by_cases hj : (j : Int) < (l.length : Int)
          · obtain ⟨x, hx⟩ : ∃ x, l[j]? = some x := ⟨l[j]'xA, by simp⟩
            obtain ⟨_, q2, off2, eb2, hr1, hr2⟩ := RS.at_ rs1 hx
            have hc1 : (0 ≤ (j : Int) ∧ (j : Int) < (l.length : Int)) := by omega
            have hless := fun G : AHeap => less_c G x.key r.key (hk x (List.mem_of_getElem? hx)) hr
            by_cases hji : j < i
            · rw [hlt j x hji hx] at hless
              have jY := An @u0 <| An @eb2 <| An @hc1 <| An @sb <| An ty9 <| An ty23 <| An ty27 <| tb56
              refine W.seq <| Wd <| jb sm <| jb sm <| jb Jn <| jg Jt <| jG sm rfl <| jb sm <| jb sm <| jb Ji <| jb J27f0 <| jb (zl (hv := (hr2 _ rfl).2 0 _ _ _ ty9 rfl rfl)) <| jb J27f0 <| jb Jl <| jl (Jc en49 (hless _)) rfl <| jG Zp rfl <| Sn ?_
              refine Wy <| CWp.skip <| SQ.normal ?_
              have jW := @w2
              refine W.block <| W.reg <| ja sm <| ja Ja <| ja za <| OSuf.nil <| BQ.normal <| ?_
              refine LQ.normal (m := m - 1) (L := [(0, .slice b l.length 0), (3, P0 h.next), (5, I64 ((j + 1 : Nat) : Int))]) xA ?_ ⟨j + 1, by omega, rfl, rfl⟩
              simp only [HasA, Tr.get_put, Nat.reduceEqDiff, reduceIte, w2, and_self]
            · obtain rfl : j = i := by omega
              rw [hge x hx] at hless
              have jY := An @u0 <| An @eb2 <| An @hc1 <| An @sb <| An ty9 <| An ty23 <| An ty27 <| tb56
              refine W.seq <| Wd <| jb sm <| jb sm <| jb Jn <| jg Jt <| jG sm rfl <| jb sm <| jb sm <| jb Ji <| jb J27f0 <| jb (zl (hv := (hr2 _ rfl).2 0 _ _ _ ty9 rfl rfl)) <| jb J27f0 <| jb Jl <| jl (Jc en49 (hless _)) rfl <| jH Zp rfl <| Sn ?_
              refine Wn <| CWp.exit <| SQ.exit <| LQ.exit <| BQ.exit <| ?_
              refine NQ.normal (L := [(0, .slice b l.length 0), (3, P0 h.next), (5, I64 j)]) ?_ ⟨rfl, rfl⟩
              simp only [HasA, Tr.get_put, Nat.reduceEqDiff, reduceIte, and_self]
          · have jY := ty23
            refine W.seq <| Wd <| jb sm <| jb sm <| jb Jn <| jw Jt <| jH sm rfl <| jq rfl <| jq rfl <| jq rfl <| jq rfl <| jq rfl <| jq rfl <| jq rfl <| jq rfl <| jH Zp rfl <| Sn ?_
            refine Wn <| CWp.exit <| SQ.exit <| LQ.exit <| BQ.exit <| ?_
            obtain rfl : j = i := by omega
            refine NQ.normal (L := [(0, .slice b l.length 0), (3, P0 h.next), (5, I64 j)]) ?_ ⟨rfl, rfl⟩
            simp only [HasA, Tr.get_put, Nat.reduceEqDiff, reduceIte, and_self]
        rintro L a' g ha ⟨rfl, rfl⟩
        refine SQ.normal <| CWp.known ha ?_
        simp only [mkA]
        have jY := An @u0 <| An @eb <| An @hy4 <| An @hc0 <| An @tk <| An @tz <| An @to <| An @tl <| An @Bool.and_self <| An @hsp <| An @hsp' <| An @hbl <| An @rcl <| An @sb <| An @csz <| An @csl <| An @cso <| An @csn <| An @csb <| An ty9 <| An ty23 <| An ty27 <| An tb56 <| ty22
        refine W.seq <| Wd <| jb sm <| jb sm <| jb Jn <| jg Jt <| jG sm rfl <| jb sm <| jb sm <| jb Ji <| jb J27f0 <| jb (zl (hv := (hq2 _ rfl).2 0 _ _ _ ty9 rfl rfl)) <| jb J27f0 <| jb Jl <| jG (zb (hv := bs_eql)) xf <| jG Zp rfl <| Sn ?_
        refine Wy <| W.seq <| Wd <| jb sm <| jb sm <| jb Ji <| jb J27f1 <| jb (zl (hv := (hq2 _ rfl).2 1 _ _ _ ty22 rfl rfl)) <| jb J27f1 <| jb Jl <| jG Jt (by simp [hls]) <| Sn ?_
        refine Wy <| W.reg <| ja sm <| ja sm <| ja Jl <| ja Ji <| jc Js <| On ?_
        refine Wr <| ja sm <| ja za <| On ?_
        refine CWp.ret <| SQ.ret <| Jr ?_
        exact ⟨rfl, rfl⟩
      · rw [eb]
        exact .some (by rw [fl_length, List.length_set]) xA xF (zP) (fun e => by rw [fl_nil] at e; exact hne (by simpa using e))
      · rw [eb] at hv
        have : ¬ q = z := fun e => hv (by rw [e]; rfl)
        rw [zS xA]; exact k1 z hz
    · rw [p2 x0 hx0 hkx hls]
      refine ⟨b, h1, ?_, s1, by omega, fun z hz _ => k1 z hz, fun z hz => .inl hz⟩
      refine W.enter tyOK Tryz.func56 rfl rfl ?_
      simp only [entry]
      refine Wr <| ja Zx <| ja za <| On ?_
      refine Wr <| ja za <| On ?_
      refine W.seq <| ?_
      refine W.cut (fun L g => h1 = g ∧ L = [(0, .slice b l.length 0), (3, P0 h.next), (5, I64 i)]) (W.block (W.loop (fun m L g => ∃ j : Nat, m + j = i ∧ h1 = g ∧ L = [(0, .slice b l.length 0), (3, P0 h.next), (5, I64 j)]) (n := i) ⟨0, rfl, hh1, rfl⟩ ?_ ?_)) ?_
      · simp [HasA, Tr.get_put]
      · rintro m L g ⟨j, hm, rfl, rfl⟩
        simp only [mkA]
        have w2 : IntKind.i64.wrap ((j : Int) + 1) = ((j + 1 : Nat) : Int) := by rw [wrap_i64 xA xA]; omega
        by_cases hj : (j : Int) < (l.length : Int)
        · obtain ⟨x, hx⟩ : ∃ x, l[j]? = some x := ⟨l[j]'xA, by simp⟩
          obtain ⟨_, q2, off2, eb2, hr1, hr2⟩ := RS.at_ rs1 hx
          have hc1 : (0 ≤ (j : Int) ∧ (j : Int) < (l.length : Int)) := by omega
          have hless := fun G : AHeap => less_c G x.key r.key (hk x (List.mem_of_getElem? hx)) hr
          by_cases hji : j < i
          · rw [hlt j x hji hx] at hless
            have jY := An @u0 <| An @eb2 <| An @hc1 <| An @sb <| An ty9 <| An ty23 <| An ty27 <| tb56
            refine W.seq <| Wd <| jb sm <| jb sm <| jb Jn <| jg Jt <| jG sm rfl <| jb sm <| jb sm <| jb Ji <| jb J27f0 <| jb (zl (hv := (hr2 _ rfl).2 0 _ _ _ ty9 rfl rfl)) <| jb J27f0 <| jb Jl <| jl (Jc en49 (hless _)) rfl <| jG Zp rfl <| Sn ?_
            refine Wy <| CWp.skip <| SQ.normal ?_
            have jW := @w2
            refine W.block <| W.reg <| ja sm <| ja Ja <| ja za <| OSuf.nil <| BQ.normal <| ?_
            refine LQ.normal (m := m - 1) (L := [(0, .slice b l.length 0), (3, P0 h.next), (5, I64 ((j + 1 : Nat) : Int))]) xA ?_ ⟨j + 1, by omega, rfl, rfl⟩
            simp only [HasA, Tr.get_put, Nat.reduceEqDiff, reduceIte, w2, and_self]
          · obtain rfl : j = i := by omega
            rw [hge x hx] at hless
            have jY := An @u0 <| An @eb2 <| An @hc1 <| An @sb <| An ty9 <| An ty23 <| An ty27 <| tb56
            refine W.seq <| Wd <| jb sm <| jb sm <| jb Jn <| jg Jt <| jG sm rfl <| jb sm <| jb sm <| jb Ji <| jb J27f0 <| jb (zl (hv := (hr2 _ rfl).2 0 _ _ _ ty9 rfl rfl)) <| jb J27f0 <| jb Jl <| jl (Jc en49 (hless _)) rfl <| jH Zp rfl <| Sn ?_
            refine Wn <| CWp.exit <| SQ.exit <| LQ.exit <| BQ.exit <| ?_
            refine NQ.normal (L := [(0, .slice b l.length 0), (3, P0 h.next), (5, I64 j)]) ?_ ⟨rfl, rfl⟩
            simp only [HasA, Tr.get_put, Nat.reduceEqDiff, reduceIte, and_self]
        · have jY := ty23
          refine W.seq <| Wd <| jb sm <| jb sm <| jb Jn <| jw Jt <| jH sm rfl <| jq rfl <| jq rfl <| jq rfl <| jq rfl <| jq rfl <| jq rfl <| jq rfl <| jq rfl <| jH Zp rfl <| Sn ?_
          refine Wn <| CWp.exit <| SQ.exit <| LQ.exit <| BQ.exit <| ?_
          obtain rfl : j = i := by omega
          refine NQ.normal (L := [(0, .slice b l.length 0), (3, P0 h.next), (5, I64 j)]) ?_ ⟨rfl, rfl⟩
          simp only [HasA, Tr.get_put, Nat.reduceEqDiff, reduceIte, and_self]
      rintro L a' g ha ⟨rfl, rfl⟩
      refine SQ.normal <| CWp.known ha ?_
      simp only [mkA]
      have jY := An @u0 <| An @eb <| An @hy4 <| An @hc0 <| An @sb <| An ty9 <| An ty23 <| An ty27 <| An tb56 <| ty22
      refine W.seq <| Wd <| jb sm <| jb sm <| jb Jn <| jg Jt <| jG sm rfl <| jb sm <| jb sm <| jb Ji <| jb J27f0 <| jb (zl (hv := (hq2 _ rfl).2 0 _ _ _ ty9 rfl rfl)) <| jb J27f0 <| jb Jl <| jG (zb (hv := bs_eql)) xf <| jG Zp rfl <| Sn ?_
      refine Wy <| W.seq <| Wd <| jb sm <| jb sm <| jb Ji <| jb J27f1 <| jb (zl (hv := (hq2 _ rfl).2 1 _ _ _ ty22 rfl rfl)) <| jb J27f1 <| jb Jl <| jH Jt xG <| Sn ?_
      refine Wn <| CWp.skip <| SQ.normal ?_
      refine Wr <| ja sm <| ja za <| On ?_
      refine CWp.ret <| SQ.ret <| Jr ?_
      exact ⟨rfl, rfl⟩
  · have hnk : ∀ x, l[i]? = some x → ¬ x.key = r.key := fun x hx hk9 => heq ⟨x, hx, hk9⟩
    rw [p3 hnk]
    have hl2 : (l.take i).length = i := by rw [List.length_take]; omega
    have rt := recs0_c h1 (l.take i) (.slice b i 0) (rs_take rs1 hi) xA
    obtain ⟨H2, hH2⟩ : ∃ H2, H2 = rheap h1 (l.take i) := ⟨_, rfl⟩
    have n2 := rheap_next h1 (l.take i)
    have k2 := rheap_old h1 (l.take i)
    have sv2 := rval_sv h1 (l.take i)
    rw [← hH2] at rt n2 k2 sv2
    obtain ⟨v3, H3, ap3, sv3, n3, k3⟩ := sv_one sv2 r xA xA
    have nv2 : ∀ z, z < h1.next → ¬ svRow (rval h1 (l.take i)) = some z := fun z hz e => by have := sv2.row e; omega
    have z3 : ∀ z, z < h1.next → H3.get z = h1.get z := fun z hz => by rw [k3 z xA (nv2 z hz), k2 z hz]
    have s3 : SV H3 4 lo (fl l) (.slice b l.length 0) := s1.mono xA (fun z hz _ => z3 z hz)
    obtain ⟨x4, a4, l4, e4⟩ := svr_lo s3 hi
    obtain ⟨v5, H5, ap5, sv5, n5, n5', k5, hrow5, hvl5⟩ := ap_any sv3 l4 (e4 H3 (fun _ _ => rfl)) (by rw [fl_length, List.length_drop]) (fl_ones _) (by rw [sv_len sv3, List.length_append, hl2]; simp; omega) xA
    have nv3 : ∀ z, z < h1.next → ¬ svRow v3 = some z := fun z hz e => by have := sv3.row e; omega
    have hcat : fl (l.take i ++ [r]) ++ fl (l.drop i) = fl (l.take i ++ r :: l.drop i) := by rw [← fl_app]; simp
    rw [hcat] at sv5
    obtain ⟨b5, ev5⟩ := sv_form sv5
    subst ev5
    have u2 : H2.get h.next = some (.cells [encS r.key, U64 r.lsn, .bool r.del, encS r.val] 1) := by rw [k2 _ xA]; exact u0
    have sv5' : SV H5 4 lo (fl (l.take i ++ r :: l.drop i)) (.slice b5 (l.take i ++ r :: l.drop i).length 0) := by
      generalize fl (l.take i ++ r :: l.drop i) = vs at sv5
      generalize Value.slice b5 (l.take i ++ r :: l.drop i).length 0 = w at sv5
      cases sv5 with
      | nil => exact .nil
      | some q1 q2 q3 q4 q5 => exact .some q1 xA q3 q4 q5
    refine ⟨b5, H5, ?_, sv5', by omega, fun z hz hv => by rw [k5 z xA (nv3 z xA), z3 z xA]; exact k1 z hz, fun z hz => .inr (by have := sv5.row hz; omega)⟩
    have atb := sv_atb s1
    refine W.enter tyOK Tryz.func56 rfl rfl ?_
    simp only [entry]
    refine Wr <| ja Zx <| ja za <| On ?_
    refine Wr <| ja za <| On ?_
    refine W.seq <| ?_
    refine W.cut (fun L g => h1 = g ∧ L = [(0, .slice b l.length 0), (3, P0 h.next), (5, I64 i)]) (W.block (W.loop (fun m L g => ∃ j : Nat, m + j = i ∧ h1 = g ∧ L = [(0, .slice b l.length 0), (3, P0 h.next), (5, I64 j)]) (n := i) ⟨0, rfl, hh1, rfl⟩ ?_ ?_)) ?_
    · simp [HasA, Tr.get_put]
    · rintro m L g ⟨j, hm, rfl, rfl⟩
      simp only [mkA]
      have w2 : IntKind.i64.wrap ((j : Int) + 1) = ((j + 1 : Nat) : Int) := by rw [wrap_i64 xA xA]; omega
      by_cases hj : (j : Int) < (l.length : Int)
      · obtain ⟨x, hx⟩ : ∃ x, l[j]? = some x := ⟨l[j]'xA, by simp⟩
        obtain ⟨_, q2, off2, eb2, hr1, hr2⟩ := RS.at_ rs1 hx
        have hc1 : (0 ≤ (j : Int) ∧ (j : Int) < (l.length : Int)) := by omega
        have hless := fun G : AHeap => less_c G x.key r.key (hk x (List.mem_of_getElem? hx)) hr
        by_cases hji : j < i
        · rw [hlt j x hji hx] at hless
          have jY := An @u0 <| An @eb2 <| An @hc1 <| An @sb <| An ty9 <| An ty23 <| An ty27 <| tb56
          refine W.seq <| Wd <| jb sm <| jb sm <| jb Jn <| jg Jt <| jG sm rfl <| jb sm <| jb sm <| jb Ji <| jb J27f0 <| jb (zl (hv := (hr2 _ rfl).2 0 _ _ _ ty9 rfl rfl)) <| jb J27f0 <| jb Jl <| jl (Jc en49 (hless _)) rfl <| jG Zp rfl <| Sn ?_
          refine Wy <| CWp.skip <| SQ.normal ?_
          have jW := @w2
          refine W.block <| W.reg <| ja sm <| ja Ja <| ja za <| OSuf.nil <| BQ.normal <| ?_
          refine LQ.normal (m := m - 1) (L := [(0, .slice b l.length 0), (3, P0 h.next), (5, I64 ((j + 1 : Nat) : Int))]) xA ?_ ⟨j + 1, by omega, rfl, rfl⟩
          simp only [HasA, Tr.get_put, Nat.reduceEqDiff, reduceIte, w2, and_self]
        · obtain rfl : j = i := by omega
          rw [hge x hx] at hless
          have jY := An @u0 <| An @eb2 <| An @hc1 <| An @sb <| An ty9 <| An ty23 <| An ty27 <| tb56
          refine W.seq <| Wd <| jb sm <| jb sm <| jb Jn <| jg Jt <| jG sm rfl <| jb sm <| jb sm <| jb Ji <| jb J27f0 <| jb (zl (hv := (hr2 _ rfl).2 0 _ _ _ ty9 rfl rfl)) <| jb J27f0 <| jb Jl <| jl (Jc en49 (hless _)) rfl <| jH Zp rfl <| Sn ?_
          refine Wn <| CWp.exit <| SQ.exit <| LQ.exit <| BQ.exit <| ?_
          refine NQ.normal (L := [(0, .slice b l.length 0), (3, P0 h.next), (5, I64 j)]) ?_ ⟨rfl, rfl⟩
          simp only [HasA, Tr.get_put, Nat.reduceEqDiff, reduceIte, and_self]
      · have jY := ty23
        refine W.seq <| Wd <| jb sm <| jb sm <| jb Jn <| jw Jt <| jH sm rfl <| jq rfl <| jq rfl <| jq rfl <| jq rfl <| jq rfl <| jq rfl <| jq rfl <| jq rfl <| jH Zp rfl <| Sn ?_
        refine Wn <| CWp.exit <| SQ.exit <| LQ.exit <| BQ.exit <| ?_
        obtain rfl : j = i := by omega
        refine NQ.normal (L := [(0, .slice b l.length 0), (3, P0 h.next), (5, I64 j)]) ?_ ⟨rfl, rfl⟩
        simp only [HasA, Tr.get_put, Nat.reduceEqDiff, reduceIte, and_self]
    rintro L a' g ha ⟨rfl, rfl⟩
    by_cases hil : (i : Int) < (l.length : Int)
    · obtain ⟨x0, hx0⟩ : ∃ x, l[i]? = some x := ⟨l[i]'xA, by simp⟩
      have hkx := hnk x0 hx0
      have hc0 : (0 ≤ (i : Int) ∧ (i : Int) < (l.length : Int)) := by omega
      obtain ⟨_, q, off, eb, hq1, hq2⟩ := RS.at_ rs1 hx0
      refine SQ.normal <| CWp.known ha ?_
      simp only [mkA]
      have jY := An @u0 <| An @u2 <| An @eb <| An @hc0 <| An @rcl <| An @sb <| An ty9 <| An ty23 <| An ty27 <| tb56
      refine W.seq <| Wd <| jb sm <| jb sm <| jb Jn <| jg Jt <| jG sm rfl <| jb sm <| jb sm <| jb Ji <| jb J27f0 <| jb (zl (hv := (hq2 _ rfl).2 0 _ _ _ ty9 rfl rfl)) <| jb J27f0 <| jb Jl <| jH (zb (hv := bs_eql)) xf <| jH Zp rfl <| Sn ?_
      refine Wn <| CWp.skip <| SQ.normal ?_
      refine W.seq <| CWp.sql tyOK mixed (ms := [0, 0, 3, 7, 0, 16, 63, 127]) xJ (
          .free rfl rfl rfl sm rfl <| .free rfl rfl rfl sm rfl <| .read rfl rfl rfl (so_slice xB xE xE xE (sl_cut ty23 rfl ty27 atb hi)) xC trivial rfl <| .call rfl rfl rfl (fcallO xD en44 (rt)) rfl ⟨.inl rfl, trivial⟩ rfl <| .read rfl rfl rfl Jl xC ⟨.inr Jl, trivial⟩ rfl <| .late rfl rfl rfl Jh rfl rfl ⟨.inl rfl, .inr (so_slice xB xE xE xE (sl_cut ty23 rfl ty27 atb hi)), trivial⟩ rfl <| .change rfl rfl rfl (so_append xD (ap3 _ _ xL rfl xK)) rfl ⟨.inl rfl, .inl rfl, trivial⟩ rfl <| .free rfl rfl rfl za rfl <| .nil) <| SQ.normal ?_
      refine Wr <| ja sm <| ja sm <| ja sm <| ja (so_slice xB xE xE xE (a4 _ _ _ _ ty23 rfl ty27 rfl)) <| ja (so_append xD (ap5 _ _ xL rfl xK)) <| ja za <| On ?_
      refine CWp.ret <| Jr ?_
      exact ⟨rfl, rfl⟩
    · refine SQ.normal <| CWp.known ha ?_
      simp only [mkA]
      have jY := An @u0 <| An @u2 <| An @rcl <| An @sb <| An ty23 <| An tb56 <| ty27
      refine W.seq <| Wd <| jb sm <| jb sm <| jb Jn <| jh Jt <| jH sm rfl <| jq rfl <| jq rfl <| jq rfl <| jq rfl <| jq rfl <| jq rfl <| jq rfl <| jq rfl <| jH Zp rfl <| Sn ?_
      refine Wn <| CWp.skip <| SQ.normal ?_
      refine W.seq <| CWp.sql tyOK mixed (ms := [0, 0, 3, 7, 0, 16, 63, 127]) xJ (
          .free rfl rfl rfl sm rfl <| .free rfl rfl rfl sm rfl <| .read rfl rfl rfl (so_slice xB xE xE xE (sl_cut ty23 rfl ty27 atb hi)) xC trivial rfl <| .call rfl rfl rfl (fcallO xD en44 (rt)) rfl ⟨.inl rfl, trivial⟩ rfl <| .read rfl rfl rfl Jl xC ⟨.inr Jl, trivial⟩ rfl <| .late rfl rfl rfl Jh rfl rfl ⟨.inl rfl, .inr (so_slice xB xE xE xE (sl_cut ty23 rfl ty27 atb hi)), trivial⟩ rfl <| .change rfl rfl rfl (so_append xD (ap3 _ _ xL rfl xK)) rfl ⟨.inl rfl, .inl rfl, trivial⟩ rfl <| .free rfl rfl rfl za rfl <| .nil) <| SQ.normal ?_
      refine Wr <| ja sm <| ja sm <| ja sm <| ja (so_slice xB xE xE xE (a4 _ _ _ _ ty23 rfl ty27 rfl)) <| ja (so_append xD (ap5 _ _ xL rfl xK)) <| ja za <| On ?_
      refine CWp.ret <| Jr ?_
      exact ⟨rfl, rfl⟩
end Go.Proofs.YtebheelmgcggmaaGreat
namespace Go.Proofs.YtebheelmgcggmaaGreat
open Go.Ab Go.Sort
theorem sv_oneR {g : AHeap} {lo : Nat} {l : List Rec} {v : Value} (s : SV g 4 lo (fl l) v) (x : Rec) (hl : l.length ≤ 2000000) (hlo : lo ≤ g.next) :
    ∃ v' G, (∀ ats A', appT T ats = some A' → A'.size = 4 → A'.bytes ≤ 100 → aAppend T ats v (.slice (some ⟨g.next, 0, none⟩) 1 2) (g.new (.cells x.cs 4)) = some (v', G)) ∧ SV G 4 lo (fl (l ++ [x])) v' ∧ g.next ≤ G.next ∧ (∀ z, z < g.next → ¬ svRow v = some z → G.get z = g.get z) ∧ svRow v' = some (g.next + 1) := by
  obtain ⟨v', G, a1, a2, a3, a4, a5, a6, a7⟩ := ap_any (h := g.new (.cells x.cs 4)) (k := 1) (x := .slice (some ⟨g.next, 0, none⟩) 1 2) (B := x.cs) (s.mono xI (fun z hz _ => zN xA)) rfl (aCells_part (vs := x.cs) xm (Nat.le_refl _) rfl) rfl rfl (by rw [sv_len s]; omega) xG
  refine ⟨v', G, a1, ?_, by simp only [nx] at a3; omega, fun z hz hv => by rw [a5 z xG hv, zN xA], ?_⟩
  · rw [fl_app]
    have : fl [x] = x.cs := by simp [fl]
    rw [this]; exact a2
  · rcases a6 with h | h
    · exact absurd h.2 xK
    · simpa using h
theorem hand_sv (h : AHeap) (p : Lf) (nd : Bool) : SV (hand h p (decide (p.base = [])) nd) 4 h.next (fl p.base) (cval (decide (p.base = [])) h.next p.base) := by
  have hn := hand_next h p (decide (p.base = [])) nd
  by_cases e : p.base = []
  · rw [decide_eq_true e, e]; exact .nil
  · rw [decide_eq_false e] at hn ⊢
    refine .some (fl_length _) (Nat.le_refl _) xA ?_ (fun h9 => e (fl_nil.1 h9))
    rw [hand, cadd_get _ _ _ _ (by rw [cadd_next]; omega)]
    exact zQ
theorem into_length (r : Rec) : ∀ l : List Rec, (into r l).length ≤ l.length + 1
  | [] => by simp [into]
  | a :: l => by
    have := into_length r l
    simp only [into]
    split
    · simp only [List.length_cons]; omega
    · split
      · split <;> simp
      · simp
theorem intos_length : ∀ (ds l : List Rec), (ds.foldl (fun b r => into r b) l).length ≤ l.length + ds.length
  | [], l => by simp
  | d :: ds, l => by
    have h1 := intos_length ds (into d l)
    have h2 := into_length d l
    simp only [List.foldl_cons, List.length_cons]; omega
theorem intos_mem : ∀ (ds l : List Rec) (x : Rec), x ∈ ds.foldl (fun b r => into r b) l → x ∈ ds ∨ x ∈ l
  | [], l, x, h => .inr h
  | d :: ds, l, x, h => by
    rcases intos_mem ds (into d l) x h with h | h
    · exact .inl (List.mem_cons_of_mem _ h)
    · rcases mem_into h with rfl | h
      · exact .inl List.mem_cons_self
      · exact .inr h
def fB (e : Int) (p : Lf) (i : Nat) : List Rec := ((p.deltas.take i).filter fun r => decide (r.lsn ≤ e)).foldl (fun b r => into r b) p.base
def fD (e : Int) (p : Lf) (i : Nat) : List Rec := (p.deltas.take i).filter fun r => decide (e < r.lsn)
theorem fB_in {e : Int} {p : Lf} {i : Nat} {x : Rec} (hx : p.deltas[i]? = some x) (hl : x.lsn ≤ e) : fB e p (i + 1) = into x (fB e p i) ∧ fD e p (i + 1) = fD e p i := by
  simp only [fB, fD, take_snoc hx, List.filter_append]
  have h1 : decide (x.lsn ≤ e) = true := decide_eq_true hl
  have h2 : decide (e < x.lsn) = false := decide_eq_false xA
  simp [h1, h2, List.foldl_append]
theorem fB_out {e : Int} {p : Lf} {i : Nat} {x : Rec} (hx : p.deltas[i]? = some x) (hl : ¬ x.lsn ≤ e) : fB e p (i + 1) = fB e p i ∧ fD e p (i + 1) = fD e p i ++ [x] := by
  simp only [fB, fD, take_snoc hx, List.filter_append]
  have h1 : decide (x.lsn ≤ e) = false := decide_eq_false hl
  have h2 : decide (e < x.lsn) = true := decide_eq_true xA
  simp [h1, h2]
theorem fB_len (e : Int) (p : Lf) (i : Nat) : (fB e p i).length ≤ p.base.length + p.deltas.length := by
  have h1 := intos_length ((p.deltas.take i).filter fun r => decide (r.lsn ≤ e)) p.base
  have h2 : ((p.deltas.take i).filter fun r => decide (r.lsn ≤ e)).length ≤ p.deltas.length := Nat.le_trans (List.length_filter_le _ _) qB
  simp only [fB]; omega
theorem fB_mem {e : Int} {p : Lf} {i : Nat} {x : Rec} (h : x ∈ fB e p i) : x ∈ p.all := by
  rcases intos_mem _ _ _ h with h | h
  · exact List.mem_append.2 (.inr (List.mem_of_mem_take (List.mem_filter.1 h).1))
  · exact List.mem_append.2 (.inl h)
def FI (n : Nat) (H4 : AHeap) (p : Lf) (e : Int) (i : Nat) (g : AHeap) : Prop := ∃ xb xd, SV g 4 (n + 2) (fl (fB e p i)) (.slice xb (fB e p i).length 0) ∧ SV g 4 H4.next (fl (fD e p i)) (.slice xd (fD e p i).length 0) ∧ (∀ z, svRow (.slice xb (fB e p i).length 0) = some z → ¬ svRow (.slice xd (fD e p i).length 0) = some z ∧ (z = n + 2 ∨ H4.next ≤ z)) ∧ g.get (n + 4) = some (LR p (.slice xb (fB e p i).length 0) (.slice xd (fD e p i).length 0)) ∧ H4.next ≤ g.next ∧ (∀ z, z < H4.next → ¬ z = n + 4 → ¬ z = n + 2 → g.get z = H4.get z)
theorem fold0_c (h : AHeap) (p : Lf) (bv dv : Value) (e : Int) (hb : RS h p.base bv) (hd : RS h p.deltas dv) (hlb : p.base.length ≤ 400000) (hld : p.deltas.length ≤ 400000) (lb : LB p) :
    HC 20 [LV p bv dv, U64 e] (foldM p e) h := by
  have tb20 := And.intro ty22 (And.intro ty23 (And.intro ty25 (ty27)))
  refine hc_k ?_
  obtain ⟨b1, c1, rfl⟩ := hb.form
  obtain ⟨b2, c2, rfl⟩ := hd.form
  obtain ⟨h2, hh2⟩ : ∃ h2, h2 = (h.new (.cells (lcs p (.slice b1 p.base.length c1) (.slice b2 p.deltas.length c2)) 1)).new (.cells zlf 1) := ⟨_, rfl⟩
  have e2 : h2.next = h.next + 2 := by rw [hh2]; rfl
  have k2 : ∀ z, z < h.next → h2.get z = h.get z := fun z hz => by rw [hh2]; simp (disch := first | omega | simp only [nx]; omega) only [hpl]
  have q0 : h2.get h.next = some (.cells (lcs p (.slice b1 p.base.length c1) (.slice b2 p.deltas.length c2)) 1) := by rw [hh2]; simp (disch := first | omega | simp only [nx]; omega) only [hpl]
  have q1 : h2.get (h.next + 1) = some (.cells zlf 1) := by rw [hh2]; simp (disch := first | omega | simp only [nx]; omega) only [hpl]
  have wo := own0_x h2 p _ _ (hb.mono xA k2) (hd.mono xA k2) xA xA
  have o1 : decide (p.base = []) = true → p.base = [] := of_decide_eq_true
  have o2 : decide (p.deltas = []) = true → p.deltas = [] := of_decide_eq_true
  obtain ⟨f1, f2⟩ := hand_fs (h := h2) o1 o2
  obtain ⟨s1, s2⟩ := hand_rs (h := h2) o1 o2
  have sb0 := hand_sv h2 p (decide (p.deltas = []))
  obtain ⟨x1, y1, ev1⟩ := s1.form
  obtain ⟨x2, y2, ev2⟩ := s2.form
  rw [ev1] at f1 sb0
  rw [ev2] at f2
  rw [ev1, ev2] at wo
  have nH := hand_next h2 p (decide (p.base = [])) (decide (p.deltas = []))
  have kH : ∀ z, z < h2.next → (hand h2 p (decide (p.base = [])) (decide (p.deltas = []))).get z = h2.get z := fun z hz => hand_old _ _ _ _ _ hz
  obtain ⟨H3, hH3⟩ : ∃ H3, H3 = hand h2 p (decide (p.base = [])) (decide (p.deltas = [])) := ⟨_, rfl⟩
  rw [← hH3] at wo f1 f2 nH kH sb0
  have p0 : H3.get h.next = some (.cells (lcs p (.slice b1 p.base.length c1) (.slice b2 p.deltas.length c2)) 1) := by rw [kH _ xA]; exact q0
  have p1 : H3.get (h.next + 1) = some (.cells zlf 1) := by rw [kH _ xA]; exact q1
  have old : ∀ z, z < h.next → H3.get z = h.get z := fun z hz => by rw [kH _ xA]; exact k2 z hz
  obtain ⟨H4, hH4⟩ : ∃ H4, H4 = H3.new (LR p (.slice x1 p.base.length y1) (.slice x2 p.deltas.length y2)) := ⟨_, rfl⟩
  have n4 : H4.next = h.next + 5 := by rw [hH4]; simp; omega
  have k4 : ∀ z, z < H3.next → H4.get z = H3.get z := fun z hz => by rw [hH4]; exact zN xA
  have p4 : H4.get h.next = some (.cells (lcs p (.slice b1 p.base.length c1) (.slice b2 p.deltas.length c2)) 1) := by rw [k4 _ xA]; exact p0
  have p5 : H4.get (h.next + 1) = some (.cells zlf 1) := by rw [k4 _ xA]; exact p1
  have p6 : H4.get (h.next + 4) = some (LR p (.slice x1 p.base.length y1) (.slice x2 p.deltas.length y2)) := by
    have : h.next + 4 = H3.next := by omega
    rw [this, hH4]; exact zQ
  have old4 : ∀ z, z < h.next → H4.get z = h.get z := fun z hz => by rw [k4 _ xA]; exact old z hz
  have hck := check0_c H4 p _ _ (hb.mono xA old4) (hd.mono xA old4) xA xA lb
  have w1 : ∀ b : Bool, b = chk p → (b = false → foldM p e = p) := fun b hb h9 => by rw [foldM, if_neg (by rw [← hb, h9]; simp)]
  rw [hH4] at hck
  refine W.enter tyOK Tryz.func20 rfl rfl ?_
  simp only [entry]
  have h34 : h.next + 4 = H3.next := by omega
  have p4' := p4
  have p5' := p5
  have p6' := p6
  rw [hH4] at p4' p5' p6'
  cases fc : chk p with
  | false =>
    rw [w1 _ fc.symm rfl]
    rw [if_neg (by rw [fc]; decide)] at hck
    have jY := ty25
    refine Wr <| ja Zx <| ja Jo <| On ?_
    have jY := An @p0 <| An @p1 <| An @p4' <| An @p5' <| An @p6' <| An @rcl <| An ty25 <| tb20
    refine Wr <| ja Jl <| jk (Jc en43 (xU)) rfl <| ja Jo <| jc Js <| On ?_
    refine W.seq <| Wr <| ja Jl <| jk (Jc en14 (hck)) rfl <| jE Jz (rfl) <| On ?_
    refine Wy <| Wr <| ja Jl <| jc Js <| On ?_
    refine CWp.ret <| SQ.ret <| Jr ?_
    refine ⟨_, _, _, _, rfl, f1.keep xA xF (fun r hr hr2 => ?_), f2.keep xA xF (fun r hr hr2 => ?_), fun r hr hr2 => ?_, fun z hz => ?_⟩
    · have := f1.lo hr; simp (disch := first | omega | simp only [nx]; omega) only [hpl]
    · have := f2.lo hr; simp (disch := first | omega | simp only [nx]; omega) only [hpl]
    · cases e1 : decide (p.base = []) <;> cases e2 : decide (p.deltas = []) <;> simp [e1, e2] at hr hr2 <;> omega
    · simp (disch := first | omega | simp only [nx]; omega) only [hpl]; exact old z hz
  | true =>
    rw [if_pos fc] at hck
    have y10 : y1 = 0 := by
      obtain ⟨b9, e9⟩ := sv_form sb0
      cases e9; rfl
    subst y10
    have eB : fB e p p.deltas.length = foldB e p := by simp only [fB, foldB, List.take_length]
    have eD : fD e p p.deltas.length = p.deltas.filter fun r => decide (e < r.lsn) := by simp only [fD, List.take_length]
    have lkx : ∀ i, ∀ x ∈ fB e p i, SL x.key := fun i x hx => (lb.ky x (fB_mem hx)).1
    have jY := ty25
    refine Wr <| ja Zx <| ja Jo <| On ?_
    have jY := An @p0 <| An @p1 <| An @p6' <| An @rcl <| An ty25 <| ty23
    refine Wr <| ja Jl <| jk (Jc en43 (xU)) rfl <| ja Jo <| jc Js <| On ?_
    refine W.seq <| Wr <| ja Jl <| jk (Jc en14 (hck)) rfl <| jF Jz (rfl) <| On ?_
    refine Wn <| CWp.skip <| SQ.normal ?_
    refine Wr <| ja J25f4 <| jc Js <| On ?_
    refine W.seq <| Wr <| ja za <| On ?_
    refine W.cut (fun L g => FI h.next H4 p e p.deltas.length g ∧ L = [(2, P0 h.next), (4, P0 (h.next + 1)), (5, P0 (h.next + 4))]) (W.block (W.loop (fun m L g => ∃ i : Nat, m + i = p.deltas.length ∧ FI h.next H4 p e i g ∧ L = [(1, U64 e), (2, P0 h.next), (4, P0 (h.next + 1)), (5, P0 (h.next + 4)), (6, I64 i)]) (n := p.deltas.length) ⟨0, rfl, ⟨x1, none, ?_, .nil, ?_, ?_, ?_, ?_⟩, rfl⟩ ?_ ?_)) ?_
    · show SV _ 4 (h.next + 2) (fl p.base) (.slice x1 p.base.length 0)
      rw [← e2]
      exact sb0.mono xF (fun z hz he => by simp (disch := first | omega | simp only [nx]; omega) only [hpl])
    · intro z hz
      have h9 : svRow (cval (decide (p.base = [])) h2.next p.base) = some z := by rw [ev1]; exact hz
      refine ⟨by simp [svRow], .inl ?_⟩
      cases e1 : decide (p.base = []) <;> rw [e1] at h9 <;> simp [cval, svRow] at h9
      omega
    · rw [h34]; simp (disch := first | omega | simp only [nx]; omega) only [hpl]; rfl
    · simp only [nx]; omega
    · intro z hz h8 h9
      rw [hH4]; simp (disch := first | omega | simp only [nx]; omega) only [hpl]
    · simp [HasA, Tr.get_put, h34]
    · rintro m L g ⟨i, hm, ⟨xb, xd, svb, svd, hsp, gj, gn, gk⟩, rfl⟩
      simp only [mkA]
      have w2 : IntKind.i64.wrap ((i : Int) + 1) = ((i + 1 : Nat) : Int) := by rw [wrap_i64 xA xA]; omega
      have gp : g.get h.next = some (.cells (lcs p (.slice b1 p.base.length c1) (.slice b2 p.deltas.length c2)) 1) := by rw [gk _ xA xA xA]; exact p4
      have gold : ∀ z, z < h.next → g.get z = h.get z := fun z hz => by rw [gk z xA xA xA]; exact old4 z hz
      have hbl := fB_len e p i
      have hb4 : ¬ svRow (.slice xb (fB e p i).length 0) = some (h.next + 4) := fun e9 => by have := (hsp _ e9).2; omega
      by_cases hi : (i : Int) < (p.deltas.length : Int)
      · obtain ⟨x, hx⟩ : ∃ x, p.deltas[i]? = some x := ⟨p.deltas[i]'xA, by simp⟩
        obtain ⟨_, r, off, eb2, hr1, hr2⟩ := RS.at_ hd hx
        have hc1 : (0 ≤ (i : Int) ∧ (i : Int) < (p.deltas.length : Int)) := by omega
        have lx := (lb.ky x (List.mem_append.2 (.inr (List.mem_of_getElem? hx)))).1
        subst eb2
        by_cases hle : x.lsn ≤ e
        · obtain ⟨q1, q2⟩ := fB_in hx hle
          obtain ⟨xb', H, wi, svb', hn, hk', hro⟩ := into0_c g (h.next + 2) (fB e p i) x xb svb xA xA (lkx i) lx
          have Hj : H.get (h.next + 4) = some (LR p (.slice xb (fB e p i).length 0) (.slice xd (fD e p i).length 0)) := by rw [hk' _ xA hb4]; exact gj
          have jY := An @gp <| An @gj <| An @Hj <| An @hc1 <| An @rcl <| An @sb <| An ty23 <| An tb20 <| ty27
          refine W.seq <| Wr <| ja sm <| ja J25f4 <| ja Jl <| ja Jn <| je Jt <| On ?_
          refine Wy <| CWp.skip <| SQ.normal ?_
          refine W.seq <| W.block <| Wr <| ja J25f4 <| ja Jl <| ja sm <| ja Ji <| ja J27f1 <| ja (zl (hv := (hr2 _ (gold _ hr1)).2 1 _ _ _ ty22 rfl rfl)) <| ja sm <| jE Ju xG <| On ?_
          refine Wy <| W.regD tyOK mixed xJ <| jb J25f3 <| jb Jl <| jb J25f4 <| jb Jl <| jb sm <| jb Ji <| jb (zl (hv := (hr2 _ (gold _ hr1)).1 _ _ ty27 rfl rfl)) <| jl (Jc en56 (wi)) rfl <| jb J25f3 <| jd Js <| SqW.nil <| BQ.normal <| SQ.normal ?_
          have jW := @w2
          refine W.reg <| ja sm <| ja Ja <| ja za <| OSuf.nil <| ?_
          refine LQ.normal (m := m - 1) (L := [(1, U64 e), (2, P0 h.next), (4, P0 (h.next + 1)), (5, P0 (h.next + 4)), (6, I64 ((i + 1 : Nat) : Int))]) xA ?_ ⟨i + 1, by omega, ⟨xb', xd, ?_, ?_, ?_, ?_, by simp only [nx]; omega, fun z hz h8 h9 => ?_⟩, rfl⟩
          · simp only [HasA, Tr.get_put, Nat.reduceEqDiff, reduceIte, w2, and_self]
          · rw [q1]
            refine svb'.mono xI (fun z hz he => zS (fun e9 => ?_))
            rcases hro z he with h7 | h7
            · exact hb4 (by rw [e9]; exact h7)
            · omega
          · rw [q2]
            refine svd.mono xF (fun z hz he => ?_)
            rw [zS (by have := svd.row he; omega)]
            exact hk' z hz (fun e9 => (hsp z e9).1 he)
          · rw [q1, q2]
            intro z hz
            rcases hro z hz with h7 | h7
            · exact hsp z h7
            · exact ⟨fun e9 => by have := svd.row e9; omega, .inr xA⟩
          · rw [q1, q2]; exact zP
          · rw [zS xA, hk' z xA (fun e9 => by have := (hsp z e9).2; omega)]
            exact gk z hz h8 h9
        · obtain ⟨q1, q2⟩ := fB_out hx hle
          have hdl : (fD e p i).length ≤ 2000000 := Nat.le_trans (List.length_filter_le _ _) qB
          obtain ⟨v', G, a1, a2, a3, a4, a5⟩ := sv_oneR svd x hdl gn
          obtain ⟨xd', rfl⟩ := sv_form a2
          have nxd : ∀ z, z < H4.next → ¬ svRow (.slice xd (fD e p i).length 0) = some z := fun z hz e => by have := svd.row e; omega
          have Gj : G.get (h.next + 4) = some (LR p (.slice xb (fB e p i).length 0) (.slice xd (fD e p i).length 0)) := by rw [a4 _ xA (nxd _ xA)]; exact gj
          have jY := An @gp <| An @gj <| An @Gj <| An @hc1 <| An @rcl <| An @sb <| An ty23 <| An tb20 <| ty27
          refine W.seq <| Wr <| ja sm <| ja J25f4 <| ja Jl <| ja Jn <| je Jt <| On ?_
          refine Wy <| CWp.skip <| SQ.normal ?_
          refine W.seq <| W.block <| Wr <| ja J25f4 <| ja Jl <| ja sm <| ja Ji <| ja J27f1 <| ja (zl (hv := (hr2 _ (gold _ hr1)).2 1 _ _ _ ty22 rfl rfl)) <| ja sm <| jF Ju xG <| On ?_
          refine Wn <| CWp.sqd tyOK mixed (ms := [0, 1, 0, 4, 0, 28, 60, 124, 255, 511, 1023]) xJ (
              jR J25f4 <| js Jl <| jR J25f4 <| js Jl <| jR sm <| jR Ji <| .read rfl rfl (zl (hv := (show aLoad T _ _ _ = some (Value.agg #[encS x.key, U64 x.lsn, .bool x.del, encS x.val]) from (hr2 _ xn).1 _ _ ty27 rfl rfl))) xC trivial rfl <| jt Jh rfl <| jt (so_append xD (a1 _ _ xL rfl xK)) rfl <| jR J25f4 <| jt Js rfl <| .nil) <| BQ.normal <| SQ.normal ?_
          have jW := @w2
          refine W.reg <| ja sm <| ja Ja <| ja za <| OSuf.nil <| ?_
          refine LQ.normal (m := m - 1) (L := [(1, U64 e), (2, P0 h.next), (4, P0 (h.next + 1)), (5, P0 (h.next + 4)), (6, I64 ((i + 1 : Nat) : Int))]) xA ?_ ⟨i + 1, by omega, ⟨xb, xd', ?_, ?_, ?_, ?_, by simp only [nx]; omega, fun z hz h8 h9 => ?_⟩, rfl⟩
          · simp only [HasA, Tr.get_put, Nat.reduceEqDiff, reduceIte, w2, and_self]
          · rw [q1]
            refine svb.mono xF (fun z hz he => ?_)
            rw [zS (fun e9 => hb4 (by rw [e9]; exact he)), a4 z hz (hsp z he).1]
          · rw [q2]; exact a2.mono xI (fun z hz he => zS (by have := a2.row he; omega))
          · rw [q1, q2]
            intro z hz
            refine ⟨fun e9 => ?_, (hsp z hz).2⟩
            have h7 := svb.row hz
            rw [a5] at e9; cases e9; omega
          · rw [q1, q2]; exact zP
          · rw [zS xA, a4 z xA (nxd z hz)]; exact gk z hz h8 h9
      · have jY := An @gp <| An ty23 <| tb20
        refine W.seq <| Wr <| ja sm <| ja J25f4 <| ja Jl <| ja Jn <| jf Jt <| On ?_
        refine Wn <| CWp.exit <| SQ.exit <| LQ.exit <| BQ.exit <| ?_
        have : i = p.deltas.length := by omega
        subst this
        refine NQ.normal (L := [(2, P0 h.next), (4, P0 (h.next + 1)), (5, P0 (h.next + 4))]) ?_ ⟨⟨xb, xd, svb, svd, hsp, gj, gn, gk⟩, rfl⟩
        simp only [HasA, Tr.get_put, Nat.reduceEqDiff, reduceIte, and_self]
    rintro L a' g ha ⟨⟨xb, xd, svb, svd, hsp, gj, gn, gk⟩, rfl⟩
    rw [eB] at svb hsp gj
    rw [eD] at svd hsp gj
    have gz : g.get (h.next + 1) = some (.cells zlf 1) := by rw [gk _ xA xA xA]; exact p5
    have gp : g.get h.next = some (.cells (lcs p (.slice b1 p.base.length c1) (.slice b2 p.deltas.length c2)) 1) := by rw [gk _ xA xA xA]; exact p4
    have gold : ∀ z, z < h.next → g.get z = h.get z := fun z hz => by rw [gk z xA xA xA]; exact old4 z hz
    by_cases hbig : (foldB e p).length ≤ 64
    · have eM : foldM p e = { p with base := foldB e p, deltas := p.deltas.filter fun r => decide (e < r.lsn) } := by rw [foldM, if_pos ⟨fc, hbig⟩]
      rw [eM]
      refine SQ.normal <| CWp.known ha ?_
      simp only [mkA]
      have jY := An @gp <| An @gj <| An @gz <| An @rcl <| An ty23 <| An tb20 <| ty25
      refine W.seq <| Wr <| ja J25f3 <| ja Jl <| ja Jn <| jF Jv xG <| On ?_
      refine Wn <| CWp.skip <| SQ.normal ?_
      refine Wr <| ja Jl <| jc Js <| On ?_
      refine CWp.ret <| Jr ?_
      refine ⟨_, _, _, _, rfl, (sv_fs' svb).keep xA xF (fun r hr hr2 => zS (by have := svb.row hr; omega)), (sv_fs' svd).keep xA xF (fun r hr hr2 => zS (by have := svd.row hr; omega)), fun r hr hr2 => (hsp r hr).1 hr2, fun z hz => by rw [zS xA]; exact gold z hz⟩
    · have eM : foldM p e = p := by rw [foldM, if_neg (fun h9 => hbig h9.2)]
      rw [eM]
      have w9 := own0_x g p _ _ (hb.mono xA gold) (hd.mono xA gold) xA xA
      obtain ⟨f3, f4⟩ := hand_fs (h := g) o1 o2
      obtain ⟨s3, s4⟩ := hand_rs (h := g) o1 o2
      have n9 := hand_next g p (decide (p.base = [])) (decide (p.deltas = []))
      have k9 : ∀ z, z < g.next → (hand g p (decide (p.base = [])) (decide (p.deltas = []))).get z = g.get z := fun z hz => hand_old _ _ _ _ _ hz
      obtain ⟨x3, y3, ev3⟩ := s3.form
      obtain ⟨x4, y4, ev4⟩ := s4.form
      rw [ev3] at f3
      rw [ev4] at f4
      rw [ev3, ev4] at w9
      obtain ⟨H9, hH9⟩ : ∃ H9, H9 = hand g p (decide (p.base = [])) (decide (p.deltas = [])) := ⟨_, rfl⟩
      rw [← hH9] at w9 f3 f4 n9 k9
      have z9 : H9.get (h.next + 1) = some (.cells zlf 1) := by rw [k9 _ xA]; exact gz
      refine SQ.normal <| CWp.known ha ?_
      simp only [mkA]
      have jY := An @gp <| An @gj <| An @gz <| An @z9 <| An @rcl <| An ty23 <| An tb20 <| ty25
      refine W.seq <| Wr <| ja J25f3 <| ja Jl <| ja Jn <| jE Jv xG <| On ?_
      refine Wy <| Wr <| ja Jl <| jk (Jc en43 (w9)) rfl <| jc Js <| On ?_
      refine CWp.ret <| SQ.ret <| Jr ?_
      refine ⟨_, _, _, _, rfl, f3.keep xA xF (fun r hr hr2 => zS (by have := f3.lo hr; omega)), f4.keep xA xF (fun r hr hr2 => zS (by have := f4.lo hr; omega)), fun r hr hr2 => ?_, fun z hz => by rw [zS xA, k9 z xA]; exact gold z hz⟩
      cases e1 : decide (p.base = []) <;> cases e2 : decide (p.deltas = []) <;> simp [e1, e2] at hr hr2 <;> omega
end Go.Proofs.YtebheelmgcggmaaGreat
namespace Go.Proofs.YtebheelmgcggmaaGreat
open Go.Ab Go.Sort
theorem FS.rs {h : AHeap} {lo : Nat} {l : List Rec} {b : Bool} {v : Value} {x : Option Nat} (s : FS h lo l b v x) : RS h l v := by
  cases s with
  | nil e => subst e; exact ⟨_, _, rfl, .inl ⟨rfl, rfl, rfl⟩⟩
  | @some r n c rest hn h1 h2 h3 h4 =>
    subst hn
    refine ⟨_, _, rfl, .inr ⟨_, _, rfl, fun _ => ⟨h2, fl l ++ rest, by simp only [rowOf, h3], ?_⟩⟩⟩
    rw [cellsOf_mk (by rw [List.length_append, fl_length]; omega), List.drop_zero, List.take_left' (fl_length l)]
theorem os_hi {h : AHeap} {lo : Nat} {l : List Rec} {v : Value} (s : OS h lo l v) {i : Nat} (hi : i ≤ l.length) :
    ∃ x, (∀ (g : AHeap) t elem ti ei, T.get t = some ti → ti.und = .slice elem → T.get elem = some ei → aSlice T t v none (some (I64 i)) none g = some x) ∧ RS h (l.take i) x := by
  have rs := s.rs
  cases s with
  | nil e =>
    subst e
    obtain rfl : i = 0 := by simpa using hi
    exact ⟨_, fun g t elem ti ei h1 h2 h3 => sl_0 (x := (0, 0, 0)) h1 h2 h3 rfl, rs⟩
  | @emp r e h1 h2 h3 =>
    subst e
    obtain rfl : i = 0 := by simpa using hi
    exact ⟨.slice (some ⟨r, 0, none⟩) 0 1, fun g t elem ti ei h1 h2 h3 => by simp only [aSlice, h1, h2, h3, if_pos (Nat.le_refl 0)]; rfl, rs⟩
  | @some r n e hn h1 h2 h3 =>
    subst hn
    exact ⟨_, fun g t elem ti ei h1 h2 h3 => sl_hi h1 h2 h3 hi, rs_take rs hi⟩
theorem os_lo {h : AHeap} {lo : Nat} {l : List Rec} {v : Value} (s : OS h lo l v) {i : Nat} (hi : i ≤ l.length) :
    ∃ x, (∀ t elem ti ei, T.get t = some ti → ti.und = .slice elem → T.get elem = some ei → ei.size = 4 → aSlice T t v (some (I64 i)) none none h = some x) ∧ aLen x = some (l.length - i) ∧ aCells h 4 (l.length - i) x = some (fl (l.drop i)) := by
  cases s with
  | nil e =>
    subst e
    obtain rfl : i = 0 := by simpa using hi
    exact ⟨_, fun t elem ti ei h1 h2 h3 _ => sl_0 (x := (0, 0, 0)) h1 h2 h3 rfl, rfl, rfl⟩
  | @emp r e h1 h2 h3 =>
    subst e
    obtain rfl : i = 0 := by simpa using hi
    exact ⟨.slice (some ⟨r, 0, none⟩) 0 1, fun t elem ti ei h1 h2 h3 _ => by simp only [aSlice, h1, h2, h3, if_pos (Nat.le_refl 0)]; rfl, rfl, rfl⟩
  | @some r n e hn h1 h2 h3 =>
    subst hn
    refine ⟨.slice (some ⟨r, 0 + i * 4, none⟩) (l.length - i) 0, fun t elem ti ei g1 g2 g3 g4 => by rw [← g4]; exact sl_u g1 g2 g3 (bounds_lo hi) (by rw [g4]; exact h3), rfl, ?_⟩
    have e : rowOf h r = some (fl l) := by simp only [rowOf, h3]
    refine aCells_part e xA ?_
    have e2 : fl l = fl (l.take i) ++ fl (l.drop i) := by rw [← fl_app, List.take_append_drop]
    rw [cellsOf_mk (by rw [fl_length]; omega), e2, Nat.zero_add, List.drop_left' (by rw [fl_length, List.length_take]; omega), List.take_of_length_le (by rw [fl_length, List.length_drop]; omega)]
theorem ins_at {r : Rec} : ∀ {l : List Rec} {i : Nat}, (∀ (j : Nat) (x : Rec), j < i → l[j]? = some x → x.lsn < r.lsn) → i ≤ l.length → (∀ x : Rec, l[i]? = some x → ¬ x.lsn < r.lsn) → insL r l = l.take i ++ r :: l.drop i
  | [], i, _, hi, _ => by
    obtain rfl : i = 0 := by simpa using hi
    rfl
  | a :: l, 0, _, _, h2 => by
    have h4 := h2 a rfl
    rw [insL, if_neg h4]; rfl
  | a :: l, i + 1, h1, hi, h2 => by
    have h3 := h1 0 a xA rfl
    have ih := ins_at (r := r) (l := l) (i := i) (fun j x hj hx => h1 (j + 1) x xA xV) xY (fun x hx => h2 x xV)
    rw [insL, if_pos h3, ih]; rfl
theorem app_yes {p : Lf} {r : Rec} {i : Nat} (fc : chk p = true) (ff : fit p.low p.high r = true) (hf : ¬ r.lsn ≤ p.full) (h64 : p.deltas.length < 64) (hb : ∀ (j : Nat) (x : Rec), p.base[j]? = some x → ¬ (x.key = r.key ∧ r.lsn ≤ x.lsn))
    (hlt : ∀ (j : Nat) (x : Rec), j < i → p.deltas[j]? = some x → x.lsn < r.lsn) (hi : i ≤ p.deltas.length) (hge : ∀ x : Rec, p.deltas[i]? = some x → r.lsn < x.lsn) : appOK p r = true ∧ (appM p r) = { p with deltas := p.deltas.take i ++ r :: p.deltas.drop i } := by
  have hr := (fits_of fc).2.2.1
  have e1 : oldM p r = false := by
    have a1 : decide (r.lsn ≤ p.full) = false := decide_eq_false hf
    have a2 : p.base.any (fun x => decide (x.key = r.key ∧ r.lsn ≤ x.lsn)) = false := by
      rw [List.any_eq_false]
      intro x hx
      obtain ⟨j, hj⟩ := List.mem_iff_getElem?.1 hx
      simpa using hb j x hj
    have a3 : p.deltas.any (fun x => decide (x.lsn = r.lsn)) = false := by
      rw [List.any_eq_false]
      intro x hx
      have : ¬ x.lsn = r.lsn := by
        obtain ⟨j, hj⟩ := List.mem_iff_getElem?.1 hx
        by_cases c : j < i
        · have := hlt j x c hj; omega
        · cases hy : p.deltas[i]? with
          | none =>
            have h1 := (List.getElem?_eq_some_iff.1 hj).1
            rw [List.getElem?_eq_none_iff] at hy; omega
          | some y =>
            have h1 := hge y hy
            by_cases c2 : j = i
            · subst c2; rw [hy] at hj; cases hj; omega
            · have h2 := rise_drop hr hy x (List.mem_iff_getElem?.2 ⟨j - (i + 1), by rw [List.getElem?_drop]; rw [show i + 1 + (j - (i + 1)) = j by omega]; exact hj⟩)
              omega
      simpa using this
    simp only [oldM, a1, a2, a3, Bool.or_self]
  have e2 : appOK p r = true := by simp only [appOK, fc, ff, e1, decide_eq_true h64, Bool.not_false, Bool.and_self]
  refine ⟨e2, ?_⟩
  rw [appM, if_pos e2, ins_at hlt hi (fun x hx => by have := hge x hx; omega)]
def AK (h : AHeap) (p : Lf) (r : Rec) (u : Value) (g : AHeap) : Prop := ∃ bv dv, u = .tuple #[LV (appM p r) bv dv, .bool (appOK p r)] ∧ RS g (appM p r).base bv ∧ RS g (appM p r).deltas dv ∧ h.next ≤ g.next ∧ ∀ z, z < h.next → g.get z = h.get z
theorem apply0_c (h : AHeap) (lo : Nat) (p : Lf) (bv dv : Value) (r : Rec) (hb : RS h p.base bv) (od : OS h lo p.deltas dv) (hlb : p.base.length ≤ 1000000) (hld : p.deltas.length ≤ 1000000) (lb : LB p) (hrk : SL r.key) :
    FWp Tryz.prog 10 [LV p bv dv, r.V] h (AK h p r) := by
  have tb10 := And.intro ty22 (And.intro ty23 (And.intro ty25 (And.intro ty27 (ty9))))
  have hd := od.rs
  obtain ⟨b1, c1, rfl⟩ := hb.form
  obtain ⟨b2, c2, rfl⟩ := hd.form
  obtain ⟨h3, hh3⟩ : ∃ h3, h3 = ((h.new (LR p (.slice b1 p.base.length c1) (.slice b2 p.deltas.length c2))).new (.cells r.cs 1)).new (.cells zlf 1) := ⟨_, rfl⟩
  have e3 : h3.next = h.next + 3 := by rw [hh3]; rfl
  have k3 : ∀ z, z < h.next → h3.get z = h.get z := fun z hz => by rw [hh3]; simp (disch := first | omega | simp only [nx]; omega) only [hpl]
  have q0 : h3.get h.next = some (LR p (.slice b1 p.base.length c1) (.slice b2 p.deltas.length c2)) := by rw [hh3]; simp (disch := first | omega | simp only [nx]; omega) only [hpl]
  have q1 : h3.get (h.next + 1) = some (.cells r.cs 1) := by rw [hh3]; simp (disch := first | omega | simp only [nx]; omega) only [hpl]
  have q2 : h3.get (h.next + 2) = some (.cells zlf 1) := by rw [hh3]; simp (disch := first | omega | simp only [nx]; omega) only [hpl]
  have rf : r.cs[0]? = some (encS r.key) ∧ r.cs[1]? = some (U64 r.lsn) := ⟨rfl, rfl⟩
  have hb3 := hb.mono (h' := h3) xA k3
  have hd3 := hd.mono (h' := h3) xA k3
  have od3 : OS h3 lo p.deltas (.slice b2 p.deltas.length c2) := od.mono xA (fun z _ hz => k3 z hz)
  have o1 : decide (p.base = []) = true → p.base = [] := of_decide_eq_true
  have o2 : decide (p.deltas = []) = true → p.deltas = [] := of_decide_eq_true
  have wo := own0_x h3 p _ _ hb3 hd3 hlb hld
  obtain ⟨f1, f2⟩ := hand_fs (h := h3) o1 o2
  obtain ⟨s1, s2⟩ := hand_rs (h := h3) o1 o2
  obtain ⟨x1, y1, ev1⟩ := s1.form
  obtain ⟨x2, y2, ev2⟩ := s2.form
  rw [ev1] at f1
  rw [ev2] at f2
  rw [ev1, ev2] at wo
  have nH := hand_next h3 p (decide (p.base = [])) (decide (p.deltas = []))
  have kH : ∀ z, z < h3.next → (hand h3 p (decide (p.base = [])) (decide (p.deltas = []))).get z = h3.get z := fun z hz => hand_old _ _ _ _ _ hz
  obtain ⟨H4, hH4⟩ : ∃ H4, H4 = hand h3 p (decide (p.base = [])) (decide (p.deltas = [])) := ⟨_, rfl⟩
  rw [← hH4] at wo f1 f2 nH kH
  have p0 : H4.get h.next = some (LR p (.slice b1 p.base.length c1) (.slice b2 p.deltas.length c2)) := by rw [kH _ xA]; exact q0
  have p1 : H4.get (h.next + 1) = some (.cells r.cs 1) := by rw [kH _ xA]; exact q1
  have p2 : H4.get (h.next + 2) = some (.cells zlf 1) := by rw [kH _ xA]; exact q2
  have old : ∀ z, z < h.next → H4.get z = h.get z := fun z hz => by rw [kH _ xA]; exact k3 z hz
  have no : appOK p r = false → AK h p r (.tuple #[LV p (.slice x1 p.base.length y1) (.slice x2 p.deltas.length y2), .bool false]) (H4.set (h.next + 2) (LR p (.slice x1 p.base.length y1) (.slice x2 p.deltas.length y2))) := fun hno => by
    have e : appM p r = p := by simp [appM, hno]
    refine ⟨_, _, by rw [hno, e], ?_, ?_, by simp only [nx]; omega, fun z hz => by rw [zS xA]; exact old z hz⟩
    · rw [e]; exact (f1.keep (Nat.le_refl _) xI (fun z hz hz2 => zS (by have := (f1.lo hz).1; omega))).rs
    · rw [e]; exact (f2.keep (Nat.le_refl _) xI (fun z hz hz2 => zS (by have := (f2.lo hz).1; omega))).rs
  have hck := check0_c h3 p _ _ hb3 hd3 hlb hld lb
  have hrc := rec0_c h3 p (.slice b1 p.base.length c1) (.slice b2 p.deltas.length c2) r lb.low lb.high hrk
  refine W.enter tyOK Tryz.func10 rfl rfl ?_
  simp only [entry]
  cases fc : chk p with
  | false =>
    rw [if_neg (by rw [fc]; decide), hh3] at hck
    have jY := ty25
    refine Wr <| ja Zx <| ja Zx <| ja Jo <| jF za rfl <| On ?_
    have jY := An @q0 <| An @q1 <| An @p2 <| An @rf <| An @rcl <| An @sb <| An ty25 <| tb10
    refine W.seq <| Wr <| ja Jl <| jk (Jc en14 (hck)) rfl <| jE Jz (rfl) <| jE sm rfl <| jp rfl <| jp rfl <| jp rfl <| jp rfl <| jE Zp rfl <| jE sm rfl <| jp rfl <| jp rfl <| jp rfl <| jp rfl <| jp rfl <| jE Zp rfl <| jE sm rfl <| jp rfl <| jp rfl <| jp rfl <| jp rfl <| jE Zp rfl <| On ?_
    refine Wy <| Wr <| ja Jl <| jk (Jc en43 ((by rw [hh3] at wo; exact wo))) rfl <| jc Js <| jF za rfl <| On ?_
    refine CWp.ret <| SQ.ret <| Jr ?_
    exact no (by simp [appOK, fc])
  | true =>
  rw [if_pos fc, hh3] at hck
  cases ff : fit p.low p.high r with
  | false =>
    rw [ff, hh3] at hrc
    have jY := ty25
    refine Wr <| ja Zx <| ja Zx <| ja Jo <| jF za rfl <| On ?_
    have jY := An @q0 <| An @q1 <| An @p2 <| An @rf <| An @rcl <| An @sb <| An ty25 <| An ty27 <| tb10
    refine W.seq <| Wr <| ja Jl <| jk (Jc en14 (hck)) rfl <| jF Jz (rfl) <| jF sm rfl <| ja Jl <| ja Jl <| jk (Jc en42 (hrc)) rfl <| jE Zt rfl <| jE Zp rfl <| jE sm rfl <| jp rfl <| jp rfl <| jp rfl <| jp rfl <| jp rfl <| jE Zp rfl <| jE sm rfl <| jp rfl <| jp rfl <| jp rfl <| jp rfl <| jE Zp rfl <| On ?_
    refine Wy <| Wr <| ja Jl <| jk (Jc en43 ((by rw [hh3] at wo; exact wo))) rfl <| jc Js <| jF za rfl <| On ?_
    refine CWp.ret <| SQ.ret <| Jr ?_
    exact no (by simp [appOK, fc, ff])
  | true =>
  rw [ff, hh3] at hrc
  by_cases hf : r.lsn ≤ p.full
  · have jY := ty25
    refine Wr <| ja Zx <| ja Zx <| ja Jo <| jF za rfl <| On ?_
    have jY := An @q0 <| An @q1 <| An @p2 <| An @rf <| An @rcl <| An @sb <| An ty25 <| An ty27 <| An ty22 <| tb10
    refine W.seq <| Wr <| ja Jl <| jk (Jc en14 (hck)) rfl <| jF Jz (rfl) <| jF sm rfl <| ja Jl <| ja Jl <| jk (Jc en42 (hrc)) rfl <| jF Zt rfl <| jF Zp rfl <| jF sm rfl <| ja J27f1 <| ja Jl <| ja J25f2 <| ja Jl <| jE Ju xG <| jE Zp rfl <| jE sm rfl <| jp rfl <| jp rfl <| jp rfl <| jp rfl <| jE Zp rfl <| On ?_
    refine Wy <| Wr <| ja Jl <| jk (Jc en43 ((by rw [hh3] at wo; exact wo))) rfl <| jc Js <| jF za rfl <| On ?_
    refine CWp.ret <| SQ.ret <| Jr ?_
    exact no (by simp [appOK, fc, ff, oldM, hf])
  by_cases h64 : (64 : Int) ≤ (p.deltas.length : Int)
  · have jY := ty25
    refine Wr <| ja Zx <| ja Zx <| ja Jo <| jF za rfl <| On ?_
    have jY := An @q0 <| An @q1 <| An @p2 <| An @rf <| An @rcl <| An @sb <| An ty25 <| An ty27 <| An ty22 <| An ty23 <| tb10
    refine W.seq <| Wr <| ja Jl <| jk (Jc en14 (hck)) rfl <| jF Jz (rfl) <| jF sm rfl <| ja Jl <| ja Jl <| jk (Jc en42 (hrc)) rfl <| jF Zt rfl <| jF Zp rfl <| jF sm rfl <| ja J27f1 <| ja Jl <| ja J25f2 <| ja Jl <| jF Ju xG <| jF Zp rfl <| jF sm rfl <| ja J25f4 <| ja Jl <| ja Jn <| jE Jx xG <| jE Zp rfl <| On ?_
    refine Wy <| Wr <| ja Jl <| jk (Jc en43 ((by rw [hh3] at wo; exact wo))) rfl <| jc Js <| jF za rfl <| On ?_
    refine CWp.ret <| SQ.ret <| Jr ?_
    exact no (by have : ¬ p.deltas.length < 64 := by omega
                 simp [appOK, this])
  have jY := ty25
  refine Wr <| ja Zx <| ja Zx <| ja Jo <| jF za rfl <| On ?_
  have jY := An @q0 <| An @q1 <| An @rf <| An @rcl <| An @sb <| An ty25 <| An ty27 <| An ty22 <| An ty23 <| tb10
  refine W.seq <| Wr <| ja Jl <| jk (Jc en14 (hck)) rfl <| jF Jz (rfl) <| jF sm rfl <| ja Jl <| ja Jl <| jk (Jc en42 (hrc)) rfl <| jF Zt rfl <| jF Zp rfl <| jF sm rfl <| ja J27f1 <| ja Jl <| ja J25f2 <| ja Jl <| jF Ju xG <| jF Zp rfl <| jF sm rfl <| ja J25f4 <| ja Jl <| ja Jn <| jF Jx xG <| jF Zp rfl <| On ?_
  refine Wn <| CWp.skip <| SQ.normal ?_
  refine W.seq <| Wr <| ja za <| On ?_
  refine W.cut (fun L g => h3 = g ∧ (∀ (j : Nat) (x : Rec), p.base[j]? = some x → ¬ (x.key = r.key ∧ r.lsn ≤ x.lsn)) ∧ L = [(2, P0 h.next), (3, P0 (h.next + 1)), (4, P0 (h.next + 2))]) (W.block (W.loop (fun m L g => ∃ i : Nat, m + i = p.base.length ∧ h3 = g ∧ (∀ (j : Nat) (x : Rec), j < i → p.base[j]? = some x → ¬ (x.key = r.key ∧ r.lsn ≤ x.lsn)) ∧ L = [(2, P0 h.next), (3, P0 (h.next + 1)), (4, P0 (h.next + 2)), (6, I64 i)]) (n := p.base.length) ⟨0, rfl, hh3, by omega, rfl⟩ ?_ ?_)) ?_
  · simp [HasA, Tr.get_put]
  · rintro m L g ⟨i, hm, rfl, hj, rfl⟩
    simp only [mkA]
    have w2 : IntKind.i64.wrap ((i : Int) + 1) = ((i + 1 : Nat) : Int) := by rw [wrap_i64 xA xA]; omega
    by_cases hi : (i : Int) < (p.base.length : Int)
    · obtain ⟨x, hx⟩ : ∃ x, p.base[i]? = some x := ⟨p.base[i]'xA, by simp⟩
      obtain ⟨_, q, off, eb, hr1, hr2⟩ := RS.at_ hb3 hx
      have hc1 : (0 ≤ (i : Int) ∧ (i : Int) < (p.base.length : Int)) := by omega
      by_cases hkx : x.key = r.key
      · by_cases hlx : r.lsn ≤ x.lsn
        · have jY := An @q0 <| An @q1 <| An @p2 <| An @eb <| An @hc1 <| An @rf <| An @rcl <| An @sb <| An ty23 <| An tb10 <| An ty9 <| An ty22 <| An ty27 <| ty25
          refine W.seq <| Wr <| ja sm <| ja J25f3 <| ja Jl <| ja Jn <| je Jt <| On ?_
          refine Wy <| CWp.skip <| SQ.normal ?_
          refine W.seq <| W.block <| Wd <| jb J25f3 <| jb Jl <| jb sm <| jb Ji <| jb J27f0 <| jb (zl (hv := (hr2 _ rfl).2 0 _ _ _ ty9 rfl rfl)) <| jb J27f0 <| jb Jl <| jG (zb (hv := bs_eql)) xf <| jG sm rfl <| jb J25f3 <| jb Jl <| jb sm <| jb Ji <| jb J27f1 <| jb (zl (hv := (hr2 _ rfl).2 1 _ _ _ ty22 rfl rfl)) <| jb J27f1 <| jb Jl <| jG Jx xG <| jG Zp rfl <| Sn ?_
          refine Wy <| Wr <| ja Jl <| jk (Jc en43 ((by rw [eb] at wo; exact wo))) rfl <| jc Js <| jF za rfl <| On ?_
          refine CWp.ret <| BQ.ret <| SQ.ret <| LQ.ret <| BQ.ret <| NQ.ret <| SQ.ret <| Jr ?_
          exact no (by
            have : p.base.any (fun x => decide (x.key = r.key ∧ r.lsn ≤ x.lsn)) = true := List.any_eq_true.2 ⟨x, List.mem_of_getElem? hx, by simp [hkx, hlx]⟩
            have e : oldM p r = true := by simp only [oldM, this, Bool.true_or, Bool.or_true]
            simp [appOK, e])
        · have jY := An @q0 <| An @q1 <| An @eb <| An @hc1 <| An @rf <| An @rcl <| An @sb <| An ty23 <| An tb10 <| An ty9 <| An ty22 <| ty27
          refine W.seq <| Wr <| ja sm <| ja J25f3 <| ja Jl <| ja Jn <| je Jt <| On ?_
          refine Wy <| CWp.skip <| SQ.normal ?_
          refine W.seq <| W.block <| Wd <| jb J25f3 <| jb Jl <| jb sm <| jb Ji <| jb J27f0 <| jb (zl (hv := (hr2 _ rfl).2 0 _ _ _ ty9 rfl rfl)) <| jb J27f0 <| jb Jl <| jG (zb (hv := bs_eql)) xf <| jG sm rfl <| jb J25f3 <| jb Jl <| jb sm <| jb Ji <| jb J27f1 <| jb (zl (hv := (hr2 _ rfl).2 1 _ _ _ ty22 rfl rfl)) <| jb J27f1 <| jb Jl <| jH Jx xG <| jH Zp rfl <| Sn ?_
          refine Wn <| CWp.skip <| BQ.normal <| SQ.normal ?_
          have jW := @w2
          refine W.reg <| ja sm <| ja Ja <| ja za <| OSuf.nil <| ?_
          refine LQ.normal (m := m - 1) (L := [(2, P0 h.next), (3, P0 (h.next + 1)), (4, P0 (h.next + 2)), (6, I64 ((i + 1 : Nat) : Int))]) xA ?_ ⟨i + 1, by omega, rfl, fun j y hji hy => ?_, rfl⟩
          · simp only [HasA, Tr.get_put, Nat.reduceEqDiff, reduceIte, w2, and_self]
          · by_cases e : j = i
            · subst e; rw [hx] at hy; cases hy; exact fun h9 => hlx h9.2
            · exact hj j y xA hy
      · have jY := An @q0 <| An @q1 <| An @eb <| An @hc1 <| An @rf <| An @rcl <| An @sb <| An ty23 <| An tb10 <| An ty9 <| ty27
        refine W.seq <| Wr <| ja sm <| ja J25f3 <| ja Jl <| ja Jn <| je Jt <| On ?_
        refine Wy <| CWp.skip <| SQ.normal ?_
        refine W.seq <| W.block <| Wd <| jb J25f3 <| jb Jl <| jb sm <| jb Ji <| jb J27f0 <| jb (zl (hv := (hr2 _ rfl).2 0 _ _ _ ty9 rfl rfl)) <| jb J27f0 <| jb Jl <| jH (zb (hv := bs_eql)) xf <| jH sm rfl <| jq rfl <| jq rfl <| jq rfl <| jq rfl <| jq rfl <| jq rfl <| jq rfl <| jq rfl <| jq rfl <| jH Zp rfl <| Sn ?_
        refine Wn <| CWp.skip <| BQ.normal <| SQ.normal ?_
        have jW := @w2
        refine W.reg <| ja sm <| ja Ja <| ja za <| OSuf.nil <| ?_
        refine LQ.normal (m := m - 1) (L := [(2, P0 h.next), (3, P0 (h.next + 1)), (4, P0 (h.next + 2)), (6, I64 ((i + 1 : Nat) : Int))]) xA ?_ ⟨i + 1, by omega, rfl, fun j y hji hy => ?_, rfl⟩
        · simp only [HasA, Tr.get_put, Nat.reduceEqDiff, reduceIte, w2, and_self]
        · by_cases e : j = i
          · subst e; rw [hx] at hy; cases hy; exact fun h9 => hkx h9.1
          · exact hj j y xA hy
    · have jY := An @q0 <| An @q1 <| An @rcl <| An @sb <| An ty23 <| tb10
      refine W.seq <| Wr <| ja sm <| ja J25f3 <| ja Jl <| ja Jn <| jf Jt <| On ?_
      refine Wn <| CWp.exit <| SQ.exit <| LQ.exit <| BQ.exit <| ?_
      refine NQ.normal (L := [(2, P0 h.next), (3, P0 (h.next + 1)), (4, P0 (h.next + 2))]) ?_ ⟨rfl, fun j y hy => hj j y (by have := (List.getElem?_eq_some_iff.1 hy).1; omega) hy, rfl⟩
      simp only [HasA, Tr.get_put, Nat.reduceEqDiff, reduceIte, and_self]
  rintro L a' g ha ⟨rfl, hbase, rfl⟩
  refine SQ.normal <| CWp.known ha ?_
  simp only [mkA]
  refine Wr <| ja za <| On ?_
  refine W.seq <| ?_
  refine W.cut (fun L g => ∃ i : Nat, h3 = g ∧ i ≤ p.deltas.length ∧ (∀ (j : Nat) (x : Rec), j < i → p.deltas[j]? = some x → x.lsn < r.lsn) ∧ (∀ x : Rec, p.deltas[i]? = some x → ¬ x.lsn < r.lsn) ∧ L = [(2, P0 h.next), (3, P0 (h.next + 1)), (4, P0 (h.next + 2)), (7, I64 i)]) (W.block (W.loop (fun m L g => ∃ i : Nat, m + i = p.deltas.length ∧ h3 = g ∧ (∀ (j : Nat) (x : Rec), j < i → p.deltas[j]? = some x → x.lsn < r.lsn) ∧ L = [(2, P0 h.next), (3, P0 (h.next + 1)), (4, P0 (h.next + 2)), (7, I64 i)]) (n := p.deltas.length) ⟨0, rfl, rfl, by omega, rfl⟩ ?_ ?_)) ?_
  · simp [HasA, Tr.get_put]
  · rintro m L g ⟨i, hm, rfl, hj, rfl⟩
    simp only [mkA]
    have w2 : IntKind.i64.wrap ((i : Int) + 1) = ((i + 1 : Nat) : Int) := by rw [wrap_i64 xA xA]; omega
    by_cases hi : (i : Int) < (p.deltas.length : Int)
    · obtain ⟨x, hx⟩ : ∃ x, p.deltas[i]? = some x := ⟨p.deltas[i]'xA, by simp⟩
      obtain ⟨_, q, off, eb, hr1, hr2⟩ := RS.at_ hd3 hx
      have hc1 : (0 ≤ (i : Int) ∧ (i : Int) < (p.deltas.length : Int)) := by omega
      by_cases hlx : x.lsn < r.lsn
      · have jY := An @q0 <| An @q1 <| An @eb <| An @hc1 <| An @rf <| An @rcl <| An @sb <| An ty23 <| An ty22 <| An ty27 <| tb10
        refine W.seq <| Wd <| jb sm <| jb J25f4 <| jb Jl <| jb Jn <| jg Jt <| jG sm rfl <| jb J25f4 <| jb Jl <| jb sm <| jb Ji <| jb J27f1 <| jb (zl (hv := (hr2 _ rfl).2 1 _ _ _ ty22 rfl rfl)) <| jb J27f1 <| jb Jl <| jG Jt xG <| jG Zp rfl <| Sn ?_
        refine Wy <| CWp.skip <| SQ.normal ?_
        have jW := @w2
        refine W.block <| W.reg <| ja sm <| ja Ja <| ja za <| OSuf.nil <| BQ.normal <| ?_
        refine LQ.normal (m := m - 1) (L := [(2, P0 h.next), (3, P0 (h.next + 1)), (4, P0 (h.next + 2)), (7, I64 ((i + 1 : Nat) : Int))]) xA ?_ ⟨i + 1, by omega, rfl, fun j y hji hy => ?_, rfl⟩
        · simp only [HasA, Tr.get_put, Nat.reduceEqDiff, reduceIte, w2, and_self]
        · by_cases e : j = i
          · subst e; rw [hx] at hy; cases hy; exact hlx
          · exact hj j y xA hy
      · have jY := An @q0 <| An @q1 <| An @eb <| An @hc1 <| An @rf <| An @rcl <| An @sb <| An ty23 <| An ty22 <| An ty27 <| tb10
        refine W.seq <| Wd <| jb sm <| jb J25f4 <| jb Jl <| jb Jn <| jg Jt <| jG sm rfl <| jb J25f4 <| jb Jl <| jb sm <| jb Ji <| jb J27f1 <| jb (zl (hv := (hr2 _ rfl).2 1 _ _ _ ty22 rfl rfl)) <| jb J27f1 <| jb Jl <| jH Jt xG <| jH Zp rfl <| Sn ?_
        refine Wn <| CWp.exit <| SQ.exit <| LQ.exit <| BQ.exit <| ?_
        refine NQ.normal (L := [(2, P0 h.next), (3, P0 (h.next + 1)), (4, P0 (h.next + 2)), (7, I64 i)]) ?_ ⟨i, rfl, by omega, hj, fun y hy => by rw [hx] at hy; cases hy; exact hlx, rfl⟩
        simp only [HasA, Tr.get_put, Nat.reduceEqDiff, reduceIte, and_self]
    · have jY := An @q0 <| An @q1 <| An @rcl <| An @sb <| An ty23 <| tb10
      refine W.seq <| Wd <| jb sm <| jb J25f4 <| jb Jl <| jb Jn <| jh Jt <| jH sm rfl <| jq rfl <| jq rfl <| jq rfl <| jq rfl <| jq rfl <| jq rfl <| jq rfl <| jq rfl <| jq rfl <| jH Zp rfl <| Sn ?_
      refine Wn <| CWp.exit <| SQ.exit <| LQ.exit <| BQ.exit <| ?_
      refine NQ.normal (L := [(2, P0 h.next), (3, P0 (h.next + 1)), (4, P0 (h.next + 2)), (7, I64 i)]) ?_ ⟨i, rfl, by omega, hj, fun y hy => by have := (List.getElem?_eq_some_iff.1 hy).1; omega, rfl⟩
      simp only [HasA, Tr.get_put, Nat.reduceEqDiff, reduceIte, and_self]
  rintro L a' g ha ⟨i, rfl, hi, hlt, hge, rfl⟩
  by_cases hin : ∃ x, p.deltas[i]? = some x ∧ x.lsn = r.lsn
  · obtain ⟨x, hx, hlx⟩ := hin
    obtain ⟨_, q, off, eb, hr1, hr2⟩ := RS.at_ hd3 hx
    have hi2 := (List.getElem?_eq_some_iff.1 hx).1
    have hc1 : (0 ≤ (i : Int) ∧ (i : Int) < (p.deltas.length : Int)) := by omega
    refine SQ.normal <| CWp.known ha ?_
    simp only [mkA]
    have jY := An @q0 <| An @q1 <| An @p2 <| An @eb <| An @hc1 <| An @rf <| An @rcl <| An @sb <| An ty23 <| An ty22 <| An ty27 <| An tb10 <| ty25
    refine W.seq <| Wd <| jb sm <| jb J25f4 <| jb Jl <| jb Jn <| jg Jt <| jG sm rfl <| jb J25f4 <| jb Jl <| jb sm <| jb Ji <| jb J27f1 <| jb (zl (hv := (hr2 _ rfl).2 1 _ _ _ ty22 rfl rfl)) <| jb J27f1 <| jb Jl <| jG Jy (by simp [hlx]) <| jG Zp rfl <| Sn ?_
    refine Wy <| Wr <| ja Jl <| jk (Jc en43 ((by rw [eb] at wo; exact wo))) rfl <| jc Js <| jF za rfl <| On ?_
    refine CWp.ret <| SQ.ret <| Jr ?_
    exact no (by
      have : p.deltas.any (fun x => decide (x.lsn = r.lsn)) = true := List.any_eq_true.2 ⟨x, List.mem_of_getElem? hx, by simp [hlx]⟩
      have e : oldM p r = true := by simp only [oldM, this, Bool.true_or, Bool.or_true]
      simp [appOK, e])
  · have hge' : ∀ x : Rec, p.deltas[i]? = some x → r.lsn < x.lsn := fun x hx => by
      have h1 := hge x hx
      have : ¬ x.lsn = r.lsn := fun e => hin ⟨x, hx, e⟩
      omega
    obtain ⟨ey, em⟩ := app_yes fc ff hf xA hbase hlt hi hge'
    refine SQ.normal <| CWp.known ha ?_
    simp only [mkA]
    refine W.seq <| ?_
    apply W.join (fun L g => h3 = g ∧ L = [(2, P0 h.next), (3, P0 (h.next + 1)), (4, P0 (h.next + 2)), (7, I64 i)])
    · intro rest
      by_cases hi2 : (i : Int) < (p.deltas.length : Int)
      · obtain ⟨x, hx⟩ : ∃ x, p.deltas[i]? = some x := ⟨p.deltas[i]'xA, by simp⟩
        obtain ⟨_, q, off, eb, hr1, hr2⟩ := RS.at_ hd3 hx
        have hc1 : (0 ≤ (i : Int) ∧ (i : Int) < (p.deltas.length : Int)) := by omega
        have hne := hge' x hx
        have jY := An @q0 <| An @q1 <| An @eb <| An @hc1 <| An @rf <| An @rcl <| An @sb <| An ty23 <| An ty22 <| An ty27 <| tb10
        refine Wd <| jb sm <| jb J25f4 <| jb Jl <| jb Jn <| jg Jt <| jG sm rfl <| jb J25f4 <| jb Jl <| jb sm <| jb Ji <| jb J27f1 <| jb (zl (hv := (hr2 _ rfl).2 1 _ _ _ ty22 rfl rfl)) <| jb J27f1 <| jb Jl <| jH Jy xG <| jH Zp rfl <| Sn ?_
        refine Wn <| CWp.skip <| SQ.normal ?_
        (refine rest [(2, P0 h.next), (3, P0 (h.next + 1)), (4, P0 (h.next + 2)), (7, I64 i)] _ _ ?_ ⟨rfl, rfl⟩; simp [HasA, Tr.get_put])
      · refine Wd <| jb sm <| jb J25f4 <| jb Jl <| jb Jn <| jh Jt <| jH sm rfl <| jq rfl <| jq rfl <| jq rfl <| jq rfl <| jq rfl <| jq rfl <| jq rfl <| jq rfl <| jq rfl <| jH Zp rfl <| Sn ?_
        refine Wn <| CWp.skip <| SQ.normal ?_
        (refine rest [(2, P0 h.next), (3, P0 (h.next + 1)), (4, P0 (h.next + 2)), (7, I64 i)] _ _ ?_ ⟨rfl, rfl⟩; simp [HasA, Tr.get_put])
    rintro L g ⟨rfl, rfl⟩
    simp only [mkA]
    obtain ⟨G2, hG2⟩ : ∃ G2, G2 = H4.new (LR p (.slice x1 p.base.length y1) (.slice x2 p.deltas.length y2)) := ⟨_, rfl⟩
    have n2 : G2.next = h.next + 6 := by rw [hG2]; simp; omega
    have h45 : H4.next = h.next + 5 := by omega
    have k2 : ∀ z, z < H4.next → G2.get z = H4.get z := fun z hz => by rw [hG2]; exact zN xA
    have g8 : G2.get (h.next + 5) = some (LR p (.slice x1 p.base.length y1) (.slice x2 p.deltas.length y2)) := by rw [hG2, ← h45]; exact zQ
    have g0 : G2.get h.next = some (LR p (.slice b1 p.base.length c1) (.slice b2 p.deltas.length c2)) := by rw [k2 _ xA]; exact p0
    have g1 : G2.get (h.next + 1) = some (.cells [encS r.key, U64 r.lsn, .bool r.del, encS r.val] 1) := by rw [k2 _ xA]; exact p1
    have g4 : G2.get (h.next + 2) = some (.cells zlf 1) := by rw [k2 _ xA]; exact p2
    obtain ⟨xh, ah, rsh⟩ := os_hi od3 hi
    obtain ⟨bh, ch, rfl⟩ := rsh.form
    have hl : (p.deltas.take i).length ≤ 1000000 := by rw [List.length_take]; omega
    have rr := recs0_c G2 (p.deltas.take i) _ (rsh.mono xA (fun z hz => by rw [k2 z xA]; exact kH z hz)) hl
    have sv := rval_sv G2 (p.deltas.take i)
    have nr := rheap_next G2 (p.deltas.take i)
    have kr := rheap_old G2 (p.deltas.take i)
    obtain ⟨xr, evr⟩ := sv_form sv
    rw [evr] at rr sv
    obtain ⟨G3, hG3⟩ : ∃ G3, G3 = rheap G2 (p.deltas.take i) := ⟨_, rfl⟩
    rw [← hG3] at rr sv nr kr
    obtain ⟨v4, G4, a1, a2, a3, a4, a5⟩ := sv_oneR sv r xA xA
    obtain ⟨x4, rfl⟩ := sv_form a2
    have nv : ∀ z, z < G2.next → ¬ svRow (.slice xr (p.deltas.take i).length 0) = some z := fun z hz e => by have := sv.row e; omega
    have k4 : ∀ z, z < G2.next → G4.get z = G2.get z := fun z hz => by rw [a4 z xA (nv z hz), kr z hz]
    have u1 : G3.get (h.next + 1) = some (.cells [encS r.key, U64 r.lsn, .bool r.del, encS r.val] 1) := by rw [kr _ xA]; exact g1
    have u0 : G3.get h.next = some (LR p (.slice b1 p.base.length c1) (.slice b2 p.deltas.length c2)) := by rw [kr _ xA]; exact g0
    have u8 : G4.get (h.next + 5) = some (LR p (.slice x1 p.base.length y1) (.slice x2 p.deltas.length y2)) := by rw [k4 _ xA]; exact g8
    have jY := An @q0 <| An @q1 <| An @p0 <| An @p1 <| An @p2 <| An @rf <| An @rcl <| An @sb <| ty25
    refine Wr <| ja Jl <| jk (Jc en43 (wo)) rfl <| ja Jo <| jc Js <| On ?_
    show CWp _ _ _ _ (H4.new (LR p (.slice x1 p.base.length y1) (.slice x2 p.deltas.length y2))) _
    rw [← hG2]
    refine CWp.known (L := [(2, P0 h.next), (3, P0 (h.next + 1)), (4, P0 (h.next + 2)), (7, I64 i), (8, P0 (h.next + 5))]) ⟨xB, xB, xB, xB, (by simp only [lk, h45] <;> rfl), trivial⟩ ?_
    simp only [mkA]
    have jY := An @g0 <| An @g1 <| An @u0 <| An @u1 <| An @u8 <| An @rcl <| An @sb <| An ty23 <| An ty27 <| tb10
    refine W.seq <| CWp.sql tyOK mixed (ms := [0, 1, 0, 7, 15, 0, 32, 127, 255, 511]) xJ (
        .free rfl rfl rfl J25f4 rfl <| .read rfl rfl rfl Jl xC trivial rfl <| .free rfl rfl rfl sm rfl <| .read rfl rfl rfl (so_slice xB xE xE xE (ah _ _ _ _ _ ty23 rfl ty27)) xC trivial rfl <| .call rfl rfl rfl (fcallO xD en44 (rr)) rfl ⟨.inl rfl, .inl rfl, trivial⟩ rfl <| .read rfl rfl rfl Jl xC ⟨.inr Jl, trivial⟩ rfl <| .late rfl rfl rfl Jh rfl rfl ⟨.inl rfl, .inr (so_slice xB xE xE xE (ah _ _ _ _ _ ty23 rfl ty27)), .inr Jl, trivial⟩ rfl <| .change rfl rfl rfl (so_append xD (a1 _ _ xL rfl xK)) rfl ⟨.inl rfl, .inl rfl, .inl rfl, trivial⟩ rfl <| .free rfl rfl rfl J25f4 rfl <| .change rfl rfl rfl Js rfl ⟨.inl rfl, .inl rfl, .inl rfl, trivial⟩ rfl <| .nil) <| SQ.normal ?_
    obtain ⟨G5, hG5⟩ : ∃ G5, G5 = G4.set (h.next + 5) (LR p (.slice x1 p.base.length y1) (.slice x4 (p.deltas.take i ++ [r]).length 0)) := ⟨_, rfl⟩
    have n5 : G5.next = G4.next := by rw [hG5]; rfl
    have k5 : ∀ z, ¬ z = h.next + 5 → G5.get z = G4.get z := fun z hz => by rw [hG5]; exact zS xA
    have w8 : G5.get (h.next + 5) = some (LR p (.slice x1 p.base.length y1) (.slice x4 (p.deltas.take i ++ [r]).length 0)) := by rw [hG5]; exact zP
    have k5' : ∀ z, z < H4.next → G5.get z = H4.get z := fun z hz => by rw [k5 z xA, k4 z xA, k2 z hz]
    have w0 : G5.get h.next = some (LR p (.slice b1 p.base.length c1) (.slice b2 p.deltas.length c2)) := by rw [k5' _ xA]; exact p0
    have sv5 : SV G5 4 G2.next (fl (p.deltas.take i ++ [r])) (.slice x4 (p.deltas.take i ++ [r]).length 0) := a2.mono xA (fun z hz he => k5 z (by have := a2.row he; omega))
    have od5 : OS G5 lo p.deltas (.slice b2 p.deltas.length c2) := od3.mono xA (fun z _ hz => by rw [k5' z xA]; exact kH z hz)
    obtain ⟨xl, al, ll, cl⟩ := os_lo od5 hi
    obtain ⟨v6, G6, c1', c2', c3, c4, c5, c6, c7⟩ := ap_any sv5 ll cl (by rw [fl_length, List.length_drop]) (fl_ones _) (by simp only [vLen, List.length_append, List.length_take, List.length_singleton]; omega) xA
    have hcat : fl (p.deltas.take i ++ [r]) ++ fl (p.deltas.drop i) = fl (p.deltas.take i ++ r :: p.deltas.drop i) := by rw [← fl_app]; simp
    rw [hcat] at c2'
    obtain ⟨x6, rfl⟩ := sv_form c2'
    have nv6 : ∀ z, z < G2.next → ¬ svRow (.slice x4 (p.deltas.take i ++ [r]).length 0) = some z := fun z hz e => by have := sv5.row e; omega
    have k6 : ∀ z, z < G2.next → G6.get z = G5.get z := fun z hz => c5 z xA (nv6 z hz)
    have t8 : G6.get (h.next + 5) = some (LR p (.slice x1 p.base.length y1) (.slice x4 (p.deltas.take i ++ [r]).length 0)) := by rw [k6 _ xA]; exact w8
    have t4 : G6.get (h.next + 2) = some (.cells zlf 1) := by rw [k6 _ xA, k5' _ xA]; exact p2
    show CWp _ _ _ _ (G4.set (h.next + 5) (LR p (.slice x1 p.base.length y1) (.slice x4 (p.deltas.take i ++ [r]).length 0))) _
    rw [← hG5]
    refine CWp.known (L := [(2, P0 h.next), (4, P0 (h.next + 2)), (7, I64 i), (8, P0 (h.next + 5))]) ⟨xB, xB, xB, xB, trivial⟩ ?_
    simp only [mkA]
    have jY := An @w0 <| An @w8 <| An @t8 <| An @t4 <| An @rcl <| An @sb <| An ty23 <| An ty25 <| tb10
    refine Wd <| jb J25f4 <| jb Jl <| jb J25f4 <| jb Jl <| jb sm <| jb (so_slice xB xE xE xE (al _ _ _ _ ty23 rfl ty27 rfl)) <| jb (so_append xD (c1' _ _ xL rfl xK)) <| jb J25f4 <| jd Js <| Sn ?_
    refine Wr <| ja Jl <| jc Js <| jE za rfl <| On ?_
    refine CWp.ret <| Jr ?_
    rw [AK, ey, em]
    have kF : ∀ z, z < H4.next → ¬ z = h.next + 2 → G6.get z = H4.get z := fun z hz h9 => by rw [k6 z xA, k5' z hz]
    refine ⟨_, _, rfl, (f1.keep (Nat.le_refl _) xF (fun z hz hz2 => ?_)).rs, sv_rs (c2'.mono xF (fun z hz he => ?_)), by simp only [nx]; omega, fun z hz => ?_⟩
    · have := (f1.lo hz).1
      simp (disch := first | omega | simp only [nx]; omega) only [hpl]; exact kF z hz2 xA
    · have := c2'.row he
      simp (disch := first | omega | simp only [nx]; omega) only [hpl]
    · simp (disch := first | omega | simp only [nx]; omega) only [hpl]; rw [kF z xA xA]; exact old z hz
end Go.Proofs.YtebheelmgcggmaaGreat
namespace Go.Proofs.YtebheelmgcggmaaGreat
open Go.Ab Go.Sort
theorem getL_pos (k : List UInt8) : ∀ (l : List Rec) (o : Rec × Bool), 0 ≤ o.1.lsn → o.2 = decide (0 < o.1.lsn) → 0 ≤ (l.foldl (gstep k) o).1.lsn ∧ (l.foldl (gstep k) o).2 = decide (0 < (l.foldl (gstep k) o).1.lsn)
  | [], o, h1, h2 => ⟨h1, h2⟩
  | r :: l, o, h1, h2 => by
    simp only [List.foldl_cons]
    refine getL_pos k l (gstep k o r) ?_ ?_
    · simp only [gstep]; split
      · rename_i h9; show 0 ≤ r.lsn; omega
      · exact h1
    · simp only [gstep]; split
      · rename_i h; simp; omega
      · exact h2
theorem get0_c (h : AHeap) (p : Lf) (bv dv : Value) (hb : RS h p.base bv) (hd : RS h p.deltas dv) (hlb : p.base.length ≤ 1000000) (hld : p.deltas.length ≤ 1000000) (lb : LB p) (k : List UInt8) :
    FWp Tryz.prog 12 [LV p bv dv, encS k] h fun u h' => u = .tuple #[(getM p k).1.V, .bool (getM p k).2] ∧ h' = h := by
  have tb12 := And.intro ty22 (And.intro ty23 (And.intro ty25 (And.intro ty27 (ty9))))
  refine FWp.gcs (bv_rb _ _) ?_
  obtain ⟨b1, c1, rfl⟩ := hb.form
  obtain ⟨b2, c2, rfl⟩ := hd.form
  obtain ⟨h3, hh3⟩ : ∃ h3, h3 = ((h.new (LR p (.slice b1 p.base.length c1) (.slice b2 p.deltas.length c2))).new (.cells [encS [], U64 0, .bool false, encS []] 1)).new (.cells [encS [], U64 0, .bool false, encS []] 1) := ⟨_, rfl⟩
  have e3 : h3.next = h.next + 3 := by rw [hh3]; rfl
  have k3 : ∀ z, z < h.next → h3.get z = h.get z := fun z hz => by rw [hh3]; simp (disch := first | omega | simp only [nx]; omega) only [hpl]
  have q0 : h3.get h.next = some (LR p (.slice b1 p.base.length c1) (.slice b2 p.deltas.length c2)) := by rw [hh3]; simp (disch := first | omega | simp only [nx]; omega) only [hpl]
  have q1 : h3.get (h.next + 1) = some (.cells [encS [], U64 0, .bool false, encS []] 1) := by rw [hh3]; simp (disch := first | omega | simp only [nx]; omega) only [hpl]
  have q2 : h3.get (h.next + 2) = some (.cells [encS [], U64 0, .bool false, encS []] 1) := by rw [hh3]; simp (disch := first | omega | simp only [nx]; omega) only [hpl]
  have hb3 := hb.mono (h' := h3) xA k3
  have hd3 := hd.mono (h' := h3) xA k3
  have hck := check0_c h3 p _ _ hb3 hd3 hlb hld lb
  refine W.enter tyOK Tryz.func12 rfl rfl ?_
  simp only [entry]
  cases fc : chk p with
  | false =>
    rw [if_neg (by rw [fc]; decide), hh3] at hck
    have jY := ty27
    refine Wr <| ja Zx <| ja Jo <| jF za rfl <| On ?_
    refine Wr <| ja Jo <| On ?_
    have jY := An @q0 <| An @q1 <| An @q2 <| An @rcl <| An @sb <| An ty25 <| An ty27 <| tb12
    refine W.seq <| Wr <| ja Jl <| jk (Jc en14 (hck)) rfl <| jE Jz (rfl) <| On ?_
    refine Wy <| Wr <| ja Jl <| jc Js <| jF za rfl <| On ?_
    refine CWp.ret <| SQ.ret <| Jr ?_
    have e : getM p k = (rec0, false) := by simp [getM, fc]
    exact ⟨by rw [e]; rfl, fun r o hr ho => by simp (disch := first | omega | simp only [nx]; omega) only [hpl]; exact ho⟩
  | true =>
    rw [if_pos fc, hh3] at hck
    have rr := recs0_c h3 p.base _ hb3 hlb
    have sv := rval_sv h3 p.base
    have nr := rheap_next h3 p.base
    have kr := rheap_old h3 p.base
    obtain ⟨xr, evr⟩ := sv_form sv
    rw [evr] at rr sv
    obtain ⟨G3, hG3⟩ : ∃ G3, G3 = rheap h3 p.base := ⟨_, rfl⟩
    rw [← hG3] at rr sv nr kr
    rw [hh3] at rr
    have hd4 := hd3.mono (h' := G3) nr.1 kr
    have u0 : G3.get h.next = some (LR p (.slice b1 p.base.length c1) (.slice b2 p.deltas.length c2)) := by rw [kr _ xA]; exact q0
    obtain ⟨v7, G, a1, a2, a3, a4, a5, a6, a7⟩ := ap_any sv (x := .slice b2 p.deltas.length c2) rfl (RS.cells hd4 (g := G3) fun _ _ => rfl) (fl_length _) (fl_ones _) (by simp only [vLen]; omega) xA
    rw [← fl_app] at a2
    obtain ⟨x7, rfl⟩ := sv_form a2
    have nv : ∀ z, z < h3.next → ¬ svRow (.slice xr p.base.length 0) = some z := fun z hz e => by have := sv.row e; omega
    have kG : ∀ z, z < h3.next → G.get z = h3.get z := fun z hz => by rw [a5 z xA (nv z hz), kr z hz]
    have rs7 := sv_rs a2
    obtain ⟨A, hA⟩ : ∃ A, A = p.base ++ p.deltas := ⟨_, rfl⟩
    rw [← hA] at a2 rs7 a1
    have lA : A.length ≤ 2000000 := by rw [hA, List.length_append]; omega
    have t1 : G.get (h.next + 1) = some (.cells [encS [], U64 0, .bool false, encS []] 1) := by rw [kG _ xA]; exact q1
    have t2 : G.get (h.next + 2) = some (.cells [encS [], U64 0, .bool false, encS []] 1) := by rw [kG _ xA]; exact q2
    have jY := ty27
    refine Wr <| ja Zx <| ja Jo <| jF za rfl <| On ?_
    refine Wr <| ja Jo <| On ?_
    have jY := An @q0 <| An @u0 <| An @rcl <| An @sb <| An ty25 <| ty23
    refine W.seq <| Wr <| ja Jl <| jk (Jc en14 (hck)) rfl <| jF Jz (rfl) <| On ?_
    refine Wn <| CWp.skip <| SQ.normal ?_
    refine W.seq <| CWp.sqd tyOK mixed (ms := [0, 1, 3, 0, 8, 31, 63]) xJ (
        jR J25f3 <| js Jl <| ju (Jc en44 (rr)) rfl <| jR J25f4 <| .read rfl rfl Jl xC ⟨.inr Jl, trivial⟩ rfl <| jt (so_append xD (a1 _ _ xL rfl xK)) rfl <| jR za <| .nil) <| SQ.normal ?_
    refine W.seq <| Wr <| ja za <| On ?_
    refine W.cut (fun L g => ∃ o : Rec × Bool, o = A.foldl (gstep k) (rec0, false) ∧ g.get (h.next + 2) = some (.cells [encS o.1.key, U64 o.1.lsn, .bool o.1.del, encS o.1.val] 1) ∧ h.next + 3 ≤ g.next ∧ g.get (h.next + 1) = some (.cells [encS [], U64 0, .bool false, encS []] 1) ∧ (∀ z, z < h.next → g.get z = h.get z) ∧ L = [(4, P0 (h.next + 1)), (6, P0 (h.next + 2))]) (W.block (W.loop (fun m L g => ∃ (i : Nat) (o : Rec × Bool), m + i = A.length ∧ o = (A.take i).foldl (gstep k) (rec0, false) ∧ g.get (h.next + 2) = some (.cells [encS o.1.key, U64 o.1.lsn, .bool o.1.del, encS o.1.val] 1) ∧ g.next = G.next ∧ (∀ z, ¬ z = h.next + 2 → g.get z = G.get z) ∧ L = [(1, encS k), (4, P0 (h.next + 1)), (6, P0 (h.next + 2)), (7, .slice x7 A.length 0), (8, I64 i)]) (n := A.length) ⟨0, (rec0, false), rfl, rfl, t2, rfl, fun _ _ => rfl, rfl⟩ ?_ ?_)) ?_
    · simp [HasA, Tr.get_put]
    · rintro m L g ⟨i, o, hm, ho, go, gn, gk, rfl⟩
      simp only [mkA]
      have w2 : IntKind.i64.wrap ((i : Int) + 1) = ((i + 1 : Nat) : Int) := by rw [wrap_i64 xA xA]; omega
      by_cases hi : (i : Int) < (A.length : Int)
      · obtain ⟨x, hx⟩ : ∃ x, A[i]? = some x := ⟨A[i]'xA, by simp⟩
        obtain ⟨_, q, off, eb, hr1, hr2⟩ := RS.at_ rs7 hx
        have hq : ¬ q = h.next + 2 := fun e => by
          have h9 : svRow (.slice x7 A.length 0) = some q := by rw [eb]; rfl
          have := a2.row h9
          omega
        have hc1 : (0 ≤ (i : Int) ∧ (i : Int) < (A.length : Int)) := by omega
        have hst : (A.take (i + 1)).foldl (gstep k) (rec0, false) = gstep k o x := by rw [take_snoc hx, List.foldl_append, ← ho]; rfl
        by_cases hkx : x.key = k
        · by_cases hlx : x.lsn > o.1.lsn
          · have jY := An @go <| An @eb <| An @hc1 <| An @rcl <| An @sb <| An ty23 <| An tb12 <| An ty22 <| ty27
            refine W.seq <| Wr <| ja sm <| ja sm <| ja Jn <| je Jt <| On ?_
            refine Wy <| CWp.skip <| SQ.normal ?_
            refine W.seq <| W.block <| Wd <| jb sm <| jb sm <| jb Ji <| jb J27f0 <| jb (zl (hv := (hr2 _ (gk _ hq)).2 0 _ _ _ ty9 rfl rfl)) <| jb sm <| jG (zb (hv := bs_eql)) xf <| jG sm rfl <| jb sm <| jb sm <| jb Ji <| jb J27f1 <| jb (zl (hv := (hr2 _ (gk _ hq)).2 1 _ _ _ ty22 rfl rfl)) <| jb J27f1 <| jb Jl <| jG Jv xG <| jG Zp rfl <| Sn ?_
            refine Wy <| W.reg <| ja sm <| ja sm <| ja Ji <| Oa rfl (zl (hv := (show aLoad T _ _ _ = some (Value.agg #[encS x.key, U64 x.lsn, .bool x.del, encS x.val]) from (hr2 _ (gk _ hq)).1 _ _ ty27 rfl rfl))) rfl <| jc Js <| OSuf.nil <| BQ.normal <| SQ.normal ?_
            have jW := @w2
            refine W.reg <| ja sm <| ja Ja <| ja za <| OSuf.nil <| ?_
            refine LQ.normal (m := m - 1) (L := [(1, encS k), (4, P0 (h.next + 1)), (6, P0 (h.next + 2)), (7, .slice x7 A.length 0), (8, I64 ((i + 1 : Nat) : Int))]) xA ?_ ⟨i + 1, (x, true), by omega, ?_, zP, gn, fun z hz => by rw [zS xA]; exact gk z hz, rfl⟩
            · simp only [HasA, Tr.get_put, Nat.reduceEqDiff, reduceIte, w2, and_self]
            · rw [hst, gstep, if_pos ⟨hkx, hlx⟩]
          · have jY := An @go <| An @eb <| An @hc1 <| An @rcl <| An @sb <| An ty23 <| An tb12 <| An ty22 <| ty27
            refine W.seq <| Wr <| ja sm <| ja sm <| ja Jn <| je Jt <| On ?_
            refine Wy <| CWp.skip <| SQ.normal ?_
            refine W.seq <| W.block <| Wd <| jb sm <| jb sm <| jb Ji <| jb J27f0 <| jb (zl (hv := (hr2 _ (gk _ hq)).2 0 _ _ _ ty9 rfl rfl)) <| jb sm <| jG (zb (hv := bs_eql)) xf <| jG sm rfl <| jb sm <| jb sm <| jb Ji <| jb J27f1 <| jb (zl (hv := (hr2 _ (gk _ hq)).2 1 _ _ _ ty22 rfl rfl)) <| jb J27f1 <| jb Jl <| jH Jv xG <| jH Zp rfl <| Sn ?_
            refine Wn <| CWp.skip <| BQ.normal <| SQ.normal ?_
            have jW := @w2
            refine W.reg <| ja sm <| ja Ja <| ja za <| OSuf.nil <| ?_
            refine LQ.normal (m := m - 1) (L := [(1, encS k), (4, P0 (h.next + 1)), (6, P0 (h.next + 2)), (7, .slice x7 A.length 0), (8, I64 ((i + 1 : Nat) : Int))]) xA ?_ ⟨i + 1, o, by omega, ?_, go, gn, gk, rfl⟩
            · simp only [HasA, Tr.get_put, Nat.reduceEqDiff, reduceIte, w2, and_self]
            · rw [hst, gstep, if_neg (fun h9 => hlx h9.2)]
        · have jY := An @go <| An @eb <| An @hc1 <| An @rcl <| An @sb <| An ty23 <| An tb12 <| ty27
          refine W.seq <| Wr <| ja sm <| ja sm <| ja Jn <| je Jt <| On ?_
          refine Wy <| CWp.skip <| SQ.normal ?_
          refine W.seq <| W.block <| Wd <| jb sm <| jb sm <| jb Ji <| jb J27f0 <| jb (zl (hv := (hr2 _ (gk _ hq)).2 0 _ _ _ ty9 rfl rfl)) <| jb sm <| jH (zb (hv := bs_eql)) xf <| jH sm rfl <| jq rfl <| jq rfl <| jq rfl <| jq rfl <| jq rfl <| jq rfl <| jq rfl <| jq rfl <| jH Zp rfl <| Sn ?_
          refine Wn <| CWp.skip <| BQ.normal <| SQ.normal ?_
          have jW := @w2
          refine W.reg <| ja sm <| ja Ja <| ja za <| OSuf.nil <| ?_
          refine LQ.normal (m := m - 1) (L := [(1, encS k), (4, P0 (h.next + 1)), (6, P0 (h.next + 2)), (7, .slice x7 A.length 0), (8, I64 ((i + 1 : Nat) : Int))]) xA ?_ ⟨i + 1, o, by omega, ?_, go, gn, gk, rfl⟩
          · simp only [HasA, Tr.get_put, Nat.reduceEqDiff, reduceIte, w2, and_self]
          · rw [hst, gstep, if_neg (fun h9 => hkx h9.1)]
      · have jY := An ty23 <| tb12
        refine W.seq <| Wr <| ja sm <| ja sm <| ja Jn <| jf Jt <| On ?_
        refine Wn <| CWp.exit <| SQ.exit <| LQ.exit <| BQ.exit <| ?_
        refine NQ.normal (L := [(4, P0 (h.next + 1)), (6, P0 (h.next + 2))]) ?_ ⟨o, by rw [ho, List.take_of_length_le xA], go, by omega, by rw [gk _ xA]; exact t1, fun z hz => by rw [gk z xA, kG z xA]; exact k3 z hz, rfl⟩
        simp only [HasA, Tr.get_put, Nat.reduceEqDiff, reduceIte, and_self]
    rintro L a' g ha ⟨o, ho, go, gn, g1, gk, rfl⟩
    have hpos := getL_pos k A (rec0, false) xK xK
    rw [← ho] at hpos
    have e : getM p k = o := by rw [ho, getM, if_pos fc, getL, Lf.all, hA]
    refine SQ.normal <| CWp.known ha ?_
    simp only [mkA]
    have jY := An @go <| An @g1 <| An @rcl <| An @sb <| An ty27 <| An ty22 <| tb12
    refine W.seq <| CWp.sqd tyOK mixed (ms := [0, 0, 2, 6, 1, 31]) xJ (
        js Jl <| jR J27f1 <| js Jl <| jR Jv <| jt Js rfl <| jR za <| .nil) <| SQ.normal ?_
    refine CWp.ret <| Jr ?_
    exact ⟨by rw [e, hpos.2]; rfl, fun r o hr ho => by simp (disch := first | omega | simp only [nx]; omega) only [hpl]; rw [gk r hr]; exact ho⟩
theorem ap_e {h : AHeap} {y : Nat} {l : List Rec} {b : Option Addr} {c : Nat} (hg : h.get y = some (.cells [] 4)) (hy : y < h.next) (hs : RS h l (.slice b l.length c)) (hl : l.length ≤ 1000000) :
    ∃ v' h', (∀ ats A', appT T ats = some A' → A'.size = 4 → A'.bytes ≤ 100 → aAppend T ats (.slice (some ⟨y, 0, none⟩) 0 1) (.slice b l.length c) h = some (v', h')) ∧ OS h' y l v' ∧ h.next ≤ h'.next ∧ ∀ z, z < h.next → h'.get z = h.get z := by
  have hx := RS.cells hs (g := h) fun _ _ => rfl
  by_cases h0 : l.length = 0
  · have e : l = [] := List.length_eq_zero_iff.1 h0
    subst e
    refine ⟨.slice (some ⟨y, 0, none⟩) 0 1, h, fun ats A' h1 h2 h3 => ?_, .emp rfl (Nat.le_refl _) hy hg, Nat.le_refl _, fun _ _ => rfl⟩
    exact ap_z h1 rfl (by rw [h2]; exact hx) (by have : (2 * (0 + 0) + 256) * A'.bytes ≤ 256 * 100 := Nat.mul_le_mul xA h3; omega)
  · refine ⟨.slice (some ⟨h.next, 0, none⟩) l.length 0, h.new (.cells (fl l) 4), fun ats A' h1 h2 h3 => ?_, .some (fun e => h0 (by rw [e]; rfl)) rfl xA xI (zQ), by simp, fun z hz => zN xA⟩
    rw [← h2]
    rw [← h2] at hx
    exact ap_k0 h1 rfl hx (by have : (2 * (0 + l.length) + 256) * A'.bytes ≤ 7000000 * 100 := Nat.mul_le_mul xA h3; omega) h0
theorem copied_c (h : AHeap) (p : Lf) (bv dv : Value) (hb : RS h p.base bv) (hd : RS h p.deltas dv) (hlb : p.base.length ≤ 1000000) (hld : p.deltas.length ≤ 1000000) :
    FWp Tryz.prog 8 [LV p bv dv] h fun u g => ∃ v1 v2, u = LV p v1 v2 ∧ OS g h.next p.base v1 ∧ OS g h.next p.deltas v2 ∧ h.next ≤ g.next ∧ ∀ z, z < h.next → g.get z = h.get z := by
  have tb8 := And.intro ty23 (And.intro ty25 (ty27))
  obtain ⟨b1, c1, rfl⟩ := hb.form
  obtain ⟨b2, c2, rfl⟩ := hd.form
  obtain ⟨H1, hH1⟩ : ∃ H1, H1 = ((h.new (LR p (.slice b1 p.base.length c1) (.slice b2 p.deltas.length c2))).new (.cells zlf 1)).new (.cells [] 4) := ⟨_, rfl⟩
  have n1 : H1.next = h.next + 3 := by rw [hH1]; rfl
  have q0 : H1.get h.next = some (LR p (.slice b1 p.base.length c1) (.slice b2 p.deltas.length c2)) := by rw [hH1]; simp (disch := first | omega | simp only [nx]; omega) only [hpl]
  have q1 : H1.get (h.next + 1) = some (.cells zlf 1) := by rw [hH1]; simp (disch := first | omega | simp only [nx]; omega) only [hpl]
  have q2 : H1.get (h.next + 2) = some (.cells [] 4) := by rw [hH1]; simp (disch := first | omega | simp only [nx]; omega) only [hpl]
  have k1 : ∀ z, z < h.next → H1.get z = h.get z := fun z hz => by rw [hH1]; simp (disch := first | omega | simp only [nx]; omega) only [hpl]
  obtain ⟨v1, G1, a1, o1, m1, g1⟩ := ap_e q2 xA (hb.mono xA k1) hlb
  obtain ⟨x1, y1, rfl⟩ := o1.form
  obtain ⟨H2, hH2⟩ : ∃ H2, H2 = (G1.set h.next (LR p (.slice x1 p.base.length y1) (.slice b2 p.deltas.length c2))).new (.cells [] 4) := ⟨_, rfl⟩
  have n2 : H2.next = G1.next + 1 := by rw [hH2]; rfl
  have u0 : G1.get h.next = some (LR p (.slice b1 p.base.length c1) (.slice b2 p.deltas.length c2)) := by rw [g1 _ xA]; exact q0
  have u1 : G1.get (h.next + 1) = some (.cells zlf 1) := by rw [g1 _ xA]; exact q1
  have r0 : H2.get h.next = some (LR p (.slice x1 p.base.length y1) (.slice b2 p.deltas.length c2)) := by rw [hH2]; simp (disch := first | omega | simp only [nx]; omega) only [hpl]
  have r2 : H2.get G1.next = some (.cells [] 4) := by rw [hH2]; exact zQ
  have k2 : ∀ z, z < G1.next → ¬ z = h.next → H2.get z = G1.get z := fun z hz h9 => by rw [hH2]; simp (disch := first | omega | simp only [nx]; omega) only [hpl]
  obtain ⟨v2, G2, a2, o2, m2, g2⟩ := ap_e r2 xA (hd.mono (h' := H2) xA (fun z hz => by rw [k2 z xA xA, g1 z xA]; exact k1 z hz)) hld
  obtain ⟨x2, y2, rfl⟩ := o2.form
  have s0 : G2.get h.next = some (LR p (.slice x1 p.base.length y1) (.slice b2 p.deltas.length c2)) := by rw [g2 _ xA]; exact r0
  have s1 : G2.get (h.next + 1) = some (.cells zlf 1) := by rw [g2 _ xA, k2 _ xA xA]; exact u1
  rw [hH1] at a1
  rw [hH2] at a2
  refine W.enter tyOK Tryz.func8 rfl rfl ?_
  simp only [entry]
  have jY := ty25
  refine Wr <| ja Zx <| ja Jo <| On ?_
  have jY := An @q0 <| An @q1 <| An @u0 <| An @u1 <| An @s0 <| An @s1 <| An @rcl <| An @sb <| An ty23 <| An ty27 <| An tb8 <| ty25
  refine Wr <| ja Jh <| ja J25f3 <| ja Jl <| ja (so_append xD (a1 _ _ xL rfl xK)) <| ja J25f3 <| jc Js <| On ?_
  refine Wr <| ja Jh <| ja J25f4 <| ja Jl <| ja (so_append xD (a2 _ _ xL rfl xK)) <| ja J25f4 <| jc Js <| On ?_
  refine Wr <| ja Jl <| jc Js <| On ?_
  refine CWp.ret <| Jr ?_
  have kF : ∀ (o o' : AObj) z, z < G2.next → ¬ z = h.next → ¬ z = h.next + 1 → ((G2.set h.next o).set (h.next + 1) o').get z = G2.get z := fun o o' z hz h1 h2 => by simp (disch := first | omega | simp only [nx]; omega) only [hpl]
  exact ⟨_, _, rfl, (o1.mono xF (fun z h1 h2 => by rw [kF _ _ z xA xA xA, g2 z xA, k2 z h2 xA])).low xA, (o2.mono xF (fun z h1 h2 => kF _ _ z xA xA xA)).low xA, by simp only [nx]; omega, fun z hz => by rw [kF _ _ z xA xA xA, g2 z xA, k2 z xA xA, g1 z xA]; exact k1 z hz⟩
end Go.Proofs.YtebheelmgcggmaaGreat
