/-
  The law DepsTake, walked.
-/
import Derived.Test.YtfbfihfmlenklaaDepsG
namespace Go.Proofs.Ytfbfihfmlenklaa
open Go.Ab
set_option linter.unusedSimpArgs false
set_option linter.unusedVariables false
set_option maxRecDepth 10000
set_option maxHeartbeats 4000000

/-- How many of a rising list lie below; and where one lies. -/
def below (t : Int) (G : List Int) : Nat := (G.filter fun y => decide (y < t)).length
theorem below_at : ∀ {G : List Int} {t : Int}, G.Pairwise (· < ·) → t ∈ G → G[below t G]? = some t ∧ below (t + 1) G = below t G + 1
  | x :: G, t, hs, ht => by
    have h' := List.pairwise_cons.1 hs
    unfold below
    cases ht with
    | head =>
      have e1 : (x :: G).filter (fun y => decide (y < x)) = [] := List.filter_eq_nil_iff.2 fun y hy => by
        cases hy with
        | head => simp
        | tail _ hy => have := h'.1 y hy; simp; omega
      have e2 : (x :: G).filter (fun y => decide (y < x + 1)) = [x] := by
        rw [List.filter_cons, if_pos (by simp; omega), List.filter_eq_nil_iff.2 fun y hy => by have := h'.1 y hy; simp; omega]
      rw [e1, e2]; exact ⟨rfl, rfl⟩
    | tail _ ht =>
      have hx := h'.1 t ht
      obtain ⟨a, b⟩ := below_at h'.2 ht
      unfold below at a b
      rw [List.filter_cons, if_pos (by simpa using hx), List.filter_cons, if_pos (by simp; omega)]
      exact ⟨by simpa using a, by simp [b]⟩
theorem below_not {G : List Int} {t : Int} (ht : t ∉ G) : below (t + 1) G = below t G := by
  unfold below
  congr 1
  refine List.filter_congr fun y hy => ?_
  have : y ≠ t := fun e => ht (e ▸ hy)
  rw [decide_eq_decide]; omega
theorem below_all {G : List Int} {t : Int} (h : ∀ y ∈ G, y < t) : below t G = G.length := by
  unfold below
  rw [List.filter_eq_self.2 fun y hy => by simpa using h y hy]
theorem below_zero {G : List Int} (h : ∀ y ∈ G, 0 ≤ y) : below 0 G = 0 := by
  unfold below
  rw [List.filter_eq_nil_iff.2 fun y hy => by have := h y hy; simp; omega]; rfl
theorem below_le (t : Int) (G : List Int) : below t G ≤ G.length := List.length_filter_le _ _

/-- What is taken, behind some rounds. -/
structure Tk (ps : List Pr) (K : Nat) (ρ : Nat) (tk : List Bool) : Prop where
  len : tk.length = 42
  sound : ∀ y : Nat, tk[y]? = some true → Reach ps K y
  comp : ∀ y : Nat, Reach ps K y → (y : Int) - K ≤ ρ → tk[y]? = some true
theorem Tk.set {ps : List Pr} {K ρ : Nat} {tk : List Bool} (t : Tk ps K ρ tk) {j : Nat} (hj : j < 42) (hr : Reach ps K j) : Tk ps K ρ (tk.set j true) := by
  refine ⟨by simp [t.len], fun y hy => ?_, fun y h1 h2 => ?_⟩
  · rw [List.getElem?_set] at hy
    split at hy
    · rename_i e; subst e; exact hr
    · exact t.sound y hy
  · rw [List.getElem?_set]
    split
    · rename_i e; subst e; rw [if_pos (by rw [t.len]; exact hj)]
    · exact t.comp y h1 h2
theorem Tk.next {l : List Lk} {ps : List Pr} {K ρ : Nat} {tk : List Bool} (t : Tk ps K ρ tk) (hP : LinkP l ps) (hl : ∀ x ∈ l, x.ok) (hd : ∀ x ∈ l, x.over = false → Reach ps K (lon x) → lon x - K ≤ ρ → tk[(lts x).toNat]? = some true) : Tk ps K (ρ + 1) tk := by
  refine ⟨t.len, t.sound, fun y h1 h2 => ?_⟩
  cases h : (y : Int) == (K : Int)
  · have hne : ¬ (y : Int) = K := by simpa using h
    generalize hy : (y : Int) = yy at h1
    cases h1 with
    | refl => exact (hne hy).elim
    | step hr hp hh ho =>
      rename_i y' p
      obtain ⟨x, hx, hk, hv⟩ := (hP.hang p hp).1 hh
      have hrg := lk_range (hl x hx)
      have e1 : lts x = p.key.1 := congrArg Prod.fst hk
      have e2 : lon x = p.key.2 := congrArg Prod.snd hk
      have := hd x hx hv (by rw [e2, ho]; exact hr) (by omega)
      rw [e1, ← hy] at this
      simpa using this
  · have e : (y : Int) = K := by simpa using h
    exact t.comp y h1 (by omega)
theorem reach_top {l : List Lk} {ps : List Pr} {K : Int} (hP : From 0 ps) (hK : 0 ≤ K ∧ K ≤ 40) {y : Int} (hr : Reach ps K y) : K ≤ y ∧ y ≤ 40 := by
  induction hr with
  | refl => omega
  | step _ hp _ ho ih => have := hP _ hp; omega

theorem takelaw_c (h0 : AHeap) (b : Option Addr) (l : List Lk) (hl : LinksAt h0 b l) (w : Int) (hw0 : 0 ≤ w) (hw1 : w < 256) :
    FWp Try.prog 5 [.slice b l.length 0, .int .u8 w] h0 fun u _ => u = .bool true := by
  have hml : maxLen = 9223372036854775807 := rfl
  have hlen := hl.len
  have hK0 : 0 ≤ w.tmod 41 ∧ w.tmod 41 < 41 := by rw [Int.tmod_eq_emod_of_nonneg hw0]; omega
  obtain ⟨K, hK⟩ : ∃ K : Nat, w.tmod 41 = K := ⟨(w.tmod 41).toNat, by omega⟩
  have hK40 : K ≤ 40 := by omega
  have wK : IntKind.u64.wrap (w.tmod 41) = K := by rw [hK]; exact wrap_u64 (by omega) (by omega)
  have hcK : (K : Int) < ((42 : Nat) : Int) := by omega
  obtain ⟨hb0, hs0⟩ := bools_set (bs := List.replicate 42 false) (j := K) (n := 42) true rfl (by omega)
  have hb0 : (K + [Value.bool true].length).ble [Value.bool false, Value.bool false, Value.bool false, Value.bool false, Value.bool false, Value.bool false, Value.bool false, Value.bool false, Value.bool false, Value.bool false, Value.bool false, Value.bool false, Value.bool false, Value.bool false, Value.bool false, Value.bool false, Value.bool false, Value.bool false, Value.bool false, Value.bool false, Value.bool false, Value.bool false, Value.bool false, Value.bool false, Value.bool false, Value.bool false, Value.bool false, Value.bool false, Value.bool false, Value.bool false, Value.bool false, Value.bool false, Value.bool false, Value.bool false, Value.bool false, Value.bool false, Value.bool false, Value.bool false, Value.bool false, Value.bool false, Value.bool false, Value.bool false].length = true := hb0
  have hs0 : splice [Value.bool false, Value.bool false, Value.bool false, Value.bool false, Value.bool false, Value.bool false, Value.bool false, Value.bool false, Value.bool false, Value.bool false, Value.bool false, Value.bool false, Value.bool false, Value.bool false, Value.bool false, Value.bool false, Value.bool false, Value.bool false, Value.bool false, Value.bool false, Value.bool false, Value.bool false, Value.bool false, Value.bool false, Value.bool false, Value.bool false, Value.bool false, Value.bool false, Value.bool false, Value.bool false, Value.bool false, Value.bool false, Value.bool false, Value.bool false, Value.bool false, Value.bool false, Value.bool false, Value.bool false, Value.bool false, Value.bool false, Value.bool false, Value.bool false] K [Value.bool true] = ((List.replicate 42 false).set K true).map Value.bool := hs0
  refine W.enter tyOK Try.func5 rfl rfl ?_
  simp only [entry]
  refine W.seq <| W.reg <| 
      OSuf.aopF tyOK rfl (so_assign (by simp only [lk] <;> rfl)) (fun _ => rfl) rfl <|
      OSuf.nil <| SQ.normal ?_
  refine W.seq <| W.seq <| W.reg <| 
      OSuf.callD rfl (by simp only [aopnds, lk] <;> rfl) en22 (works_c _) rfl <|
      OSuf.aopF tyOK rfl (so_not (by simp only [lk] <;> rfl)) (fun _ => rfl) rfl <|
      OSuf.nil <| SQ.normal ?_
  refine W.no (by simp only [lk] <;> rfl) <| CWp.skip <| SQ.normal ?_
  refine W.seq <| W.reg <| 
      OSuf.aop tyOK rfl (so_move (by simp only [lk] <;> rfl)) rfl <|
      OSuf.call rfl (by simp only [aopnds, lk] <;> rfl) en23 (linked_c _ b l hl) ?_
  rintro _ h1 ⟨rfl, S, hA, hm, hP, hnx, hold⟩
  refine ⟨_, rfl, ?_⟩
  refine 
      OSuf.aop tyOK rfl (so_assign (by simp only [lk] <;> rfl)) rfl <|
      OSuf.nil <| SQ.normal ?_
  refine W.seq <| W.reg <| 
      OSuf.aop tyOK rfl (so_move (by simp only [lk] <;> rfl)) rfl <|
      OSuf.aop tyOK rfl (so_bin (by simp only [lk] <;> rfl) (by simp only [lk] <;> rfl) (bi_w (bi_rem (by decide)) (by first | (simp only [wK] <;> rfl) | rfl))) rfl <|
      OSuf.aop tyOK rfl (so_conw (so_conv tyOK (by simp only [lk] <;> rfl) ty5 ⟨_, rfl⟩ ty29 rfl) (by first | (simp only [wK] <;> rfl) | rfl)) rfl <|
      OSuf.aop tyOK rfl (so_assign (by simp only [lk] <;> rfl)) rfl <|
      OSuf.nil <| SQ.normal ?_
  refine W.seq <| W.reg <| 
      OSuf.aop tyOK rfl (so_alloc (by simp only [aAlloc, ty46] <;> rfl)) rfl <|
      OSuf.nil <| SQ.normal ?_
  refine W.seq <| W.reg <| 
      OSuf.aop tyOK rfl (so_move (by simp only [lk] <;> rfl)) rfl <|
      OSuf.aop tyOK rfl (so_indexAddr (by simp only [lk] <;> rfl) (by simp only [lk] <;> rfl) (by simp (disch := first | assumption | omega | (simp only [nx] <;> omega) | fail) only [aIndexAddr, ty46, ty4, hpl, places, ty29, ty36, ty4, ty42, ty46, ty48, ty5, hcK, Int.toNat_natCast, Nat.mul_one, Nat.zero_add, hb0, hs0, Value.cells] <;> rfl)) rfl <|
      OSuf.aop tyOK rfl (so_store (by simp only [lk] <;> rfl) (by simp only [lk] <;> rfl) (by simp (disch := first | assumption | omega | (simp only [nx] <;> omega) | fail) only [aStore, ty4, writeRow, hpl, places, ty29, ty36, ty4, ty42, ty46, ty48, ty5, hcK, Int.toNat_natCast, Nat.mul_one, Nat.zero_add, hb0, hs0, Value.cells] <;> rfl)) rfl <|
      OSuf.nil <| SQ.normal ?_
  refine W.seq <| W.seq <| W.reg <| 
      OSuf.aop tyOK rfl (so_assign (by simp only [lk] <;> rfl)) rfl <|
      OSuf.nil <| SQ.normal ?_
  -- leaf: loop
  have hF := hP.from_ fun x hx => hl.ok x (List.mem_of_mem_take hx)
  have hSl : S.ps.length ≤ 100 := by have := hP.len; simp at this; omega
  have hok100 : ∀ x ∈ l.take 100, x.ok := fun x hx => hl.ok x (List.mem_of_mem_take hx)
  have t0 : Tk S.ps K 0 ((List.replicate 42 false).set K true) := by
    refine ⟨by simp, fun y hy => ?_, fun y h1 h2 => ?_⟩
    · rw [List.getElem?_set] at hy
      split at hy
      · rename_i e; subst e; exact .refl
      · rw [List.getElem?_replicate] at hy; split at hy <;> simp at hy
    · have := (reach_top (l := l) hF (by omega) h1).1
      have e : K = y := by omega
      subst e
      rw [List.getElem?_set, if_pos rfl, if_pos (by simp; omega)]
  have hlt := hA.lt
  have hmlt := hA.mlt
  have keepA : ∀ h', h'.next = h1.next + 1 → (∀ z, z < h1.next → h'.get z = h1.get z) → DA h' (h0.next + 1) S := fun h' a c => hA.mono (by omega) (c _ hlt) (c _ hmlt)
  refine W.cut (fun L h' => ∃ tk, Tk S.ps K 42 tk ∧ h'.next = h1.next + 1 ∧ h'.get h1.next = some (.cells (tk.map Value.bool) 1) ∧ (∀ z, z < h1.next → h'.get z = h1.get z) ∧ L = [(5, P0 (h0.next + 1)), (6, U64 K), (7, P0 h1.next)]) (W.block (W.loop (fun n L h' => ∃ (ρ : Nat) (tk : List Bool), n + ρ = 42 ∧ Tk S.ps K ρ tk ∧ h'.next = h1.next + 1 ∧ h'.get h1.next = some (.cells (tk.map Value.bool) 1) ∧ (∀ z, z < h1.next → h'.get z = h1.get z) ∧ L = [(0, .slice b l.length 0), (5, P0 (h0.next + 1)), (6, U64 K), (7, P0 h1.next), (8, I64 ρ)]) (n := 42)
    ⟨0, _, by omega, t0, by simp only [nx], by simp (disch := first | assumption | omega | (simp only [nx] <;> omega) | fail) only [hpl], fun z hz => by have : ¬ h1.next = z := (by omega); simp (disch := first | assumption | omega | (simp only [nx] <;> omega) | fail) only [hpl], rfl⟩ ?_ ?_)) ?_
  · simp [HasA, Tr.get_put, wK]
  · rintro n L h ⟨ρ, tk, hn, hT, hnx2, htk, hz2, rfl⟩
    simp only [mkA]
    have w2 : IntKind.i64.wrap ((ρ : Int) + 1) = ((ρ + 1 : Nat) : Int) := by rw [wrap_i64 (by omega) (by omega)]; omega
    by_cases hρ : (ρ : Int) < 42
    · refine W.seq <| W.seq <| W.reg <| 
          OSuf.aop tyOK rfl (so_move (by simp only [lk] <;> rfl)) rfl <|
          OSuf.aopT tyOK rfl (so_bin (by simp only [lk] <;> rfl) (by simp only [lk] <;> rfl) bi_lss) (fun _ => rfl) (by first | rfl | assumption | ((simp only [bl]) <;> first | done | assumption | omega) | (simp []; done) | (simp []; omega)) <|
          OSuf.nil <| SQ.normal ?_
      refine W.yes (by simp only [lk] <;> rfl) <| CWp.skip <| SQ.normal ?_
      refine W.seq <| W.block <| W.seq <| W.reg <| 
          OSuf.aop tyOK rfl (so_assign (by simp only [lk] <;> rfl)) rfl <|
          OSuf.nil <| SQ.normal ?_
      -- leaf: loop
      refine W.cut (fun L h' => ∃ tk, Tk S.ps K (ρ + 1) tk ∧ h'.next = h1.next + 1 ∧ h'.get h1.next = some (.cells (tk.map Value.bool) 1) ∧ (∀ z, z < h1.next → h'.get z = h1.get z) ∧ L = [(0, .slice b l.length 0), (5, P0 (h0.next + 1)), (6, U64 K), (7, P0 h1.next), (8, I64 ρ)]) (W.block (W.loop (fun n L h' => ∃ (i : Nat) (tk : List Bool), n + i = l.length ∧ i ≤ 100 ∧ Tk S.ps K ρ tk ∧ (∀ x ∈ l.take i, x.over = false → Reach S.ps K (lon x) → lon x - K ≤ ρ → tk[(lts x).toNat]? = some true) ∧ h'.next = h1.next + 1 ∧ h'.get h1.next = some (.cells (tk.map Value.bool) 1) ∧ (∀ z, z < h1.next → h'.get z = h1.get z) ∧
          L = [(0, .slice b l.length 0), (5, P0 (h0.next + 1)), (6, U64 K), (7, P0 h1.next), (8, I64 ρ), (9, I64 i)]) (n := l.length) ⟨0, tk, by omega, by omega, hT, by simp, hnx2, htk, hz2, rfl⟩ ?_ ?_)) ?_
      · simp [HasA, Tr.get_put]
      · clear hT htk hz2 hnx2
        rintro n L h ⟨i, tk, hn2, hi100, hT, hd, hnx2, htk, hz2, rfl⟩
        simp only [mkA]
        have v2 : IntKind.i64.wrap ((i : Int) + 1) = ((i + 1 : Nat) : Int) := by rw [wrap_i64 (by omega) (by omega)]; omega
        by_cases c1 : (i : Int) < (l.length : Int)
        · by_cases c2 : (i : Int) < 100
          · obtain ⟨x, hx⟩ : ∃ x, l[i]? = some x := ⟨l[i]'(by omega), by simp⟩
            have hxl : x ∈ l := List.mem_of_getElem? hx
            obtain ⟨r, rfl, hrn, hg⟩ := hl.at_ (fun e => by rw [e] at hx; simp at hx)
            have hg1 : h.get r = some (.ro (flatL l)) := by rw [hz2 r (by omega), hold r hrn]; exact hg
            have hokx := hl.ok x hxl
            have hrg := lk_range hokx
            obtain ⟨o1, o2, o3, o4⟩ := hokx
            have f0 : (flatL l)[i * 3]? = some (.int .u8 x.ts) := flatL_get (j := 0) hx (by omega)
            have f0' : (flatL l)[i * 3 + 0]? = some (.int .u8 x.ts) := flatL_get (j := 0) hx (by omega)
            have f1 : (flatL l)[i * 3 + 1]? = some (.int .u8 x.back) := flatL_get (j := 1) hx (by omega)
            have f2 : (flatL l)[i * 3 + 2]? = some (.bool x.over) := flatL_get (j := 2) hx (by omega)
            have hc : (0 ≤ (i : Int) ∧ (i : Int) < (l.length : Int)) := by omega
            obtain ⟨t, ht⟩ : ∃ t : Nat, lts x = t := ⟨(lts x).toNat, by omega⟩
            obtain ⟨o, ho⟩ : ∃ o : Nat, lon x = o := ⟨(lon x).toNat, by omega⟩
            have e1 : x.ts.tmod 40 = x.ts % 40 := Int.tmod_eq_emod_of_nonneg o1
            have e2 : x.back.tmod (t : Int) = o := by rw [← ht, ← ho]; exact Int.tmod_eq_emod_of_nonneg o3
            have w3 : IntKind.u64.wrap (x.ts % 40) = x.ts % 40 := wrap_u64 (by omega) (by omega)
            have w4 : IntKind.u64.wrap (x.ts % 40 + 1) = t := by rw [wrap_u64 (by omega) (by omega), ← ht]; rfl
            have w5 : IntKind.u64.wrap x.back = x.back := wrap_u64 (by omega) (by omega)
            have hnz : (t : Int) ≠ 0 := by omega
            have hco : (o : Int) < ((42 : Nat) : Int) := by omega
            have hct : (t : Int) < ((42 : Nat) : Int) := by omega
            have htk2 : l.take (i + 1) = l.take i ++ [x] := by rw [List.take_add_one, hx]; rfl
            have hx100 : x ∈ l.take 100 := List.mem_of_getElem? (i := i) (by rw [List.getElem?_take, if_pos (by omega)]; exact hx)
            have skip : ∀ tk' : List Bool, (∀ y, tk[y]? = some true → tk'[y]? = some true) → (x.over = false → Reach S.ps K (lon x) → lon x - K ≤ ρ → tk'[(lts x).toNat]? = some true) → ∀ y ∈ l.take (i + 1), y.over = false → Reach S.ps K (lon y) → lon y - K ≤ ρ → tk'[(lts y).toNat]? = some true := fun tk' m1 m2 y hy => by
              rw [htk2] at hy
              rcases List.mem_append.1 hy with h9 | h9
              · exact fun a c d => m1 _ (hd y h9 a c d)
              · simp at h9; subst h9; exact m2
            cases hov : x.over
            · by_cases hto : tk[o]? = some true
              · have hR : Reach S.ps K t := by
                  have h9 := hT.sound o hto
                  obtain ⟨p, hp, hk⟩ := (hP.mem (lkey x)).2 ⟨x, hx100, rfl⟩
                  have hh := (hP.hang p hp).2 ⟨x, hx100, hk.symm, hov⟩
                  have := h9.step hp hh (by rw [hk]; exact ho)
                  rw [hk] at this
                  rw [← ht]; exact this
                have hbo : (tk.map Value.bool)[o]? = some (.bool true) := by simp [hto]
                obtain ⟨hb1, hs1⟩ := bools_set (bs := tk) (j := t) true hT.len (by omega)
                refine W.seq <| W.seq <| W.reg <| 
                    OSuf.aop tyOK rfl (so_move (by simp only [lk] <;> rfl)) rfl <|
                    OSuf.aop tyOK rfl (so_move (by simp only [lk] <;> rfl)) rfl <|
                    OSuf.aop tyOK rfl (so_len (by simp only [aopnds, lk] <;> rfl) (by simp (disch := first | assumption | omega | (simp only [nx] <;> omega) | fail) only [aLenOf, ty42, hpl, hc, and_self, if_true, Int.toNat_natCast, hg1, Nat.mul_one, Nat.zero_add, Nat.add_zero, f0, f0', f1, f2, htk, hco, hct, hbo, hb1, hs1, Value.cells, places, ty29, ty36, ty4, ty42, ty46, ty48, ty5] <;> rfl)) rfl <|
                    OSuf.aopT tyOK rfl (so_bin (by simp only [lk] <;> rfl) (by simp only [lk] <;> rfl) bi_lss) (fun _ => rfl) (by first | rfl | assumption | ((simp only [bl, hc, and_self, if_true, Int.toNat_natCast, hg1, Nat.mul_one, Nat.zero_add, Nat.add_zero, f0, f0', f1, f2, htk, hco, hct, hbo, hb1, hs1, Value.cells, places, ty29, ty36, ty4, ty42, ty46, ty48, ty5]) <;> first | done | assumption | omega) | (simp [hc, and_self, if_true, Int.toNat_natCast, hg1, Nat.mul_one, Nat.zero_add, Nat.add_zero, f0, f0', f1, f2, htk, hco, hct, hbo, hb1, hs1, Value.cells, places, ty29, ty36, ty4, ty42, ty46, ty48, ty5]; done) | (simp [hc, and_self, if_true, Int.toNat_natCast, hg1, Nat.mul_one, Nat.zero_add, Nat.add_zero, f0, f0', f1, f2, htk, hco, hct, hbo, hb1, hs1, Value.cells, places, ty29, ty36, ty4, ty42, ty46, ty48, ty5]; omega)) <|
                    OSuf.aopT tyOK rfl (so_move (by simp only [lk] <;> rfl)) (fun _ => rfl) rfl <|
                    OSuf.aop tyOK (aguard_of rfl rfl (by simp only [lk] <;> rfl) rfl) (so_move (by simp only [lk] <;> rfl)) rfl <|
                    OSuf.aopT tyOK (aguard_of rfl rfl (by simp only [lk] <;> rfl) rfl) (so_bin (by simp only [lk] <;> rfl) (by simp only [lk] <;> rfl) bi_lss) (fun _ => rfl) (by first | rfl | assumption | ((simp only [bl, hc, and_self, if_true, Int.toNat_natCast, hg1, Nat.mul_one, Nat.zero_add, Nat.add_zero, f0, f0', f1, f2, htk, hco, hct, hbo, hb1, hs1, Value.cells, places, ty29, ty36, ty4, ty42, ty46, ty48, ty5]) <;> first | done | assumption | omega) | (simp [hc, and_self, if_true, Int.toNat_natCast, hg1, Nat.mul_one, Nat.zero_add, Nat.add_zero, f0, f0', f1, f2, htk, hco, hct, hbo, hb1, hs1, Value.cells, places, ty29, ty36, ty4, ty42, ty46, ty48, ty5]; done) | (simp [hc, and_self, if_true, Int.toNat_natCast, hg1, Nat.mul_one, Nat.zero_add, Nat.add_zero, f0, f0', f1, f2, htk, hco, hct, hbo, hb1, hs1, Value.cells, places, ty29, ty36, ty4, ty42, ty46, ty48, ty5]; omega)) <|
                    OSuf.aopT tyOK rfl (so_pick (by simp only [lk] <;> rfl) (by simp only [lk, cond_true, cond_false] <;> rfl)) (fun _ => rfl) rfl <|
                    OSuf.nil <| SQ.normal ?_
                refine W.yes (by simp only [lk] <;> rfl) <| CWp.skip <| SQ.normal ?_
                refine W.seq <| W.block <| W.seq <| W.reg <| 
                    OSuf.aop tyOK rfl (so_move (by simp only [lk] <;> rfl)) rfl <|
                    OSuf.aop tyOK rfl (so_move (by simp only [lk] <;> rfl)) rfl <|
                    OSuf.aop tyOK rfl (so_indexAddr (by simp only [lk] <;> rfl) (by simp only [lk] <;> rfl) (by simp (disch := first | assumption | omega | (simp only [nx] <;> omega) | fail) only [aIndexAddr, ty42, ty48, hpl, hc, and_self, if_true, Int.toNat_natCast, hg1, Nat.mul_one, Nat.zero_add, Nat.add_zero, f0, f0', f1, f2, htk, hco, hct, hbo, hb1, hs1, Value.cells, places, ty29, ty36, ty4, ty42, ty46, ty48, ty5] <;> rfl)) rfl <|
                    OSuf.aop tyOK rfl (so_fieldAddr (by simp only [lk] <;> rfl) (fa_ok (k := 0) ty48 rfl rfl ty5 rfl rfl)) rfl <|
                    OSuf.aop tyOK rfl (so_load (by simp only [lk] <;> rfl) (by simp (disch := first | assumption | omega | (simp only [nx] <;> omega) | fail) only [aLoad, ty5, rowOf, hpl, hc, and_self, if_true, Int.toNat_natCast, hg1, Nat.mul_one, Nat.zero_add, Nat.add_zero, f0, f0', f1, f2, htk, hco, hct, hbo, hb1, hs1, Value.cells, places, ty29, ty36, ty4, ty42, ty46, ty48, ty5] <;> rfl)) rfl <|
                    OSuf.aop tyOK rfl (so_bin (by simp only [lk] <;> rfl) (by simp only [lk] <;> rfl) (bi_w (bi_rem (by decide)) (by first | (simp only [e1, w3, w4, w5, e2, v2] <;> rfl) | rfl))) rfl <|
                    OSuf.aop tyOK rfl (so_conw (so_conv tyOK (by simp only [lk] <;> rfl) ty5 ⟨_, rfl⟩ ty29 rfl) (by first | (simp only [e1, w3, w4, w5, e2, v2] <;> rfl) | rfl)) rfl <|
                    OSuf.aop tyOK rfl (so_bin (by simp only [lk] <;> rfl) (by simp only [lk] <;> rfl) (bi_w bi_add (by first | (simp only [e1, w3, w4, w5, e2, v2] <;> rfl) | rfl))) rfl <|
                    OSuf.aop tyOK rfl (so_assign (by simp only [lk] <;> rfl)) rfl <|
                    OSuf.nil <| SQ.normal ?_
                refine W.seq <| W.reg <| 
                    OSuf.aop tyOK rfl (so_move (by simp only [lk] <;> rfl)) rfl <|
                    OSuf.aop tyOK rfl (so_move (by simp only [lk] <;> rfl)) rfl <|
                    OSuf.aop tyOK rfl (so_indexAddr (by simp only [lk] <;> rfl) (by simp only [lk] <;> rfl) (by simp (disch := first | assumption | omega | (simp only [nx] <;> omega) | fail) only [aIndexAddr, ty42, ty48, hpl, hc, and_self, if_true, Int.toNat_natCast, hg1, Nat.mul_one, Nat.zero_add, Nat.add_zero, f0, f0', f1, f2, htk, hco, hct, hbo, hb1, hs1, Value.cells, places, ty29, ty36, ty4, ty42, ty46, ty48, ty5] <;> rfl)) rfl <|
                    OSuf.aop tyOK rfl (so_fieldAddr (by simp only [lk] <;> rfl) (fa_ok (k := 2) ty48 rfl rfl ty4 rfl rfl)) rfl <|
                    OSuf.aopF tyOK rfl (so_load (by simp only [lk] <;> rfl) (by simp (disch := first | assumption | omega | (simp only [nx] <;> omega) | fail) only [aLoad, ty4, rowOf, hpl, hc, and_self, if_true, Int.toNat_natCast, hg1, Nat.mul_one, Nat.zero_add, Nat.add_zero, f0, f0', f1, f2, htk, hco, hct, hbo, hb1, hs1, Value.cells, places, ty29, ty36, ty4, ty42, ty46, ty48, ty5] <;> rfl)) (fun _ => rfl) (hov) <|
                    OSuf.aopT tyOK rfl (so_not (by simp only [lk] <;> rfl)) (fun _ => rfl) rfl <|
                    OSuf.aopT tyOK rfl (so_move (by simp only [lk] <;> rfl)) (fun _ => rfl) rfl <|
                    OSuf.aop tyOK (aguard_of rfl rfl (by simp only [lk] <;> rfl) rfl) (so_move (by simp only [lk] <;> rfl)) rfl <|
                    OSuf.aop tyOK (aguard_of rfl rfl (by simp only [lk] <;> rfl) rfl) (so_move (by simp only [lk] <;> rfl)) rfl <|
                    OSuf.aop tyOK (aguard_of rfl rfl (by simp only [lk] <;> rfl) rfl) (so_indexAddr (by simp only [lk] <;> rfl) (by simp only [lk] <;> rfl) (by simp (disch := first | assumption | omega | (simp only [nx] <;> omega) | fail) only [aIndexAddr, ty42, ty48, hpl, hc, and_self, if_true, Int.toNat_natCast, hg1, Nat.mul_one, Nat.zero_add, Nat.add_zero, f0, f0', f1, f2, htk, hco, hct, hbo, hb1, hs1, Value.cells, places, ty29, ty36, ty4, ty42, ty46, ty48, ty5] <;> rfl)) rfl <|
                    OSuf.aop tyOK (aguard_of rfl rfl (by simp only [lk] <;> rfl) rfl) (so_fieldAddr (by simp only [lk] <;> rfl) (fa_ok (k := 1) ty48 rfl rfl ty5 rfl rfl)) rfl <|
                    OSuf.aop tyOK (aguard_of rfl rfl (by simp only [lk] <;> rfl) rfl) (so_load (by simp only [lk] <;> rfl) (by simp (disch := first | assumption | omega | (simp only [nx] <;> omega) | fail) only [aLoad, ty5, rowOf, hpl, hc, and_self, if_true, Int.toNat_natCast, hg1, Nat.mul_one, Nat.zero_add, Nat.add_zero, f0, f0', f1, f2, htk, hco, hct, hbo, hb1, hs1, Value.cells, places, ty29, ty36, ty4, ty42, ty46, ty48, ty5] <;> rfl)) rfl <|
                    OSuf.aop tyOK (aguard_of rfl rfl (by simp only [lk] <;> rfl) rfl) (so_conw (so_conv tyOK (by simp only [lk] <;> rfl) ty5 ⟨_, rfl⟩ ty29 rfl) (by first | (simp only [e1, w3, w4, w5, e2, v2] <;> rfl) | rfl)) rfl <|
                    OSuf.aop tyOK (aguard_of rfl rfl (by simp only [lk] <;> rfl) rfl) (so_move (by simp only [lk] <;> rfl)) rfl <|
                    OSuf.aop tyOK (aguard_of rfl rfl (by simp only [lk] <;> rfl) rfl) (so_bin (by simp only [lk] <;> rfl) (by simp only [lk] <;> rfl) (bi_w (bi_rem hnz) (by first | (simp only [e1, w3, w4, w5, e2, v2] <;> rfl) | rfl))) rfl <|
                    OSuf.aop tyOK (aguard_of rfl rfl (by simp only [lk] <;> rfl) rfl) (so_indexAddr (by simp only [lk] <;> rfl) (by simp only [lk] <;> rfl) (by simp (disch := first | assumption | omega | (simp only [nx] <;> omega) | fail) only [aIndexAddr, ty46, ty4, hpl, hc, and_self, if_true, Int.toNat_natCast, hg1, Nat.mul_one, Nat.zero_add, Nat.add_zero, f0, f0', f1, f2, htk, hco, hct, hbo, hb1, hs1, Value.cells, places, ty29, ty36, ty4, ty42, ty46, ty48, ty5] <;> rfl)) rfl <|
                    OSuf.aopT tyOK (aguard_of rfl rfl (by simp only [lk] <;> rfl) rfl) (so_load (by simp only [lk] <;> rfl) (by simp (disch := first | assumption | omega | (simp only [nx] <;> omega) | fail) only [aLoad, ty4, rowOf, hpl, hc, and_self, if_true, Int.toNat_natCast, hg1, Nat.mul_one, Nat.zero_add, Nat.add_zero, f0, f0', f1, f2, htk, hco, hct, hbo, hb1, hs1, Value.cells, places, ty29, ty36, ty4, ty42, ty46, ty48, ty5] <;> rfl)) (fun _ => rfl) (by first | rfl | assumption | ((simp only [bl, hc, and_self, if_true, Int.toNat_natCast, hg1, Nat.mul_one, Nat.zero_add, Nat.add_zero, f0, f0', f1, f2, htk, hco, hct, hbo, hb1, hs1, Value.cells, places, ty29, ty36, ty4, ty42, ty46, ty48, ty5]) <;> first | done | assumption | omega) | (simp [hc, and_self, if_true, Int.toNat_natCast, hg1, Nat.mul_one, Nat.zero_add, Nat.add_zero, f0, f0', f1, f2, htk, hco, hct, hbo, hb1, hs1, Value.cells, places, ty29, ty36, ty4, ty42, ty46, ty48, ty5]; done) | (simp [hc, and_self, if_true, Int.toNat_natCast, hg1, Nat.mul_one, Nat.zero_add, Nat.add_zero, f0, f0', f1, f2, htk, hco, hct, hbo, hb1, hs1, Value.cells, places, ty29, ty36, ty4, ty42, ty46, ty48, ty5]; omega)) <|
                    OSuf.aopT tyOK rfl (so_pick (by simp only [lk] <;> rfl) (by simp only [lk, cond_true, cond_false] <;> rfl)) (fun _ => rfl) rfl <|
                    OSuf.nil <| SQ.normal ?_
                refine W.yes (by simp only [lk] <;> rfl) <| W.reg <| 
                    OSuf.aop tyOK rfl (so_move (by simp only [lk] <;> rfl)) rfl <|
                    OSuf.aop tyOK rfl (so_indexAddr (by simp only [lk] <;> rfl) (by simp only [lk] <;> rfl) (by simp (disch := first | assumption | omega | (simp only [nx] <;> omega) | fail) only [aIndexAddr, ty46, ty4, hpl, hc, and_self, if_true, Int.toNat_natCast, hg1, Nat.mul_one, Nat.zero_add, Nat.add_zero, f0, f0', f1, f2, htk, hco, hct, hbo, hb1, hs1, Value.cells, places, ty29, ty36, ty4, ty42, ty46, ty48, ty5] <;> rfl)) rfl <|
                    OSuf.aop tyOK rfl (so_store (by simp only [lk] <;> rfl) (by simp only [lk] <;> rfl) (by simp (disch := first | assumption | omega | (simp only [nx] <;> omega) | fail) only [aStore, ty4, writeRow, hpl, hc, and_self, if_true, Int.toNat_natCast, hg1, Nat.mul_one, Nat.zero_add, Nat.add_zero, f0, f0', f1, f2, htk, hco, hct, hbo, hb1, hs1, Value.cells, places, ty29, ty36, ty4, ty42, ty46, ty48, ty5] <;> rfl)) rfl <|
                    OSuf.nil <| BQ.normal <| SQ.normal ?_
                refine W.reg <| 
                    OSuf.aop tyOK rfl (so_move (by simp only [lk] <;> rfl)) rfl <|
                    OSuf.aop tyOK rfl (so_bin (by simp only [lk] <;> rfl) (by simp only [lk] <;> rfl) (bi_w bi_add (by first | (simp only [e1, w3, w4, w5, e2, v2] <;> rfl) | rfl))) rfl <|
                    OSuf.aop tyOK rfl (so_assign (by simp only [lk] <;> rfl)) rfl <|
                    OSuf.nil <| ?_
                -- leaf: round
                refine LQ.normal (m := n - 1) (L := [(0, .slice (some ⟨r, 0, none⟩) l.length 0), (5, P0 (h0.next + 1)), (6, U64 K), (7, P0 h1.next), (8, I64 ρ), (9, I64 (i + 1 : Nat))]) (by omega) ?_ ⟨i + 1, tk.set t true, by omega, by omega, hT.set (by omega) hR, skip _ (fun y hy => ?_) (fun _ _ _ => ?_), by simp only [nx]; exact hnx2, by simp (disch := first | assumption | omega | (simp only [nx] <;> omega) | fail) only [hpl], fun z hz => ?_, rfl⟩
                · simp only [HasA, Tr.get_put, Nat.reduceEqDiff, reduceIte, v2, and_self]
                · rw [List.getElem?_set]
                  split
                  · rw [if_pos (by rw [hT.len]; omega)]
                  · exact hy
                · rw [ht, Int.toNat_natCast, List.getElem?_set, if_pos rfl, if_pos (by rw [hT.len]; omega)]
                · have : ¬ h1.next = z := by omega
                  simp (disch := first | assumption | omega | (simp only [nx] <;> omega) | fail) only [hpl]; exact hz2 z hz
              · have hof : tk[o]? = some false := by
                  have : o < tk.length := by rw [hT.len]; omega
                  rw [List.getElem?_eq_getElem this] at hto ⊢
                  cases hq : tk[o] <;> simp_all
                have hbo : (tk.map Value.bool)[o]? = some (.bool false) := by simp [hof]
                refine W.seq <| W.seq <| W.reg <| 
                    OSuf.aop tyOK rfl (so_move (by simp only [lk] <;> rfl)) rfl <|
                    OSuf.aop tyOK rfl (so_move (by simp only [lk] <;> rfl)) rfl <|
                    OSuf.aop tyOK rfl (so_len (by simp only [aopnds, lk] <;> rfl) (by simp (disch := first | assumption | omega | (simp only [nx] <;> omega) | fail) only [aLenOf, ty42, hpl, hc, and_self, if_true, Int.toNat_natCast, hg1, Nat.mul_one, Nat.zero_add, Nat.add_zero, f0, f0', f1, f2, htk, hco, hct, hbo, Value.cells, places, ty29, ty36, ty4, ty42, ty46, ty48, ty5] <;> rfl)) rfl <|
                    OSuf.aopT tyOK rfl (so_bin (by simp only [lk] <;> rfl) (by simp only [lk] <;> rfl) bi_lss) (fun _ => rfl) (by first | rfl | assumption | ((simp only [bl, hc, and_self, if_true, Int.toNat_natCast, hg1, Nat.mul_one, Nat.zero_add, Nat.add_zero, f0, f0', f1, f2, htk, hco, hct, hbo, Value.cells, places, ty29, ty36, ty4, ty42, ty46, ty48, ty5]) <;> first | done | assumption | omega) | (simp [hc, and_self, if_true, Int.toNat_natCast, hg1, Nat.mul_one, Nat.zero_add, Nat.add_zero, f0, f0', f1, f2, htk, hco, hct, hbo, Value.cells, places, ty29, ty36, ty4, ty42, ty46, ty48, ty5]; done) | (simp [hc, and_self, if_true, Int.toNat_natCast, hg1, Nat.mul_one, Nat.zero_add, Nat.add_zero, f0, f0', f1, f2, htk, hco, hct, hbo, Value.cells, places, ty29, ty36, ty4, ty42, ty46, ty48, ty5]; omega)) <|
                    OSuf.aopT tyOK rfl (so_move (by simp only [lk] <;> rfl)) (fun _ => rfl) rfl <|
                    OSuf.aop tyOK (aguard_of rfl rfl (by simp only [lk] <;> rfl) rfl) (so_move (by simp only [lk] <;> rfl)) rfl <|
                    OSuf.aopT tyOK (aguard_of rfl rfl (by simp only [lk] <;> rfl) rfl) (so_bin (by simp only [lk] <;> rfl) (by simp only [lk] <;> rfl) bi_lss) (fun _ => rfl) (by first | rfl | assumption | ((simp only [bl, hc, and_self, if_true, Int.toNat_natCast, hg1, Nat.mul_one, Nat.zero_add, Nat.add_zero, f0, f0', f1, f2, htk, hco, hct, hbo, Value.cells, places, ty29, ty36, ty4, ty42, ty46, ty48, ty5]) <;> first | done | assumption | omega) | (simp [hc, and_self, if_true, Int.toNat_natCast, hg1, Nat.mul_one, Nat.zero_add, Nat.add_zero, f0, f0', f1, f2, htk, hco, hct, hbo, Value.cells, places, ty29, ty36, ty4, ty42, ty46, ty48, ty5]; done) | (simp [hc, and_self, if_true, Int.toNat_natCast, hg1, Nat.mul_one, Nat.zero_add, Nat.add_zero, f0, f0', f1, f2, htk, hco, hct, hbo, Value.cells, places, ty29, ty36, ty4, ty42, ty46, ty48, ty5]; omega)) <|
                    OSuf.aopT tyOK rfl (so_pick (by simp only [lk] <;> rfl) (by simp only [lk, cond_true, cond_false] <;> rfl)) (fun _ => rfl) rfl <|
                    OSuf.nil <| SQ.normal ?_
                refine W.yes (by simp only [lk] <;> rfl) <| CWp.skip <| SQ.normal ?_
                refine W.seq <| W.block <| W.seq <| W.reg <| 
                    OSuf.aop tyOK rfl (so_move (by simp only [lk] <;> rfl)) rfl <|
                    OSuf.aop tyOK rfl (so_move (by simp only [lk] <;> rfl)) rfl <|
                    OSuf.aop tyOK rfl (so_indexAddr (by simp only [lk] <;> rfl) (by simp only [lk] <;> rfl) (by simp (disch := first | assumption | omega | (simp only [nx] <;> omega) | fail) only [aIndexAddr, ty42, ty48, hpl, hc, and_self, if_true, Int.toNat_natCast, hg1, Nat.mul_one, Nat.zero_add, Nat.add_zero, f0, f0', f1, f2, htk, hco, hct, hbo, Value.cells, places, ty29, ty36, ty4, ty42, ty46, ty48, ty5] <;> rfl)) rfl <|
                    OSuf.aop tyOK rfl (so_fieldAddr (by simp only [lk] <;> rfl) (fa_ok (k := 0) ty48 rfl rfl ty5 rfl rfl)) rfl <|
                    OSuf.aop tyOK rfl (so_load (by simp only [lk] <;> rfl) (by simp (disch := first | assumption | omega | (simp only [nx] <;> omega) | fail) only [aLoad, ty5, rowOf, hpl, hc, and_self, if_true, Int.toNat_natCast, hg1, Nat.mul_one, Nat.zero_add, Nat.add_zero, f0, f0', f1, f2, htk, hco, hct, hbo, Value.cells, places, ty29, ty36, ty4, ty42, ty46, ty48, ty5] <;> rfl)) rfl <|
                    OSuf.aop tyOK rfl (so_bin (by simp only [lk] <;> rfl) (by simp only [lk] <;> rfl) (bi_w (bi_rem (by decide)) (by first | (simp only [e1, w3, w4, w5, e2, v2] <;> rfl) | rfl))) rfl <|
                    OSuf.aop tyOK rfl (so_conw (so_conv tyOK (by simp only [lk] <;> rfl) ty5 ⟨_, rfl⟩ ty29 rfl) (by first | (simp only [e1, w3, w4, w5, e2, v2] <;> rfl) | rfl)) rfl <|
                    OSuf.aop tyOK rfl (so_bin (by simp only [lk] <;> rfl) (by simp only [lk] <;> rfl) (bi_w bi_add (by first | (simp only [e1, w3, w4, w5, e2, v2] <;> rfl) | rfl))) rfl <|
                    OSuf.aop tyOK rfl (so_assign (by simp only [lk] <;> rfl)) rfl <|
                    OSuf.nil <| SQ.normal ?_
                refine W.seq <| W.reg <| 
                    OSuf.aop tyOK rfl (so_move (by simp only [lk] <;> rfl)) rfl <|
                    OSuf.aop tyOK rfl (so_move (by simp only [lk] <;> rfl)) rfl <|
                    OSuf.aop tyOK rfl (so_indexAddr (by simp only [lk] <;> rfl) (by simp only [lk] <;> rfl) (by simp (disch := first | assumption | omega | (simp only [nx] <;> omega) | fail) only [aIndexAddr, ty42, ty48, hpl, hc, and_self, if_true, Int.toNat_natCast, hg1, Nat.mul_one, Nat.zero_add, Nat.add_zero, f0, f0', f1, f2, htk, hco, hct, hbo, Value.cells, places, ty29, ty36, ty4, ty42, ty46, ty48, ty5] <;> rfl)) rfl <|
                    OSuf.aop tyOK rfl (so_fieldAddr (by simp only [lk] <;> rfl) (fa_ok (k := 2) ty48 rfl rfl ty4 rfl rfl)) rfl <|
                    OSuf.aopF tyOK rfl (so_load (by simp only [lk] <;> rfl) (by simp (disch := first | assumption | omega | (simp only [nx] <;> omega) | fail) only [aLoad, ty4, rowOf, hpl, hc, and_self, if_true, Int.toNat_natCast, hg1, Nat.mul_one, Nat.zero_add, Nat.add_zero, f0, f0', f1, f2, htk, hco, hct, hbo, Value.cells, places, ty29, ty36, ty4, ty42, ty46, ty48, ty5] <;> rfl)) (fun _ => rfl) (hov) <|
                    OSuf.aopT tyOK rfl (so_not (by simp only [lk] <;> rfl)) (fun _ => rfl) rfl <|
                    OSuf.aopT tyOK rfl (so_move (by simp only [lk] <;> rfl)) (fun _ => rfl) rfl <|
                    OSuf.aop tyOK (aguard_of rfl rfl (by simp only [lk] <;> rfl) rfl) (so_move (by simp only [lk] <;> rfl)) rfl <|
                    OSuf.aop tyOK (aguard_of rfl rfl (by simp only [lk] <;> rfl) rfl) (so_move (by simp only [lk] <;> rfl)) rfl <|
                    OSuf.aop tyOK (aguard_of rfl rfl (by simp only [lk] <;> rfl) rfl) (so_indexAddr (by simp only [lk] <;> rfl) (by simp only [lk] <;> rfl) (by simp (disch := first | assumption | omega | (simp only [nx] <;> omega) | fail) only [aIndexAddr, ty42, ty48, hpl, hc, and_self, if_true, Int.toNat_natCast, hg1, Nat.mul_one, Nat.zero_add, Nat.add_zero, f0, f0', f1, f2, htk, hco, hct, hbo, Value.cells, places, ty29, ty36, ty4, ty42, ty46, ty48, ty5] <;> rfl)) rfl <|
                    OSuf.aop tyOK (aguard_of rfl rfl (by simp only [lk] <;> rfl) rfl) (so_fieldAddr (by simp only [lk] <;> rfl) (fa_ok (k := 1) ty48 rfl rfl ty5 rfl rfl)) rfl <|
                    OSuf.aop tyOK (aguard_of rfl rfl (by simp only [lk] <;> rfl) rfl) (so_load (by simp only [lk] <;> rfl) (by simp (disch := first | assumption | omega | (simp only [nx] <;> omega) | fail) only [aLoad, ty5, rowOf, hpl, hc, and_self, if_true, Int.toNat_natCast, hg1, Nat.mul_one, Nat.zero_add, Nat.add_zero, f0, f0', f1, f2, htk, hco, hct, hbo, Value.cells, places, ty29, ty36, ty4, ty42, ty46, ty48, ty5] <;> rfl)) rfl <|
                    OSuf.aop tyOK (aguard_of rfl rfl (by simp only [lk] <;> rfl) rfl) (so_conw (so_conv tyOK (by simp only [lk] <;> rfl) ty5 ⟨_, rfl⟩ ty29 rfl) (by first | (simp only [e1, w3, w4, w5, e2, v2] <;> rfl) | rfl)) rfl <|
                    OSuf.aop tyOK (aguard_of rfl rfl (by simp only [lk] <;> rfl) rfl) (so_move (by simp only [lk] <;> rfl)) rfl <|
                    OSuf.aop tyOK (aguard_of rfl rfl (by simp only [lk] <;> rfl) rfl) (so_bin (by simp only [lk] <;> rfl) (by simp only [lk] <;> rfl) (bi_w (bi_rem hnz) (by first | (simp only [e1, w3, w4, w5, e2, v2] <;> rfl) | rfl))) rfl <|
                    OSuf.aop tyOK (aguard_of rfl rfl (by simp only [lk] <;> rfl) rfl) (so_indexAddr (by simp only [lk] <;> rfl) (by simp only [lk] <;> rfl) (by simp (disch := first | assumption | omega | (simp only [nx] <;> omega) | fail) only [aIndexAddr, ty46, ty4, hpl, hc, and_self, if_true, Int.toNat_natCast, hg1, Nat.mul_one, Nat.zero_add, Nat.add_zero, f0, f0', f1, f2, htk, hco, hct, hbo, Value.cells, places, ty29, ty36, ty4, ty42, ty46, ty48, ty5] <;> rfl)) rfl <|
                    OSuf.aopF tyOK (aguard_of rfl rfl (by simp only [lk] <;> rfl) rfl) (so_load (by simp only [lk] <;> rfl) (by simp (disch := first | assumption | omega | (simp only [nx] <;> omega) | fail) only [aLoad, ty4, rowOf, hpl, hc, and_self, if_true, Int.toNat_natCast, hg1, Nat.mul_one, Nat.zero_add, Nat.add_zero, f0, f0', f1, f2, htk, hco, hct, hbo, Value.cells, places, ty29, ty36, ty4, ty42, ty46, ty48, ty5] <;> rfl)) (fun _ => rfl) (by first | rfl | assumption | ((simp only [bl, hc, and_self, if_true, Int.toNat_natCast, hg1, Nat.mul_one, Nat.zero_add, Nat.add_zero, f0, f0', f1, f2, htk, hco, hct, hbo, Value.cells, places, ty29, ty36, ty4, ty42, ty46, ty48, ty5]) <;> first | done | assumption | omega) | (simp [hc, and_self, if_true, Int.toNat_natCast, hg1, Nat.mul_one, Nat.zero_add, Nat.add_zero, f0, f0', f1, f2, htk, hco, hct, hbo, Value.cells, places, ty29, ty36, ty4, ty42, ty46, ty48, ty5]; done) | (simp [hc, and_self, if_true, Int.toNat_natCast, hg1, Nat.mul_one, Nat.zero_add, Nat.add_zero, f0, f0', f1, f2, htk, hco, hct, hbo, Value.cells, places, ty29, ty36, ty4, ty42, ty46, ty48, ty5]; omega)) <|
                    OSuf.aopF tyOK rfl (so_pick (by simp only [lk] <;> rfl) (by simp only [lk, cond_true, cond_false] <;> rfl)) (fun _ => rfl) rfl <|
                    OSuf.nil <| SQ.normal ?_
                refine W.no (by simp only [lk] <;> rfl) <| CWp.skip <| BQ.normal <| SQ.normal ?_
                refine W.reg <| 
                    OSuf.aop tyOK rfl (so_move (by simp only [lk] <;> rfl)) rfl <|
                    OSuf.aop tyOK rfl (so_bin (by simp only [lk] <;> rfl) (by simp only [lk] <;> rfl) (bi_w bi_add (by first | (simp only [e1, w3, w4, w5, e2, v2] <;> rfl) | rfl))) rfl <|
                    OSuf.aop tyOK rfl (so_assign (by simp only [lk] <;> rfl)) rfl <|
                    OSuf.nil <| ?_
                -- leaf: round
                refine LQ.normal (m := n - 1) (L := [(0, .slice (some ⟨r, 0, none⟩) l.length 0), (5, P0 (h0.next + 1)), (6, U64 K), (7, P0 h1.next), (8, I64 ρ), (9, I64 (i + 1 : Nat))]) (by omega) ?_ ⟨i + 1, tk, by omega, by omega, hT, skip _ (fun y hy => hy) (fun _ h8 h9 => ?_), hnx2, htk, hz2, rfl⟩
                · simp only [HasA, Tr.get_put, Nat.reduceEqDiff, reduceIte, v2, and_self]
                · rw [ho] at h8 h9
                  exact (hto (hT.comp o h8 h9)).elim
            · refine W.seq <| W.seq <| W.reg <| 
                  OSuf.aop tyOK rfl (so_move (by simp only [lk] <;> rfl)) rfl <|
                  OSuf.aop tyOK rfl (so_move (by simp only [lk] <;> rfl)) rfl <|
                  OSuf.aop tyOK rfl (so_len (by simp only [aopnds, lk] <;> rfl) (by simp (disch := first | assumption | omega | (simp only [nx] <;> omega) | fail) only [aLenOf, ty42, hpl, hc, and_self, if_true, Int.toNat_natCast, hg1, Nat.mul_one, Nat.zero_add, Nat.add_zero, f0, f0', f1, f2] <;> rfl)) rfl <|
                  OSuf.aopT tyOK rfl (so_bin (by simp only [lk] <;> rfl) (by simp only [lk] <;> rfl) bi_lss) (fun _ => rfl) (by first | rfl | assumption | ((simp only [bl, hc, and_self, if_true, Int.toNat_natCast, hg1, Nat.mul_one, Nat.zero_add, Nat.add_zero, f0, f0', f1, f2]) <;> first | done | assumption | omega) | (simp [hc, and_self, if_true, Int.toNat_natCast, hg1, Nat.mul_one, Nat.zero_add, Nat.add_zero, f0, f0', f1, f2]; done) | (simp [hc, and_self, if_true, Int.toNat_natCast, hg1, Nat.mul_one, Nat.zero_add, Nat.add_zero, f0, f0', f1, f2]; omega)) <|
                  OSuf.aopT tyOK rfl (so_move (by simp only [lk] <;> rfl)) (fun _ => rfl) rfl <|
                  OSuf.aop tyOK (aguard_of rfl rfl (by simp only [lk] <;> rfl) rfl) (so_move (by simp only [lk] <;> rfl)) rfl <|
                  OSuf.aopT tyOK (aguard_of rfl rfl (by simp only [lk] <;> rfl) rfl) (so_bin (by simp only [lk] <;> rfl) (by simp only [lk] <;> rfl) bi_lss) (fun _ => rfl) (by first | rfl | assumption | ((simp only [bl, hc, and_self, if_true, Int.toNat_natCast, hg1, Nat.mul_one, Nat.zero_add, Nat.add_zero, f0, f0', f1, f2]) <;> first | done | assumption | omega) | (simp [hc, and_self, if_true, Int.toNat_natCast, hg1, Nat.mul_one, Nat.zero_add, Nat.add_zero, f0, f0', f1, f2]; done) | (simp [hc, and_self, if_true, Int.toNat_natCast, hg1, Nat.mul_one, Nat.zero_add, Nat.add_zero, f0, f0', f1, f2]; omega)) <|
                  OSuf.aopT tyOK rfl (so_pick (by simp only [lk] <;> rfl) (by simp only [lk, cond_true, cond_false] <;> rfl)) (fun _ => rfl) rfl <|
                  OSuf.nil <| SQ.normal ?_
              refine W.yes (by simp only [lk] <;> rfl) <| CWp.skip <| SQ.normal ?_
              refine W.seq <| W.block <| W.seq <| W.reg <| 
                  OSuf.aop tyOK rfl (so_move (by simp only [lk] <;> rfl)) rfl <|
                  OSuf.aop tyOK rfl (so_move (by simp only [lk] <;> rfl)) rfl <|
                  OSuf.aop tyOK rfl (so_indexAddr (by simp only [lk] <;> rfl) (by simp only [lk] <;> rfl) (by simp (disch := first | assumption | omega | (simp only [nx] <;> omega) | fail) only [aIndexAddr, ty42, ty48, hpl, hc, and_self, if_true, Int.toNat_natCast, hg1, Nat.mul_one, Nat.zero_add, Nat.add_zero, f0, f0', f1, f2] <;> rfl)) rfl <|
                  OSuf.aop tyOK rfl (so_fieldAddr (by simp only [lk] <;> rfl) (fa_ok (k := 0) ty48 rfl rfl ty5 rfl rfl)) rfl <|
                  OSuf.aop tyOK rfl (so_load (by simp only [lk] <;> rfl) (by simp (disch := first | assumption | omega | (simp only [nx] <;> omega) | fail) only [aLoad, ty5, rowOf, hpl, hc, and_self, if_true, Int.toNat_natCast, hg1, Nat.mul_one, Nat.zero_add, Nat.add_zero, f0, f0', f1, f2] <;> rfl)) rfl <|
                  OSuf.aop tyOK rfl (so_bin (by simp only [lk] <;> rfl) (by simp only [lk] <;> rfl) (bi_w (bi_rem (by decide)) (by first | (simp only [e1, w3, w4, w5, e2, v2] <;> rfl) | rfl))) rfl <|
                  OSuf.aop tyOK rfl (so_conw (so_conv tyOK (by simp only [lk] <;> rfl) ty5 ⟨_, rfl⟩ ty29 rfl) (by first | (simp only [e1, w3, w4, w5, e2, v2] <;> rfl) | rfl)) rfl <|
                  OSuf.aop tyOK rfl (so_bin (by simp only [lk] <;> rfl) (by simp only [lk] <;> rfl) (bi_w bi_add (by first | (simp only [e1, w3, w4, w5, e2, v2] <;> rfl) | rfl))) rfl <|
                  OSuf.aop tyOK rfl (so_assign (by simp only [lk] <;> rfl)) rfl <|
                  OSuf.nil <| SQ.normal ?_
              refine W.seq <| W.reg <| 
                  OSuf.aop tyOK rfl (so_move (by simp only [lk] <;> rfl)) rfl <|
                  OSuf.aop tyOK rfl (so_move (by simp only [lk] <;> rfl)) rfl <|
                  OSuf.aop tyOK rfl (so_indexAddr (by simp only [lk] <;> rfl) (by simp only [lk] <;> rfl) (by simp (disch := first | assumption | omega | (simp only [nx] <;> omega) | fail) only [aIndexAddr, ty42, ty48, hpl, hc, and_self, if_true, Int.toNat_natCast, hg1, Nat.mul_one, Nat.zero_add, Nat.add_zero, f0, f0', f1, f2] <;> rfl)) rfl <|
                  OSuf.aop tyOK rfl (so_fieldAddr (by simp only [lk] <;> rfl) (fa_ok (k := 2) ty48 rfl rfl ty4 rfl rfl)) rfl <|
                  OSuf.aopT tyOK rfl (so_load (by simp only [lk] <;> rfl) (by simp (disch := first | assumption | omega | (simp only [nx] <;> omega) | fail) only [aLoad, ty4, rowOf, hpl, hc, and_self, if_true, Int.toNat_natCast, hg1, Nat.mul_one, Nat.zero_add, Nat.add_zero, f0, f0', f1, f2] <;> rfl)) (fun _ => rfl) (hov) <|
                  OSuf.aopF tyOK rfl (so_not (by simp only [lk] <;> rfl)) (fun _ => rfl) rfl <|
                  OSuf.aopF tyOK rfl (so_move (by simp only [lk] <;> rfl)) (fun _ => rfl) rfl <|
                  OSuf.pass (aguard_of rfl rfl (by simp only [lk] <;> rfl) rfl) rfl <|
                  OSuf.pass (aguard_of rfl rfl (by simp only [lk] <;> rfl) rfl) rfl <|
                  OSuf.pass (aguard_of rfl rfl (by simp only [lk] <;> rfl) rfl) rfl <|
                  OSuf.pass (aguard_of rfl rfl (by simp only [lk] <;> rfl) rfl) rfl <|
                  OSuf.pass (aguard_of rfl rfl (by simp only [lk] <;> rfl) rfl) rfl <|
                  OSuf.pass (aguard_of rfl rfl (by simp only [lk] <;> rfl) rfl) rfl <|
                  OSuf.pass (aguard_of rfl rfl (by simp only [lk] <;> rfl) rfl) rfl <|
                  OSuf.pass (aguard_of rfl rfl (by simp only [lk] <;> rfl) rfl) rfl <|
                  OSuf.pass (aguard_of rfl rfl (by simp only [lk] <;> rfl) rfl) rfl <|
                  OSuf.pass (aguard_of rfl rfl (by simp only [lk] <;> rfl) rfl) rfl <|
                  OSuf.aopF tyOK rfl (so_pick (by simp only [lk] <;> rfl) (by simp only [lk, cond_true, cond_false] <;> rfl)) (fun _ => rfl) rfl <|
                  OSuf.nil <| SQ.normal ?_
              refine W.no (by simp only [lk] <;> rfl) <| CWp.skip <| BQ.normal <| SQ.normal ?_
              refine W.reg <| 
                  OSuf.aop tyOK rfl (so_move (by simp only [lk] <;> rfl)) rfl <|
                  OSuf.aop tyOK rfl (so_bin (by simp only [lk] <;> rfl) (by simp only [lk] <;> rfl) (bi_w bi_add (by first | (simp only [e1, w3, w4, w5, e2, v2] <;> rfl) | rfl))) rfl <|
                  OSuf.aop tyOK rfl (so_assign (by simp only [lk] <;> rfl)) rfl <|
                  OSuf.nil <| ?_
              -- leaf: round
              refine LQ.normal (m := n - 1) (L := [(0, .slice (some ⟨r, 0, none⟩) l.length 0), (5, P0 (h0.next + 1)), (6, U64 K), (7, P0 h1.next), (8, I64 ρ), (9, I64 (i + 1 : Nat))]) (by omega) ?_ ⟨i + 1, tk, by omega, by omega, hT, skip _ (fun y hy => hy) (fun h7 => by rw [hov] at h7; cases h7), hnx2, htk, hz2, rfl⟩
              simp only [HasA, Tr.get_put, Nat.reduceEqDiff, reduceIte, v2, and_self]
          · have : i = 100 := by omega
            subst this
            refine W.seq <| W.seq <| W.reg <| 
                OSuf.aop tyOK rfl (so_move (by simp only [lk] <;> rfl)) rfl <|
                OSuf.aop tyOK rfl (so_move (by simp only [lk] <;> rfl)) rfl <|
                OSuf.aop tyOK rfl (so_len (by simp only [aopnds, lk] <;> rfl) (by simp (disch := first | assumption | omega | (simp only [nx] <;> omega) | fail) only [aLenOf, ty42, hpl] <;> rfl)) rfl <|
                OSuf.aopT tyOK rfl (so_bin (by simp only [lk] <;> rfl) (by simp only [lk] <;> rfl) bi_lss) (fun _ => rfl) (by first | rfl | assumption | ((simp only [bl]) <;> first | done | assumption | omega) | (simp []; done) | (simp []; omega)) <|
                OSuf.aopT tyOK rfl (so_move (by simp only [lk] <;> rfl)) (fun _ => rfl) rfl <|
                OSuf.aop tyOK (aguard_of rfl rfl (by simp only [lk] <;> rfl) rfl) (so_move (by simp only [lk] <;> rfl)) rfl <|
                OSuf.aopF tyOK (aguard_of rfl rfl (by simp only [lk] <;> rfl) rfl) (so_bin (by simp only [lk] <;> rfl) (by simp only [lk] <;> rfl) bi_lss) (fun _ => rfl) (by first | rfl | assumption | ((simp only [bl]) <;> first | done | assumption | omega) | (simp []; done) | (simp []; omega)) <|
                OSuf.aopF tyOK rfl (so_pick (by simp only [lk] <;> rfl) (by simp only [lk, cond_true, cond_false] <;> rfl)) (fun _ => rfl) rfl <|
                OSuf.nil <| SQ.normal ?_
            refine W.no (by simp only [lk] <;> rfl) <| CWp.exit <| SQ.exit <| LQ.exit <| BQ.exit <| ?_
            -- leaf: cut
            refine NQ.normal (L := [(0, .slice b l.length 0), (5, P0 (h0.next + 1)), (6, U64 K), (7, P0 h1.next), (8, I64 ρ)]) ?_ ⟨tk, hT.next hP hok100 hd, hnx2, htk, hz2, rfl⟩
            simp only [HasA, Tr.get_put, Nat.reduceEqDiff, reduceIte, and_self]
        · refine W.seq <| W.seq <| W.reg <| 
              OSuf.aop tyOK rfl (so_move (by simp only [lk] <;> rfl)) rfl <|
              OSuf.aop tyOK rfl (so_move (by simp only [lk] <;> rfl)) rfl <|
              OSuf.aop tyOK rfl (so_len (by simp only [aopnds, lk] <;> rfl) (by simp (disch := first | assumption | omega | (simp only [nx] <;> omega) | fail) only [aLenOf, ty42, hpl] <;> rfl)) rfl <|
              OSuf.aopF tyOK rfl (so_bin (by simp only [lk] <;> rfl) (by simp only [lk] <;> rfl) bi_lss) (fun _ => rfl) (by first | rfl | assumption | ((simp only [bl]) <;> first | done | assumption | omega) | (simp []; done) | (simp []; omega)) <|
              OSuf.aopF tyOK rfl (so_move (by simp only [lk] <;> rfl)) (fun _ => rfl) rfl <|
              OSuf.pass (aguard_of rfl rfl (by simp only [lk] <;> rfl) rfl) rfl <|
              OSuf.pass (aguard_of rfl rfl (by simp only [lk] <;> rfl) rfl) rfl <|
              OSuf.aopF tyOK rfl (so_pick (by simp only [lk] <;> rfl) (by simp only [lk, cond_true, cond_false] <;> rfl)) (fun _ => rfl) rfl <|
              OSuf.nil <| SQ.normal ?_
          refine W.no (by simp only [lk] <;> rfl) <| CWp.exit <| SQ.exit <| LQ.exit <| BQ.exit <| ?_
          -- leaf: cut
          have e : l.take i = l.take 100 := by rw [List.take_of_length_le (by omega), List.take_of_length_le (by omega)]
          rw [e] at hd
          refine NQ.normal (L := [(0, .slice b l.length 0), (5, P0 (h0.next + 1)), (6, U64 K), (7, P0 h1.next), (8, I64 ρ)]) ?_ ⟨tk, hT.next hP hok100 hd, hnx2, htk, hz2, rfl⟩
          simp only [HasA, Tr.get_put, Nat.reduceEqDiff, reduceIte, and_self]
      clear hT htk hz2 hnx2
      rintro L a' h ha ⟨tk, hT, hnx2, htk, hz2, rfl⟩
      refine BQ.normal <| SQ.normal <| CWp.known ha ?_
      simp only [mkA]
      refine W.reg <| 
          OSuf.aop tyOK rfl (so_move (by simp only [lk] <;> rfl)) rfl <|
          OSuf.aop tyOK rfl (so_bin (by simp only [lk] <;> rfl) (by simp only [lk] <;> rfl) (bi_w bi_add (by first | (simp only [w2] <;> rfl) | rfl))) rfl <|
          OSuf.aop tyOK rfl (so_assign (by simp only [lk] <;> rfl)) rfl <|
          OSuf.nil <| ?_
      -- leaf: round
      refine LQ.normal (m := n - 1) (L := [(0, .slice b l.length 0), (5, P0 (h0.next + 1)), (6, U64 K), (7, P0 h1.next), (8, I64 (ρ + 1 : Nat))]) (by omega) ?_ ⟨ρ + 1, tk, by omega, hT, hnx2, htk, hz2, rfl⟩
      simp only [HasA, Tr.get_put, Nat.reduceEqDiff, reduceIte, w2, and_self]
    · refine W.seq <| W.seq <| W.reg <| 
          OSuf.aop tyOK rfl (so_move (by simp only [lk] <;> rfl)) rfl <|
          OSuf.aopF tyOK rfl (so_bin (by simp only [lk] <;> rfl) (by simp only [lk] <;> rfl) bi_lss) (fun _ => rfl) (by first | rfl | assumption | ((simp only [bl]) <;> first | done | assumption | omega) | (simp []; done) | (simp []; omega)) <|
          OSuf.nil <| SQ.normal ?_
      refine W.no (by simp only [lk] <;> rfl) <| CWp.exit <| SQ.exit <| LQ.exit <| BQ.exit <| ?_
      -- leaf: cut
      have : ρ = 42 := by omega
      subst this
      refine NQ.normal (L := [(5, P0 (h0.next + 1)), (6, U64 K), (7, P0 h1.next)]) ?_ ⟨tk, hT, hnx2, htk, hz2, rfl⟩
      simp only [HasA, Tr.get_put, Nat.reduceEqDiff, reduceIte, and_self]
  rintro L a' h ha ⟨tk, hT, hnx2, htk, hz2, rfl⟩
  obtain ⟨hb1, hs1⟩ := bools_set (bs := tk) (j := K) false hT.len (by omega)
  have hA2 : DA (h.set h1.next (.cells ((tk.set K false).map Value.bool) 1)) (h0.next + 1) S := keepA _ (by simp only [nx]; exact hnx2) (fun z hz => by have : ¬ h1.next = z := (by omega); simp (disch := first | assumption | omega | (simp only [nx] <;> omega) | fail) only [hpl]; exact hz2 z hz)
  refine SQ.normal <| CWp.known ha ?_
  simp only [mkA]
  refine W.seq <| W.reg <| 
      OSuf.aop tyOK rfl (so_move (by simp only [lk] <;> rfl)) rfl <|
      OSuf.aop tyOK rfl (so_indexAddr (by simp only [lk] <;> rfl) (by simp only [lk] <;> rfl) (by simp (disch := first | assumption | omega | (simp only [nx] <;> omega) | fail) only [aIndexAddr, ty46, ty4, hpl, htk, hcK, Int.toNat_natCast, Nat.mul_one, Nat.zero_add, hb1, hs1, Value.cells, places, ty29, ty36, ty4, ty42, ty46, ty48, ty5] <;> rfl)) rfl <|
      OSuf.aop tyOK rfl (so_store (by simp only [lk] <;> rfl) (by simp only [lk] <;> rfl) (by simp (disch := first | assumption | omega | (simp only [nx] <;> omega) | fail) only [aStore, ty4, writeRow, hpl, htk, hcK, Int.toNat_natCast, Nat.mul_one, Nat.zero_add, hb1, hs1, Value.cells, places, ty29, ty36, ty4, ty42, ty46, ty48, ty5] <;> rfl)) rfl <|
      OSuf.nil <| SQ.normal ?_
  refine W.seq <| W.reg <| 
      OSuf.aop tyOK rfl (so_move (by simp only [lk] <;> rfl)) rfl <|
      OSuf.aop tyOK rfl (so_move (by simp only [lk] <;> rfl)) rfl <|
      OSuf.call rfl (by simp only [aopnds, lk] <;> rfl) en16 (gone_c _ (h0.next + 1) S hA2 K (by omega)) ?_
  rintro u h2 ⟨G, hG⟩
  obtain ⟨bb, rfl, hat⟩ := out_slice hG.out
  refine ⟨_, rfl, ?_⟩
  refine 
      OSuf.aop tyOK rfl (so_assign (by simp only [lk] <;> rfl)) rfl <|
      OSuf.nil <| SQ.normal ?_
  refine W.seq <| W.reg <| 
      OSuf.aop tyOK rfl (so_assign (by simp only [lk] <;> rfl)) rfl <|
      OSuf.nil <| SQ.normal ?_
  refine W.seq <| W.seq <| W.reg <| 
      OSuf.aop tyOK rfl (so_assign (by simp only [lk] <;> rfl)) rfl <|
      OSuf.nil <| SQ.normal ?_
  -- leaf: loop
  have hF2 := hG.fr
  have hV : h2.get h1.next = some (.cells ((tk.set K false).map Value.bool) 1) := by rw [hF2.2 _ (by simp only [nx]; omega) (by omega)]; simp (disch := first | assumption | omega | (simp only [nx] <;> omega) | fail) only [hpl]
  have hGr : ∀ y ∈ G, (K : Int) ≤ y ∧ y ≤ 40 := fun y hy => reach_top (l := l) hF (by omega) ((hG.reach y).1 (List.mem_cons_of_mem _ hy))
  have hmem : ∀ y : Nat, y < 42 → ((tk.set K false)[y]? = some true ↔ (y : Int) ∈ G) := fun y hy => by
    rw [List.getElem?_set]
    split
    · rename_i e; subst e
      rw [if_pos (by rw [hT.len]; omega)]
      exact ⟨fun h => (by cases h), fun h => (hG.nts h).elim⟩
    · rename_i e
      constructor
      · intro h9
        have := (hG.reach y).2 (hT.sound y h9)
        cases this with
        | head => exact (e rfl).elim
        | tail _ h8 => exact h8
      · intro h9
        have := hGr y h9
        exact hT.comp y ((hG.reach y).1 (List.mem_cons_of_mem _ h9)) (by omega)
  have hGl : G.length ≤ 100 := by
    have := nodup_lenI (a := G) (b := S.ps.map fun p => p.key.1) (hG.sorted.imp fun h => by omega) fun y hy => by obtain ⟨p, hp, e⟩ := hG.sub y hy; exact List.mem_map.2 ⟨p, hp, e⟩
    simp at this; omega
  have hlen2 : (tk.set K false).length = 42 := by simp [hT.len]
  generalize tk.set K false = tk2 at hV hmem hlen2
  refine W.cut (fun L h' => h' = h2 ∧ L = [(11, .slice bb G.length 0), (12, I64 G.length)]) (W.block (W.loop (fun n L h' => ∃ t : Nat, n + t = 42 ∧ h' = h2 ∧ L = [(7, P0 h1.next), (11, .slice bb G.length 0), (12, I64 (below t G)), (13, U64 t)]) (n := 42) ⟨0, by omega, rfl, rfl⟩ ?_ ?_)) ?_
  · have := below_zero (G := G) fun y hy => by have := hGr y hy; omega
    simp [HasA, Tr.get_put, this]
  · rintro n L h3 ⟨t, hn, rfl, rfl⟩
    simp only [mkA]
    have w2 : IntKind.u64.wrap ((t : Int) + 1) = ((t + 1 : Nat) : Int) := by rw [wrap_u64 (by omega) (by omega)]; omega
    by_cases h42 : (t : Int) < 42
    · have hct : (t : Int) < ((42 : Nat) : Int) := by omega
      have hbl := below_le t G
      by_cases htG : (t : Int) ∈ G
      · have hb := (hmem t (by omega)).2 htG
        have hbt : (tk2.map Value.bool)[t]? = some (.bool true) := by simp [hb]
        obtain ⟨g1, g2⟩ := below_at hG.sorted htG
        obtain ⟨c, hc⟩ : ∃ c, below t G = c := ⟨_, rfl⟩
        rw [hc] at g1 g2 ⊢
        have hcl : c < G.length := (List.getElem?_eq_some_iff.1 g1).1
        obtain ⟨q, rfl, hq1, hq2, hq3⟩ := hat c hcl
        have hcc : (0 ≤ (c : Int) ∧ (c : Int) < (G.length : Int)) := by omega
        have hge : ¬ (G.length : Int) ≤ (c : Int) := by omega
        have hgv : (G.map (Value.int .u64))[c]? = some (.int .u64 t) := by simp [g1]
        have v3 : IntKind.i64.wrap ((c : Int) + 1) = ((c + 1 : Nat) : Int) := by rw [wrap_i64 (by omega) (by omega)]; omega
        refine W.seq <| W.seq <| W.reg <| 
            OSuf.aop tyOK rfl (so_move (by simp only [lk] <;> rfl)) rfl <|
            OSuf.aopT tyOK rfl (so_bin (by simp only [lk] <;> rfl) (by simp only [lk] <;> rfl) bi_lss) (fun _ => rfl) (by first | rfl | assumption | ((simp only [bl, hV, hct, hbt, hcc, hq3, hgv, and_self, if_true, Int.toNat_natCast, Nat.mul_one, Nat.zero_add, Value.cells, places, ty29, ty36, ty4, ty42, ty46, ty48, ty5]) <;> first | done | assumption | omega) | (simp [hV, hct, hbt, hcc, hq3, hgv, and_self, if_true, Int.toNat_natCast, Nat.mul_one, Nat.zero_add, Value.cells, places, ty29, ty36, ty4, ty42, ty46, ty48, ty5]; done) | (simp [hV, hct, hbt, hcc, hq3, hgv, and_self, if_true, Int.toNat_natCast, Nat.mul_one, Nat.zero_add, Value.cells, places, ty29, ty36, ty4, ty42, ty46, ty48, ty5]; omega)) <|
            OSuf.nil <| SQ.normal ?_
        refine W.yes (by simp only [lk] <;> rfl) <| CWp.skip <| SQ.normal ?_
        refine W.seq <| W.block <| W.seq <| W.reg <| 
            OSuf.aop tyOK rfl (so_move (by simp only [lk] <;> rfl)) rfl <|
            OSuf.aop tyOK rfl (so_indexAddr (by simp only [lk] <;> rfl) (by simp only [lk] <;> rfl) (by simp (disch := first | assumption | omega | (simp only [nx] <;> omega) | fail) only [aIndexAddr, ty46, ty4, hpl, hV, hct, hbt, hcc, hq3, hgv, and_self, if_true, Int.toNat_natCast, Nat.mul_one, Nat.zero_add, Value.cells, places, ty29, ty36, ty4, ty42, ty46, ty48, ty5] <;> rfl)) rfl <|
            OSuf.aopT tyOK rfl (so_load (by simp only [lk] <;> rfl) (by simp (disch := first | assumption | omega | (simp only [nx] <;> omega) | fail) only [aLoad, ty4, rowOf, hpl, hV, hct, hbt, hcc, hq3, hgv, and_self, if_true, Int.toNat_natCast, Nat.mul_one, Nat.zero_add, Value.cells, places, ty29, ty36, ty4, ty42, ty46, ty48, ty5] <;> rfl)) (fun _ => rfl) (by first | rfl | assumption | ((simp only [bl, hV, hct, hbt, hcc, hq3, hgv, and_self, if_true, Int.toNat_natCast, Nat.mul_one, Nat.zero_add, Value.cells, places, ty29, ty36, ty4, ty42, ty46, ty48, ty5]) <;> first | done | assumption | omega) | (simp [hV, hct, hbt, hcc, hq3, hgv, and_self, if_true, Int.toNat_natCast, Nat.mul_one, Nat.zero_add, Value.cells, places, ty29, ty36, ty4, ty42, ty46, ty48, ty5]; done) | (simp [hV, hct, hbt, hcc, hq3, hgv, and_self, if_true, Int.toNat_natCast, Nat.mul_one, Nat.zero_add, Value.cells, places, ty29, ty36, ty4, ty42, ty46, ty48, ty5]; omega)) <|
            OSuf.nil <| SQ.normal ?_
        refine W.yes (by simp only [lk] <;> rfl) <| W.seq <| W.seq <| W.reg <| 
            OSuf.aop tyOK rfl (so_move (by simp only [lk] <;> rfl)) rfl <|
            OSuf.aop tyOK rfl (so_move (by simp only [lk] <;> rfl)) rfl <|
            OSuf.aop tyOK rfl (so_len (by simp only [aopnds, lk] <;> rfl) (by simp (disch := first | assumption | omega | (simp only [nx] <;> omega) | fail) only [aLenOf, ty36, hpl, hV, hct, hbt, hcc, hq3, hgv, and_self, if_true, Int.toNat_natCast, Nat.mul_one, Nat.zero_add, Value.cells, places, ty29, ty36, ty4, ty42, ty46, ty48, ty5] <;> rfl)) rfl <|
            OSuf.aopF tyOK rfl (so_bin (by simp only [lk] <;> rfl) (by simp only [lk] <;> rfl) bi_geq) (fun _ => rfl) (by first | rfl | assumption | ((simp only [bl, hV, hct, hbt, hcc, hq3, hgv, and_self, if_true, Int.toNat_natCast, Nat.mul_one, Nat.zero_add, Value.cells, places, ty29, ty36, ty4, ty42, ty46, ty48, ty5]) <;> first | done | assumption | omega) | (simp [hV, hct, hbt, hcc, hq3, hgv, and_self, if_true, Int.toNat_natCast, Nat.mul_one, Nat.zero_add, Value.cells, places, ty29, ty36, ty4, ty42, ty46, ty48, ty5]; done) | (simp [hV, hct, hbt, hcc, hq3, hgv, and_self, if_true, Int.toNat_natCast, Nat.mul_one, Nat.zero_add, Value.cells, places, ty29, ty36, ty4, ty42, ty46, ty48, ty5]; omega)) <|
            OSuf.aopF tyOK rfl (so_move (by simp only [lk] <;> rfl)) (fun _ => rfl) rfl <|
            OSuf.aop tyOK (aguard_of rfl rfl (by simp only [lk] <;> rfl) rfl) (so_move (by simp only [lk] <;> rfl)) rfl <|
            OSuf.aop tyOK (aguard_of rfl rfl (by simp only [lk] <;> rfl) rfl) (so_move (by simp only [lk] <;> rfl)) rfl <|
            OSuf.aop tyOK (aguard_of rfl rfl (by simp only [lk] <;> rfl) rfl) (so_indexAddr (by simp only [lk] <;> rfl) (by simp only [lk] <;> rfl) (by simp (disch := first | assumption | omega | (simp only [nx] <;> omega) | fail) only [aIndexAddr, ty36, ty29, hpl, hV, hct, hbt, hcc, hq3, hgv, and_self, if_true, Int.toNat_natCast, Nat.mul_one, Nat.zero_add, Value.cells, places, ty29, ty36, ty4, ty42, ty46, ty48, ty5] <;> rfl)) rfl <|
            OSuf.aop tyOK (aguard_of rfl rfl (by simp only [lk] <;> rfl) rfl) (so_load (by simp only [lk] <;> rfl) (by simp (disch := first | assumption | omega | (simp only [nx] <;> omega) | fail) only [aLoad, ty29, rowOf, hpl, hV, hct, hbt, hcc, hq3, hgv, and_self, if_true, Int.toNat_natCast, Nat.mul_one, Nat.zero_add, Value.cells, places, ty29, ty36, ty4, ty42, ty46, ty48, ty5] <;> rfl)) rfl <|
            OSuf.aop tyOK (aguard_of rfl rfl (by simp only [lk] <;> rfl) rfl) (so_move (by simp only [lk] <;> rfl)) rfl <|
            OSuf.aopF tyOK (aguard_of rfl rfl (by simp only [lk] <;> rfl) rfl) (so_bin (by simp only [lk] <;> rfl) (by simp only [lk] <;> rfl) bi_neq) (fun _ => rfl) (by simp) <|
            OSuf.aopF tyOK rfl (so_pick (by simp only [lk] <;> rfl) (by simp only [lk, cond_true, cond_false] <;> rfl)) (fun _ => rfl) rfl <|
            OSuf.nil <| SQ.normal ?_
        refine W.no (by simp only [lk] <;> rfl) <| CWp.skip <| SQ.normal ?_
        refine W.reg <| 
            OSuf.aop tyOK rfl (so_move (by simp only [lk] <;> rfl)) rfl <|
            OSuf.aop tyOK rfl (so_bin (by simp only [lk] <;> rfl) (by simp only [lk] <;> rfl) (bi_w bi_add (by first | (simp only [w2, v3] <;> rfl) | rfl))) rfl <|
            OSuf.aop tyOK rfl (so_assign (by simp only [lk] <;> rfl)) rfl <|
            OSuf.nil <| BQ.normal <| SQ.normal ?_
        refine W.reg <| 
            OSuf.aop tyOK rfl (so_move (by simp only [lk] <;> rfl)) rfl <|
            OSuf.aop tyOK rfl (so_bin (by simp only [lk] <;> rfl) (by simp only [lk] <;> rfl) (bi_w bi_add (by first | (simp only [w2, v3] <;> rfl) | rfl))) rfl <|
            OSuf.aop tyOK rfl (so_assign (by simp only [lk] <;> rfl)) rfl <|
            OSuf.nil <| ?_
        -- leaf: round
        refine LQ.normal (m := n - 1) (L := [(7, P0 h1.next), (11, .slice (some ⟨q, 0, none⟩) G.length 0), (12, I64 (c + 1 : Nat)), (13, U64 (t + 1 : Nat))]) (by omega) ?_ ⟨t + 1, by omega, rfl, by rw [show (((t + 1 : Nat) : Int)) = (t : Int) + 1 by omega, g2]⟩
        simp only [HasA, Tr.get_put, Nat.reduceEqDiff, reduceIte, w2, v3, and_self]
      · have hb : tk2[t]? = some false := by
          have h9 : ¬ tk2[t]? = some true := fun h => htG ((hmem t (by omega)).1 h)
          have : t < tk2.length := by omega
          rw [List.getElem?_eq_getElem this] at h9 ⊢
          cases hq : tk2[t] <;> simp_all
        have hbt : (tk2.map Value.bool)[t]? = some (.bool false) := by simp [hb]
        have g2 := below_not htG
        refine W.seq <| W.seq <| W.reg <| 
            OSuf.aop tyOK rfl (so_move (by simp only [lk] <;> rfl)) rfl <|
            OSuf.aopT tyOK rfl (so_bin (by simp only [lk] <;> rfl) (by simp only [lk] <;> rfl) bi_lss) (fun _ => rfl) (by first | rfl | assumption | ((simp only [bl, hV, hct, hbt, and_self, if_true, Int.toNat_natCast, Nat.mul_one, Nat.zero_add, Value.cells, places, ty29, ty36, ty4, ty42, ty46, ty48, ty5]) <;> first | done | assumption | omega) | (simp [hV, hct, hbt, and_self, if_true, Int.toNat_natCast, Nat.mul_one, Nat.zero_add, Value.cells, places, ty29, ty36, ty4, ty42, ty46, ty48, ty5]; done) | (simp [hV, hct, hbt, and_self, if_true, Int.toNat_natCast, Nat.mul_one, Nat.zero_add, Value.cells, places, ty29, ty36, ty4, ty42, ty46, ty48, ty5]; omega)) <|
            OSuf.nil <| SQ.normal ?_
        refine W.yes (by simp only [lk] <;> rfl) <| CWp.skip <| SQ.normal ?_
        refine W.seq <| W.block <| W.seq <| W.reg <| 
            OSuf.aop tyOK rfl (so_move (by simp only [lk] <;> rfl)) rfl <|
            OSuf.aop tyOK rfl (so_indexAddr (by simp only [lk] <;> rfl) (by simp only [lk] <;> rfl) (by simp (disch := first | assumption | omega | (simp only [nx] <;> omega) | fail) only [aIndexAddr, ty46, ty4, hpl, hV, hct, hbt, and_self, if_true, Int.toNat_natCast, Nat.mul_one, Nat.zero_add, Value.cells, places, ty29, ty36, ty4, ty42, ty46, ty48, ty5] <;> rfl)) rfl <|
            OSuf.aopF tyOK rfl (so_load (by simp only [lk] <;> rfl) (by simp (disch := first | assumption | omega | (simp only [nx] <;> omega) | fail) only [aLoad, ty4, rowOf, hpl, hV, hct, hbt, and_self, if_true, Int.toNat_natCast, Nat.mul_one, Nat.zero_add, Value.cells, places, ty29, ty36, ty4, ty42, ty46, ty48, ty5] <;> rfl)) (fun _ => rfl) (by first | rfl | assumption | ((simp only [bl, hV, hct, hbt, and_self, if_true, Int.toNat_natCast, Nat.mul_one, Nat.zero_add, Value.cells, places, ty29, ty36, ty4, ty42, ty46, ty48, ty5]) <;> first | done | assumption | omega) | (simp [hV, hct, hbt, and_self, if_true, Int.toNat_natCast, Nat.mul_one, Nat.zero_add, Value.cells, places, ty29, ty36, ty4, ty42, ty46, ty48, ty5]; done) | (simp [hV, hct, hbt, and_self, if_true, Int.toNat_natCast, Nat.mul_one, Nat.zero_add, Value.cells, places, ty29, ty36, ty4, ty42, ty46, ty48, ty5]; omega)) <|
            OSuf.nil <| SQ.normal ?_
        refine W.no (by simp only [lk] <;> rfl) <| CWp.skip <| BQ.normal <| SQ.normal ?_
        refine W.reg <| 
            OSuf.aop tyOK rfl (so_move (by simp only [lk] <;> rfl)) rfl <|
            OSuf.aop tyOK rfl (so_bin (by simp only [lk] <;> rfl) (by simp only [lk] <;> rfl) (bi_w bi_add (by first | (simp only [w2] <;> rfl) | rfl))) rfl <|
            OSuf.aop tyOK rfl (so_assign (by simp only [lk] <;> rfl)) rfl <|
            OSuf.nil <| ?_
        -- leaf: round
        refine LQ.normal (m := n - 1) (L := [(7, P0 h1.next), (11, .slice bb G.length 0), (12, I64 (below t G)), (13, U64 (t + 1 : Nat))]) (by omega) ?_ ⟨t + 1, by omega, rfl, by rw [show (((t + 1 : Nat) : Int)) = (t : Int) + 1 by omega, g2]⟩
        simp only [HasA, Tr.get_put, Nat.reduceEqDiff, reduceIte, w2, and_self]
    · refine W.seq <| W.seq <| W.reg <| 
          OSuf.aop tyOK rfl (so_move (by simp only [lk] <;> rfl)) rfl <|
          OSuf.aopF tyOK rfl (so_bin (by simp only [lk] <;> rfl) (by simp only [lk] <;> rfl) bi_lss) (fun _ => rfl) (by first | rfl | assumption | ((simp only [bl]) <;> first | done | assumption | omega) | (simp []; done) | (simp []; omega)) <|
          OSuf.nil <| SQ.normal ?_
      refine W.no (by simp only [lk] <;> rfl) <| CWp.exit <| SQ.exit <| LQ.exit <| BQ.exit <| ?_
      -- leaf: cut
      have e := below_all (G := G) (t := (t : Int)) fun y hy => by have := hGr y hy; omega
      refine NQ.normal (L := [(11, .slice bb G.length 0), (12, I64 G.length)]) ?_ ⟨rfl, rfl⟩
      simp only [HasA, Tr.get_put, Nat.reduceEqDiff, reduceIte, and_self, e]
  rintro L a' h3 ha ⟨rfl, rfl⟩
  refine SQ.normal <| CWp.known ha ?_
  simp only [mkA]
  refine W.seq <| W.reg <| 
      OSuf.aop tyOK rfl (so_move (by simp only [lk] <;> rfl)) rfl <|
      OSuf.aop tyOK rfl (so_move (by simp only [lk] <;> rfl)) rfl <|
      OSuf.aop tyOK rfl (so_len (by simp only [aopnds, lk] <;> rfl) (by simp (disch := first | assumption | omega | (simp only [nx] <;> omega) | fail) only [aLenOf, ty36, hpl] <;> rfl)) rfl <|
      OSuf.aop tyOK rfl (so_bin (by simp only [lk] <;> rfl) (by simp only [lk] <;> rfl) bi_eql) rfl <|
      OSuf.aop tyOK rfl (so_assign (by simp only [lk] <;> rfl)) rfl <|
      OSuf.nil <| SQ.normal ?_
  refine CWp.ret <| FQ.ret (by simp only [aRet, Try.f5, aResults, aResult, lk, Nat.reduceEqDiff, reduceIte] <;> rfl) ?_
  -- leaf: end
  simp
end Go.Proofs.Ytfbfihfmlenklaa
