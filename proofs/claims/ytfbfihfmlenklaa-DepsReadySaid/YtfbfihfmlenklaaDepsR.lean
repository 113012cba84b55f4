/-
  The law DepsReady, walked.
-/
import Derived.Test.YtfbfihfmlenklaaDepsG
namespace Go.Proofs.Ytfbfihfmlenklaa
open Go.Ab
set_option linter.unusedSimpArgs false
set_option linter.unusedVariables false
set_option maxRecDepth 10000
set_option maxHeartbeats 4000000

theorem eqa (a b c d : Int) : pureRun Try.prog (Op.equal 53 (.agg #[.int .u64 a, .int .u64 b]) (.agg #[.int .u64 c, .int .u64 d])) = some (a == c && b == d) := by
  have u1 : Try.prog.underlying 53 = some (.array 2 29) := by kernel_rfl
  have u2 : Try.prog.underlying 29 = some (.int .u64) := by kernel_rfl
  have p1 : ∀ x y : Value, pureRun Try.prog (part 29 #[x, y] 0) = some x := fun x y => by kernel_rfl
  have p2 : ∀ x y : Value, pureRun Try.prog (part 29 #[x, y] 1) = some y := fun x y => by kernel_rfl
  have s1 : pureRun Try.prog (sizeOf 29) = some 1 := by kernel_rfl
  have e1 : ∀ k (x y : Int), pureRun Try.prog (Op.equalIn (k + 1) 29 (.int .u64 x) (.int .u64 y)) = some (x == y) := fun k x y => by
    simp only [Op.equalIn, underlying, bind_assoc, pureRun_program, u2, pure_bind, pureRun_pure, if_true]
  show pureRun Try.prog (Op.equalIn (9998 + 1 + 1) 53 _ _) = _
  generalize 9998 = k
  rw [Op.equalIn]
  simp only [underlying, bind_assoc, pureRun_program, u1, pure_bind]
  rw [pureRun_bind s1, Std.Legacy.Range.forIn_eq_forIn_range']
  have er : List.range' (([0:2] : Std.Legacy.Range)).start (([0:2] : Std.Legacy.Range)).size (([0:2] : Std.Legacy.Range)).step = [0, 1] := rfl
  rw [er]
  simp only [List.forIn_cons, bind_assoc, Nat.zero_mul, Nat.one_mul]
  rw [pureRun_bind (p1 _ _), pureRun_bind (p1 _ _), pureRun_bind (e1 _ _ _)]
  cases hac : a == c
  · simp [pureRun_pure]
  · simp only [Bool.not_true, Bool.false_eq_true, if_false, pure_bind, bind_assoc]
    rw [pureRun_bind (p2 _ _), pureRun_bind (p2 _ _), pureRun_bind (e1 _ _ _)]
    cases hbd : b == d <;> simp [pureRun_pure]
theorem keyA : KeyOK Try.prog T 53 encP := by
  refine ⟨find_ask ty53 (fun a b => rfl) fun a b => ?_, fun e a => ?_, fun a => ?_⟩
  · rw [encP, encP, eqa]
    congr 1
    rw [Bool.eq_iff_iff]; simp [Prod.ext_iff]
  · cases e
    · show (flat _ && (pureRun Try.prog (Instr.checkKey _ 10000 53 (.agg #[.int .u64 a.1, .int .u64 a.2]))).isSome) = true
      kernel_rfl
    · show (flat _ && (pureRun Try.prog (Instr.checkKey _ 10000 53 (.agg #[.int .u64 a.1, .int .u64 a.2]))).isSome) = true
      kernel_rfl
  · simp [encP, Instr.sameBits]
theorem nodup_lenP : ∀ {a b : List (Int × Int)}, a.Nodup → (∀ x ∈ a, x ∈ b) → a.length ≤ b.length
  | [], b, _, _ => Nat.zero_le _
  | x :: a, b, hn, hs => by
    have hx := hs x List.mem_cons_self
    have hn' := List.nodup_cons.1 hn
    have := nodup_lenP (a := a) (b := b.erase x) hn'.2 (fun y hy => (List.mem_erase_of_ne (fun e => hn'.1 (by rw [← e]; exact hy))).2 (hs y (List.mem_cons_of_mem _ hy)))
    rw [List.length_erase_of_mem hx] at this
    have : 0 < b.length := List.length_pos_of_mem hx
    simp; omega

def ovAt (ov : List Bool) (n : Int) : Bool := (ov[n.toNat]?).getD false
theorem ov_filter {ov : List Bool} {j : Nat} {ps : List Pr} (hf : From 0 ps) (hl : ov.length = 41) (hj : j < 41) : (ps.filter fun p => !ovAt ov p.key.2).filter (fun p => !decide (p.key.2 = (j : Int))) = ps.filter fun p => !ovAt (ov.set j true) p.key.2 := by
  rw [List.filter_filter]
  refine List.filter_congr fun p hp => ?_
  have := hf p hp
  unfold ovAt
  rw [List.getElem?_set]
  by_cases e : p.key.2 = (j : Int)
  · have e' : j = p.key.2.toNat := by omega
    rw [if_pos e', if_pos (by omega)]; simp [e]
  · have e' : ¬ j = p.key.2.toNat := by omega
    rw [if_neg e']; simp [e]
/-- The pairs that are wanted. -/
structure PW (l : List Lk) (ov : List Bool) (t : Int) (pre : List Lk) (PL : List ((Int × Int) × Value × Nat)) : Prop where
  keys : (PL.map (·.1)).Nodup
  sound : ∀ k ∈ PL.map (·.1), ∃ x ∈ l, lkey x = k ∧ ovAt ov (lon x) = false
  comp : ∀ x ∈ l, ovAt ov (lon x) = false → (lts x < t ∨ (lts x = t ∧ x ∈ pre)) → lkey x ∈ PL.map (·.1)
theorem PW.skip {l pre : List Lk} {ov : List Bool} {t : Int} {PL : List ((Int × Int) × Value × Nat)} (w : PW l ov t pre PL) {x : Lk} (hx : ¬ (lts x = t ∧ ovAt ov (lon x) = false)) : PW l ov t (pre ++ [x]) PL :=
  ⟨w.keys, w.sound, fun y hy ho h => w.comp y hy ho (h.elim .inl fun ⟨h1, h2⟩ => by
    rcases List.mem_append.1 h2 with h9 | h9
    · exact .inr ⟨h1, h9⟩
    · simp at h9; subst h9; exact (hx ⟨h1, ho⟩).elim)⟩
theorem PW.add {l pre : List Lk} {ov : List Bool} {t : Int} {PL PL' : List ((Int × Int) × Value × Nat)} (w : PW l ov t pre PL) {x : Lk} (hxl : x ∈ l) (ho : ovAt ov (lon x) = false) (hk : (PL'.map (·.1)).Nodup) (hm : ∀ k, k ∈ PL'.map (·.1) ↔ k ∈ PL.map (·.1) ∨ k = lkey x) : PW l ov t (pre ++ [x]) PL' :=
  ⟨hk, fun k hk => by
    rcases (hm k).1 hk with h | h
    · exact w.sound k h
    · exact ⟨x, hxl, h.symm, ho⟩, fun y hy ho h => by
    rw [hm]
    rcases h with h | ⟨h1, h2⟩
    · exact .inl (w.comp y hy ho (.inl h))
    · rcases List.mem_append.1 h2 with h9 | h9
      · exact .inl (w.comp y hy ho (.inr ⟨h1, h9⟩))
      · simp at h9; subst h9; exact .inr rfl⟩
def wantB (ov : List Bool) (t : Int) (pre : List Lk) : Bool := !(pre.any fun x => decide (lts x = t) && !ovAt ov (lon x))
theorem want_skip {ov : List Bool} {t : Int} {pre : List Lk} {x : Lk} (hx : ¬ (lts x = t ∧ ovAt ov (lon x) = false)) : wantB ov t (pre ++ [x]) = wantB ov t pre := by
  have : (decide (lts x = t) && !ovAt ov (lon x)) = false := by
    cases h : ovAt ov (lon x)
    · have : ¬ lts x = t := fun e => hx ⟨e, h⟩
      simp [this]
    · simp
  simp [wantB, this]
theorem want_add {ov : List Bool} {t : Int} {pre : List Lk} {x : Lk} (h1 : lts x = t) (h2 : ovAt ov (lon x) = false) : wantB ov t (pre ++ [x]) = false := by
  simp [wantB, h1, h2]
theorem want_ready {l : List Lk} {ov : List Bool} {t : Int} {ps : List Pr} (hP : LinkP l ps) : (!((ps.filter fun p => !ovAt ov p.key.2).any fun p => decide (p.key.1 = t))) = wantB ov t l := by
  unfold wantB
  congr 1
  rw [Bool.eq_iff_iff, List.any_eq_true, List.any_eq_true]
  constructor
  · rintro ⟨p, hp, h1⟩
    obtain ⟨h2, h3⟩ := List.mem_filter.1 hp
    obtain ⟨x, hx, hk⟩ := (hP.mem p.key).1 ⟨p, h2, rfl⟩
    have e1 : lts x = p.key.1 := congrArg Prod.fst hk
    have e2 : lon x = p.key.2 := congrArg Prod.snd hk
    refine ⟨x, hx, ?_⟩
    rw [e1, e2]; simp at h1 h3 ⊢; exact ⟨h1, h3⟩
  · rintro ⟨x, hx, h1⟩
    obtain ⟨p, hp, hk⟩ := (hP.mem (lkey x)).2 ⟨x, hx, rfl⟩
    have e1 : p.key.1 = lts x := congrArg Prod.fst hk
    have e2 : p.key.2 = lon x := congrArg Prod.snd hk
    simp at h1
    exact ⟨p, List.mem_filter.2 ⟨hp, by rw [e2]; simpa using h1.2⟩, by rw [e1]; simpa using h1.1⟩
theorem PW.len {l pre : List Lk} {ov : List Bool} {t : Int} {PL : List ((Int × Int) × Value × Nat)} {ps : List Pr} (w : PW l ov t pre PL) (hP : LinkP l ps) (hk : (ps.map Pr.key).Nodup) (ht : ∀ x ∈ l, lts x < t) : (ps.filter fun p => !ovAt ov p.key.2).length = PL.length := by
  have n2 : ((ps.filter fun p => !ovAt ov p.key.2).map Pr.key).Nodup := hk.sublist (List.filter_sublist.map _)
  have a := nodup_lenP n2 (b := PL.map (·.1)) fun k hk => by
    obtain ⟨p, hp, rfl⟩ := List.mem_map.1 hk
    obtain ⟨h2, h3⟩ := List.mem_filter.1 hp
    obtain ⟨x, hx, hk⟩ := (hP.mem p.key).1 ⟨p, h2, rfl⟩
    have e2 : lon x = p.key.2 := congrArg Prod.snd hk
    rw [← hk]
    exact w.comp x hx (by rw [e2]; simpa using h3) (.inl (ht x hx))
  have b := nodup_lenP w.keys (b := (ps.filter fun p => !ovAt ov p.key.2).map Pr.key) fun k hk => by
    obtain ⟨x, hx, hk, ho⟩ := w.sound k hk
    obtain ⟨p, hp, hk2⟩ := (hP.mem k).2 ⟨x, hx, hk⟩
    refine List.mem_map.2 ⟨p, List.mem_filter.2 ⟨hp, ?_⟩, hk2⟩
    rw [hk2, ← hk]; simpa [lkey] using ho
  simp at a b; omega

theorem readylaw_c (h0 : AHeap) (b b2 : Option Addr) (l : List Lk) (hl : LinksAt h0 b l) (zs : List Int) (hL : zs.length ≤ maxLen)
    (hr : ∀ i, i < zs.length → ∃ r z, b2 = some ⟨r, 0, none⟩ ∧ r < h0.next ∧ h0.get r = some (.ro (zs.map (Value.int .u8))) ∧ zs[i]? = some z ∧ (zs.map (Value.int .u8))[i]? = some (.int .u8 z) ∧ (Lit.int .u8 z).wf = true) :
    FWp Try.prog 6 [.slice b l.length 0, .slice b2 zs.length 0] h0 fun u _ => u = .bool true := by
  have hml : maxLen = 9223372036854775807 := rfl
  have hlen := hl.len
  refine W.enter tyOK Try.func6 rfl rfl ?_
  simp only [entry]
  refine W.seq <| W.reg <| 
      OSuf.aopF tyOK rfl (so_assign (by simp only [lk] <;> rfl)) (fun _ => rfl) rfl <|
      OSuf.nil <| SQ.normal ?_
  refine W.seq <| W.seq <| W.reg <| 
      OSuf.callD rfl (by simp only [aopnds, lk] <;> rfl) en22 (works_c _) rfl <|
      OSuf.aopF tyOK rfl (so_not (by simp only [lk] <;> rfl)) (fun _ => rfl) rfl <|
      OSuf.nil <| SQ.normal ?_
  refine W.no (by simp only [lk] <;> rfl) <| CWp.skip <| SQ.normal ?_
  refine W.seq <| W.reg <| 
      OSuf.aop tyOK rfl (so_move (by simp only [lk] <;> rfl)) rfl <|
      OSuf.call rfl (by simp only [aopnds, lk] <;> rfl) en23 (linked_c _ b l hl) ?_
  rintro _ h1 ⟨rfl, S0, hA, hm, hP, hnx, hold⟩
  refine ⟨_, rfl, ?_⟩
  refine 
      OSuf.aop tyOK rfl (so_assign (by simp only [lk] <;> rfl)) rfl <|
      OSuf.nil <| SQ.normal ?_
  refine W.seq <| W.reg <| 
      OSuf.aop tyOK rfl (so_alloc (by simp only [aAlloc, ty51] <;> rfl)) rfl <|
      OSuf.nil <| SQ.normal ?_
  refine W.seq <| W.seq <| W.reg <| 
      OSuf.aop tyOK rfl (so_assign (by simp only [lk] <;> rfl)) rfl <|
      OSuf.nil <| SQ.normal ?_
  -- leaf: loop
  have hF := hP.from_ fun x hx => hl.ok x (List.mem_of_mem_take hx)
  have hSl : S0.ps.length ≤ 100 := by have := hP.len; simp at this; omega
  have hky := hA.keys
  have e0 : (S0.ps.filter fun p => !ovAt (List.replicate 41 false) p.key.2) = S0.ps := List.filter_eq_self.2 fun p _ => by
    unfold ovAt; rw [List.getElem?_replicate]; split <;> rfl
  have hlt := hA.lt
  have hmlt := hA.mlt
  refine W.cut (fun L h' => ∃ (S : DS) (ov : List Bool), DA h' (h0.next + 1) S ∧ S.m = h0.next ∧ ov.length = 41 ∧ S.ps = S0.ps.filter (fun p => !ovAt ov p.key.2) ∧ h'.get h1.next = some (.cells (ov.map Value.bool) 1) ∧ h1.next < h'.next ∧ (∀ z, z < h0.next → h'.get z = h0.get z) ∧ L = [(0, .slice b l.length 0), (5, P0 (h0.next + 1)), (6, P0 h1.next)])
    (W.block (W.loop (fun n L h' => ∃ (k : Nat) (S : DS) (ov : List Bool), n + k = zs.length ∧ DA h' (h0.next + 1) S ∧ S.m = h0.next ∧ ov.length = 41 ∧ S.ps = S0.ps.filter (fun p => !ovAt ov p.key.2) ∧ h'.get h1.next = some (.cells (ov.map Value.bool) 1) ∧ h1.next < h'.next ∧ (∀ z, z < h0.next → h'.get z = h0.get z) ∧ L = [(0, .slice b l.length 0), (1, .slice b2 zs.length 0), (5, P0 (h0.next + 1)), (6, P0 h1.next), (7, I64 k)]) (n := zs.length)
    ⟨0, S0, List.replicate 41 false, by omega, hA.mono (by simp only [nx]; omega) (by simp (disch := first | assumption | omega | (simp only [nx] <;> omega) | fail) only [hpl]) (by simp (disch := first | assumption | omega | (simp only [nx] <;> omega) | fail) only [hpl]), hm, rfl, e0.symm, AHeap.get_new_at (by simp), by simp only [nx]; omega, fun z hz => by have := hold z hz; simp (disch := first | assumption | omega | (simp only [nx] <;> omega) | fail) only [hpl]; exact this, rfl⟩ ?_ ?_)) ?_
  · simp [HasA, Tr.get_put]
  · rintro n L h ⟨k, S, ov, hn, hA2, hm2, hol, hps, hov, hv, hz2, rfl⟩
    simp only [mkA]
    by_cases c1 : (k : Int) < (zs.length : Int)
    · by_cases c2 : (k : Int) < 60
      · obtain ⟨r, z, rfl, hrn, hg, _, hz, hwf⟩ := hr k (by omega)
        have hg1 : h.get r = some (.ro (zs.map (Value.int .u8))) := by rw [hz2 r hrn]; exact hg
        have hc : (0 ≤ (k : Int) ∧ (k : Int) < (zs.length : Int)) := by omega
        have hz0 := lit_u8 hwf
        have hzm : 0 ≤ z.tmod 41 ∧ z.tmod 41 < 41 := by rw [Int.tmod_eq_emod_of_nonneg hz0.1]; omega
        obtain ⟨j, hj⟩ : ∃ j : Nat, z.tmod 41 = j := ⟨(z.tmod 41).toNat, by omega⟩
        have hj41 : j < 41 := by omega
        have w1 : IntKind.i64.wrap z = z := wrap_i64 (by omega) (by omega)
        have w3 : IntKind.u64.wrap z = z := wrap_u64 (by omega) (by omega)
        have w2 : IntKind.i64.wrap ((k : Int) + 1) = ((k + 1 : Nat) : Int) := by rw [wrap_i64 (by omega) (by omega)]; omega
        have hcj : (j : Int) < ((41 : Nat) : Int) := by omega
        obtain ⟨hb1, hs1⟩ := bools_set (bs := ov) (j := j) true hol hj41
        have l2 := hA2.lt
        have l3 := hA2.mlt
        have hrV : ¬ h1.next = r := by omega
        refine W.seq <| W.seq <| W.reg <| 
            OSuf.aop tyOK rfl (so_move (by simp only [lk] <;> rfl)) rfl <|
            OSuf.aop tyOK rfl (so_move (by simp only [lk] <;> rfl)) rfl <|
            OSuf.aop tyOK rfl (so_len (by simp only [aopnds, lk] <;> rfl) (by simp (disch := first | assumption | omega | (simp only [nx] <;> omega) | fail) only [aLenOf, ty50, hpl, hc, and_self, if_true, Int.toNat_natCast, hg1, Nat.mul_one, Nat.zero_add, hz, hj, hcj, hov, hb1, hs1, Value.cells, places, ty29, ty3, ty4, ty42, ty48, ty5, ty50, ty51, ty52, ty53] <;> rfl)) rfl <|
            OSuf.aopT tyOK rfl (so_bin (by simp only [lk] <;> rfl) (by simp only [lk] <;> rfl) bi_lss) (fun _ => rfl) (by first | rfl | assumption | ((simp only [bl, hc, and_self, if_true, Int.toNat_natCast, hg1, Nat.mul_one, Nat.zero_add, hz, hj, hcj, hov, hb1, hs1, Value.cells, places, ty29, ty3, ty4, ty42, ty48, ty5, ty50, ty51, ty52, ty53]) <;> first | done | assumption | omega) | (simp [hc, and_self, if_true, Int.toNat_natCast, hg1, Nat.mul_one, Nat.zero_add, hz, hj, hcj, hov, hb1, hs1, Value.cells, places, ty29, ty3, ty4, ty42, ty48, ty5, ty50, ty51, ty52, ty53]; done) | (simp [hc, and_self, if_true, Int.toNat_natCast, hg1, Nat.mul_one, Nat.zero_add, hz, hj, hcj, hov, hb1, hs1, Value.cells, places, ty29, ty3, ty4, ty42, ty48, ty5, ty50, ty51, ty52, ty53]; omega)) <|
            OSuf.aopT tyOK rfl (so_move (by simp only [lk] <;> rfl)) (fun _ => rfl) rfl <|
            OSuf.aop tyOK (aguard_of rfl rfl (by simp only [lk] <;> rfl) rfl) (so_move (by simp only [lk] <;> rfl)) rfl <|
            OSuf.aopT tyOK (aguard_of rfl rfl (by simp only [lk] <;> rfl) rfl) (so_bin (by simp only [lk] <;> rfl) (by simp only [lk] <;> rfl) bi_lss) (fun _ => rfl) (by first | rfl | assumption | ((simp only [bl, hc, and_self, if_true, Int.toNat_natCast, hg1, Nat.mul_one, Nat.zero_add, hz, hj, hcj, hov, hb1, hs1, Value.cells, places, ty29, ty3, ty4, ty42, ty48, ty5, ty50, ty51, ty52, ty53]) <;> first | done | assumption | omega) | (simp [hc, and_self, if_true, Int.toNat_natCast, hg1, Nat.mul_one, Nat.zero_add, hz, hj, hcj, hov, hb1, hs1, Value.cells, places, ty29, ty3, ty4, ty42, ty48, ty5, ty50, ty51, ty52, ty53]; done) | (simp [hc, and_self, if_true, Int.toNat_natCast, hg1, Nat.mul_one, Nat.zero_add, hz, hj, hcj, hov, hb1, hs1, Value.cells, places, ty29, ty3, ty4, ty42, ty48, ty5, ty50, ty51, ty52, ty53]; omega)) <|
            OSuf.aopT tyOK rfl (so_pick (by simp only [lk] <;> rfl) (by simp only [lk, cond_true, cond_false] <;> rfl)) (fun _ => rfl) rfl <|
            OSuf.nil <| SQ.normal ?_
        refine W.yes (by simp only [lk] <;> rfl) <| CWp.skip <| SQ.normal ?_
        refine W.seq <| W.block <| W.seq <| W.reg <| 
            OSuf.aop tyOK rfl (so_move (by simp only [lk] <;> rfl)) rfl <|
            OSuf.aop tyOK rfl (so_move (by simp only [lk] <;> rfl)) rfl <|
            OSuf.aop tyOK rfl (so_indexAddr (by simp only [lk] <;> rfl) (by simp only [lk] <;> rfl) (by simp (disch := first | assumption | omega | (simp only [nx] <;> omega) | fail) only [aIndexAddr, ty50, ty5, hpl, hc, and_self, if_true, Int.toNat_natCast, hg1, Nat.mul_one, Nat.zero_add, hz, hj, hcj, hov, hb1, hs1, Value.cells, places, ty29, ty3, ty4, ty42, ty48, ty5, ty50, ty51, ty52, ty53] <;> rfl)) rfl <|
            OSuf.aop tyOK rfl (so_load (by simp only [lk] <;> rfl) (by simp (disch := first | assumption | omega | (simp only [nx] <;> omega) | fail) only [aLoad, ty5, rowOf, hpl, hc, and_self, if_true, Int.toNat_natCast, hg1, Nat.mul_one, Nat.zero_add, hz, hj, hcj, hov, hb1, hs1, Value.cells, places, ty29, ty3, ty4, ty42, ty48, ty5, ty50, ty51, ty52, ty53] <;> rfl)) rfl <|
            OSuf.aop tyOK rfl (so_conw (so_conv tyOK (by simp only [lk] <;> rfl) ty5 ⟨_, rfl⟩ ty3 rfl) (by first | (simp only [w1, w2, w3, hj] <;> rfl) | rfl)) rfl <|
            OSuf.aop tyOK rfl (so_bin (by simp only [lk] <;> rfl) (by simp only [lk] <;> rfl) (bi_w (bi_rem (by decide)) (by first | (simp only [w1, w2, w3, hj] <;> rfl) | rfl))) rfl <|
            OSuf.aop tyOK rfl (so_indexAddr (by simp only [lk] <;> rfl) (by simp only [lk] <;> rfl) (by simp (disch := first | assumption | omega | (simp only [nx] <;> omega) | fail) only [aIndexAddr, ty51, ty4, hpl, hc, and_self, if_true, Int.toNat_natCast, hg1, Nat.mul_one, Nat.zero_add, hz, hj, hcj, hov, hb1, hs1, Value.cells, places, ty29, ty3, ty4, ty42, ty48, ty5, ty50, ty51, ty52, ty53] <;> rfl)) rfl <|
            OSuf.aop tyOK rfl (so_store (by simp only [lk] <;> rfl) (by simp only [lk] <;> rfl) (by simp (disch := first | assumption | omega | (simp only [nx] <;> omega) | fail) only [aStore, ty4, writeRow, hpl, hc, and_self, if_true, Int.toNat_natCast, hg1, Nat.mul_one, Nat.zero_add, hz, hj, hcj, hov, hb1, hs1, Value.cells, places, ty29, ty3, ty4, ty42, ty48, ty5, ty50, ty51, ty52, ty53] <;> rfl)) rfl <|
            OSuf.nil <| SQ.normal ?_
        refine W.reg <| 
            OSuf.aop tyOK rfl (so_move (by simp only [lk] <;> rfl)) rfl <|
            OSuf.aop tyOK rfl (so_move (by simp only [lk] <;> rfl)) rfl <|
            OSuf.aop tyOK rfl (so_move (by simp only [lk] <;> rfl)) rfl <|
            OSuf.aop tyOK rfl (so_indexAddr (by simp only [lk] <;> rfl) (by simp only [lk] <;> rfl) (by simp (disch := first | assumption | omega | (simp only [nx] <;> omega) | fail) only [aIndexAddr, ty50, ty5, hpl, hc, and_self, if_true, Int.toNat_natCast, hg1, Nat.mul_one, Nat.zero_add, hz, hj, hcj, hov, hb1, hs1, Value.cells, places, ty29, ty3, ty4, ty42, ty48, ty5, ty50, ty51, ty52, ty53] <;> rfl)) rfl <|
            OSuf.aop tyOK rfl (so_load (by simp only [lk] <;> rfl) (by simp (disch := first | assumption | omega | (simp only [nx] <;> omega) | fail) only [aLoad, ty5, rowOf, hpl, hc, and_self, if_true, Int.toNat_natCast, hg1, Nat.mul_one, Nat.zero_add, hz, hj, hcj, hov, hb1, hs1, Value.cells, places, ty29, ty3, ty4, ty42, ty48, ty5, ty50, ty51, ty52, ty53] <;> rfl)) rfl <|
            OSuf.aop tyOK rfl (so_conw (so_conv tyOK (by simp only [lk] <;> rfl) ty5 ⟨_, rfl⟩ ty29 rfl) (by first | (simp only [w1, w2, w3, hj] <;> rfl) | rfl)) rfl <|
            OSuf.aop tyOK rfl (so_bin (by simp only [lk] <;> rfl) (by simp only [lk] <;> rfl) (bi_w (bi_rem (by decide)) (by first | (simp only [w1, w2, w3, hj] <;> rfl) | rfl))) rfl <|
            OSuf.call rfl (by simp only [aopnds, lk] <;> rfl) en13 (logged_c _ (h0.next + 1) S (hA2.mono (by simp only [nx]; omega) (AHeap.get_set_ne (by omega)) (AHeap.get_set_ne (by omega))) j) ?_
        rintro _ h2 ⟨rfl, hA3, hF3⟩
        simp only [FrD, nx] at hF3
        refine ⟨_, rfl, ?_⟩
        refine 
            OSuf.nil <| BQ.normal <| SQ.normal ?_
        refine W.reg <| 
            OSuf.aop tyOK rfl (so_move (by simp only [lk] <;> rfl)) rfl <|
            OSuf.aop tyOK rfl (so_bin (by simp only [lk] <;> rfl) (by simp only [lk] <;> rfl) (bi_w bi_add (by first | (simp only [w1, w2, w3, hj, w1, w2, w3, hj] <;> rfl) | rfl))) rfl <|
            OSuf.aop tyOK rfl (so_assign (by simp only [lk] <;> rfl)) rfl <|
            OSuf.nil <| ?_
        -- leaf: round
        refine LQ.normal (m := n - 1) (L := [(0, .slice b l.length 0), (1, .slice (some ⟨r, 0, none⟩) zs.length 0), (5, P0 (h0.next + 1)), (6, P0 h1.next), (7, I64 (k + 1 : Nat))]) (by omega) ?_ ⟨k + 1, _, ov.set j true, by omega, hA3, hm2, by simp [hol], by simp only; rw [hps, ov_filter hF hol hj41], ?_, by omega, fun z hz => ?_, rfl⟩
        · simp only [HasA, Tr.get_put, Nat.reduceEqDiff, reduceIte, w2, and_self]
        · rw [hF3.2 _ hv (by omega)]; exact AHeap.get_set_same _ _ _
        · rw [hF3.2 z (by omega) (by omega), AHeap.get_set_ne (by omega)]; exact hz2 z hz
      · refine W.seq <| W.seq <| W.reg <| 
            OSuf.aop tyOK rfl (so_move (by simp only [lk] <;> rfl)) rfl <|
            OSuf.aop tyOK rfl (so_move (by simp only [lk] <;> rfl)) rfl <|
            OSuf.aop tyOK rfl (so_len (by simp only [aopnds, lk] <;> rfl) (by simp (disch := first | assumption | omega | (simp only [nx] <;> omega) | fail) only [aLenOf, ty50, hpl] <;> rfl)) rfl <|
            OSuf.aopT tyOK rfl (so_bin (by simp only [lk] <;> rfl) (by simp only [lk] <;> rfl) bi_lss) (fun _ => rfl) (by first | rfl | assumption | ((simp only [bl]) <;> first | done | assumption | omega) | (simp []; done) | (simp []; omega)) <|
            OSuf.aopT tyOK rfl (so_move (by simp only [lk] <;> rfl)) (fun _ => rfl) rfl <|
            OSuf.aop tyOK (aguard_of rfl rfl (by simp only [lk] <;> rfl) rfl) (so_move (by simp only [lk] <;> rfl)) rfl <|
            OSuf.aopF tyOK (aguard_of rfl rfl (by simp only [lk] <;> rfl) rfl) (so_bin (by simp only [lk] <;> rfl) (by simp only [lk] <;> rfl) bi_lss) (fun _ => rfl) (by first | rfl | assumption | ((simp only [bl]) <;> first | done | assumption | omega) | (simp []; done) | (simp []; omega)) <|
            OSuf.aopF tyOK rfl (so_pick (by simp only [lk] <;> rfl) (by simp only [lk, cond_true, cond_false] <;> rfl)) (fun _ => rfl) rfl <|
            OSuf.nil <| SQ.normal ?_
        refine W.no (by simp only [lk] <;> rfl) <| CWp.exit <| SQ.exit <| LQ.exit <| BQ.exit <| ?_
        -- leaf: cut
        refine NQ.normal (L := [(0, .slice b l.length 0), (5, P0 (h0.next + 1)), (6, P0 h1.next)]) ?_ ⟨S, ov, hA2, hm2, hol, hps, hov, hv, hz2, rfl⟩
        simp only [HasA, Tr.get_put, Nat.reduceEqDiff, reduceIte, and_self]
    · refine W.seq <| W.seq <| W.reg <| 
          OSuf.aop tyOK rfl (so_move (by simp only [lk] <;> rfl)) rfl <|
          OSuf.aop tyOK rfl (so_move (by simp only [lk] <;> rfl)) rfl <|
          OSuf.aop tyOK rfl (so_len (by simp only [aopnds, lk] <;> rfl) (by simp (disch := first | assumption | omega | (simp only [nx] <;> omega) | fail) only [aLenOf, ty50, hpl] <;> rfl)) rfl <|
          OSuf.aopF tyOK rfl (so_bin (by simp only [lk] <;> rfl) (by simp only [lk] <;> rfl) bi_lss) (fun _ => rfl) (by first | rfl | assumption | ((simp only [bl]) <;> first | done | assumption | omega) | (simp []; done) | (simp []; omega)) <|
          OSuf.aopF tyOK rfl (so_move (by simp only [lk] <;> rfl)) (fun _ => rfl) rfl <|
          OSuf.pass (aguard_of rfl rfl (by simp only [lk] <;> rfl) rfl) rfl <|
          OSuf.pass (aguard_of rfl rfl (by simp only [lk] <;> rfl) rfl) rfl <|
          OSuf.aopF tyOK rfl (so_pick (by simp only [lk] <;> rfl) (by simp only [lk, cond_true, cond_false] <;> rfl)) (fun _ => rfl) rfl <|
          OSuf.nil <| SQ.normal ?_
      refine W.no (by simp only [lk] <;> rfl) <| CWp.exit <| SQ.exit <| LQ.exit <| BQ.exit <| ?_
      -- leaf: cut
      refine NQ.normal (L := [(0, .slice b l.length 0), (5, P0 (h0.next + 1)), (6, P0 h1.next)]) ?_ ⟨S, ov, hA2, hm2, hol, hps, hov, hv, hz2, rfl⟩
      simp only [HasA, Tr.get_put, Nat.reduceEqDiff, reduceIte, and_self]
  clear hold hnx hm hA
  rintro L a' h2 ha ⟨S, ov, hA, hm, hol, hps, hov, hv, hold, rfl⟩
  have hlt2 := hA.lt
  have hmlt2 := hA.mlt
  refine SQ.normal <| CWp.known ha ?_
  simp only [mkA]
  refine W.seq <| W.reg <| 
      OSuf.aop tyOK rfl (so_makeMap) rfl <|
      OSuf.aop tyOK rfl (so_assign (by simp only [lk] <;> rfl)) rfl <|
      OSuf.nil <| SQ.normal ?_
  refine W.seq <| W.seq <| W.reg <| 
      OSuf.aop tyOK rfl (so_assign (by simp only [lk] <;> rfl)) rfl <|
      OSuf.nil <| SQ.normal ?_
  -- leaf: loop
  have keepA : ∀ h', h2.next + 1 ≤ h'.next → (∀ z, z < h2.next → h'.get z = h2.get z) → DA h' (h0.next + 1) S := fun h' a c => hA.mono (by omega) (c _ hlt2) (c _ hmlt2)
  have hl100 : ∀ x ∈ l.take 100, x ∈ l := fun x hx => List.mem_of_mem_take hx
  refine W.cut (fun L h' => ∃ PL cl, PW (l.take 100) ov 41 [] PL ∧ h'.next = h2.next + 1 ∧ h'.get h2.next = some (.map (mkK encP PL) cl) ∧ (∀ z, z < h2.next → h'.get z = h2.get z) ∧ L = [(5, P0 (h0.next + 1)), (8, .map (some h2.next))])
    (W.block (W.loop (fun n L h' => ∃ (t : Nat) (PL : List ((Int × Int) × Value × Nat)) (cl : Nat), n + t = 41 ∧ PW (l.take 100) ov t [] PL ∧ h'.next = h2.next + 1 ∧ h'.get h2.next = some (.map (mkK encP PL) cl) ∧ (∀ z, z < h2.next → h'.get z = h2.get z) ∧ L = [(0, .slice b l.length 0), (5, P0 (h0.next + 1)), (6, P0 h1.next), (8, .map (some h2.next)), (9, U64 t)]) (n := 41)
    ⟨0, [], 0, by omega, ⟨by simp, by simp, fun x hx _ h => by have := lk_range (hl.ok x (hl100 x hx)); simp at h; omega⟩, by simp only [nx], AHeap.get_new_same _ _, fun z hz => AHeap.get_new_ne (by omega), rfl⟩ ?_ ?_)) ?_
  · simp [HasA, Tr.get_put]
  · rintro n L h ⟨t, PL, cl, hn, hW, hnx, hpm, hz2, rfl⟩
    simp only [mkA]
    have w2 : IntKind.u64.wrap ((t : Int) + 1) = ((t + 1 : Nat) : Int) := by rw [wrap_u64 (by omega) (by omega)]; omega
    by_cases ht : (t : Int) ≤ 40
    · refine W.seq <| W.seq <| W.reg <| 
          OSuf.aop tyOK rfl (so_move (by simp only [lk] <;> rfl)) rfl <|
          OSuf.aopT tyOK rfl (so_bin (by simp only [lk] <;> rfl) (by simp only [lk] <;> rfl) bi_leq) (fun _ => rfl) (by first | rfl | assumption | ((simp only [bl]) <;> first | done | assumption | omega) | (simp []; done) | (simp []; omega)) <|
          OSuf.nil <| SQ.normal ?_
      refine W.yes (by simp only [lk] <;> rfl) <| CWp.skip <| SQ.normal ?_
      refine W.seq <| W.block <| W.seq <| W.reg <| 
          OSuf.aopT tyOK rfl (so_assign (by simp only [lk] <;> rfl)) (fun _ => rfl) rfl <|
          OSuf.nil <| SQ.normal ?_
      refine W.seq <| W.seq <| W.reg <| 
          OSuf.aop tyOK rfl (so_assign (by simp only [lk] <;> rfl)) rfl <|
          OSuf.nil <| SQ.normal ?_
      -- leaf: loop
      refine W.cut (fun L h' => ∃ PL cl, PW (l.take 100) ov t (l.take 100) PL ∧ h'.next = h2.next + 1 ∧ h'.get h2.next = some (.map (mkK encP PL) cl) ∧ (∀ z, z < h2.next → h'.get z = h2.get z) ∧ L = [(0, .slice b l.length 0), (5, P0 (h0.next + 1)), (6, P0 h1.next), (8, .map (some h2.next)), (9, U64 t), (10, .bool (wantB ov t (l.take 100)))])
        (W.block (W.loop (fun n L h' => ∃ (i : Nat) (PL : List ((Int × Int) × Value × Nat)) (cl : Nat), n + i = l.length ∧ i ≤ 100 ∧ PW (l.take 100) ov t (l.take i) PL ∧ h'.next = h2.next + 1 ∧ h'.get h2.next = some (.map (mkK encP PL) cl) ∧ (∀ z, z < h2.next → h'.get z = h2.get z) ∧ L = [(0, .slice b l.length 0), (5, P0 (h0.next + 1)), (6, P0 h1.next), (8, .map (some h2.next)), (9, U64 t), (10, .bool (wantB ov t (l.take i))), (11, I64 i)]) (n := l.length)
        ⟨0, PL, cl, by omega, by omega, hW, hnx, hpm, hz2, rfl⟩ ?_ ?_)) ?_
      · simp [HasA, Tr.get_put, wantB]
      · clear hW hnx hpm hz2
        rintro n L h ⟨i, PL, cl, hn2, hi100, hW, hnx, hpm, hz2, rfl⟩
        simp only [mkA]
        have v2 : IntKind.i64.wrap ((i : Int) + 1) = ((i + 1 : Nat) : Int) := by rw [wrap_i64 (by omega) (by omega)]; omega
        by_cases c1 : (i : Int) < (l.length : Int)
        · by_cases c2 : (i : Int) < 100
          · obtain ⟨x, hx⟩ : ∃ x, l[i]? = some x := ⟨l[i]'(by omega), by simp⟩
            have hxl : x ∈ l := List.mem_of_getElem? hx
            obtain ⟨r, rfl, hrn, hg⟩ := hl.at_ (fun e => by rw [e] at hx; simp at hx)
            have hg1 : h.get r = some (.ro (flatL l)) := by rw [hz2 r (by omega), hold r hrn]; exact hg
            have hov1 : h.get h1.next = some (.cells (ov.map Value.bool) 1) := by rw [hz2 _ hv]; exact hov
            have hokx := hl.ok x hxl
            have hrg := lk_range hokx
            obtain ⟨o1, o2, o3, o4⟩ := hokx
            have f0 : (flatL l)[i * 3]? = some (.int .u8 x.ts) := flatL_get (j := 0) hx (by omega)
            have f0' : (flatL l)[i * 3 + 0]? = some (.int .u8 x.ts) := flatL_get (j := 0) hx (by omega)
            have f1 : (flatL l)[i * 3 + 1]? = some (.int .u8 x.back) := flatL_get (j := 1) hx (by omega)
            have hc : (0 ≤ (i : Int) ∧ (i : Int) < (l.length : Int)) := by omega
            obtain ⟨t1, ht1⟩ : ∃ t1 : Nat, lts x = t1 := ⟨(lts x).toNat, by omega⟩
            obtain ⟨o, ho⟩ : ∃ o : Nat, lon x = o := ⟨(lon x).toNat, by omega⟩
            have e1 : x.ts.tmod 40 = x.ts % 40 := Int.tmod_eq_emod_of_nonneg o1
            have e2 : x.back.tmod (t1 : Int) = o := by rw [← ht1, ← ho]; exact Int.tmod_eq_emod_of_nonneg o3
            have w3 : IntKind.u64.wrap (x.ts % 40) = x.ts % 40 := wrap_u64 (by omega) (by omega)
            have w4 : IntKind.u64.wrap (x.ts % 40 + 1) = t1 := by rw [wrap_u64 (by omega) (by omega), ← ht1]; rfl
            have w5 : IntKind.u64.wrap x.back = x.back := wrap_u64 (by omega) (by omega)
            have hnz : (t1 : Int) ≠ 0 := by omega
            have hco : (o : Int) < ((41 : Nat) : Int) := by omega
            have htk2 : l.take (i + 1) = l.take i ++ [x] := by rw [List.take_add_one, hx]; rfl
            have hx100 : x ∈ l.take 100 := List.mem_of_getElem? (i := i) (by rw [List.getElem?_take, if_pos (by omega)]; exact hx)
            obtain ⟨ob, hob⟩ : ∃ ob, ov[o]? = some ob := ⟨ov[o]'(by omega), by simp⟩
            have hbo : (ov.map Value.bool)[o]? = some (.bool ob) := by simp [hob]
            have hoa : ovAt ov (lon x) = ob := by unfold ovAt; rw [ho, Int.toNat_natCast, hob]; rfl
            by_cases htt : (t1 : Int) = (t : Int)
            · cases hobv : ob
              · have hadd := want_add (ov := ov) (t := (t : Int)) (pre := l.take i) (x := x) (by omega) (by rw [hoa, hobv])
                rw [← htk2] at hadd
                have fin : ∀ (PL' : List ((Int × Int) × Value × Nat)), (PL'.map (·.1)).Nodup → (∀ k, k ∈ PL'.map (·.1) ↔ k ∈ PL.map (·.1) ∨ k = lkey x) → PW (l.take 100) ov t (l.take (i + 1)) PL' := fun PL' q1 q2 => by
                  rw [htk2]; exact hW.add hx100 (by rw [hoa, hobv]) q1 q2
                have hkx : lkey x = ((t1 : Int), (o : Int)) := by rw [lkey, ht1, ho]
                cases hi : idxK ((t1 : Int), (o : Int)) PL 0 with
                | none =>
                  refine W.seq <| W.seq <| W.reg <| 
                      OSuf.aop tyOK rfl (so_move (by simp only [lk] <;> rfl)) rfl <|
                      OSuf.aop tyOK rfl (so_move (by simp only [lk] <;> rfl)) rfl <|
                      OSuf.aop tyOK rfl (so_len (by simp only [aopnds, lk] <;> rfl) (by simp (disch := first | assumption | omega | (simp only [nx] <;> omega) | fail) only [aLenOf, ty42, hpl, hc, and_self, if_true, Int.toNat_natCast, hg1, Nat.mul_one, Nat.zero_add, Nat.add_zero, f0, f0', f1, hov1, hco, hbo, hpm, Value.cells, places, ty29, ty3, ty4, ty42, ty48, ty5, ty50, ty51, ty52, ty53] <;> rfl)) rfl <|
                      OSuf.aopT tyOK rfl (so_bin (by simp only [lk] <;> rfl) (by simp only [lk] <;> rfl) bi_lss) (fun _ => rfl) (by first | rfl | assumption | ((simp only [bl, hc, and_self, if_true, Int.toNat_natCast, hg1, Nat.mul_one, Nat.zero_add, Nat.add_zero, f0, f0', f1, hov1, hco, hbo, hpm, Value.cells, places, ty29, ty3, ty4, ty42, ty48, ty5, ty50, ty51, ty52, ty53]) <;> first | done | assumption | omega) | (simp [hc, and_self, if_true, Int.toNat_natCast, hg1, Nat.mul_one, Nat.zero_add, Nat.add_zero, f0, f0', f1, hov1, hco, hbo, hpm, Value.cells, places, ty29, ty3, ty4, ty42, ty48, ty5, ty50, ty51, ty52, ty53]; done) | (simp [hc, and_self, if_true, Int.toNat_natCast, hg1, Nat.mul_one, Nat.zero_add, Nat.add_zero, f0, f0', f1, hov1, hco, hbo, hpm, Value.cells, places, ty29, ty3, ty4, ty42, ty48, ty5, ty50, ty51, ty52, ty53]; omega)) <|
                      OSuf.aopT tyOK rfl (so_move (by simp only [lk] <;> rfl)) (fun _ => rfl) rfl <|
                      OSuf.aop tyOK (aguard_of rfl rfl (by simp only [lk] <;> rfl) rfl) (so_move (by simp only [lk] <;> rfl)) rfl <|
                      OSuf.aopT tyOK (aguard_of rfl rfl (by simp only [lk] <;> rfl) rfl) (so_bin (by simp only [lk] <;> rfl) (by simp only [lk] <;> rfl) bi_lss) (fun _ => rfl) (by first | rfl | assumption | ((simp only [bl, hc, and_self, if_true, Int.toNat_natCast, hg1, Nat.mul_one, Nat.zero_add, Nat.add_zero, f0, f0', f1, hov1, hco, hbo, hpm, Value.cells, places, ty29, ty3, ty4, ty42, ty48, ty5, ty50, ty51, ty52, ty53]) <;> first | done | assumption | omega) | (simp [hc, and_self, if_true, Int.toNat_natCast, hg1, Nat.mul_one, Nat.zero_add, Nat.add_zero, f0, f0', f1, hov1, hco, hbo, hpm, Value.cells, places, ty29, ty3, ty4, ty42, ty48, ty5, ty50, ty51, ty52, ty53]; done) | (simp [hc, and_self, if_true, Int.toNat_natCast, hg1, Nat.mul_one, Nat.zero_add, Nat.add_zero, f0, f0', f1, hov1, hco, hbo, hpm, Value.cells, places, ty29, ty3, ty4, ty42, ty48, ty5, ty50, ty51, ty52, ty53]; omega)) <|
                      OSuf.aopT tyOK rfl (so_pick (by simp only [lk] <;> rfl) (by simp only [lk, cond_true, cond_false] <;> rfl)) (fun _ => rfl) rfl <|
                      OSuf.nil <| SQ.normal ?_
                  refine W.yes (by simp only [lk] <;> rfl) <| CWp.skip <| SQ.normal ?_
                  refine W.seq <| W.block <| W.seq <| W.reg <| 
                      OSuf.aop tyOK rfl (so_move (by simp only [lk] <;> rfl)) rfl <|
                      OSuf.aop tyOK rfl (so_move (by simp only [lk] <;> rfl)) rfl <|
                      OSuf.aop tyOK rfl (so_indexAddr (by simp only [lk] <;> rfl) (by simp only [lk] <;> rfl) (by simp (disch := first | assumption | omega | (simp only [nx] <;> omega) | fail) only [aIndexAddr, ty42, ty48, hpl, hc, and_self, if_true, Int.toNat_natCast, hg1, Nat.mul_one, Nat.zero_add, Nat.add_zero, f0, f0', f1, hov1, hco, hbo, hpm, Value.cells, places, ty29, ty3, ty4, ty42, ty48, ty5, ty50, ty51, ty52, ty53] <;> rfl)) rfl <|
                      OSuf.aop tyOK rfl (so_fieldAddr (by simp only [lk] <;> rfl) (fa_ok (k := 0) ty48 rfl rfl ty5 rfl rfl)) rfl <|
                      OSuf.aop tyOK rfl (so_load (by simp only [lk] <;> rfl) (by simp (disch := first | assumption | omega | (simp only [nx] <;> omega) | fail) only [aLoad, ty5, rowOf, hpl, hc, and_self, if_true, Int.toNat_natCast, hg1, Nat.mul_one, Nat.zero_add, Nat.add_zero, f0, f0', f1, hov1, hco, hbo, hpm, Value.cells, places, ty29, ty3, ty4, ty42, ty48, ty5, ty50, ty51, ty52, ty53] <;> rfl)) rfl <|
                      OSuf.aop tyOK rfl (so_bin (by simp only [lk] <;> rfl) (by simp only [lk] <;> rfl) (bi_w (bi_rem (by decide)) (by first | (simp only [e1, w3, w4, w5, e2, v2] <;> rfl) | rfl))) rfl <|
                      OSuf.aop tyOK rfl (so_conw (so_conv tyOK (by simp only [lk] <;> rfl) ty5 ⟨_, rfl⟩ ty29 rfl) (by first | (simp only [e1, w3, w4, w5, e2, v2] <;> rfl) | rfl)) rfl <|
                      OSuf.aop tyOK rfl (so_bin (by simp only [lk] <;> rfl) (by simp only [lk] <;> rfl) (bi_w bi_add (by first | (simp only [e1, w3, w4, w5, e2, v2] <;> rfl) | rfl))) rfl <|
                      OSuf.aop tyOK rfl (so_assign (by simp only [lk] <;> rfl)) rfl <|
                      OSuf.nil <| SQ.normal ?_
                  refine W.seq <| W.reg <| 
                      OSuf.aop tyOK rfl (so_move (by simp only [lk] <;> rfl)) rfl <|
                      OSuf.aop tyOK rfl (so_move (by simp only [lk] <;> rfl)) rfl <|
                      OSuf.aop tyOK rfl (so_indexAddr (by simp only [lk] <;> rfl) (by simp only [lk] <;> rfl) (by simp (disch := first | assumption | omega | (simp only [nx] <;> omega) | fail) only [aIndexAddr, ty42, ty48, hpl, hc, and_self, if_true, Int.toNat_natCast, hg1, Nat.mul_one, Nat.zero_add, Nat.add_zero, f0, f0', f1, hov1, hco, hbo, hpm, Value.cells, places, ty29, ty3, ty4, ty42, ty48, ty5, ty50, ty51, ty52, ty53] <;> rfl)) rfl <|
                      OSuf.aop tyOK rfl (so_fieldAddr (by simp only [lk] <;> rfl) (fa_ok (k := 1) ty48 rfl rfl ty5 rfl rfl)) rfl <|
                      OSuf.aop tyOK rfl (so_load (by simp only [lk] <;> rfl) (by simp (disch := first | assumption | omega | (simp only [nx] <;> omega) | fail) only [aLoad, ty5, rowOf, hpl, hc, and_self, if_true, Int.toNat_natCast, hg1, Nat.mul_one, Nat.zero_add, Nat.add_zero, f0, f0', f1, hov1, hco, hbo, hpm, Value.cells, places, ty29, ty3, ty4, ty42, ty48, ty5, ty50, ty51, ty52, ty53] <;> rfl)) rfl <|
                      OSuf.aop tyOK rfl (so_conw (so_conv tyOK (by simp only [lk] <;> rfl) ty5 ⟨_, rfl⟩ ty29 rfl) (by first | (simp only [e1, w3, w4, w5, e2, v2] <;> rfl) | rfl)) rfl <|
                      OSuf.aop tyOK rfl (so_move (by simp only [lk] <;> rfl)) rfl <|
                      OSuf.aop tyOK rfl (so_bin (by simp only [lk] <;> rfl) (by simp only [lk] <;> rfl) (bi_w (bi_rem hnz) (by first | (simp only [e1, w3, w4, w5, e2, v2] <;> rfl) | rfl))) rfl <|
                      OSuf.aop tyOK rfl (so_assign (by simp only [lk] <;> rfl)) rfl <|
                      OSuf.nil <| SQ.normal ?_
                  refine W.seq <| W.reg <| 
                      OSuf.aop tyOK rfl (so_move (by simp only [lk] <;> rfl)) rfl <|
                      OSuf.aop tyOK rfl (so_move (by simp only [lk] <;> rfl)) rfl <|
                      OSuf.aopT tyOK rfl (so_bin (by simp only [lk] <;> rfl) (by simp only [lk] <;> rfl) bi_eql) (fun _ => rfl) (by first | rfl | assumption | ((simp only [bl, hc, and_self, if_true, Int.toNat_natCast, hg1, Nat.mul_one, Nat.zero_add, Nat.add_zero, f0, f0', f1, hov1, hco, hbo, hpm, Value.cells, places, ty29, ty3, ty4, ty42, ty48, ty5, ty50, ty51, ty52, ty53]) <;> first | done | assumption | omega) | (simp [hc, and_self, if_true, Int.toNat_natCast, hg1, Nat.mul_one, Nat.zero_add, Nat.add_zero, f0, f0', f1, hov1, hco, hbo, hpm, Value.cells, places, ty29, ty3, ty4, ty42, ty48, ty5, ty50, ty51, ty52, ty53]; done) | (simp [hc, and_self, if_true, Int.toNat_natCast, hg1, Nat.mul_one, Nat.zero_add, Nat.add_zero, f0, f0', f1, hov1, hco, hbo, hpm, Value.cells, places, ty29, ty3, ty4, ty42, ty48, ty5, ty50, ty51, ty52, ty53]; omega)) <|
                      OSuf.aopT tyOK rfl (so_move (by simp only [lk] <;> rfl)) (fun _ => rfl) rfl <|
                      OSuf.aop tyOK (aguard_of rfl rfl (by simp only [lk] <;> rfl) rfl) (so_move (by simp only [lk] <;> rfl)) rfl <|
                      OSuf.aop tyOK (aguard_of rfl rfl (by simp only [lk] <;> rfl) rfl) (so_indexAddr (by simp only [lk] <;> rfl) (by simp only [lk] <;> rfl) (by simp (disch := first | assumption | omega | (simp only [nx] <;> omega) | fail) only [aIndexAddr, ty51, ty4, hpl, hc, and_self, if_true, Int.toNat_natCast, hg1, Nat.mul_one, Nat.zero_add, Nat.add_zero, f0, f0', f1, hov1, hco, hbo, hpm, Value.cells, places, ty29, ty3, ty4, ty42, ty48, ty5, ty50, ty51, ty52, ty53] <;> rfl)) rfl <|
                      OSuf.aopF tyOK (aguard_of rfl rfl (by simp only [lk] <;> rfl) rfl) (so_load (by simp only [lk] <;> rfl) (by simp (disch := first | assumption | omega | (simp only [nx] <;> omega) | fail) only [aLoad, ty4, rowOf, hpl, hc, and_self, if_true, Int.toNat_natCast, hg1, Nat.mul_one, Nat.zero_add, Nat.add_zero, f0, f0', f1, hov1, hco, hbo, hpm, Value.cells, places, ty29, ty3, ty4, ty42, ty48, ty5, ty50, ty51, ty52, ty53] <;> rfl)) (fun _ => rfl) (hobv) <|
                      OSuf.aopT tyOK (aguard_of rfl rfl (by simp only [lk] <;> rfl) rfl) (so_not (by simp only [lk] <;> rfl)) (fun _ => rfl) rfl <|
                      OSuf.aopT tyOK rfl (so_pick (by simp only [lk] <;> rfl) (by simp only [lk, cond_true, cond_false] <;> rfl)) (fun _ => rfl) rfl <|
                      OSuf.nil <| SQ.normal ?_
                  refine W.yes (by simp only [lk] <;> rfl) <| W.seq <| W.reg <| 
                      OSuf.aopF tyOK rfl (so_assign (by simp only [lk] <;> rfl)) (fun _ => rfl) rfl <|
                      OSuf.nil <| SQ.normal ?_
                  refine W.reg <| 
                      OSuf.aop tyOK rfl (so_move (by simp only [lk] <;> rfl)) rfl <|
                      OSuf.aop tyOK rfl (so_move (by simp only [lk] <;> rfl)) rfl <|
                      OSuf.aop tyOK rfl (so_move (by simp only [lk] <;> rfl)) rfl <|
                      OSuf.aop tyOK rfl (so_build (by simp only [aparts, lk] <;> rfl) (by simp (disch := first | assumption | omega | (simp only [nx] <;> omega) | fail) only [aBuild, ty53, hpl, hc, and_self, if_true, Int.toNat_natCast, hg1, Nat.mul_one, Nat.zero_add, Nat.add_zero, f0, f0', f1, hov1, hco, hbo, hpm, Value.cells, places, ty29, ty3, ty4, ty42, ty48, ty5, ty50, ty51, ty52, ty53] <;> rfl)) rfl <|
                      OSuf.aop tyOK rfl (so_mapUpdate (by simp only [lk] <;> rfl) (by simp only [lk] <;> rfl) (by simp only [lk] <;> rfl) (ku_new keyA (a := ((t1 : Int), (o : Int))) ty52 rfl (by simp (disch := first | assumption | omega | (simp only [nx] <;> omega) | fail) only [aCells, rowOf, hpl, hc, and_self, if_true, Int.toNat_natCast, hg1, Nat.mul_one, Nat.zero_add, Nat.add_zero, f0, f0', f1, hov1, hco, hbo, hpm, Value.cells, places, ty29, ty3, ty4, ty42, ty48, ty5, ty50, ty51, ty52, ty53] <;> rfl) hi)) rfl <|
                      OSuf.nil <| BQ.normal <| SQ.normal ?_
                  refine W.reg <| 
                      OSuf.aop tyOK rfl (so_move (by simp only [lk] <;> rfl)) rfl <|
                      OSuf.aop tyOK rfl (so_bin (by simp only [lk] <;> rfl) (by simp only [lk] <;> rfl) (bi_w bi_add (by first | (simp only [e1, w3, w4, w5, e2, v2] <;> rfl) | rfl))) rfl <|
                      OSuf.aop tyOK rfl (so_assign (by simp only [lk] <;> rfl)) rfl <|
                      OSuf.nil <| ?_
                  -- leaf: round
                  refine LQ.normal (m := n - 1) (L := [(0, .slice (some ⟨r, 0, none⟩) l.length 0), (5, P0 (h0.next + 1)), (6, P0 h1.next), (8, .map (some h2.next)), (9, U64 t), (10, .bool false), (11, I64 (i + 1 : Nat))]) (by omega) ?_ ⟨i + 1, PL ++ [(((t1 : Int), (o : Int)), .bool true, cl)], cl + 1, by omega, by omega, fin _ ?_ ?_, by simp only [nx]; exact hnx, by simp (disch := first | assumption | omega | (simp only [nx] <;> omega) | fail) only [hpl], fun z hz => ?_, by rw [hadd]⟩
                  · simp only [HasA, Tr.get_put, Nat.reduceEqDiff, reduceIte, v2, and_self]
                  · rw [List.map_append]
                    refine List.nodup_append.2 ⟨hW.keys, by simp, fun a ha c hc => ?_⟩
                    obtain ⟨y, hy, rfl⟩ := List.mem_map.1 ha
                    simp at hc; subst hc
                    exact fun e => idxK_none' hi y hy e.symm
                  · intro k; rw [hkx]; simp
                  · have : ¬ h2.next = z := by omega
                    simp (disch := first | assumption | omega | (simp only [nx] <;> omega) | fail) only [hpl]; exact hz2 z hz
                | some jv =>
                  obtain ⟨j, v⟩ := jv
                  obtain ⟨m, bb, q1, q2⟩ := idxK_some hi
                  rw [Nat.zero_add] at q1; subst q1
                  refine W.seq <| W.seq <| W.reg <| 
                      OSuf.aop tyOK rfl (so_move (by simp only [lk] <;> rfl)) rfl <|
                      OSuf.aop tyOK rfl (so_move (by simp only [lk] <;> rfl)) rfl <|
                      OSuf.aop tyOK rfl (so_len (by simp only [aopnds, lk] <;> rfl) (by simp (disch := first | assumption | omega | (simp only [nx] <;> omega) | fail) only [aLenOf, ty42, hpl, hc, and_self, if_true, Int.toNat_natCast, hg1, Nat.mul_one, Nat.zero_add, Nat.add_zero, f0, f0', f1, hov1, hco, hbo, hpm, Value.cells, places, ty29, ty3, ty4, ty42, ty48, ty5, ty50, ty51, ty52, ty53] <;> rfl)) rfl <|
                      OSuf.aopT tyOK rfl (so_bin (by simp only [lk] <;> rfl) (by simp only [lk] <;> rfl) bi_lss) (fun _ => rfl) (by first | rfl | assumption | ((simp only [bl, hc, and_self, if_true, Int.toNat_natCast, hg1, Nat.mul_one, Nat.zero_add, Nat.add_zero, f0, f0', f1, hov1, hco, hbo, hpm, Value.cells, places, ty29, ty3, ty4, ty42, ty48, ty5, ty50, ty51, ty52, ty53]) <;> first | done | assumption | omega) | (simp [hc, and_self, if_true, Int.toNat_natCast, hg1, Nat.mul_one, Nat.zero_add, Nat.add_zero, f0, f0', f1, hov1, hco, hbo, hpm, Value.cells, places, ty29, ty3, ty4, ty42, ty48, ty5, ty50, ty51, ty52, ty53]; done) | (simp [hc, and_self, if_true, Int.toNat_natCast, hg1, Nat.mul_one, Nat.zero_add, Nat.add_zero, f0, f0', f1, hov1, hco, hbo, hpm, Value.cells, places, ty29, ty3, ty4, ty42, ty48, ty5, ty50, ty51, ty52, ty53]; omega)) <|
                      OSuf.aopT tyOK rfl (so_move (by simp only [lk] <;> rfl)) (fun _ => rfl) rfl <|
                      OSuf.aop tyOK (aguard_of rfl rfl (by simp only [lk] <;> rfl) rfl) (so_move (by simp only [lk] <;> rfl)) rfl <|
                      OSuf.aopT tyOK (aguard_of rfl rfl (by simp only [lk] <;> rfl) rfl) (so_bin (by simp only [lk] <;> rfl) (by simp only [lk] <;> rfl) bi_lss) (fun _ => rfl) (by first | rfl | assumption | ((simp only [bl, hc, and_self, if_true, Int.toNat_natCast, hg1, Nat.mul_one, Nat.zero_add, Nat.add_zero, f0, f0', f1, hov1, hco, hbo, hpm, Value.cells, places, ty29, ty3, ty4, ty42, ty48, ty5, ty50, ty51, ty52, ty53]) <;> first | done | assumption | omega) | (simp [hc, and_self, if_true, Int.toNat_natCast, hg1, Nat.mul_one, Nat.zero_add, Nat.add_zero, f0, f0', f1, hov1, hco, hbo, hpm, Value.cells, places, ty29, ty3, ty4, ty42, ty48, ty5, ty50, ty51, ty52, ty53]; done) | (simp [hc, and_self, if_true, Int.toNat_natCast, hg1, Nat.mul_one, Nat.zero_add, Nat.add_zero, f0, f0', f1, hov1, hco, hbo, hpm, Value.cells, places, ty29, ty3, ty4, ty42, ty48, ty5, ty50, ty51, ty52, ty53]; omega)) <|
                      OSuf.aopT tyOK rfl (so_pick (by simp only [lk] <;> rfl) (by simp only [lk, cond_true, cond_false] <;> rfl)) (fun _ => rfl) rfl <|
                      OSuf.nil <| SQ.normal ?_
                  refine W.yes (by simp only [lk] <;> rfl) <| CWp.skip <| SQ.normal ?_
                  refine W.seq <| W.block <| W.seq <| W.reg <| 
                      OSuf.aop tyOK rfl (so_move (by simp only [lk] <;> rfl)) rfl <|
                      OSuf.aop tyOK rfl (so_move (by simp only [lk] <;> rfl)) rfl <|
                      OSuf.aop tyOK rfl (so_indexAddr (by simp only [lk] <;> rfl) (by simp only [lk] <;> rfl) (by simp (disch := first | assumption | omega | (simp only [nx] <;> omega) | fail) only [aIndexAddr, ty42, ty48, hpl, hc, and_self, if_true, Int.toNat_natCast, hg1, Nat.mul_one, Nat.zero_add, Nat.add_zero, f0, f0', f1, hov1, hco, hbo, hpm, Value.cells, places, ty29, ty3, ty4, ty42, ty48, ty5, ty50, ty51, ty52, ty53] <;> rfl)) rfl <|
                      OSuf.aop tyOK rfl (so_fieldAddr (by simp only [lk] <;> rfl) (fa_ok (k := 0) ty48 rfl rfl ty5 rfl rfl)) rfl <|
                      OSuf.aop tyOK rfl (so_load (by simp only [lk] <;> rfl) (by simp (disch := first | assumption | omega | (simp only [nx] <;> omega) | fail) only [aLoad, ty5, rowOf, hpl, hc, and_self, if_true, Int.toNat_natCast, hg1, Nat.mul_one, Nat.zero_add, Nat.add_zero, f0, f0', f1, hov1, hco, hbo, hpm, Value.cells, places, ty29, ty3, ty4, ty42, ty48, ty5, ty50, ty51, ty52, ty53] <;> rfl)) rfl <|
                      OSuf.aop tyOK rfl (so_bin (by simp only [lk] <;> rfl) (by simp only [lk] <;> rfl) (bi_w (bi_rem (by decide)) (by first | (simp only [e1, w3, w4, w5, e2, v2] <;> rfl) | rfl))) rfl <|
                      OSuf.aop tyOK rfl (so_conw (so_conv tyOK (by simp only [lk] <;> rfl) ty5 ⟨_, rfl⟩ ty29 rfl) (by first | (simp only [e1, w3, w4, w5, e2, v2] <;> rfl) | rfl)) rfl <|
                      OSuf.aop tyOK rfl (so_bin (by simp only [lk] <;> rfl) (by simp only [lk] <;> rfl) (bi_w bi_add (by first | (simp only [e1, w3, w4, w5, e2, v2] <;> rfl) | rfl))) rfl <|
                      OSuf.aop tyOK rfl (so_assign (by simp only [lk] <;> rfl)) rfl <|
                      OSuf.nil <| SQ.normal ?_
                  refine W.seq <| W.reg <| 
                      OSuf.aop tyOK rfl (so_move (by simp only [lk] <;> rfl)) rfl <|
                      OSuf.aop tyOK rfl (so_move (by simp only [lk] <;> rfl)) rfl <|
                      OSuf.aop tyOK rfl (so_indexAddr (by simp only [lk] <;> rfl) (by simp only [lk] <;> rfl) (by simp (disch := first | assumption | omega | (simp only [nx] <;> omega) | fail) only [aIndexAddr, ty42, ty48, hpl, hc, and_self, if_true, Int.toNat_natCast, hg1, Nat.mul_one, Nat.zero_add, Nat.add_zero, f0, f0', f1, hov1, hco, hbo, hpm, Value.cells, places, ty29, ty3, ty4, ty42, ty48, ty5, ty50, ty51, ty52, ty53] <;> rfl)) rfl <|
                      OSuf.aop tyOK rfl (so_fieldAddr (by simp only [lk] <;> rfl) (fa_ok (k := 1) ty48 rfl rfl ty5 rfl rfl)) rfl <|
                      OSuf.aop tyOK rfl (so_load (by simp only [lk] <;> rfl) (by simp (disch := first | assumption | omega | (simp only [nx] <;> omega) | fail) only [aLoad, ty5, rowOf, hpl, hc, and_self, if_true, Int.toNat_natCast, hg1, Nat.mul_one, Nat.zero_add, Nat.add_zero, f0, f0', f1, hov1, hco, hbo, hpm, Value.cells, places, ty29, ty3, ty4, ty42, ty48, ty5, ty50, ty51, ty52, ty53] <;> rfl)) rfl <|
                      OSuf.aop tyOK rfl (so_conw (so_conv tyOK (by simp only [lk] <;> rfl) ty5 ⟨_, rfl⟩ ty29 rfl) (by first | (simp only [e1, w3, w4, w5, e2, v2] <;> rfl) | rfl)) rfl <|
                      OSuf.aop tyOK rfl (so_move (by simp only [lk] <;> rfl)) rfl <|
                      OSuf.aop tyOK rfl (so_bin (by simp only [lk] <;> rfl) (by simp only [lk] <;> rfl) (bi_w (bi_rem hnz) (by first | (simp only [e1, w3, w4, w5, e2, v2] <;> rfl) | rfl))) rfl <|
                      OSuf.aop tyOK rfl (so_assign (by simp only [lk] <;> rfl)) rfl <|
                      OSuf.nil <| SQ.normal ?_
                  refine W.seq <| W.reg <| 
                      OSuf.aop tyOK rfl (so_move (by simp only [lk] <;> rfl)) rfl <|
                      OSuf.aop tyOK rfl (so_move (by simp only [lk] <;> rfl)) rfl <|
                      OSuf.aopT tyOK rfl (so_bin (by simp only [lk] <;> rfl) (by simp only [lk] <;> rfl) bi_eql) (fun _ => rfl) (by first | rfl | assumption | ((simp only [bl, hc, and_self, if_true, Int.toNat_natCast, hg1, Nat.mul_one, Nat.zero_add, Nat.add_zero, f0, f0', f1, hov1, hco, hbo, hpm, Value.cells, places, ty29, ty3, ty4, ty42, ty48, ty5, ty50, ty51, ty52, ty53]) <;> first | done | assumption | omega) | (simp [hc, and_self, if_true, Int.toNat_natCast, hg1, Nat.mul_one, Nat.zero_add, Nat.add_zero, f0, f0', f1, hov1, hco, hbo, hpm, Value.cells, places, ty29, ty3, ty4, ty42, ty48, ty5, ty50, ty51, ty52, ty53]; done) | (simp [hc, and_self, if_true, Int.toNat_natCast, hg1, Nat.mul_one, Nat.zero_add, Nat.add_zero, f0, f0', f1, hov1, hco, hbo, hpm, Value.cells, places, ty29, ty3, ty4, ty42, ty48, ty5, ty50, ty51, ty52, ty53]; omega)) <|
                      OSuf.aopT tyOK rfl (so_move (by simp only [lk] <;> rfl)) (fun _ => rfl) rfl <|
                      OSuf.aop tyOK (aguard_of rfl rfl (by simp only [lk] <;> rfl) rfl) (so_move (by simp only [lk] <;> rfl)) rfl <|
                      OSuf.aop tyOK (aguard_of rfl rfl (by simp only [lk] <;> rfl) rfl) (so_indexAddr (by simp only [lk] <;> rfl) (by simp only [lk] <;> rfl) (by simp (disch := first | assumption | omega | (simp only [nx] <;> omega) | fail) only [aIndexAddr, ty51, ty4, hpl, hc, and_self, if_true, Int.toNat_natCast, hg1, Nat.mul_one, Nat.zero_add, Nat.add_zero, f0, f0', f1, hov1, hco, hbo, hpm, Value.cells, places, ty29, ty3, ty4, ty42, ty48, ty5, ty50, ty51, ty52, ty53] <;> rfl)) rfl <|
                      OSuf.aopF tyOK (aguard_of rfl rfl (by simp only [lk] <;> rfl) rfl) (so_load (by simp only [lk] <;> rfl) (by simp (disch := first | assumption | omega | (simp only [nx] <;> omega) | fail) only [aLoad, ty4, rowOf, hpl, hc, and_self, if_true, Int.toNat_natCast, hg1, Nat.mul_one, Nat.zero_add, Nat.add_zero, f0, f0', f1, hov1, hco, hbo, hpm, Value.cells, places, ty29, ty3, ty4, ty42, ty48, ty5, ty50, ty51, ty52, ty53] <;> rfl)) (fun _ => rfl) (hobv) <|
                      OSuf.aopT tyOK (aguard_of rfl rfl (by simp only [lk] <;> rfl) rfl) (so_not (by simp only [lk] <;> rfl)) (fun _ => rfl) rfl <|
                      OSuf.aopT tyOK rfl (so_pick (by simp only [lk] <;> rfl) (by simp only [lk, cond_true, cond_false] <;> rfl)) (fun _ => rfl) rfl <|
                      OSuf.nil <| SQ.normal ?_
                  refine W.yes (by simp only [lk] <;> rfl) <| W.seq <| W.reg <| 
                      OSuf.aopF tyOK rfl (so_assign (by simp only [lk] <;> rfl)) (fun _ => rfl) rfl <|
                      OSuf.nil <| SQ.normal ?_
                  refine W.reg <| 
                      OSuf.aop tyOK rfl (so_move (by simp only [lk] <;> rfl)) rfl <|
                      OSuf.aop tyOK rfl (so_move (by simp only [lk] <;> rfl)) rfl <|
                      OSuf.aop tyOK rfl (so_move (by simp only [lk] <;> rfl)) rfl <|
                      OSuf.aop tyOK rfl (so_build (by simp only [aparts, lk] <;> rfl) (by simp (disch := first | assumption | omega | (simp only [nx] <;> omega) | fail) only [aBuild, ty53, hpl, hc, and_self, if_true, Int.toNat_natCast, hg1, Nat.mul_one, Nat.zero_add, Nat.add_zero, f0, f0', f1, hov1, hco, hbo, hpm, Value.cells, places, ty29, ty3, ty4, ty42, ty48, ty5, ty50, ty51, ty52, ty53] <;> rfl)) rfl <|
                      OSuf.aop tyOK rfl (so_mapUpdate (by simp only [lk] <;> rfl) (by simp only [lk] <;> rfl) (by simp only [lk] <;> rfl) (ku_old keyA (a := ((t1 : Int), (o : Int))) ty52 rfl (by simp (disch := first | assumption | omega | (simp only [nx] <;> omega) | fail) only [aCells, rowOf, hpl, hc, and_self, if_true, Int.toNat_natCast, hg1, Nat.mul_one, Nat.zero_add, Nat.add_zero, f0, f0', f1, hov1, hco, hbo, hpm, Value.cells, places, ty29, ty3, ty4, ty42, ty48, ty5, ty50, ty51, ty52, ty53] <;> rfl) hi q2)) rfl <|
                      OSuf.nil <| BQ.normal <| SQ.normal ?_
                  refine W.reg <| 
                      OSuf.aop tyOK rfl (so_move (by simp only [lk] <;> rfl)) rfl <|
                      OSuf.aop tyOK rfl (so_bin (by simp only [lk] <;> rfl) (by simp only [lk] <;> rfl) (bi_w bi_add (by first | (simp only [e1, w3, w4, w5, e2, v2] <;> rfl) | rfl))) rfl <|
                      OSuf.aop tyOK rfl (so_assign (by simp only [lk] <;> rfl)) rfl <|
                      OSuf.nil <| ?_
                  -- leaf: round
                  have km : (PL.set j (((t1 : Int), (o : Int)), .bool true, bb)).map (·.1) = PL.map (·.1) := by
                    rw [List.map_set]; exact List.ext_getElem? fun i => by
                      have jl := (List.getElem?_eq_some_iff.1 q2).1
                      rw [List.getElem?_set]; split
                      · rename_i e; subst e; split
                        · simp [q2]
                        · rename_i h9; simp at h9; omega
                      · rfl
                  refine LQ.normal (m := n - 1) (L := [(0, .slice (some ⟨r, 0, none⟩) l.length 0), (5, P0 (h0.next + 1)), (6, P0 h1.next), (8, .map (some h2.next)), (9, U64 t), (10, .bool false), (11, I64 (i + 1 : Nat))]) (by omega) ?_ ⟨i + 1, PL.set j (((t1 : Int), (o : Int)), .bool true, bb), cl, by omega, by omega, fin _ (by rw [km]; exact hW.keys) ?_, by simp only [nx]; exact hnx, by simp (disch := first | assumption | omega | (simp only [nx] <;> omega) | fail) only [hpl], fun z hz => ?_, by rw [hadd]⟩
                  · simp only [HasA, Tr.get_put, Nat.reduceEqDiff, reduceIte, v2, and_self]
                  · intro k; rw [km, hkx]
                    exact ⟨.inl, fun h => h.elim id fun h => h ▸ List.mem_map.2 ⟨_, List.mem_of_getElem? q2, rfl⟩⟩
                  · have : ¬ h2.next = z := by omega
                    simp (disch := first | assumption | omega | (simp only [nx] <;> omega) | fail) only [hpl]; exact hz2 z hz
              · have hsk : ¬ (lts x = (t : Int) ∧ ovAt ov (lon x) = false) := fun h => by rw [hoa, hobv] at h; cases h.2
                refine W.seq <| W.seq <| W.reg <| 
                    OSuf.aop tyOK rfl (so_move (by simp only [lk] <;> rfl)) rfl <|
                    OSuf.aop tyOK rfl (so_move (by simp only [lk] <;> rfl)) rfl <|
                    OSuf.aop tyOK rfl (so_len (by simp only [aopnds, lk] <;> rfl) (by simp (disch := first | assumption | omega | (simp only [nx] <;> omega) | fail) only [aLenOf, ty42, hpl, hc, and_self, if_true, Int.toNat_natCast, hg1, Nat.mul_one, Nat.zero_add, Nat.add_zero, f0, f0', f1, hov1, hco, hbo, Value.cells, places, ty29, ty3, ty4, ty42, ty48, ty5, ty50, ty51, ty52, ty53] <;> rfl)) rfl <|
                    OSuf.aopT tyOK rfl (so_bin (by simp only [lk] <;> rfl) (by simp only [lk] <;> rfl) bi_lss) (fun _ => rfl) (by first | rfl | assumption | ((simp only [bl, hc, and_self, if_true, Int.toNat_natCast, hg1, Nat.mul_one, Nat.zero_add, Nat.add_zero, f0, f0', f1, hov1, hco, hbo, Value.cells, places, ty29, ty3, ty4, ty42, ty48, ty5, ty50, ty51, ty52, ty53]) <;> first | done | assumption | omega) | (simp [hc, and_self, if_true, Int.toNat_natCast, hg1, Nat.mul_one, Nat.zero_add, Nat.add_zero, f0, f0', f1, hov1, hco, hbo, Value.cells, places, ty29, ty3, ty4, ty42, ty48, ty5, ty50, ty51, ty52, ty53]; done) | (simp [hc, and_self, if_true, Int.toNat_natCast, hg1, Nat.mul_one, Nat.zero_add, Nat.add_zero, f0, f0', f1, hov1, hco, hbo, Value.cells, places, ty29, ty3, ty4, ty42, ty48, ty5, ty50, ty51, ty52, ty53]; omega)) <|
                    OSuf.aopT tyOK rfl (so_move (by simp only [lk] <;> rfl)) (fun _ => rfl) rfl <|
                    OSuf.aop tyOK (aguard_of rfl rfl (by simp only [lk] <;> rfl) rfl) (so_move (by simp only [lk] <;> rfl)) rfl <|
                    OSuf.aopT tyOK (aguard_of rfl rfl (by simp only [lk] <;> rfl) rfl) (so_bin (by simp only [lk] <;> rfl) (by simp only [lk] <;> rfl) bi_lss) (fun _ => rfl) (by first | rfl | assumption | ((simp only [bl, hc, and_self, if_true, Int.toNat_natCast, hg1, Nat.mul_one, Nat.zero_add, Nat.add_zero, f0, f0', f1, hov1, hco, hbo, Value.cells, places, ty29, ty3, ty4, ty42, ty48, ty5, ty50, ty51, ty52, ty53]) <;> first | done | assumption | omega) | (simp [hc, and_self, if_true, Int.toNat_natCast, hg1, Nat.mul_one, Nat.zero_add, Nat.add_zero, f0, f0', f1, hov1, hco, hbo, Value.cells, places, ty29, ty3, ty4, ty42, ty48, ty5, ty50, ty51, ty52, ty53]; done) | (simp [hc, and_self, if_true, Int.toNat_natCast, hg1, Nat.mul_one, Nat.zero_add, Nat.add_zero, f0, f0', f1, hov1, hco, hbo, Value.cells, places, ty29, ty3, ty4, ty42, ty48, ty5, ty50, ty51, ty52, ty53]; omega)) <|
                    OSuf.aopT tyOK rfl (so_pick (by simp only [lk] <;> rfl) (by simp only [lk, cond_true, cond_false] <;> rfl)) (fun _ => rfl) rfl <|
                    OSuf.nil <| SQ.normal ?_
                refine W.yes (by simp only [lk] <;> rfl) <| CWp.skip <| SQ.normal ?_
                refine W.seq <| W.block <| W.seq <| W.reg <| 
                    OSuf.aop tyOK rfl (so_move (by simp only [lk] <;> rfl)) rfl <|
                    OSuf.aop tyOK rfl (so_move (by simp only [lk] <;> rfl)) rfl <|
                    OSuf.aop tyOK rfl (so_indexAddr (by simp only [lk] <;> rfl) (by simp only [lk] <;> rfl) (by simp (disch := first | assumption | omega | (simp only [nx] <;> omega) | fail) only [aIndexAddr, ty42, ty48, hpl, hc, and_self, if_true, Int.toNat_natCast, hg1, Nat.mul_one, Nat.zero_add, Nat.add_zero, f0, f0', f1, hov1, hco, hbo, Value.cells, places, ty29, ty3, ty4, ty42, ty48, ty5, ty50, ty51, ty52, ty53] <;> rfl)) rfl <|
                    OSuf.aop tyOK rfl (so_fieldAddr (by simp only [lk] <;> rfl) (fa_ok (k := 0) ty48 rfl rfl ty5 rfl rfl)) rfl <|
                    OSuf.aop tyOK rfl (so_load (by simp only [lk] <;> rfl) (by simp (disch := first | assumption | omega | (simp only [nx] <;> omega) | fail) only [aLoad, ty5, rowOf, hpl, hc, and_self, if_true, Int.toNat_natCast, hg1, Nat.mul_one, Nat.zero_add, Nat.add_zero, f0, f0', f1, hov1, hco, hbo, Value.cells, places, ty29, ty3, ty4, ty42, ty48, ty5, ty50, ty51, ty52, ty53] <;> rfl)) rfl <|
                    OSuf.aop tyOK rfl (so_bin (by simp only [lk] <;> rfl) (by simp only [lk] <;> rfl) (bi_w (bi_rem (by decide)) (by first | (simp only [e1, w3, w4, w5, e2, v2] <;> rfl) | rfl))) rfl <|
                    OSuf.aop tyOK rfl (so_conw (so_conv tyOK (by simp only [lk] <;> rfl) ty5 ⟨_, rfl⟩ ty29 rfl) (by first | (simp only [e1, w3, w4, w5, e2, v2] <;> rfl) | rfl)) rfl <|
                    OSuf.aop tyOK rfl (so_bin (by simp only [lk] <;> rfl) (by simp only [lk] <;> rfl) (bi_w bi_add (by first | (simp only [e1, w3, w4, w5, e2, v2] <;> rfl) | rfl))) rfl <|
                    OSuf.aop tyOK rfl (so_assign (by simp only [lk] <;> rfl)) rfl <|
                    OSuf.nil <| SQ.normal ?_
                refine W.seq <| W.reg <| 
                    OSuf.aop tyOK rfl (so_move (by simp only [lk] <;> rfl)) rfl <|
                    OSuf.aop tyOK rfl (so_move (by simp only [lk] <;> rfl)) rfl <|
                    OSuf.aop tyOK rfl (so_indexAddr (by simp only [lk] <;> rfl) (by simp only [lk] <;> rfl) (by simp (disch := first | assumption | omega | (simp only [nx] <;> omega) | fail) only [aIndexAddr, ty42, ty48, hpl, hc, and_self, if_true, Int.toNat_natCast, hg1, Nat.mul_one, Nat.zero_add, Nat.add_zero, f0, f0', f1, hov1, hco, hbo, Value.cells, places, ty29, ty3, ty4, ty42, ty48, ty5, ty50, ty51, ty52, ty53] <;> rfl)) rfl <|
                    OSuf.aop tyOK rfl (so_fieldAddr (by simp only [lk] <;> rfl) (fa_ok (k := 1) ty48 rfl rfl ty5 rfl rfl)) rfl <|
                    OSuf.aop tyOK rfl (so_load (by simp only [lk] <;> rfl) (by simp (disch := first | assumption | omega | (simp only [nx] <;> omega) | fail) only [aLoad, ty5, rowOf, hpl, hc, and_self, if_true, Int.toNat_natCast, hg1, Nat.mul_one, Nat.zero_add, Nat.add_zero, f0, f0', f1, hov1, hco, hbo, Value.cells, places, ty29, ty3, ty4, ty42, ty48, ty5, ty50, ty51, ty52, ty53] <;> rfl)) rfl <|
                    OSuf.aop tyOK rfl (so_conw (so_conv tyOK (by simp only [lk] <;> rfl) ty5 ⟨_, rfl⟩ ty29 rfl) (by first | (simp only [e1, w3, w4, w5, e2, v2] <;> rfl) | rfl)) rfl <|
                    OSuf.aop tyOK rfl (so_move (by simp only [lk] <;> rfl)) rfl <|
                    OSuf.aop tyOK rfl (so_bin (by simp only [lk] <;> rfl) (by simp only [lk] <;> rfl) (bi_w (bi_rem hnz) (by first | (simp only [e1, w3, w4, w5, e2, v2] <;> rfl) | rfl))) rfl <|
                    OSuf.aop tyOK rfl (so_assign (by simp only [lk] <;> rfl)) rfl <|
                    OSuf.nil <| SQ.normal ?_
                refine W.seq <| W.reg <| 
                    OSuf.aop tyOK rfl (so_move (by simp only [lk] <;> rfl)) rfl <|
                    OSuf.aop tyOK rfl (so_move (by simp only [lk] <;> rfl)) rfl <|
                    OSuf.aopT tyOK rfl (so_bin (by simp only [lk] <;> rfl) (by simp only [lk] <;> rfl) bi_eql) (fun _ => rfl) (by first | rfl | assumption | ((simp only [bl, hc, and_self, if_true, Int.toNat_natCast, hg1, Nat.mul_one, Nat.zero_add, Nat.add_zero, f0, f0', f1, hov1, hco, hbo, Value.cells, places, ty29, ty3, ty4, ty42, ty48, ty5, ty50, ty51, ty52, ty53]) <;> first | done | assumption | omega) | (simp [hc, and_self, if_true, Int.toNat_natCast, hg1, Nat.mul_one, Nat.zero_add, Nat.add_zero, f0, f0', f1, hov1, hco, hbo, Value.cells, places, ty29, ty3, ty4, ty42, ty48, ty5, ty50, ty51, ty52, ty53]; done) | (simp [hc, and_self, if_true, Int.toNat_natCast, hg1, Nat.mul_one, Nat.zero_add, Nat.add_zero, f0, f0', f1, hov1, hco, hbo, Value.cells, places, ty29, ty3, ty4, ty42, ty48, ty5, ty50, ty51, ty52, ty53]; omega)) <|
                    OSuf.aopT tyOK rfl (so_move (by simp only [lk] <;> rfl)) (fun _ => rfl) rfl <|
                    OSuf.aop tyOK (aguard_of rfl rfl (by simp only [lk] <;> rfl) rfl) (so_move (by simp only [lk] <;> rfl)) rfl <|
                    OSuf.aop tyOK (aguard_of rfl rfl (by simp only [lk] <;> rfl) rfl) (so_indexAddr (by simp only [lk] <;> rfl) (by simp only [lk] <;> rfl) (by simp (disch := first | assumption | omega | (simp only [nx] <;> omega) | fail) only [aIndexAddr, ty51, ty4, hpl, hc, and_self, if_true, Int.toNat_natCast, hg1, Nat.mul_one, Nat.zero_add, Nat.add_zero, f0, f0', f1, hov1, hco, hbo, Value.cells, places, ty29, ty3, ty4, ty42, ty48, ty5, ty50, ty51, ty52, ty53] <;> rfl)) rfl <|
                    OSuf.aopT tyOK (aguard_of rfl rfl (by simp only [lk] <;> rfl) rfl) (so_load (by simp only [lk] <;> rfl) (by simp (disch := first | assumption | omega | (simp only [nx] <;> omega) | fail) only [aLoad, ty4, rowOf, hpl, hc, and_self, if_true, Int.toNat_natCast, hg1, Nat.mul_one, Nat.zero_add, Nat.add_zero, f0, f0', f1, hov1, hco, hbo, Value.cells, places, ty29, ty3, ty4, ty42, ty48, ty5, ty50, ty51, ty52, ty53] <;> rfl)) (fun _ => rfl) (hobv) <|
                    OSuf.aopF tyOK (aguard_of rfl rfl (by simp only [lk] <;> rfl) rfl) (so_not (by simp only [lk] <;> rfl)) (fun _ => rfl) rfl <|
                    OSuf.aopF tyOK rfl (so_pick (by simp only [lk] <;> rfl) (by simp only [lk, cond_true, cond_false] <;> rfl)) (fun _ => rfl) rfl <|
                    OSuf.nil <| SQ.normal ?_
                refine W.no (by simp only [lk] <;> rfl) <| CWp.skip <| BQ.normal <| SQ.normal ?_
                refine W.reg <| 
                    OSuf.aop tyOK rfl (so_move (by simp only [lk] <;> rfl)) rfl <|
                    OSuf.aop tyOK rfl (so_bin (by simp only [lk] <;> rfl) (by simp only [lk] <;> rfl) (bi_w bi_add (by first | (simp only [e1, w3, w4, w5, e2, v2] <;> rfl) | rfl))) rfl <|
                    OSuf.aop tyOK rfl (so_assign (by simp only [lk] <;> rfl)) rfl <|
                    OSuf.nil <| ?_
                -- leaf: round
                refine LQ.normal (m := n - 1) (L := [(0, .slice (some ⟨r, 0, none⟩) l.length 0), (5, P0 (h0.next + 1)), (6, P0 h1.next), (8, .map (some h2.next)), (9, U64 t), (10, .bool (wantB ov t (l.take i))), (11, I64 (i + 1 : Nat))]) (by omega) ?_ ⟨i + 1, PL, cl, by omega, by omega, by rw [htk2]; exact hW.skip hsk, hnx, hpm, hz2, by rw [htk2, want_skip hsk]⟩
                simp only [HasA, Tr.get_put, Nat.reduceEqDiff, reduceIte, v2, and_self]
            · have hsk : ¬ (lts x = (t : Int) ∧ ovAt ov (lon x) = false) := fun h => by rw [ht1] at h; exact htt h.1
              refine W.seq <| W.seq <| W.reg <| 
                  OSuf.aop tyOK rfl (so_move (by simp only [lk] <;> rfl)) rfl <|
                  OSuf.aop tyOK rfl (so_move (by simp only [lk] <;> rfl)) rfl <|
                  OSuf.aop tyOK rfl (so_len (by simp only [aopnds, lk] <;> rfl) (by simp (disch := first | assumption | omega | (simp only [nx] <;> omega) | fail) only [aLenOf, ty42, hpl, hc, and_self, if_true, Int.toNat_natCast, hg1, Nat.mul_one, Nat.zero_add, Nat.add_zero, f0, f0', f1] <;> rfl)) rfl <|
                  OSuf.aopT tyOK rfl (so_bin (by simp only [lk] <;> rfl) (by simp only [lk] <;> rfl) bi_lss) (fun _ => rfl) (by first | rfl | assumption | ((simp only [bl, hc, and_self, if_true, Int.toNat_natCast, hg1, Nat.mul_one, Nat.zero_add, Nat.add_zero, f0, f0', f1]) <;> first | done | assumption | omega) | (simp [hc, and_self, if_true, Int.toNat_natCast, hg1, Nat.mul_one, Nat.zero_add, Nat.add_zero, f0, f0', f1]; done) | (simp [hc, and_self, if_true, Int.toNat_natCast, hg1, Nat.mul_one, Nat.zero_add, Nat.add_zero, f0, f0', f1]; omega)) <|
                  OSuf.aopT tyOK rfl (so_move (by simp only [lk] <;> rfl)) (fun _ => rfl) rfl <|
                  OSuf.aop tyOK (aguard_of rfl rfl (by simp only [lk] <;> rfl) rfl) (so_move (by simp only [lk] <;> rfl)) rfl <|
                  OSuf.aopT tyOK (aguard_of rfl rfl (by simp only [lk] <;> rfl) rfl) (so_bin (by simp only [lk] <;> rfl) (by simp only [lk] <;> rfl) bi_lss) (fun _ => rfl) (by first | rfl | assumption | ((simp only [bl, hc, and_self, if_true, Int.toNat_natCast, hg1, Nat.mul_one, Nat.zero_add, Nat.add_zero, f0, f0', f1]) <;> first | done | assumption | omega) | (simp [hc, and_self, if_true, Int.toNat_natCast, hg1, Nat.mul_one, Nat.zero_add, Nat.add_zero, f0, f0', f1]; done) | (simp [hc, and_self, if_true, Int.toNat_natCast, hg1, Nat.mul_one, Nat.zero_add, Nat.add_zero, f0, f0', f1]; omega)) <|
                  OSuf.aopT tyOK rfl (so_pick (by simp only [lk] <;> rfl) (by simp only [lk, cond_true, cond_false] <;> rfl)) (fun _ => rfl) rfl <|
                  OSuf.nil <| SQ.normal ?_
              refine W.yes (by simp only [lk] <;> rfl) <| CWp.skip <| SQ.normal ?_
              refine W.seq <| W.block <| W.seq <| W.reg <| 
                  OSuf.aop tyOK rfl (so_move (by simp only [lk] <;> rfl)) rfl <|
                  OSuf.aop tyOK rfl (so_move (by simp only [lk] <;> rfl)) rfl <|
                  OSuf.aop tyOK rfl (so_indexAddr (by simp only [lk] <;> rfl) (by simp only [lk] <;> rfl) (by simp (disch := first | assumption | omega | (simp only [nx] <;> omega) | fail) only [aIndexAddr, ty42, ty48, hpl, hc, and_self, if_true, Int.toNat_natCast, hg1, Nat.mul_one, Nat.zero_add, Nat.add_zero, f0, f0', f1] <;> rfl)) rfl <|
                  OSuf.aop tyOK rfl (so_fieldAddr (by simp only [lk] <;> rfl) (fa_ok (k := 0) ty48 rfl rfl ty5 rfl rfl)) rfl <|
                  OSuf.aop tyOK rfl (so_load (by simp only [lk] <;> rfl) (by simp (disch := first | assumption | omega | (simp only [nx] <;> omega) | fail) only [aLoad, ty5, rowOf, hpl, hc, and_self, if_true, Int.toNat_natCast, hg1, Nat.mul_one, Nat.zero_add, Nat.add_zero, f0, f0', f1] <;> rfl)) rfl <|
                  OSuf.aop tyOK rfl (so_bin (by simp only [lk] <;> rfl) (by simp only [lk] <;> rfl) (bi_w (bi_rem (by decide)) (by first | (simp only [e1, w3, w4, w5, e2, v2] <;> rfl) | rfl))) rfl <|
                  OSuf.aop tyOK rfl (so_conw (so_conv tyOK (by simp only [lk] <;> rfl) ty5 ⟨_, rfl⟩ ty29 rfl) (by first | (simp only [e1, w3, w4, w5, e2, v2] <;> rfl) | rfl)) rfl <|
                  OSuf.aop tyOK rfl (so_bin (by simp only [lk] <;> rfl) (by simp only [lk] <;> rfl) (bi_w bi_add (by first | (simp only [e1, w3, w4, w5, e2, v2] <;> rfl) | rfl))) rfl <|
                  OSuf.aop tyOK rfl (so_assign (by simp only [lk] <;> rfl)) rfl <|
                  OSuf.nil <| SQ.normal ?_
              refine W.seq <| W.reg <| 
                  OSuf.aop tyOK rfl (so_move (by simp only [lk] <;> rfl)) rfl <|
                  OSuf.aop tyOK rfl (so_move (by simp only [lk] <;> rfl)) rfl <|
                  OSuf.aop tyOK rfl (so_indexAddr (by simp only [lk] <;> rfl) (by simp only [lk] <;> rfl) (by simp (disch := first | assumption | omega | (simp only [nx] <;> omega) | fail) only [aIndexAddr, ty42, ty48, hpl, hc, and_self, if_true, Int.toNat_natCast, hg1, Nat.mul_one, Nat.zero_add, Nat.add_zero, f0, f0', f1] <;> rfl)) rfl <|
                  OSuf.aop tyOK rfl (so_fieldAddr (by simp only [lk] <;> rfl) (fa_ok (k := 1) ty48 rfl rfl ty5 rfl rfl)) rfl <|
                  OSuf.aop tyOK rfl (so_load (by simp only [lk] <;> rfl) (by simp (disch := first | assumption | omega | (simp only [nx] <;> omega) | fail) only [aLoad, ty5, rowOf, hpl, hc, and_self, if_true, Int.toNat_natCast, hg1, Nat.mul_one, Nat.zero_add, Nat.add_zero, f0, f0', f1] <;> rfl)) rfl <|
                  OSuf.aop tyOK rfl (so_conw (so_conv tyOK (by simp only [lk] <;> rfl) ty5 ⟨_, rfl⟩ ty29 rfl) (by first | (simp only [e1, w3, w4, w5, e2, v2] <;> rfl) | rfl)) rfl <|
                  OSuf.aop tyOK rfl (so_move (by simp only [lk] <;> rfl)) rfl <|
                  OSuf.aop tyOK rfl (so_bin (by simp only [lk] <;> rfl) (by simp only [lk] <;> rfl) (bi_w (bi_rem hnz) (by first | (simp only [e1, w3, w4, w5, e2, v2] <;> rfl) | rfl))) rfl <|
                  OSuf.aop tyOK rfl (so_assign (by simp only [lk] <;> rfl)) rfl <|
                  OSuf.nil <| SQ.normal ?_
              refine W.seq <| W.reg <| 
                  OSuf.aop tyOK rfl (so_move (by simp only [lk] <;> rfl)) rfl <|
                  OSuf.aop tyOK rfl (so_move (by simp only [lk] <;> rfl)) rfl <|
                  OSuf.aopF tyOK rfl (so_bin (by simp only [lk] <;> rfl) (by simp only [lk] <;> rfl) bi_eql) (fun _ => rfl) (by first | rfl | assumption | ((simp only [bl, hc, and_self, if_true, Int.toNat_natCast, hg1, Nat.mul_one, Nat.zero_add, Nat.add_zero, f0, f0', f1]) <;> first | done | assumption | omega) | (simp [hc, and_self, if_true, Int.toNat_natCast, hg1, Nat.mul_one, Nat.zero_add, Nat.add_zero, f0, f0', f1]; done) | (simp [hc, and_self, if_true, Int.toNat_natCast, hg1, Nat.mul_one, Nat.zero_add, Nat.add_zero, f0, f0', f1]; omega)) <|
                  OSuf.aopF tyOK rfl (so_move (by simp only [lk] <;> rfl)) (fun _ => rfl) rfl <|
                  OSuf.pass (aguard_of rfl rfl (by simp only [lk] <;> rfl) rfl) rfl <|
                  OSuf.pass (aguard_of rfl rfl (by simp only [lk] <;> rfl) rfl) rfl <|
                  OSuf.pass (aguard_of rfl rfl (by simp only [lk] <;> rfl) rfl) rfl <|
                  OSuf.pass (aguard_of rfl rfl (by simp only [lk] <;> rfl) rfl) rfl <|
                  OSuf.aopF tyOK rfl (so_pick (by simp only [lk] <;> rfl) (by simp only [lk, cond_true, cond_false] <;> rfl)) (fun _ => rfl) rfl <|
                  OSuf.nil <| SQ.normal ?_
              refine W.no (by simp only [lk] <;> rfl) <| CWp.skip <| BQ.normal <| SQ.normal ?_
              refine W.reg <| 
                  OSuf.aop tyOK rfl (so_move (by simp only [lk] <;> rfl)) rfl <|
                  OSuf.aop tyOK rfl (so_bin (by simp only [lk] <;> rfl) (by simp only [lk] <;> rfl) (bi_w bi_add (by first | (simp only [e1, w3, w4, w5, e2, v2] <;> rfl) | rfl))) rfl <|
                  OSuf.aop tyOK rfl (so_assign (by simp only [lk] <;> rfl)) rfl <|
                  OSuf.nil <| ?_
              -- leaf: round
              refine LQ.normal (m := n - 1) (L := [(0, .slice (some ⟨r, 0, none⟩) l.length 0), (5, P0 (h0.next + 1)), (6, P0 h1.next), (8, .map (some h2.next)), (9, U64 t), (10, .bool (wantB ov t (l.take i))), (11, I64 (i + 1 : Nat))]) (by omega) ?_ ⟨i + 1, PL, cl, by omega, by omega, by rw [htk2]; exact hW.skip hsk, hnx, hpm, hz2, by rw [htk2, want_skip hsk]⟩
              simp only [HasA, Tr.get_put, Nat.reduceEqDiff, reduceIte, v2, and_self]
          · have : i = 100 := by omega
            subst this
            refine W.seq <| W.seq <| W.reg <| 
                OSuf.aop tyOK rfl (so_move (by simp only [lk] <;> rfl)) rfl <|
                OSuf.aop tyOK rfl (so_move (by simp only [lk] <;> rfl)) rfl <|
                OSuf.aop tyOK rfl (so_len (by simp only [aopnds, lk] <;> rfl) (by simp (disch := first | assumption | omega | (simp only [nx] <;> omega) | fail) only [aLenOf, ty42, hpl] <;> rfl)) rfl <|
                OSuf.aopT tyOK rfl (so_bin (by simp only [lk] <;> rfl) (by simp only [lk] <;> rfl) bi_lss) (fun _ => rfl) (by first | rfl | assumption | ((simp only [bl]) <;> first | done | assumption | omega) | (simp []; done) | (simp []; omega)) <|
                OSuf.aopT tyOK rfl (so_move (by simp only [lk] <;> rfl)) (fun _ => rfl) rfl <|
                OSuf.aop tyOK (aguard_of rfl rfl (by simp only [lk] <;> rfl) rfl) (so_move (by simp only [lk] <;> rfl)) rfl <|
                OSuf.aopF tyOK (aguard_of rfl rfl (by simp only [lk] <;> rfl) rfl) (so_bin (by simp only [lk] <;> rfl) (by simp only [lk] <;> rfl) bi_lss) (fun _ => rfl) (by first | rfl | assumption | ((simp only [bl]) <;> first | done | assumption | omega) | (simp []; done) | (simp []; omega)) <|
                OSuf.aopF tyOK rfl (so_pick (by simp only [lk] <;> rfl) (by simp only [lk, cond_true, cond_false] <;> rfl)) (fun _ => rfl) rfl <|
                OSuf.nil <| SQ.normal ?_
            refine W.no (by simp only [lk] <;> rfl) <| CWp.exit <| SQ.exit <| LQ.exit <| BQ.exit <| ?_
            -- leaf: cut
            refine NQ.normal (L := [(0, .slice b l.length 0), (5, P0 (h0.next + 1)), (6, P0 h1.next), (8, .map (some h2.next)), (9, U64 t), (10, .bool (wantB ov t (l.take 100)))]) ?_ ⟨PL, cl, hW, hnx, hpm, hz2, rfl⟩
            simp only [HasA, Tr.get_put, Nat.reduceEqDiff, reduceIte, and_self]
        · refine W.seq <| W.seq <| W.reg <| 
              OSuf.aop tyOK rfl (so_move (by simp only [lk] <;> rfl)) rfl <|
              OSuf.aop tyOK rfl (so_move (by simp only [lk] <;> rfl)) rfl <|
              OSuf.aop tyOK rfl (so_len (by simp only [aopnds, lk] <;> rfl) (by simp (disch := first | assumption | omega | (simp only [nx] <;> omega) | fail) only [aLenOf, ty42, hpl] <;> rfl)) rfl <|
              OSuf.aopF tyOK rfl (so_bin (by simp only [lk] <;> rfl) (by simp only [lk] <;> rfl) bi_lss) (fun _ => rfl) (by first | rfl | assumption | ((simp only [bl]) <;> first | done | assumption | omega) | (simp []; done) | (simp []; omega)) <|
              OSuf.aopF tyOK rfl (so_move (by simp only [lk] <;> rfl)) (fun _ => rfl) rfl <|
              OSuf.pass (aguard_of rfl rfl (by simp only [lk] <;> rfl) rfl) rfl <|
              OSuf.pass (aguard_of rfl rfl (by simp only [lk] <;> rfl) rfl) rfl <|
              OSuf.aopF tyOK rfl (so_pick (by simp only [lk] <;> rfl) (by simp only [lk, cond_true, cond_false] <;> rfl)) (fun _ => rfl) rfl <|
              OSuf.nil <| SQ.normal ?_
          refine W.no (by simp only [lk] <;> rfl) <| CWp.exit <| SQ.exit <| LQ.exit <| BQ.exit <| ?_
          -- leaf: cut
          have e : l.take i = l.take 100 := by rw [List.take_of_length_le (by omega), List.take_of_length_le (by omega)]
          rw [e] at hW
          refine NQ.normal (L := [(0, .slice b l.length 0), (5, P0 (h0.next + 1)), (6, P0 h1.next), (8, .map (some h2.next)), (9, U64 t), (10, .bool (wantB ov t (l.take 100)))]) ?_ ⟨PL, cl, hW, hnx, hpm, hz2, rfl⟩
          simp only [HasA, Tr.get_put, Nat.reduceEqDiff, reduceIte, and_self, e]
      clear hW hnx hpm hz2
      rintro L a' h ha ⟨PL, cl, hW, hnx, hpm, hz2, rfl⟩
      have hwr := want_ready (ov := ov) (t := (t : Int)) hP
      have hrd := ready_c h (h0.next + 1) S (keepA h (by omega) hz2) t
      rw [hps, hwr] at hrd
      refine SQ.normal <| CWp.known ha ?_
      simp only [mkA]
      refine W.seq <| W.reg <| 
          OSuf.aop tyOK rfl (so_move (by simp only [lk] <;> rfl)) rfl <|
          OSuf.aop tyOK rfl (so_move (by simp only [lk] <;> rfl)) rfl <|
          OSuf.callD rfl (by simp only [aopnds, lk] <;> rfl) en20 (hrd) rfl <|
          OSuf.aop tyOK rfl (so_move (by simp only [lk] <;> rfl)) rfl <|
          OSuf.aopF tyOK rfl (so_bin (by simp only [lk] <;> rfl) (by simp only [lk] <;> rfl) (bb_neq tyOK ty4 rfl)) (fun _ => rfl) (by simp) <|
          OSuf.nil <| SQ.normal ?_
      refine W.no (by simp only [lk] <;> rfl) <| CWp.skip <| BQ.normal <| SQ.normal ?_
      refine W.reg <| 
          OSuf.aop tyOK rfl (so_move (by simp only [lk] <;> rfl)) rfl <|
          OSuf.aop tyOK rfl (so_bin (by simp only [lk] <;> rfl) (by simp only [lk] <;> rfl) (bi_w bi_add (by first | (simp only [w2] <;> rfl) | rfl))) rfl <|
          OSuf.aop tyOK rfl (so_assign (by simp only [lk] <;> rfl)) rfl <|
          OSuf.nil <| ?_
      -- leaf: round
      refine LQ.normal (m := n - 1) (L := [(0, .slice b l.length 0), (5, P0 (h0.next + 1)), (6, P0 h1.next), (8, .map (some h2.next)), (9, U64 (t + 1 : Nat))]) (by omega) ?_ ⟨t + 1, PL, cl, by omega, ⟨hW.keys, hW.sound, fun x hx ho hh => hW.comp x hx ho ?_⟩, hnx, hpm, hz2, rfl⟩
      · simp only [HasA, Tr.get_put, Nat.reduceEqDiff, reduceIte, w2, and_self]
      · rcases hh with hh | ⟨_, hh⟩
        · by_cases e : lts x = (t : Int)
          · exact .inr ⟨e, hx⟩
          · exact .inl (by omega)
        · cases hh
    · refine W.seq <| W.seq <| W.reg <| 
          OSuf.aop tyOK rfl (so_move (by simp only [lk] <;> rfl)) rfl <|
          OSuf.aopF tyOK rfl (so_bin (by simp only [lk] <;> rfl) (by simp only [lk] <;> rfl) bi_leq) (fun _ => rfl) (by first | rfl | assumption | ((simp only [bl]) <;> first | done | assumption | omega) | (simp []; done) | (simp []; omega)) <|
          OSuf.nil <| SQ.normal ?_
      refine W.no (by simp only [lk] <;> rfl) <| CWp.exit <| SQ.exit <| LQ.exit <| BQ.exit <| ?_
      -- leaf: cut
      have : t = 41 := by omega
      subst this
      refine NQ.normal (L := [(5, P0 (h0.next + 1)), (8, .map (some h2.next))]) ?_ ⟨PL, cl, hW, hnx, hpm, hz2, rfl⟩
      simp only [HasA, Tr.get_put, Nat.reduceEqDiff, reduceIte, and_self]
  rintro L a' h ha ⟨PL, cl, hW, hnx, hpm, hz2, rfl⟩
  have hle := hW.len hP hky fun x hx => by have := lk_range (hl.ok x (hl100 x hx)); omega
  rw [← hps] at hle
  refine SQ.normal <| CWp.known ha ?_
  simp only [mkA]
  refine W.seq <| W.reg <| 
      OSuf.aop tyOK rfl (so_move (by simp only [lk] <;> rfl)) rfl <|
      OSuf.callD rfl (by simp only [aopnds, lk] <;> rfl) en18 (len_c _ (h0.next + 1) S (keepA h (by omega) hz2)) rfl <|
      OSuf.aop tyOK rfl (so_move (by simp only [lk] <;> rfl)) rfl <|
      OSuf.aop tyOK rfl (so_len (by simp only [aopnds, lk] <;> rfl) (by simp (disch := first | assumption | omega | (simp only [nx] <;> omega) | fail) only [aLenOf, ty52, hpl, hpm] <;> rfl)) rfl <|
      OSuf.aop tyOK rfl (so_bin (by simp only [lk] <;> rfl) (by simp only [lk] <;> rfl) bi_eql) rfl <|
      OSuf.aop tyOK rfl (so_assign (by simp only [lk] <;> rfl)) rfl <|
      OSuf.nil <| SQ.normal ?_
  refine CWp.ret <| FQ.ret (by simp only [aRet, Try.f6, aResults, aResult, lk, Nat.reduceEqDiff, reduceIte] <;> rfl) ?_
  -- leaf: end
  simp [mkK, hle]
end Go.Proofs.Ytfbfihfmlenklaa
