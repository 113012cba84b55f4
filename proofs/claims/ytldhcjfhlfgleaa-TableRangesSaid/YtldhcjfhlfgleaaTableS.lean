/-
  Two tables side by side; texts that are alike; the law TableSlices, walked.
-/
import Derived.Test.YtldhcjfhlfgleaaTableN
import Derived.Test.YtldhcjfhlfgleaaAb38
import Derived.Test.YtldhcjfhlfgleaaTableK
namespace Go.Proofs.Ytldhcjfhlfgleaa
open Go.Ab
set_option linter.unusedSimpArgs false
set_option linter.unusedVariables false
set_option maxRecDepth 10000
set_option maxHeartbeats 8000000

theorem row_of {h : AHeap} {r : Nat} {fl : Int} {M : TM} (hA : TA h r fl M) {z : Nat} (hz : z ∈ M.rows) : z < h.next ∧ ∃ w, h.get z = some (.cells w 1) := by
  rcases List.mem_cons.1 hz with rfl | hz
  · exact ⟨hA.slt, _, hA.srow⟩
  · obtain ⟨l, hl, rfl⟩ := List.mem_map.1 hz
    obtain ⟨c, hc, hm⟩ := List.mem_flatten.1 hl
    obtain ⟨pre, post, rfl⟩ := List.append_of_mem hm
    exact ⟨(hA.chn _ hc).lt l hm, _, chn_full (hA.chn _ hc)⟩
structure SS (h0 h : AHeap) (r1 r2 : Nat) (fl1 fl2 : Int) (M1 M2 : TM) (A1 A2 : List Rec) : Prop where
  t1 : TB h r1 fl1 M1 A1
  t2 : TB h r2 fl2 M2 A2
  ne : ¬ r1 = r2
  d1 : r1 ∉ M2.rows
  d2 : r2 ∉ M1.rows
  dd : ∀ z ∈ M1.rows, z ∉ M2.rows
  n1 : h0.next ≤ r1 ∧ ∀ z ∈ M1.rows, h0.next ≤ z
  n2 : h0.next ≤ r2 ∧ ∀ z ∈ M2.rows, h0.next ≤ z
  old : ∀ z, z < h0.next → h.get z = h0.get z
  next : h0.next ≤ h.next
theorem SS.symm {h0 h : AHeap} {r1 r2 : Nat} {fl1 fl2 : Int} {M1 M2 : TM} {A1 A2 : List Rec} (S : SS h0 h r1 r2 fl1 fl2 M1 M2 A1 A2) : SS h0 h r2 r1 fl2 fl1 M2 M1 A2 A1 :=
  ⟨S.t2, S.t1, fun e => S.ne e.symm, S.d2, S.d1, fun z hz h9 => S.dd z h9 hz, S.n2, S.n1, S.old, S.next⟩
theorem SS.garb {h0 h h' : AHeap} {r1 r2 : Nat} {fl1 fl2 : Int} {M1 M2 : TM} {A1 A2 : List Rec} (S : SS h0 h r1 r2 fl1 fl2 M1 M2 A1 A2) (hn : h.next ≤ h'.next) (hk : ∀ z, z < h.next → h'.get z = h.get z) : SS h0 h' r1 r2 fl1 fl2 M1 M2 A1 A2 :=
  ⟨S.t1.mono hn hk, S.t2.mono hn hk, S.ne, S.d1, S.d2, S.dd, S.n1, S.n2, fun z hz => by rw [hk z (Nat.lt_of_lt_of_le hz S.next)]; exact S.old z hz, Nat.le_trans S.next hn⟩
/-- The first table changes. -/
theorem SS.op1 {h0 h h' : AHeap} {r1 r2 : Nat} {fl1 fl1' fl2 : Int} {M1 M1' M2 : TM} {A1 A1' A2 : List Rec} (S : SS h0 h r1 r2 fl1 fl2 M1 M2 A1 A2) (t : TB h' r1 fl1' M1' A1') (f : FrT h h' r1 M1 M1') : SS h0 h' r1 r2 fl1' fl2 M1' M2 A1' A2 := by
  have l2 := S.t2.ta.lt
  have hnx := S.next
  have rl : ∀ z ∈ M2.rows, z < h.next := fun z hz => (row_of S.t2.ta hz).1
  have keep2 : TB h' r2 fl2 M2 A2 := by
    refine ⟨S.t2.ta.keep f.next (f.old r2 l2 (fun e => S.ne e.symm) S.d2) (fun z hz => f.old z (rl z hz) (fun e => S.d1 (by rw [← e]; exact hz)) (fun h9 => S.dd z h9 hz)) (fun y w hy hg => f.old y hy (fun e => ?_) (fun h9 => ?_)), S.t2.perm⟩
    · rw [e, S.t1.ta.row] at hg; simp at hg
    · obtain ⟨_, w', hw'⟩ := row_of S.t1.ta h9
      rw [hw'] at hg; simp at hg
  refine ⟨t, keep2, S.ne, S.d1, fun h9 => ?_, fun z hz h9 => ?_, ⟨S.n1.1, fun z hz => ?_⟩, S.n2, fun z hz => ?_, Nat.le_trans hnx f.next⟩
  · rcases f.rows r2 h9 with h8 | h8
    · exact S.d2 h8
    · omega
  · rcases f.rows z hz with h8 | h8
    · exact S.dd z h8 h9
    · have := rl z h9; omega
  · rcases f.rows z hz with h8 | h8
    · exact S.n1.2 z h8
    · omega
  · rw [f.old z (by omega) (by have := S.n1.1; omega) (fun h9 => by have := S.n1.2 z h9; omega)]; exact S.old z hz
theorem SS.op2 {h0 h h' : AHeap} {r1 r2 : Nat} {fl1 fl2 fl2' : Int} {M1 M2 M2' : TM} {A1 A2 A2' : List Rec} (S : SS h0 h r1 r2 fl1 fl2 M1 M2 A1 A2) (t : TB h' r2 fl2' M2' A2') (f : FrT h h' r2 M2 M2') : SS h0 h' r1 r2 fl1 fl2' M1 M2' A1 A2' := (S.symm.op1 t f).symm

/-! Lists of strings. -/
structure StrB (h : AHeap) (G : List (List UInt8)) (b : Option Addr) : Prop where
  at_ : ∀ i, i < G.length → ∃ y, b = some ⟨y, 0, none⟩ ∧ y < h.next ∧ h.get y = some (.cells (encL G) 1)
theorem texts_c (h : AHeap) (G G' : List (List UInt8)) (b b' : Option Addr) (c c' : Nat) (hb : StrB h G b) (hb' : StrB h G' b') (hl : G.length ≤ 1000000) (hl' : G'.length ≤ 1000000) : FWp Try.prog 22 [.slice b G.length c, .slice b' G'.length c'] h fun u h' => u = .bool (decide (G = G')) ∧ h' = h := by
  refine W.enter tyOK Try.func22 rfl rfl ?_
  simp only [entry]
  by_cases hlen : G.length = G'.length
  · have b1 : ((G.length : Int) != (G'.length : Int)) = false := by simp [hlen]
    refine W.seq <| W.reg <| OSuf.aopF tyOK rfl (so_assign (by simp only [lk] <;> rfl)) (fun _ => rfl) rfl <| OSuf.nil <| SQ.normal ?_
    refine W.seq <| W.seq <| W.reg <| OSuf.aop tyOK rfl sm rfl <| OSuf.aop tyOK rfl (so_len (by simp only [aopnds, lk] <;> rfl) (by simp (disch := first | assumption | omega | (simp only [nx] <;> omega) | fail) only [aLenOf, ty60, hpl] <;> rfl)) rfl <| OSuf.aop tyOK rfl sm rfl <| OSuf.aop tyOK rfl (so_len (by simp only [aopnds, lk] <;> rfl) (by simp (disch := first | assumption | omega | (simp only [nx] <;> omega) | fail) only [aLenOf, ty60, hpl] <;> rfl)) rfl <| OSuf.aopF tyOK rfl (so_bin (by simp only [lk] <;> rfl) (by simp only [lk] <;> rfl) bi_neq) (fun _ => rfl) (b1) <| OSuf.nil <| SQ.normal ?_
    refine W.no (by simp only [lk] <;> rfl) <| CWp.skip <| SQ.normal ?_
    refine W.seq <| W.seq <| W.reg <| OSuf.aop tyOK rfl (so_assign (by simp only [lk] <;> rfl)) rfl <| OSuf.nil <| SQ.normal ?_
    -- leaf: loop
    refine W.cut (fun L h' => h' = h ∧ G = G' ∧ L = []) (W.block (W.loop (fun n L h' => ∃ i : Nat, n + i = G.length ∧ h' = h ∧ G.take i = G'.take i ∧ L = [(0, .slice b G.length c), (1, .slice b' G'.length c'), (5, I64 i)]) (n := G.length) ⟨0, by omega, rfl, rfl, rfl⟩ ?_ ?_)) ?_
    · simp [HasA, Tr.get_put]
    · rintro n L h' ⟨i, hn, rfl, ht, rfl⟩
      simp only [mkA]
      have w2 : IntKind.i64.wrap ((i : Int) + 1) = ((i + 1 : Nat) : Int) := by rw [wrap_i64 (by omega) (by omega)]; omega
      by_cases hi : (i : Int) < (G.length : Int)
      · obtain ⟨g, hg⟩ : ∃ g, G[i]? = some g := ⟨G[i]'(by omega), by simp⟩
        obtain ⟨g', hg'⟩ : ∃ g', G'[i]? = some g' := ⟨G'[i]'(by omega), by simp⟩
        obtain ⟨y, rfl, y1, y2⟩ := hb.at_ i (by omega)
        obtain ⟨y', rfl, y1', y2'⟩ := hb'.at_ i (by omega)
        have hc : (0 ≤ (i : Int) ∧ (i : Int) < (G.length : Int)) := by omega
        have hc' : (0 ≤ (i : Int) ∧ (i : Int) < (G'.length : Int)) := by omega
        have hgg : (encL G)[i]? = some (encS g) := by simp [encL, hg]
        have hgg' : (encL G')[i]? = some (encS g') := by simp [encL, hg']
        by_cases he : g = g'
        · have b2 : (!((ByteArray.toList ⟨⟨g⟩⟩) == (ByteArray.toList ⟨⟨g'⟩⟩))) = false := by rw [str_eq]; simp [he]
          refine W.seq <| W.seq <| W.reg <| OSuf.aop tyOK rfl sm rfl <| OSuf.aop tyOK rfl sm rfl <| OSuf.aop tyOK rfl (so_len (by simp only [aopnds, lk] <;> rfl) (by simp (disch := first | assumption | omega | (simp only [nx] <;> omega) | fail) only [aLenOf, ty60, hpl, hc, hc', sb, y2, y2', hgg, hgg'] <;> rfl)) rfl <| OSuf.aopT tyOK rfl (so_bin (by simp only [lk] <;> rfl) (by simp only [lk] <;> rfl) bi_lss) (fun _ => rfl) (by first | rfl | assumption | ((simp only [bl, hc, hc', sb, y2, y2', hgg, hgg']) <;> first | done | assumption | omega) | (simp; done) | (simp; omega)) <| OSuf.nil <| SQ.normal ?_
          refine W.yes (by simp only [lk] <;> rfl) <| CWp.skip <| SQ.normal ?_
          refine W.seq <| W.block <| W.seq <| W.regD tyOK mixed (by kernel_rfl) <| SqW.aop rfl sm rfl <| SqW.aop rfl sm rfl <| SqW.aop rfl (so_indexAddr (by simp only [lk] <;> rfl) (by simp only [lk] <;> rfl) (by simp (disch := first | assumption | omega | (simp only [nx] <;> omega) | fail) only [aIndexAddr, ty60, ty9, hpl, hc, hc', sb, y2, y2', hgg, hgg'] <;> rfl)) rfl <| SqW.aop rfl (so_load (by simp only [lk] <;> rfl) (by simp (disch := first | assumption | omega | (simp only [nx] <;> omega) | fail) only [aLoad, ty9, rowOf, hpl, hc, hc', sb, y2, y2', hgg, hgg'] <;> rfl)) rfl <| SqW.aop rfl sm rfl <| SqW.aop rfl sm rfl <| SqW.aop rfl (so_indexAddr (by simp only [lk] <;> rfl) (by simp only [lk] <;> rfl) (by simp (disch := first | assumption | omega | (simp only [nx] <;> omega) | fail) only [aIndexAddr, ty60, ty9, hpl, hc, hc', sb, y2, y2', hgg, hgg'] <;> rfl)) rfl <| SqW.aop rfl (so_load (by simp only [lk] <;> rfl) (by simp (disch := first | assumption | omega | (simp only [nx] <;> omega) | fail) only [aLoad, ty9, rowOf, hpl, hc, hc', sb, y2, y2', hgg, hgg'] <;> rfl)) rfl <| SqW.aopF rfl (so_bin (by simp only [lk] <;> rfl) (by simp only [lk] <;> rfl) bs_neq) (fun _ => rfl) (b2) <| SqW.nil <| SQ.normal ?_
          refine W.no (by simp only [lk] <;> rfl) <| CWp.skip <| BQ.normal <| SQ.normal ?_
          refine W.reg <| OSuf.aop tyOK rfl sm rfl <| OSuf.aop tyOK rfl (so_bin (by simp only [lk] <;> rfl) (by simp only [lk] <;> rfl) (bi_w bi_add (by first | (simp only [w2] <;> rfl) | rfl))) rfl <| OSuf.aop tyOK rfl (so_assign (by simp only [lk] <;> rfl)) rfl <| OSuf.nil <| ?_
          -- leaf: round
          refine LQ.normal (m := n - 1) (L := [(0, .slice (some ⟨y, 0, none⟩) G.length c), (1, .slice (some ⟨y', 0, none⟩) G'.length c'), (5, I64 ((i + 1 : Nat) : Int))]) (by omega) ?_ ⟨i + 1, by omega, rfl, ?_, rfl⟩
          · simp only [HasA, Tr.get_put, Nat.reduceEqDiff, reduceIte, w2, and_self]
          · rw [List.take_add_one, List.take_add_one, ht, hg, hg', he]
        · have b2 : (!((ByteArray.toList ⟨⟨g⟩⟩) == (ByteArray.toList ⟨⟨g'⟩⟩))) = true := by rw [str_eq]; simp [he]
          refine W.seq <| W.seq <| W.reg <| OSuf.aop tyOK rfl sm rfl <| OSuf.aop tyOK rfl sm rfl <| OSuf.aop tyOK rfl (so_len (by simp only [aopnds, lk] <;> rfl) (by simp (disch := first | assumption | omega | (simp only [nx] <;> omega) | fail) only [aLenOf, ty60, hpl, hc, hc', sb, y2, y2', hgg, hgg'] <;> rfl)) rfl <| OSuf.aopT tyOK rfl (so_bin (by simp only [lk] <;> rfl) (by simp only [lk] <;> rfl) bi_lss) (fun _ => rfl) (by first | rfl | assumption | ((simp only [bl, hc, hc', sb, y2, y2', hgg, hgg']) <;> first | done | assumption | omega) | (simp; done) | (simp; omega)) <| OSuf.nil <| SQ.normal ?_
          refine W.yes (by simp only [lk] <;> rfl) <| CWp.skip <| SQ.normal ?_
          refine W.seq <| W.block <| W.seq <| W.regD tyOK mixed (by kernel_rfl) <| SqW.aop rfl sm rfl <| SqW.aop rfl sm rfl <| SqW.aop rfl (so_indexAddr (by simp only [lk] <;> rfl) (by simp only [lk] <;> rfl) (by simp (disch := first | assumption | omega | (simp only [nx] <;> omega) | fail) only [aIndexAddr, ty60, ty9, hpl, hc, hc', sb, y2, y2', hgg, hgg'] <;> rfl)) rfl <| SqW.aop rfl (so_load (by simp only [lk] <;> rfl) (by simp (disch := first | assumption | omega | (simp only [nx] <;> omega) | fail) only [aLoad, ty9, rowOf, hpl, hc, hc', sb, y2, y2', hgg, hgg'] <;> rfl)) rfl <| SqW.aop rfl sm rfl <| SqW.aop rfl sm rfl <| SqW.aop rfl (so_indexAddr (by simp only [lk] <;> rfl) (by simp only [lk] <;> rfl) (by simp (disch := first | assumption | omega | (simp only [nx] <;> omega) | fail) only [aIndexAddr, ty60, ty9, hpl, hc, hc', sb, y2, y2', hgg, hgg'] <;> rfl)) rfl <| SqW.aop rfl (so_load (by simp only [lk] <;> rfl) (by simp (disch := first | assumption | omega | (simp only [nx] <;> omega) | fail) only [aLoad, ty9, rowOf, hpl, hc, hc', sb, y2, y2', hgg, hgg'] <;> rfl)) rfl <| SqW.aopT rfl (so_bin (by simp only [lk] <;> rfl) (by simp only [lk] <;> rfl) bs_neq) (fun _ => rfl) (b2) <| SqW.nil <| SQ.normal ?_
          refine W.yes (by simp only [lk] <;> rfl) <| W.seq <| W.reg <| OSuf.aopF tyOK rfl (so_assign (by simp only [lk] <;> rfl)) (fun _ => rfl) rfl <| OSuf.nil <| SQ.normal ?_
          refine CWp.ret <| BQ.ret <| SQ.ret <| LQ.ret <| BQ.ret <| NQ.ret <| SQ.ret <| FQ.ret (by simp only [aRet, Try.f22, aResults, aResult, lk, Nat.reduceEqDiff, reduceIte] <;> rfl) ?_
          -- leaf: end
          refine ⟨?_, rfl⟩
          rw [decide_eq_false]
          intro e
          rw [e, hg'] at hg
          exact he (Option.some.inj hg).symm
      · refine W.seq <| W.seq <| W.reg <| OSuf.aop tyOK rfl sm rfl <| OSuf.aop tyOK rfl sm rfl <| OSuf.aop tyOK rfl (so_len (by simp only [aopnds, lk] <;> rfl) (by simp (disch := first | assumption | omega | (simp only [nx] <;> omega) | fail) only [aLenOf, ty60, hpl] <;> rfl)) rfl <| OSuf.aopF tyOK rfl (so_bin (by simp only [lk] <;> rfl) (by simp only [lk] <;> rfl) bi_lss) (fun _ => rfl) (by first | rfl | assumption | ((simp only [bl]) <;> first | done | assumption | omega) | (simp; done) | (simp; omega)) <| OSuf.nil <| SQ.normal ?_
        refine W.no (by simp only [lk] <;> rfl) <| CWp.exit <| SQ.exit <| LQ.exit <| BQ.exit <| ?_
        -- leaf: cut
        exact NQ.normal (L := []) trivial ⟨rfl, by rw [List.take_of_length_le (by omega), List.take_of_length_le (by omega)] at ht; exact ht, rfl⟩
    rintro L a' h' ha ⟨rfl, hgg, rfl⟩
    refine SQ.normal <| CWp.known ha ?_
    simp only [mkA]
    refine W.seq <| W.reg <| OSuf.aopT tyOK rfl (so_assign (by simp only [lk] <;> rfl)) (fun _ => rfl) rfl <| OSuf.nil <| SQ.normal ?_
    refine CWp.ret <| FQ.ret (by simp only [aRet, Try.f22, aResults, aResult, lk, Nat.reduceEqDiff, reduceIte] <;> rfl) ?_
    -- leaf: end
    exact ⟨by rw [decide_eq_true hgg], rfl⟩
  · have b1 : ((G.length : Int) != (G'.length : Int)) = true := by simp; omega
    refine W.seq <| W.reg <| OSuf.aopF tyOK rfl (so_assign (by simp only [lk] <;> rfl)) (fun _ => rfl) rfl <| OSuf.nil <| SQ.normal ?_
    refine W.seq <| W.seq <| W.reg <| OSuf.aop tyOK rfl sm rfl <| OSuf.aop tyOK rfl (so_len (by simp only [aopnds, lk] <;> rfl) (by simp (disch := first | assumption | omega | (simp only [nx] <;> omega) | fail) only [aLenOf, ty60, hpl] <;> rfl)) rfl <| OSuf.aop tyOK rfl sm rfl <| OSuf.aop tyOK rfl (so_len (by simp only [aopnds, lk] <;> rfl) (by simp (disch := first | assumption | omega | (simp only [nx] <;> omega) | fail) only [aLenOf, ty60, hpl] <;> rfl)) rfl <| OSuf.aopT tyOK rfl (so_bin (by simp only [lk] <;> rfl) (by simp only [lk] <;> rfl) bi_neq) (fun _ => rfl) (b1) <| OSuf.nil <| SQ.normal ?_
    refine W.yes (by simp only [lk] <;> rfl) <| W.seq <| W.reg <| OSuf.aopF tyOK rfl (so_assign (by simp only [lk] <;> rfl)) (fun _ => rfl) rfl <| OSuf.nil <| SQ.normal ?_
    refine CWp.ret <| SQ.ret <| FQ.ret (by simp only [aRet, Try.f22, aResults, aResult, lk, Nat.reduceEqDiff, reduceIte] <;> rfl) ?_
    -- leaf: end
    refine ⟨?_, rfl⟩
    rw [decide_eq_false]
    intro e
    exact hlen (by rw [e])
/-- Keys, and where they lie. -/
theorem keys_x (h : AHeap) (r : Nat) (fl : Int) (M : TM) (A : List Rec) (hB : TB h r fl M A) (lo hi : List UInt8) (hsz : A.length ≤ 1000000) :
    ∃ b H, FWp Try.prog 23 [P0 r, encS lo, encS hi] h (fun u h' => u = .slice b (keysR lo hi A).length 0 ∧ h' = H) ∧ StrB H (keysR lo hi A) b ∧ h.next ≤ H.next ∧ (∀ z, z < h.next → H.get z = h.get z) ∧ (keysR lo hi A = [] → b = none) ∧ (keysR lo hi A ≠ [] → b = some ⟨h.next, 0, none⟩) := by
  obtain ⟨k1, k2⟩ := keys_c h r fl M A hB lo hi hsz
  by_cases hn : keysR lo hi A = []
  · have hl : (keysR lo hi A).length = 0 := by rw [hn]; rfl
    exact ⟨none, h, by rw [hl]; exact k1 hn, ⟨fun i hi => by omega⟩, Nat.le_refl _, fun _ _ => rfl, fun _ => rfl, fun h9 => absurd hn h9⟩
  · exact ⟨_, _, k2 hn, ⟨fun i hi => ⟨_, rfl, by simp, AHeap.get_new_same _ _⟩⟩, by simp, fun z hz => AHeap.get_new_ne (by omega), fun h9 => absurd h9 hn, fun _ => rfl⟩
theorem keysR_len (lo hi : List UInt8) (A : List Rec) : (keysR lo hi A).length ≤ A.length := by
  rw [keysR, (SortS.sortL_perm _).length_eq]
  have := List.length_filter_le (inR lo hi) (A.map Rec.key)
  simpa using this
theorem StrB.mono {h h' : AHeap} {G : List (List UInt8)} {b : Option Addr} (s : StrB h G b) (hn : h.next ≤ h'.next) (hk : ∀ z, z < h.next → h'.get z = h.get z) : StrB h' G b :=
  ⟨fun i hi => by obtain ⟨y, h1, h2, h3⟩ := s.at_ i hi; exact ⟨y, h1, by omega, by rw [hk y h2]; exact h3⟩⟩
/-- A key's row, any. -/
theorem row_x (h : AHeap) (r : Nat) (fl : Int) (M : TM) (A : List Rec) (hB : TB h r fl M A) (k : List UInt8) (hk : k.length < 9223372036854775807) (hv : ∀ x ∈ A, x.V.length ≤ 1000000) :
    ∃ (y : Rec) (b : Option Addr) (c : Nat) (H : AHeap), FWp Try.prog 20 [P0 r, encS k] h (fun u h' => u = .tuple #[.agg #[encS y.key, U64 y.rts, .bool y.here, .slice b y.V.length c], .bool (getR k A).isSome] ∧ h' = H) ∧ AVo H y.V (.slice b y.V.length c) ∧ h.next ≤ H.next ∧ (∀ z, z < h.next → H.get z = h.get z) ∧ y = (getR k A).getD ⟨[], 0, false, []⟩ := by
  cases hg : getR k A with
  | none => exact ⟨⟨[], 0, false, []⟩, none, 0, h, row_none h r fl M A hB k hk hg, .nil, Nat.le_refl _, fun _ _ => rfl, rfl⟩
  | some x =>
    obtain ⟨v, H, h1, h2, h3, h4⟩ := row_some h r fl M A hB k hk x hg (hv x (getR_key hg).1)
    obtain ⟨b, c, rfl⟩ := avo_form h2
    exact ⟨x, b, c, H, h1, h2, h3, h4, rfl⟩
/-- Evict, any. -/
theorem evict_x (h : AHeap) (r : Nat) (fl : Int) (M : TM) (A : List Rec) (hB : TB h r fl M A) (k : List UInt8) (hk : k.length < 9223372036854775807) (hsz : A.length ≤ 1000000) :
    ∃ H M', FWp Try.prog 12 [P0 r, encS k] h (fun u h' => u = I64 (evCode k A) ∧ h' = H) ∧ TB H r (evFl fl k A) M' (delR k A) ∧ FrT h H r M M' := by
  cases hg : getR k A with
  | none =>
    have e1 : evCode k A = 5 := by rw [evCode, hg]
    have e2 : evFl fl k A = fl := by rw [evFl, hg]
    have e3 : delR k A = A := del_ne fun y hy e => by
      have := List.find?_eq_none.1 hg y hy
      simp [e] at this
    rw [e1, e2, e3]
    exact ⟨h, M, evict_none h r fl M A hB k hk hg, hB, FrT.refl _ _ _⟩
  | some x =>
    have e1 : evCode k A = 0 := by rw [evCode, hg]
    have e2 : evFl fl k A = mx fl x.rts := by rw [evFl, hg]
    rw [e1, e2]
    exact evict_some h r fl M A hB k hk x hg hsz
end Go.Proofs.Ytldhcjfhlfgleaa
