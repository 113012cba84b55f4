/-
  Merged: TableR, TableQ.
-/
import Derived.Test.YtldhcjfhlfgleaaTableS
namespace Go.Proofs.Ytldhcjfhlfgleaa
open Go.Ab Go.Sort
set_option linter.unusedSimpArgs false
set_option linter.unusedVariables false
set_option maxRecDepth 10000
set_option maxHeartbeats 8000000

/-! Lists that are put together. -/
theorem cap_ok {n b : Nat} (hn : n ≤ 3000000) (hb : b ≤ 100) : (2 * (0 + n) + 256) * b ≤ 281474976710656 := by
  have : (2 * (0 + n) + 256) * b ≤ 7000000 * 100 := Nat.mul_le_mul (by omega) hb
  omega
def VL (h : AHeap) (vs : List Value) (v : Value) : Prop := SV h 1 0 vs v ∨ (vs = [] ∧ ∃ y, v = .slice (some ⟨y, 0, none⟩) 0 1)
theorem app_c {h : AHeap} {vs : List Value} {v : Value} {G : List (List UInt8)} {b : Option Addr} (hv : VL h vs v) (hb : StrB h G b) (hl : vs.length + G.length ≤ 3000000) (hbn : G = [] → b = none) :
    ∃ v' H, (∀ ats A', appT T ats = some A' → A'.size = 1 → A'.bytes ≤ 100 → aAppend T ats v (.slice b G.length 0) h = some (v', H)) ∧ VL H (vs ++ encL G) v' ∧ h.next ≤ H.next ∧ (∀ z, z < h.next → ¬ svRow v = some z → H.get z = h.get z) ∧ (svRow v' = svRow v ∨ svRow v' = some h.next) := by
  have hcell : ∀ sz, sz = 1 → aCells h sz G.length (.slice b G.length 0) = some (encL G) := fun sz hsz => by
    subst hsz
    cases G with
    | nil => rw [hbn rfl]; rfl
    | cons g G =>
      obtain ⟨y, rfl, h1, h2⟩ := hb.at_ 0 (by simp)
      refine aCells_of (vs := encL (g :: G)) (by simp only [rowOf, h2]) (Nat.le_refl _) (cellsOf_all ?_)
      simp [encL]
  have hlen : aLen (.slice b G.length 0) = some G.length := rfl
  rcases hv with hv | ⟨rfl, y, rfl⟩
  · have hvl : vs.length = vLen v * 1 := by obtain ⟨_, _, h9, _⟩ := hv.form; exact h9
    obtain ⟨v', H, a1, a2, a3, a4, a5, a6, a7⟩ := ap_any hv hlen (hcell 1 rfl) (by simp [encL]) (by simp [encL, oneCells, Value.oneCell']) (by omega) (Nat.zero_le _)
    exact ⟨v', H, a1, .inl a2, a3, a5, by rcases a6 with ⟨h9, _⟩ | h9; exact .inl h9; exact .inr h9⟩
  · cases G with
    | nil =>
      refine ⟨.slice (some ⟨y, 0, none⟩) 0 1, h, fun ats A' h1 h2 h3 => ?_, .inr ⟨rfl, y, rfl⟩, Nat.le_refl _, fun _ _ _ => rfl, .inl rfl⟩
      exact ap_n0 h1 hlen (by rw [h2]; exact hcell 1 rfl) (cap_ok (by omega) h3)
    | cons g G =>
      refine ⟨.slice (some ⟨h.next, 0, none⟩) (g :: G).length 0, h.new (.cells (encL (g :: G)) 1), fun ats A' h1 h2 h3 => ?_, .inl (.some (by simp [encL]) (Nat.zero_le _) (by simp) (AHeap.get_new_same _ _) (by simp [encL])), by simp, fun z hz _ => AHeap.get_new_ne (by omega), .inr rfl⟩
      have h4 := ap_k0 (r := y) h1 hlen (hcell _ h2) (cap_ok (by simp at hl ⊢; omega) h3) rfl
      rw [h2] at h4; exact h4
theorem VL.str {h : AHeap} {G : List (List UInt8)} {v : Value} (hv : VL h (encL G) v) : ∃ b c, v = .slice b G.length c ∧ StrB h G b := by
  rcases hv with hv | ⟨h1, y, rfl⟩
  · obtain ⟨b, h1, h2, h3⟩ := hv.form
    have e : vLen v = G.length := by simp [encL] at h2; exact h2.symm
    rw [e] at h1
    refine ⟨b, 0, h1, ⟨fun i hi => ?_⟩⟩
    obtain ⟨y, rfl, _, _, h4, h5⟩ := h3 (fun e => by simp [encL] at e; subst e; simp at hi)
    exact ⟨y, rfl, h4, h5⟩
  · have e : G = [] := List.map_eq_nil_iff.1 h1
    subst e
    exact ⟨_, 1, rfl, ⟨fun i hi => by simp at hi⟩⟩
theorem touchR_all {k : List UInt8} {ts fl : Int} {A : List Rec} (P : Rec → Prop) (h : ∀ x ∈ A, P x) (hu : ∀ x ∈ A, P { x with rts := mx x.rts ts }) (hn : okKey k → P ⟨k, mx fl ts, false, []⟩) : ∀ x ∈ touchR k ts fl A, P x := by
  intro x hx
  rw [touchR] at hx
  split at hx
  · rename_i y hy
    rcases setR_mem hx with h9 | h9
    · rw [h9]; exact hu y (getR_key hy).1
    · exact h x h9
  · split at hx
    · rename_i ho
      rcases setR_mem hx with h9 | h9
      · rw [h9]; exact hn ho
      · exact h x h9
    · exact h x hx
/-! Keys of ranges. -/
def leS (a b : List UInt8) : Prop := ltStr b a = false
theorem leS_trans {a b c : List UInt8} (h1 : leS a b) (h2 : leS b c) : leS a c := by
  simp only [leS, ltStr, decide_eq_false_iff_not, List.not_lt] at *
  exact List.le_trans h1 h2
theorem leS_of_lt {a b : List UInt8} (h : ltStr a b = true) : leS a b := by
  simp only [leS, ltStr, decide_eq_false_iff_not, decide_eq_true_eq, List.not_lt] at *
  exact List.le_of_lt h
theorem lt_of_lt_le {a b c : List UInt8} (h : ltStr a b = true) (h2 : leS b c) : ltStr a c = true := by
  cases h3 : ltStr a c with
  | true => rfl
  | false => have := leS_trans h2 (show leS c a from h3); rw [leS, h] at this; cases this
theorem keysR_mem {lo hi : List UInt8} {A : List Rec} {k : List UInt8} : k ∈ keysR lo hi A ↔ k ∈ A.map Rec.key ∧ inR lo hi k = true := by
  rw [keysR, (SortS.sortL_perm _).mem_iff, List.mem_filter]
theorem keysR_join {a b c : List UInt8} {A : List Rec} (hb : ¬ b = []) (hc : ¬ c = []) (h1 : leS a b) (h2 : leS b c) : keysR a b A ++ keysR b c A = keysR a c A := by
  have e1 : ∀ k, inR a b k = (!ltStr k a && ltStr k b) := fun k => by simp [inR, hb]
  have e2 : ∀ k, inR b c k = (!ltStr k b && ltStr k c) := fun k => by simp [inR, hc]
  have e3 : ∀ k, inR a c k = (!ltStr k a && ltStr k c) := fun k => by simp [inR, hc]
  refine SortS.sorted_one ?_ ?_ (SortS.sortL_sorted _)
  · refine ((SortS.sortL_perm _).append (SortS.sortL_perm _)).trans (List.Perm.trans ?_ (SortS.sortL_perm _).symm)
    generalize A.map Rec.key = K
    induction K with
    | nil => exact .refl _
    | cons k K ih =>
      simp only [List.filter_cons, e1, e2, e3] at ih ⊢
      cases k1 : ltStr k a
      · cases k2 : ltStr k b
        · have k3 : leS b k := k2
          simp only [Bool.not_false, Bool.true_and, Bool.false_eq_true, if_false]
          cases k4 : ltStr k c
          · simp only [Bool.false_eq_true, if_false]; exact ih
          · simp only [if_true]
            exact List.perm_middle.trans (.cons _ ih)
        · have k4 := lt_of_lt_le k2 h2
          simp only [Bool.not_false, Bool.not_true, Bool.true_and, Bool.false_and, Bool.false_eq_true, if_false, if_true, k4, List.cons_append]
          exact .cons _ ih
      · have k2 := lt_of_lt_le k1 h1
        simp only [Bool.not_true, Bool.false_and, k2, Bool.false_eq_true, if_false]; exact ih
  · refine List.pairwise_append.2 ⟨SortS.sortL_sorted _, SortS.sortL_sorted _, fun x hx y hy => ?_⟩
    have hx := (keysR_mem.1 hx).2
    have hy := (keysR_mem.1 hy).2
    rw [e1] at hx
    rw [e2] at hy
    simp only [Bool.and_eq_true, Bool.not_eq_true'] at hx hy
    exact leS_of_lt (lt_of_lt_le hx.2 hy.1)
theorem keysR_same {a : List UInt8} {A : List Rec} (ha : ¬ a = []) : keysR a a A = [] := by
  refine List.eq_nil_iff_forall_not_mem.2 fun k hk => ?_
  have := (keysR_mem.1 hk).2
  simp [inR, ha] at this
theorem keysR_all {A : List Rec} : (keysR [] [] A).Perm (A.map Rec.key) := by
  rw [keysR]
  refine (SortS.sortL_perm _).trans (.of_eq (List.filter_eq_self.2 fun k hk => ?_))
  simp [inR, ltStr]
theorem keysR_lt {A : List Rec} (hn : (A.map Rec.key).Nodup) : (keysR [] [] A).Pairwise fun x y => ltStr x y = true := by
  have h1 : (keysR [] [] A).Nodup := (keysR_all.nodup_iff).2 hn
  have h2 : (keysR [] [] A).Pairwise fun x y => SortS.lt y x = false := SortS.sortL_sorted _
  refine (h1.and h2).imp fun {x y} h => ?_
  obtain ⟨h3, h4⟩ := h
  cases h5 : ltStr x y with
  | true => rfl
  | false =>
    exfalso
    refine h3 ?_
    simp only [SortS.lt, ltStr, decide_eq_false_iff_not, List.not_lt] at h4 h5
    exact List.le_antisymm h4 h5

structure RS (h0 h : AHeap) (r a : Nat) (m0 m1 m2 : Nat) (fl : Int) (M : TM) (A : List Rec) : Prop where
  tb : TB h r fl M A
  n : h0.next ≤ r ∧ (∀ z ∈ M.rows, h0.next ≤ z)
  old : ∀ z, z < h0.next → h.get z = h0.get z
  next : h0.next ≤ h.next
  ane : ¬ a = r ∧ a ∉ M.rows ∧ a < h.next
  arow : h.get a = some (.cells [.int .u8 (m0 : Int), .int .u8 (m1 : Int), .int .u8 (m2 : Int)] 1)
theorem RS.garb {h0 h h' : AHeap} {r a m0 m1 m2 : Nat} {fl : Int} {M : TM} {A : List Rec} (S : RS h0 h r a m0 m1 m2 fl M A) (hn : h.next ≤ h'.next) (hk : ∀ z, z < h.next → h'.get z = h.get z) : RS h0 h' r a m0 m1 m2 fl M A :=
  ⟨S.tb.mono hn hk, S.n, fun z hz => by rw [hk z (Nat.lt_of_lt_of_le hz S.next)]; exact S.old z hz, Nat.le_trans S.next hn, ⟨S.ane.1, S.ane.2.1, Nat.lt_of_lt_of_le S.ane.2.2 hn⟩, by rw [hk a S.ane.2.2]; exact S.arow⟩
theorem RS.op {h0 h h' : AHeap} {r a m0 m1 m2 : Nat} {fl fl' : Int} {M M' : TM} {A A' : List Rec} (S : RS h0 h r a m0 m1 m2 fl M A) (t : TB h' r fl' M' A') (f : FrT h h' r M M') : RS h0 h' r a m0 m1 m2 fl' M' A' := by
  obtain ⟨n1, n2⟩ := S.n
  obtain ⟨a1, a2, a3⟩ := S.ane
  have hnx := S.next
  refine ⟨t, ⟨n1, fun z hz => ?_⟩, fun z hz => ?_, Nat.le_trans hnx f.next, ⟨a1, fun h9 => ?_, Nat.lt_of_lt_of_le a3 f.next⟩, by rw [f.old a a3 a1 a2]; exact S.arow⟩
  · rcases f.rows z hz with h8 | h8
    · exact n2 z h8
    · omega
  · rw [f.old z (by omega) (by omega) (fun h9 => by have := n2 z h9; omega)]; exact S.old z hz
  · rcases f.rows a h9 with h8 | h8
    · exact a2 h8
    · omega
theorem kb_ne (a b : Nat) : ¬ kb a b = [] := by simp [kb]
theorem ranges_c (h : AHeap) (m m0 m1 m2 : Nat) (hm : m < 256) (hm0 : m0 < 256) (hm1 : m1 < 256) (hm2 : m2 < 256) (b : Option Addr) (l : List Tch) (hb : TchAt h b l) : FWp Try.prog 6 [.slice b l.length 0, .int .u8 m, .agg #[.int .u8 (m0 : Int), .int .u8 (m1 : Int), .int .u8 (m2 : Int)]] h fun u h' => u = .bool true := by
  refine W.enter tyOK Try.func6 rfl rfl ?_
  simp only [entry]
  have w1 : (m : Int).tmod 64 = ((m % 64 : Nat) : Int) := by rw [Int.tmod_eq_emod_of_nonneg (by omega)]; omega
  have w2 : IntKind.i64.wrap ((m % 64 : Nat) : Int) = ((m % 64 : Nat) : Int) := wrap_i64 (by omega) (by omega)
  have w3 : IntKind.i64.wrap (1 + ((m % 64 : Nat) : Int)) = ((1 + m % 64 : Nat) : Int) := by rw [wrap_i64 (by omega) (by omega)]; omega
  refine W.seq <| W.reg <| OSuf.aop tyOK rfl (so_box (by simp only [lk] <;> rfl)) rfl <| OSuf.aopF tyOK rfl (so_assign (by simp only [lk] <;> rfl)) (fun _ => rfl) rfl <| OSuf.nil <| SQ.normal ?_
  refine W.seq <| W.seq <| W.reg <| OSuf.callD rfl (by simp only [aopnds, lk] <;> rfl) en9 (works_c _) rfl <| OSuf.aopF tyOK rfl (so_not (by simp only [lk] <;> rfl)) (fun _ => rfl) rfl <| OSuf.nil <| SQ.normal ?_
  refine W.no (by simp only [lk] <;> rfl) <| CWp.skip <| SQ.normal ?_
  refine W.seq <| W.reg <| OSuf.aop tyOK rfl sm rfl <| OSuf.aop tyOK rfl (so_bin (by simp only [lk] <;> rfl) (by simp only [lk] <;> rfl) (bi_w (bi_rem (by decide)) (by first | (simp only [w1, w2, w3] <;> rfl) | rfl))) rfl <| OSuf.aop tyOK rfl (so_conw (so_conv tyOK (by simp only [lk] <;> rfl) ty5 ⟨_, rfl⟩ ty3 rfl) (by first | (simp only [w1, w2, w3] <;> rfl) | rfl)) rfl <| OSuf.aop tyOK rfl (so_bin (by simp only [lk] <;> rfl) (by simp only [lk] <;> rfl) (bi_w bi_add (by first | (simp only [w1, w2, w3] <;> rfl) | rfl))) rfl <| OSuf.callD rfl (by simp only [aopnds, lk] <;> rfl) en8 (new_c _ (1 + m % 64) (by omega) (by omega)) rfl <| OSuf.aop tyOK rfl (so_assign (by simp only [lk] <;> rfl)) rfl <| OSuf.nil <| SQ.normal ?_
  refine W.seq <| W.seq <| W.reg <| OSuf.aop tyOK rfl sm rfl <| OSuf.aopF tyOK rfl (so_bin (by simp only [lk] <;> rfl) (by simp only [lk] <;> rfl) (bi_nil ⟨_, _, ty23, rfl⟩)) (fun _ => rfl) rfl <| OSuf.nil <| SQ.normal ?_
  refine W.no (by simp only [lk] <;> rfl) <| CWp.skip <| SQ.normal ?_
  refine W.seq <| W.seq <| W.reg <| OSuf.aop tyOK rfl (so_assign (by simp only [lk] <;> rfl)) rfl <| OSuf.nil <| SQ.normal ?_
  -- leaf: loop
  have hS0 : RS h (((h.new (.cells [.int .u8 (m0 : Int), .int .u8 (m1 : Int), .int .u8 (m2 : Int)] 1)).new (.cells (List.replicate (1 + m % 64) (.pointer none)) 1)).new (.cells [.slice (some ⟨h.next + 1, 0, none⟩) (1 + m % 64) (1 + m % 64 + 1), U64 0, I64 0] 1)) (h.next + 2) h.next m0 m1 m2 0 ⟨h.next + 1, 1 + m % 64, List.replicate (1 + m % 64) []⟩ [] := by
    have hta := new_ta (h.new (.cells [.int .u8 (m0 : Int), .int .u8 (m1 : Int), .int .u8 (m2 : Int)] 1)) (1 + m % 64) (by omega) (by omega)
    refine ⟨⟨hta, by rw [TM.all, all_rep]; exact .refl _⟩, ⟨by omega, fun z hz => ?_⟩, fun z hz => ?_, by simp only [nx]; omega, ⟨by omega, ?_, by simp only [nx]; omega⟩, ?_⟩
    · simp [TM.rows, TM.all, all_rep] at hz; omega
    · simp (disch := first | assumption | omega | (simp only [nx] <;> omega) | fail) only [hpl]
    · simp [TM.rows, TM.all, all_rep]
    · simp (disch := first | assumption | omega | (simp only [nx] <;> omega) | fail) only [hpl]
  refine W.cut (fun L h' => ∃ (fl : Int) (M : TM) (A : List Rec), RS h h' (h.next + 2) h.next m0 m1 m2 fl M A ∧ A.length ≤ 100 ∧ (∀ x ∈ A, x.V.length ≤ 10 ∧ x.key.length ≤ 16) ∧ L = [(5, P0 h.next), (7, P0 (h.next + 2))]) (W.block (W.loop (fun q L h' => ∃ (i : Nat) (fl : Int) (M : TM) (A : List Rec), i ≤ 100 ∧ i ≤ l.length ∧ q + i = 100 ∧ RS h h' (h.next + 2) h.next m0 m1 m2 fl M A ∧ A.length ≤ i ∧ (∀ x ∈ A, x.V.length ≤ 10 ∧ x.key.length ≤ 16) ∧ L = [(0, .slice b l.length 0), (5, P0 h.next), (7, P0 (h.next + 2)), (8, I64 i)]) (n := 100) ⟨0, 0, _, _, by omega, by omega, by omega, hS0, by simp, by simp, rfl⟩ ?_ ?_)) ?_
  · simp [HasA, Tr.get_put]
  · rintro q L h1 ⟨i, fl, M, A, hi100, hil, hq, S, hAl, hAv, rfl⟩
    simp only [mkA]
    have v2 : IntKind.i64.wrap ((i : Int) + 1) = ((i + 1 : Nat) : Int) := by rw [wrap_i64 (by omega) (by omega)]; omega
    by_cases hlt : (i : Int) < (l.length : Int)
    · by_cases h100 : (i : Int) < 100
      · obtain ⟨x, hx⟩ : ∃ x, l[i]? = some x := ⟨l[i]'(by omega), by simp⟩
        obtain ⟨r0, rfl, hr0, hg0⟩ := hb.at_ (fun e => by rw [e] at hx; simp at hx)
        obtain ⟨xo1, xo2, xo3⟩ := hb.ok x (List.mem_of_getElem? hx)
        have hg : h1.get r0 = some (.ro (flatT l)) := by rw [S.old r0 hr0]; exact hg0
        have hc : (0 ≤ (i : Int) ∧ (i : Int) < (l.length : Int)) := by omega
        have c0 : (flatT l)[i * 3]? = some (.int .u8 (x.key : Int)) := flatT_get (j := 0) hx (by omega)
        have c1 : (flatT l)[i * 3 + 1]? = some (.int .u16 x.ts) := flatT_get (j := 1) hx (by omega)
        have c2 : (flatT l)[i * 3 + 2]? = some (.bool x.ev) := flatT_get (j := 2) hx (by omega)
        have hkl : x.k.length < 9223372036854775807 := by simp [Tch.k, kb]
        have hkey := key_c h1 x.key xo1
        have u1 : IntKind.u64.wrap x.ts = x.ts := wrap_u64 (by omega) (by omega)
        cases hev : x.ev with
        | true =>
          rw [hev] at c2
          obtain ⟨H1, M1', e1, e2, e3⟩ := evict_x h1 _ fl M A S.tb x.k hkl (by omega)
          have S1 := S.op e2 e3
          refine W.seq <| W.seq <| W.reg <| OSuf.aop tyOK rfl sm rfl <| OSuf.aop tyOK rfl sm rfl <| OSuf.aop tyOK rfl (so_len (by simp only [aopnds, lk] <;> rfl) (by simp (disch := first | assumption | omega | (simp only [nx] <;> omega) | fail) only [aLenOf, ty44, hpl, hg, hc, sb, c0, c1, c2] <;> rfl)) rfl <| OSuf.aopT tyOK rfl (so_bin (by simp only [lk] <;> rfl) (by simp only [lk] <;> rfl) bi_lss) (fun _ => rfl) (by first | rfl | assumption | ((simp only [bl, hg, hc, sb, c0, c1, c2]) <;> first | done | assumption | omega) | (simp; done) | (simp; omega)) <| OSuf.aopT tyOK rfl sm (fun _ => rfl) rfl <| OSuf.aop tyOK ag sm rfl <| OSuf.aopT tyOK ag (so_bin (by simp only [lk] <;> rfl) (by simp only [lk] <;> rfl) bi_lss) (fun _ => rfl) (by first | rfl | assumption | ((simp only [bl, hg, hc, sb, c0, c1, c2]) <;> first | done | assumption | omega) | (simp; done) | (simp; omega)) <| OSuf.aopT tyOK rfl (so_pick (by simp only [lk] <;> rfl) (by simp only [lk, cond_true, cond_false] <;> rfl)) (fun _ => rfl) rfl <| OSuf.nil <| SQ.normal ?_
          refine W.yes (by simp only [lk] <;> rfl) <| CWp.skip <| SQ.normal ?_
          refine W.seq <| W.block <| W.seq <| W.reg <| OSuf.aop tyOK rfl sm rfl <| OSuf.aop tyOK rfl sm rfl <| OSuf.aop tyOK rfl (so_indexAddr (by simp only [lk] <;> rfl) (by simp only [lk] <;> rfl) (by simp (disch := first | assumption | omega | (simp only [nx] <;> omega) | fail) only [aIndexAddr, ty44, ty49, hpl, hg, hc, sb, c0, c1, c2] <;> rfl)) rfl <| OSuf.aop tyOK rfl (so_fieldAddr (by simp only [lk] <;> rfl) (fa_ok (k := 2) ty49 rfl rfl ty4 rfl rfl)) rfl <| OSuf.aopT tyOK rfl (so_load (by simp only [lk] <;> rfl) (by simp (disch := first | assumption | omega | (simp only [nx] <;> omega) | fail) only [aLoad, ty4, rowOf, hpl, hg, hc, sb, c0, c1, c2] <;> rfl)) (fun _ => rfl) (by first | rfl | assumption | ((simp only [bl, hg, hc, sb, c0, c1, c2]) <;> first | done | assumption | omega) | (simp; done) | (simp; omega)) <| OSuf.nil <| SQ.normal ?_
          refine W.yes (by simp only [lk] <;> rfl) <| W.reg <| OSuf.aop tyOK rfl sm rfl <| OSuf.aop tyOK rfl sm rfl <| OSuf.aop tyOK rfl sm rfl <| OSuf.aop tyOK rfl (so_indexAddr (by simp only [lk] <;> rfl) (by simp only [lk] <;> rfl) (by simp (disch := first | assumption | omega | (simp only [nx] <;> omega) | fail) only [aIndexAddr, ty44, ty49, hpl, hg, hc, sb, c0, c1, c2] <;> rfl)) rfl <| OSuf.aop tyOK rfl (so_fieldAddr (by simp only [lk] <;> rfl) (fa_ok (k := 0) ty49 rfl rfl ty5 rfl rfl)) rfl <| OSuf.aop tyOK rfl (so_load (by simp only [lk] <;> rfl) (by simp (disch := first | assumption | omega | (simp only [nx] <;> omega) | fail) only [aLoad, ty5, rowOf, hpl, hg, hc, sb, c0, c1, c2] <;> rfl)) rfl <| OSuf.callD rfl (by simp only [aopnds, lk] <;> rfl) en17 (hkey) rfl <| OSuf.callD rfl (by simp only [aopnds, lk] <;> rfl) en12 (e1) rfl <| OSuf.nil <| BQ.normal <| SQ.normal ?_
          refine W.reg <| OSuf.aop tyOK rfl sm rfl <| OSuf.aop tyOK rfl (so_bin (by simp only [lk] <;> rfl) (by simp only [lk] <;> rfl) (bi_w bi_add (by first | (simp only [v2] <;> rfl) | rfl))) rfl <| OSuf.aop tyOK rfl (so_assign (by simp only [lk] <;> rfl)) rfl <| OSuf.nil <| ?_
          -- leaf: round
          refine LQ.normal (m := q - 1) (L := [(0, .slice (some ⟨r0, 0, none⟩) l.length 0), (5, P0 h.next), (7, P0 (h.next + 2)), (8, I64 ((i + 1 : Nat) : Int))]) (by omega) ?_ ⟨i + 1, _, M1', _, by omega, by omega, by omega, S1, Nat.le_succ_of_le (Nat.le_trans (delR_length _ _) hAl), fun z hz => hAv z (delR_mem hz), rfl⟩
          simp only [HasA, Tr.get_put, Nat.reduceEqDiff, reduceIte, v2, and_self]
        | false =>
          rw [hev] at c2
          obtain ⟨H1, M1', e1, e2, e3⟩ := touch_c h1 _ fl M A S.tb x.k hkl x.ts (by omega)
          have S1 := S.op e2 e3
          refine W.seq <| W.seq <| W.reg <| OSuf.aop tyOK rfl sm rfl <| OSuf.aop tyOK rfl sm rfl <| OSuf.aop tyOK rfl (so_len (by simp only [aopnds, lk] <;> rfl) (by simp (disch := first | assumption | omega | (simp only [nx] <;> omega) | fail) only [aLenOf, ty44, hpl, hg, hc, sb, c0, c1, c2] <;> rfl)) rfl <| OSuf.aopT tyOK rfl (so_bin (by simp only [lk] <;> rfl) (by simp only [lk] <;> rfl) bi_lss) (fun _ => rfl) (by first | rfl | assumption | ((simp only [bl, hg, hc, sb, c0, c1, c2]) <;> first | done | assumption | omega) | (simp; done) | (simp; omega)) <| OSuf.aopT tyOK rfl sm (fun _ => rfl) rfl <| OSuf.aop tyOK ag sm rfl <| OSuf.aopT tyOK ag (so_bin (by simp only [lk] <;> rfl) (by simp only [lk] <;> rfl) bi_lss) (fun _ => rfl) (by first | rfl | assumption | ((simp only [bl, hg, hc, sb, c0, c1, c2]) <;> first | done | assumption | omega) | (simp; done) | (simp; omega)) <| OSuf.aopT tyOK rfl (so_pick (by simp only [lk] <;> rfl) (by simp only [lk, cond_true, cond_false] <;> rfl)) (fun _ => rfl) rfl <| OSuf.nil <| SQ.normal ?_
          refine W.yes (by simp only [lk] <;> rfl) <| CWp.skip <| SQ.normal ?_
          refine W.seq <| W.block <| W.seq <| W.reg <| OSuf.aop tyOK rfl sm rfl <| OSuf.aop tyOK rfl sm rfl <| OSuf.aop tyOK rfl (so_indexAddr (by simp only [lk] <;> rfl) (by simp only [lk] <;> rfl) (by simp (disch := first | assumption | omega | (simp only [nx] <;> omega) | fail) only [aIndexAddr, ty44, ty49, hpl, hg, hc, sb, c0, c1, c2] <;> rfl)) rfl <| OSuf.aop tyOK rfl (so_fieldAddr (by simp only [lk] <;> rfl) (fa_ok (k := 2) ty49 rfl rfl ty4 rfl rfl)) rfl <| OSuf.aopF tyOK rfl (so_load (by simp only [lk] <;> rfl) (by simp (disch := first | assumption | omega | (simp only [nx] <;> omega) | fail) only [aLoad, ty4, rowOf, hpl, hg, hc, sb, c0, c1, c2] <;> rfl)) (fun _ => rfl) (by first | rfl | assumption | ((simp only [bl, hg, hc, sb, c0, c1, c2]) <;> first | done | assumption | omega) | (simp; done) | (simp; omega)) <| OSuf.nil <| SQ.normal ?_
          refine W.no (by simp only [lk] <;> rfl) <| CWp.sqd tyOK mixed (ms := [0, 0, 0, 6, 14, 30, 62, 0, 0, 384, 896, 1920, 3968, 8191]) (by kernel_rfl) (
              .free rfl rfl sm rfl <| .free rfl rfl sm rfl <| .free rfl rfl sm rfl <| .free rfl rfl (so_indexAddr (by simp only [lk] <;> rfl) (by simp only [lk] <;> rfl) (by simp (disch := first | assumption | omega | (simp only [nx] <;> omega) | fail) only [aIndexAddr, ty44, ty49, hpl, hg, hc, sb, c0, c1, c2] <;> rfl)) rfl <| .free rfl rfl (so_fieldAddr (by simp only [lk] <;> rfl) (fa_ok (k := 0) ty49 rfl rfl ty5 rfl rfl)) rfl <| .read rfl rfl (so_load (by simp only [lk] <;> rfl) (by simp (disch := first | assumption | omega | (simp only [nx] <;> omega) | fail) only [aLoad, ty5, rowOf, hpl, hg, hc, sb, c0, c1, c2] <;> rfl)) (by first | rfl | (simp [veq, veq1, veqs]; done) | (simp [veq, veq1, veqs, splice]; done)) trivial rfl <| .call rfl rfl (fcallO (by simp only [aopnds, lk] <;> rfl) en17 (hkey)) rfl ⟨.inl rfl, trivial⟩ rfl <| .free rfl rfl sm rfl <| .free rfl rfl sm rfl <| .free rfl rfl (so_indexAddr (by simp only [lk] <;> rfl) (by simp only [lk] <;> rfl) (by simp (disch := first | assumption | omega | (simp only [nx] <;> omega) | fail) only [aIndexAddr, ty44, ty49, hpl, hg, hc, sb, c0, c1, c2] <;> rfl)) rfl <| .free rfl rfl (so_fieldAddr (by simp only [lk] <;> rfl) (fa_ok (k := 1) ty49 rfl rfl ty47 rfl rfl)) rfl <| .read rfl rfl (so_load (by simp only [lk] <;> rfl) (by simp (disch := first | assumption | omega | (simp only [nx] <;> omega) | fail) only [aLoad, ty47, rowOf, hpl, hg, hc, sb, c0, c1, c2] <;> rfl)) (by first | rfl | (simp [veq, veq1, veqs]; done) | (simp [veq, veq1, veqs, splice]; done)) ⟨.inr (so_load (by simp only [lk] <;> rfl) (by simp (disch := first | assumption | omega | (simp only [nx] <;> omega) | fail) only [aLoad, ty47, rowOf, hpl, hg, hc, sb, c0, c1, c2] <;> rfl)), trivial⟩ rfl <| .read rfl (by kernel_rfl) (so_conw (so_conv tyOK (by simp only [lk] <;> rfl) ty47 ⟨_, rfl⟩ ty27 rfl) (by first | (simp only [v2, u1] <;> rfl) | rfl)) (by first | rfl | (simp [veq, veq1, veqs]; done) | (simp [veq, veq1, veqs, splice]; done)) ⟨.inr (so_conw (so_conv tyOK (by simp only [lk] <;> rfl) ty47 ⟨_, rfl⟩ ty27 rfl) (by first | (simp only [v2, u1] <;> rfl) | rfl)), trivial⟩ rfl <| .call rfl rfl (fcallO (by simp only [aopnds, lk] <;> rfl) en10 (e1)) rfl ⟨.inl rfl, .inl rfl, .inl rfl, trivial⟩ rfl <| .nil) <| BQ.normal <| SQ.normal ?_
          refine W.reg <| OSuf.aop tyOK rfl sm rfl <| OSuf.aop tyOK rfl (so_bin (by simp only [lk] <;> rfl) (by simp only [lk] <;> rfl) (bi_w bi_add (by first | (simp only [v2, u1] <;> rfl) | rfl))) rfl <| OSuf.aop tyOK rfl (so_assign (by simp only [lk] <;> rfl)) rfl <| OSuf.nil <| ?_
          -- leaf: round
          refine LQ.normal (m := q - 1) (L := [(0, .slice (some ⟨r0, 0, none⟩) l.length 0), (5, P0 h.next), (7, P0 (h.next + 2)), (8, I64 ((i + 1 : Nat) : Int))]) (by omega) ?_ ⟨i + 1, _, M1', _, by omega, by omega, by omega, S1, Nat.le_trans (touchR_length _ _ _ _) (by omega), touchR_all _ hAv (fun x hx => hAv x hx) (fun ho => ⟨by simp, ho.2⟩), rfl⟩
          simp only [HasA, Tr.get_put, Nat.reduceEqDiff, reduceIte, v2, and_self]
      · refine W.seq <| W.seq <| W.reg <| OSuf.aop tyOK rfl sm rfl <| OSuf.aop tyOK rfl sm rfl <| OSuf.aop tyOK rfl (so_len (by simp only [aopnds, lk] <;> rfl) (by simp (disch := first | assumption | omega | (simp only [nx] <;> omega) | fail) only [aLenOf, ty44, hpl] <;> rfl)) rfl <| OSuf.aopT tyOK rfl (so_bin (by simp only [lk] <;> rfl) (by simp only [lk] <;> rfl) bi_lss) (fun _ => rfl) (by first | rfl | assumption | ((simp only [bl]) <;> first | done | assumption | omega) | (simp; done) | (simp; omega)) <| OSuf.aopT tyOK rfl sm (fun _ => rfl) rfl <| OSuf.aop tyOK ag sm rfl <| OSuf.aopF tyOK ag (so_bin (by simp only [lk] <;> rfl) (by simp only [lk] <;> rfl) bi_lss) (fun _ => rfl) (by first | rfl | assumption | ((simp only [bl]) <;> first | done | assumption | omega) | (simp; done) | (simp; omega)) <| OSuf.aopF tyOK rfl (so_pick (by simp only [lk] <;> rfl) (by simp only [lk, cond_true, cond_false] <;> rfl)) (fun _ => rfl) rfl <| OSuf.nil <| SQ.normal ?_
        refine W.no (by simp only [lk] <;> rfl) <| CWp.exit <| SQ.exit <| LQ.exit <| BQ.exit <| ?_
        -- leaf: cut
        exact NQ.normal (L := [(5, P0 h.next), (7, P0 (h.next + 2))]) (by simp only [HasA, Tr.get_put, Nat.reduceEqDiff, reduceIte, and_self]) ⟨fl, M, A, S, by omega, hAv, rfl⟩
    · refine W.seq <| W.seq <| W.reg <| OSuf.aop tyOK rfl sm rfl <| OSuf.aop tyOK rfl sm rfl <| OSuf.aop tyOK rfl (so_len (by simp only [aopnds, lk] <;> rfl) (by simp (disch := first | assumption | omega | (simp only [nx] <;> omega) | fail) only [aLenOf, ty44, hpl] <;> rfl)) rfl <| OSuf.aopF tyOK rfl (so_bin (by simp only [lk] <;> rfl) (by simp only [lk] <;> rfl) bi_lss) (fun _ => rfl) (by first | rfl | assumption | ((simp only [bl]) <;> first | done | assumption | omega) | (simp; done) | (simp; omega)) <| OSuf.aopF tyOK rfl sm (fun _ => rfl) rfl <| OSuf.pass ag rfl <| OSuf.pass ag rfl <| OSuf.aopF tyOK rfl (so_pick (by simp only [lk] <;> rfl) (by simp only [lk, cond_true, cond_false] <;> rfl)) (fun _ => rfl) rfl <| OSuf.nil <| SQ.normal ?_
      refine W.no (by simp only [lk] <;> rfl) <| CWp.exit <| SQ.exit <| LQ.exit <| BQ.exit <| ?_
      -- leaf: cut
      exact NQ.normal (L := [(5, P0 h.next), (7, P0 (h.next + 2))]) (by simp only [HasA, Tr.get_put, Nat.reduceEqDiff, reduceIte, and_self]) ⟨fl, M, A, S, by omega, hAv, rfl⟩
  rintro L a' h1 ha ⟨fl, M, A, S, hAl, hAv, rfl⟩
  have harow := S.arow
  obtain ⟨ka, hka⟩ : ∃ k, k = kb (m0 % 7) (m0 / 7 % 5) := ⟨_, rfl⟩
  obtain ⟨kb', hkb⟩ : ∃ k, k = kb (m1 % 7) (m1 / 7 % 5) := ⟨_, rfl⟩
  obtain ⟨kc, hkc⟩ : ∃ k, k = kb (m2 % 7) (m2 / 7 % 5) := ⟨_, rfl⟩
  have ya := key_c h1 m0 hm0
  have yb := key_c h1 m1 hm1
  have yc := key_c h1 m2 hm2
  rw [← hka] at ya
  rw [← hkb] at yb
  rw [← hkc] at yc
  have na : ¬ ka = [] ∧ ka.length ≤ 16 := by rw [hka]; exact ⟨kb_ne _ _, (kb_ok _ _).2⟩
  have nb : ¬ kb' = [] ∧ kb'.length ≤ 16 := by rw [hkb]; exact ⟨kb_ne _ _, (kb_ok _ _).2⟩
  have nc : ¬ kc = [] ∧ kc.length ≤ 16 := by rw [hkc]; exact ⟨kb_ne _ _, (kb_ok _ _).2⟩
  clear hka hkb hkc
  refine SQ.normal <| CWp.known ha ?_
  simp only [mkA]
  refine W.seq <| CWp.sqd tyOK mixed (ms := [0, 1, 3, 0, 8, 31, 0, 64, 255, 511, 1023, 2047]) (by kernel_rfl) (
      .free rfl rfl (so_indexAddr (by simp only [lk] <;> rfl) (by simp only [lk] <;> rfl) (by simp (disch := first | assumption | omega | (simp only [nx] <;> omega) | fail) only [aIndexAddr, ty63, ty5, hpl, harow] <;> rfl)) rfl <| .read rfl rfl (so_load (by simp only [lk] <;> rfl) (by simp (disch := first | assumption | omega | (simp only [nx] <;> omega) | fail) only [aLoad, ty5, rowOf, hpl, harow] <;> rfl)) (by first | rfl | (simp [veq, veq1, veqs]; done) | (simp [veq, veq1, veqs, splice]; done)) trivial rfl <| .call rfl rfl (fcallO (by simp only [aopnds, lk] <;> rfl) en17 (ya)) rfl ⟨.inl rfl, trivial⟩ rfl <| .free rfl rfl (so_indexAddr (by simp only [lk] <;> rfl) (by simp only [lk] <;> rfl) (by simp (disch := first | assumption | omega | (simp only [nx] <;> omega) | fail) only [aIndexAddr, ty63, ty5, hpl, harow] <;> rfl)) rfl <| .read rfl rfl (so_load (by simp only [lk] <;> rfl) (by simp (disch := first | assumption | omega | (simp only [nx] <;> omega) | fail) only [aLoad, ty5, rowOf, hpl, harow] <;> rfl)) (by first | rfl | (simp [veq, veq1, veqs]; done) | (simp [veq, veq1, veqs, splice]; done)) ⟨.inr (so_load (by simp only [lk] <;> rfl) (by simp (disch := first | assumption | omega | (simp only [nx] <;> omega) | fail) only [aLoad, ty5, rowOf, hpl, harow] <;> rfl)), trivial⟩ rfl <| .call rfl rfl (fcallO (by simp only [aopnds, lk] <;> rfl) en17 (yb)) rfl ⟨.inl rfl, .inl rfl, trivial⟩ rfl <| .free rfl rfl (so_indexAddr (by simp only [lk] <;> rfl) (by simp only [lk] <;> rfl) (by simp (disch := first | assumption | omega | (simp only [nx] <;> omega) | fail) only [aIndexAddr, ty63, ty5, hpl, harow] <;> rfl)) rfl <| .read rfl rfl (so_load (by simp only [lk] <;> rfl) (by simp (disch := first | assumption | omega | (simp only [nx] <;> omega) | fail) only [aLoad, ty5, rowOf, hpl, harow] <;> rfl)) (by first | rfl | (simp [veq, veq1, veqs]; done) | (simp [veq, veq1, veqs, splice]; done)) ⟨.inr (so_load (by simp only [lk] <;> rfl) (by simp (disch := first | assumption | omega | (simp only [nx] <;> omega) | fail) only [aLoad, ty5, rowOf, hpl, harow] <;> rfl)), .inr (so_load (by simp only [lk] <;> rfl) (by simp (disch := first | assumption | omega | (simp only [nx] <;> omega) | fail) only [aLoad, ty5, rowOf, hpl, harow] <;> rfl)), trivial⟩ rfl <| .call rfl rfl (fcallO (by simp only [aopnds, lk] <;> rfl) en17 (yc)) rfl ⟨.inl rfl, .inl rfl, .inl rfl, trivial⟩ rfl <| .free rfl rfl (so_assign (by simp only [lk] <;> rfl)) rfl <| .free rfl rfl (so_assign (by simp only [lk] <;> rfl)) rfl <| .free rfl rfl (so_assign (by simp only [lk] <;> rfl)) rfl <| .nil) <| SQ.normal ?_
  refine W.seq <| ?_
  -- leaf: upto
  have ldef : ∀ a b : List UInt8, Op.bytesLess (ByteArray.toList ⟨⟨a⟩⟩) (ByteArray.toList ⟨⟨b⟩⟩) = ltStr a b := str_lt
  refine W.cut (fun L h' => h1 = h' ∧ ∃ x y, leS x y ∧ (¬ x = [] ∧ x.length ≤ 16) ∧ (¬ y = [] ∧ y.length ≤ 16) ∧ L = [(5, P0 h.next), (7, P0 (h.next + 2)), (9, encS x), (10, encS y), (11, encS kc)]) ?_ ?_
  · cases hxy : ltStr kb' ka with
    | true =>
      have b1 : Op.bytesLess (ByteArray.toList ⟨⟨kb'⟩⟩) (ByteArray.toList ⟨⟨ka⟩⟩) = true := by rw [ldef]; exact hxy
      refine W.seq <| W.reg <| OSuf.aop tyOK rfl sm rfl <| OSuf.aop tyOK rfl sm rfl <| OSuf.aopT tyOK rfl (so_bin (by simp only [lk] <;> rfl) (by simp only [lk] <;> rfl) bs_lss) (fun _ => rfl) (b1) <| OSuf.nil <| SQ.normal ?_
      refine W.yes (by simp only [lk] <;> rfl) <| W.reg <| OSuf.aop tyOK rfl sm rfl <| OSuf.aop tyOK rfl sm rfl <| OSuf.aop tyOK rfl (so_assign (by simp only [lk] <;> rfl)) rfl <| OSuf.aop tyOK rfl (so_assign (by simp only [lk] <;> rfl)) rfl <| OSuf.nil <| ?_
      -- leaf: cut
      refine NQ.normal (L := [(5, P0 h.next), (7, P0 (h.next + 2)), (9, encS kb'), (10, encS ka), (11, encS kc)]) ?_ ⟨rfl, kb', ka, leS_of_lt hxy, nb, na, rfl⟩
      simp only [HasA, Tr.get_put, Nat.reduceEqDiff, reduceIte, and_self]
    | false =>
      have b1 : Op.bytesLess (ByteArray.toList ⟨⟨kb'⟩⟩) (ByteArray.toList ⟨⟨ka⟩⟩) = false := by rw [ldef]; exact hxy
      refine W.seq <| W.reg <| OSuf.aop tyOK rfl sm rfl <| OSuf.aop tyOK rfl sm rfl <| OSuf.aopF tyOK rfl (so_bin (by simp only [lk] <;> rfl) (by simp only [lk] <;> rfl) bs_lss) (fun _ => rfl) (b1) <| OSuf.nil <| SQ.normal ?_
      refine W.no (by simp only [lk] <;> rfl) <| CWp.skip <| ?_
      -- leaf: cut
      refine NQ.normal (L := [(5, P0 h.next), (7, P0 (h.next + 2)), (9, encS ka), (10, encS kb'), (11, encS kc)]) ?_ ⟨rfl, ka, kb', hxy, na, nb, rfl⟩
      simp only [HasA, Tr.get_put, Nat.reduceEqDiff, reduceIte, and_self]
  clear ya yb na nb
  rintro L a' _ ha ⟨rfl, ka, kb', hab, na, nb, rfl⟩
  refine SQ.normal <| CWp.known ha ?_
  simp only [mkA]
  refine W.seq <| ?_
  -- leaf: upto
  refine W.cut (fun L h' => h1 = h' ∧ ∃ y z, leS y z ∧ leS ka z ∧ (¬ y = [] ∧ y.length ≤ 16) ∧ (¬ z = [] ∧ z.length ≤ 16) ∧ L = [(5, P0 h.next), (7, P0 (h.next + 2)), (9, encS ka), (10, encS y), (11, encS z)]) ?_ ?_
  · cases hxy : ltStr kc kb' with
    | true =>
      have b1 : Op.bytesLess (ByteArray.toList ⟨⟨kc⟩⟩) (ByteArray.toList ⟨⟨kb'⟩⟩) = true := by rw [ldef]; exact hxy
      refine W.seq <| W.reg <| OSuf.aop tyOK rfl sm rfl <| OSuf.aop tyOK rfl sm rfl <| OSuf.aopT tyOK rfl (so_bin (by simp only [lk] <;> rfl) (by simp only [lk] <;> rfl) bs_lss) (fun _ => rfl) (b1) <| OSuf.nil <| SQ.normal ?_
      refine W.yes (by simp only [lk] <;> rfl) <| W.reg <| OSuf.aop tyOK rfl sm rfl <| OSuf.aop tyOK rfl sm rfl <| OSuf.aop tyOK rfl (so_assign (by simp only [lk] <;> rfl)) rfl <| OSuf.aop tyOK rfl (so_assign (by simp only [lk] <;> rfl)) rfl <| OSuf.nil <| ?_
      -- leaf: cut
      refine NQ.normal (L := [(5, P0 h.next), (7, P0 (h.next + 2)), (9, encS ka), (10, encS kc), (11, encS kb')]) ?_ ⟨rfl, kc, kb', leS_of_lt hxy, hab, nc, nb, rfl⟩
      simp only [HasA, Tr.get_put, Nat.reduceEqDiff, reduceIte, and_self]
    | false =>
      have b1 : Op.bytesLess (ByteArray.toList ⟨⟨kc⟩⟩) (ByteArray.toList ⟨⟨kb'⟩⟩) = false := by rw [ldef]; exact hxy
      refine W.seq <| W.reg <| OSuf.aop tyOK rfl sm rfl <| OSuf.aop tyOK rfl sm rfl <| OSuf.aopF tyOK rfl (so_bin (by simp only [lk] <;> rfl) (by simp only [lk] <;> rfl) bs_lss) (fun _ => rfl) (b1) <| OSuf.nil <| SQ.normal ?_
      refine W.no (by simp only [lk] <;> rfl) <| CWp.skip <| ?_
      -- leaf: cut
      refine NQ.normal (L := [(5, P0 h.next), (7, P0 (h.next + 2)), (9, encS ka), (10, encS kb'), (11, encS kc)]) ?_ ⟨rfl, kb', kc, hxy, leS_trans hab hxy, nb, nc, rfl⟩
      simp only [HasA, Tr.get_put, Nat.reduceEqDiff, reduceIte, and_self]
  clear yc nb nc hab
  rintro L a' _ ha ⟨rfl, kb', kc, hbc, hac, nb, nc, rfl⟩
  refine SQ.normal <| CWp.known ha ?_
  simp only [mkA]
  refine W.seq <| ?_
  -- leaf: upto
  refine W.cut (fun L h' => h1 = h' ∧ ∃ x y, leS x y ∧ leS y kc ∧ (¬ x = [] ∧ x.length ≤ 16) ∧ (¬ y = [] ∧ y.length ≤ 16) ∧ L = [(5, P0 h.next), (7, P0 (h.next + 2)), (9, encS x), (10, encS y), (11, encS kc)]) ?_ ?_
  · cases hxy : ltStr kb' ka with
    | true =>
      have b1 : Op.bytesLess (ByteArray.toList ⟨⟨kb'⟩⟩) (ByteArray.toList ⟨⟨ka⟩⟩) = true := by rw [ldef]; exact hxy
      refine W.seq <| W.reg <| OSuf.aop tyOK rfl sm rfl <| OSuf.aop tyOK rfl sm rfl <| OSuf.aopT tyOK rfl (so_bin (by simp only [lk] <;> rfl) (by simp only [lk] <;> rfl) bs_lss) (fun _ => rfl) (b1) <| OSuf.nil <| SQ.normal ?_
      refine W.yes (by simp only [lk] <;> rfl) <| W.reg <| OSuf.aop tyOK rfl sm rfl <| OSuf.aop tyOK rfl sm rfl <| OSuf.aop tyOK rfl (so_assign (by simp only [lk] <;> rfl)) rfl <| OSuf.aop tyOK rfl (so_assign (by simp only [lk] <;> rfl)) rfl <| OSuf.nil <| ?_
      -- leaf: cut
      refine NQ.normal (L := [(5, P0 h.next), (7, P0 (h.next + 2)), (9, encS kb'), (10, encS ka), (11, encS kc)]) ?_ ⟨rfl, kb', ka, leS_of_lt hxy, hac, nb, na, rfl⟩
      simp only [HasA, Tr.get_put, Nat.reduceEqDiff, reduceIte, and_self]
    | false =>
      have b1 : Op.bytesLess (ByteArray.toList ⟨⟨kb'⟩⟩) (ByteArray.toList ⟨⟨ka⟩⟩) = false := by rw [ldef]; exact hxy
      refine W.seq <| W.reg <| OSuf.aop tyOK rfl sm rfl <| OSuf.aop tyOK rfl sm rfl <| OSuf.aopF tyOK rfl (so_bin (by simp only [lk] <;> rfl) (by simp only [lk] <;> rfl) bs_lss) (fun _ => rfl) (b1) <| OSuf.nil <| SQ.normal ?_
      refine W.no (by simp only [lk] <;> rfl) <| CWp.skip <| ?_
      -- leaf: cut
      refine NQ.normal (L := [(5, P0 h.next), (7, P0 (h.next + 2)), (9, encS ka), (10, encS kb'), (11, encS kc)]) ?_ ⟨rfl, ka, kb', hxy, hbc, na, nb, rfl⟩
      simp only [HasA, Tr.get_put, Nat.reduceEqDiff, reduceIte, and_self]
  clear hbc hac na nb
  rintro L a' _ ha ⟨rfl, ka, kb', hab, hbc, na, nb, rfl⟩
  have hsz : A.length ≤ 1000000 := by omega
  -- the two lists
  obtain ⟨b1, H1, p1, p2, p3, p4, p5, p6⟩ := keys_x h1 _ fl M A S.tb ka kb' hsz
  have S1 := S.garb p3 p4
  obtain ⟨b2, H2, q1, q2, q3, q4, q5, q6⟩ := keys_x H1 _ fl M A S1.tb kb' kc hsz
  have S2 := S1.garb q3 q4
  have p2' := p2.mono q3 q4
  have hl1 := keysR_len ka kb' A
  have hl2 := keysR_len kb' kc A
  have hl3 := keysR_len ka kc A
  -- put together
  obtain ⟨G0, hG0⟩ : ∃ G0, G0 = H2.new (.cells [] 1) := ⟨_, rfl⟩
  have g0n : G0.next = H2.next + 1 := by rw [hG0]; rfl
  have g0o : ∀ z, z < H2.next → G0.get z = H2.get z := fun z hz => by rw [hG0, AHeap.get_new_ne (by omega)]
  obtain ⟨v1, G1, a1, a2, a3, a4, a5⟩ := app_c (h := G0) (vs := []) (v := .slice (some ⟨H2.next, 0, none⟩) 0 1) (G := keysR ka kb' A) (b := b1) (.inr ⟨rfl, _, rfl⟩) (p2'.mono (by omega) g0o) (by simp; omega) p5
  have g1o : ∀ z, z < H2.next → G1.get z = H2.get z := fun z hz => by
    rw [a4 z (by omega) (fun e => by simp [svRow] at e; omega), g0o z hz]
  rw [List.nil_append] at a2
  have hv1 : ∀ z, svRow v1 = some z → H2.next ≤ z := fun z hz => by
    rcases a5 with h9 | h9
    · rw [h9] at hz; simp [svRow] at hz; omega
    · rw [h9] at hz; cases hz; omega
  obtain ⟨v2, G2, c1, c2, c3, c4, c5⟩ := app_c (h := G1) (vs := encL (keysR ka kb' A)) (v := v1) (G := keysR kb' kc A) (b := b2) a2 (q2.mono (by omega) g1o) (by simp [encL]; omega) q5
  have g2o : ∀ z, z < H2.next → G2.get z = H2.get z := fun z hz => by
    rw [c4 z (by omega) (fun e => by have := hv1 z e; omega), g1o z hz]
  rw [← encL_append] at c2
  have S3 := S2.garb (h' := G2) (by omega) g2o
  obtain ⟨b3, H3, r1, r2, r3, r4, r5, r6⟩ := keys_x G2 _ fl M A S3.tb ka kc hsz
  have S4 := S3.garb r3 r4
  have c2' : VL H3 (encL (keysR ka kb' A ++ keysR kb' kc A)) v2 := by
    rcases c2 with c2 | ⟨e1, y, rfl⟩
    · exact .inl (c2.mono r3 fun z hz _ => r4 z hz)
    · exact .inr ⟨e1, y, rfl⟩
  obtain ⟨b4, cc4, e4, s4⟩ := c2'.str
  subst e4
  have htx := texts_c H3 _ _ b4 b3 cc4 0 s4 r2 (by simp; omega) (by omega)
  rw [decide_eq_true (keysR_join nb.1 nc.1 hab hbc)] at htx
  obtain ⟨b5, H5, t1, t2, t3, t4, t5, t6⟩ := keys_x H3 _ fl M A S4.tb [] [] hsz
  have S5 := S4.garb t3 t4
  subst hG0
  refine SQ.normal <| CWp.known ha ?_
  simp only [mkA]
  refine W.seq <| W.reg <| OSuf.aop tyOK rfl sm rfl <| OSuf.aop tyOK rfl sm rfl <| OSuf.aop tyOK rfl sm rfl <| OSuf.callD rfl (by simp only [aopnds, lk] <;> rfl) en23 (p1) rfl <| OSuf.aop tyOK rfl sm rfl <| OSuf.aop tyOK rfl sm rfl <| OSuf.aop tyOK rfl sm rfl <| OSuf.callD rfl (by simp only [aopnds, lk] <;> rfl) en23 (q1) rfl <| OSuf.aop tyOK rfl (so_assign (by simp only [lk] <;> rfl)) rfl <| OSuf.aop tyOK rfl (so_assign (by simp only [lk] <;> rfl)) rfl <| OSuf.nil <| SQ.normal ?_
  refine W.seq <| ?_
  -- leaf: upto
  refine W.cut (fun L h' => H3 = h' ∧ L = [(7, P0 (h.next + 2))]) ?_ ?_
  · by_cases hk : ka = kb'
    · subst hk
      have b9 : ((ByteArray.toList ⟨⟨ka⟩⟩) == (ByteArray.toList ⟨⟨ka⟩⟩)) = true := by rw [str_eq]; simp
      have b8 : (((keysR ka ka A).length : Int) != 0) = false := by rw [keysR_same na.1]; rfl
      refine W.seq <| W.reg <| OSuf.aop tyOK rfl sm rfl <| OSuf.aop tyOK rfl sm rfl <| OSuf.aopT tyOK rfl (so_bin (by simp only [lk] <;> rfl) (by simp only [lk] <;> rfl) bs_eql) (fun _ => rfl) (b9) <| OSuf.aopT tyOK rfl sm (fun _ => rfl) rfl <| OSuf.aop tyOK ag sm rfl <| OSuf.aop tyOK ag (so_len (by simp only [aopnds, lk] <;> rfl) (by simp (disch := first | assumption | omega | (simp only [nx] <;> omega) | fail) only [aLenOf, ty60, hpl, places, ty23, ty27, ty3, ty39, ty4, ty44, ty47, ty49, ty5, ty60, ty63, ty9] <;> rfl)) rfl <| OSuf.aopF tyOK ag (so_bin (by simp only [lk] <;> rfl) (by simp only [lk] <;> rfl) bi_neq) (fun _ => rfl) (b8) <| OSuf.aopF tyOK rfl (so_pick (by simp only [lk] <;> rfl) (by simp only [lk, cond_true, cond_false] <;> rfl)) (fun _ => rfl) rfl <| OSuf.aopF tyOK rfl sm (fun _ => rfl) rfl <| OSuf.aop tyOK ag (so_buildSlice (by simp only [aparts, lk] <;> rfl) (by simp (disch := first | assumption | omega | (simp only [nx] <;> omega) | fail) only [aBuildSlice, ty60, ty9, hpl, places, ty23, ty27, ty3, ty39, ty4, ty44, ty47, ty49, ty5, ty60, ty63, ty9] <;> rfl)) rfl <| OSuf.aop tyOK ag sm rfl <| OSuf.aop tyOK ag (so_append (by simp only [aopnds, lk] <;> rfl) (a1 _ _ (by simp only [appT, ty60, ty9] <;> rfl) rfl (by decide))) rfl <| OSuf.aop tyOK ag sm rfl <| OSuf.aop tyOK ag (so_append (by simp only [aopnds, lk] <;> rfl) (c1 _ _ (by simp only [appT, ty60, ty9] <;> rfl) rfl (by decide))) rfl <| OSuf.aop tyOK ag sm rfl <| OSuf.aop tyOK ag sm rfl <| OSuf.aop tyOK ag sm rfl <| OSuf.callD ag (by simp only [aopnds, lk] <;> rfl) en23 (r1) rfl <| OSuf.callD ag (by simp only [aopnds, lk] <;> rfl) en22 (htx) rfl <| OSuf.aopF tyOK ag (so_not (by simp only [lk] <;> rfl)) (fun _ => rfl) rfl <| OSuf.aopF tyOK rfl (so_pick (by simp only [lk] <;> rfl) (by simp only [lk, cond_true, cond_false] <;> rfl)) (fun _ => rfl) rfl <| OSuf.nil <| SQ.normal ?_
      refine W.no (by simp only [lk] <;> rfl) <| CWp.skip <| ?_
      -- leaf: cut
      refine NQ.normal (L := [(7, P0 (h.next + 2))]) ?_ ⟨rfl, rfl⟩
      simp only [HasA, Tr.get_put, Nat.reduceEqDiff, reduceIte, and_self]
    · have b9 : ((ByteArray.toList ⟨⟨ka⟩⟩) == (ByteArray.toList ⟨⟨kb'⟩⟩)) = false := by rw [str_eq]; simp [hk]
      refine W.seq <| W.reg <| OSuf.aop tyOK rfl sm rfl <| OSuf.aop tyOK rfl sm rfl <| OSuf.aopF tyOK rfl (so_bin (by simp only [lk] <;> rfl) (by simp only [lk] <;> rfl) bs_eql) (fun _ => rfl) (b9) <| OSuf.aopF tyOK rfl sm (fun _ => rfl) rfl <| OSuf.pass ag rfl <| OSuf.pass ag rfl <| OSuf.pass ag rfl <| OSuf.aopF tyOK rfl (so_pick (by simp only [lk] <;> rfl) (by simp only [lk, cond_true, cond_false] <;> rfl)) (fun _ => rfl) rfl <| OSuf.aopF tyOK rfl sm (fun _ => rfl) rfl <| OSuf.aop tyOK ag (so_buildSlice (by simp only [aparts, lk] <;> rfl) (by simp (disch := first | assumption | omega | (simp only [nx] <;> omega) | fail) only [aBuildSlice, ty60, ty9, hpl, places, ty23, ty27, ty3, ty39, ty4, ty44, ty47, ty49, ty5, ty60, ty63, ty9] <;> rfl)) rfl <| OSuf.aop tyOK ag sm rfl <| OSuf.aop tyOK ag (so_append (by simp only [aopnds, lk] <;> rfl) (a1 _ _ (by simp only [appT, ty60, ty9] <;> rfl) rfl (by decide))) rfl <| OSuf.aop tyOK ag sm rfl <| OSuf.aop tyOK ag (so_append (by simp only [aopnds, lk] <;> rfl) (c1 _ _ (by simp only [appT, ty60, ty9] <;> rfl) rfl (by decide))) rfl <| OSuf.aop tyOK ag sm rfl <| OSuf.aop tyOK ag sm rfl <| OSuf.aop tyOK ag sm rfl <| OSuf.callD ag (by simp only [aopnds, lk] <;> rfl) en23 (r1) rfl <| OSuf.callD ag (by simp only [aopnds, lk] <;> rfl) en22 (htx) rfl <| OSuf.aopF tyOK ag (so_not (by simp only [lk] <;> rfl)) (fun _ => rfl) rfl <| OSuf.aopF tyOK rfl (so_pick (by simp only [lk] <;> rfl) (by simp only [lk, cond_true, cond_false] <;> rfl)) (fun _ => rfl) rfl <| OSuf.nil <| SQ.normal ?_
      refine W.no (by simp only [lk] <;> rfl) <| CWp.skip <| ?_
      -- leaf: cut
      refine NQ.normal (L := [(7, P0 (h.next + 2))]) ?_ ⟨rfl, rfl⟩
      simp only [HasA, Tr.get_put, Nat.reduceEqDiff, reduceIte, and_self]
  rintro L a' _ ha ⟨rfl, rfl⟩
  have hperm := keysR_all (A := A)
  have hsorted := keysR_lt S5.tb.nodup
  have hkl := hperm.length_eq
  rw [List.length_map] at hkl
  refine SQ.normal <| CWp.known ha ?_
  simp only [mkA]
  refine W.seq <| W.reg <| OSuf.aop tyOK rfl sm rfl <| OSuf.callD rfl (by simp only [aopnds, lk] <;> rfl) en23 (t1) rfl <| OSuf.aop tyOK rfl (so_assign (by simp only [lk] <;> rfl)) rfl <| OSuf.nil <| SQ.normal ?_
  refine W.seq <| W.seq <| W.reg <| OSuf.aop tyOK rfl (so_assign (by simp only [lk] <;> rfl)) rfl <| OSuf.nil <| SQ.normal ?_
  -- leaf: loop
  refine W.cut (fun L h' => (∃ fl' M', RS h h' (h.next + 2) h.next m0 m1 m2 fl' M' A) ∧ L = [(7, P0 (h.next + 2)), (14, .slice b5 (keysR [] [] A).length 0)]) (W.block (W.loop (fun q L h' => ∃ i : Nat, q + i = (keysR [] [] A).length ∧ RS h h' (h.next + 2) h.next m0 m1 m2 fl M A ∧ StrB h' (keysR [] [] A) b5 ∧ L = [(7, P0 (h.next + 2)), (14, .slice b5 (keysR [] [] A).length 0), (15, I64 i)]) (n := (keysR [] [] A).length) ⟨0, by omega, S5, t2, rfl⟩ ?_ ?_)) ?_
  · simp [HasA, Tr.get_put]
  · rintro q L h4 ⟨i, hq, S6, hst, rfl⟩
    simp only [mkA]
    have v2 : IntKind.i64.wrap ((i : Int) + 1) = ((i + 1 : Nat) : Int) := by rw [wrap_i64 (by omega) (by omega)]; omega
    by_cases hi : (i : Int) < ((keysR [] [] A).length : Int)
    · obtain ⟨g, hg⟩ : ∃ g, (keysR [] [] A)[i]? = some g := ⟨(keysR [] [] A)[i]'(by omega), by simp⟩
      obtain ⟨y, rfl, y1, y2⟩ := hst.at_ i (by omega)
      have hc : (0 ≤ (i : Int) ∧ (i : Int) < ((keysR [] [] A).length : Int)) := by omega
      have hgg : (encL (keysR [] [] A))[i]? = some (encS g) := by simp [encL, hg]
      have hgm : g ∈ A.map Rec.key := hperm.mem_iff.1 (List.mem_of_getElem? hg)
      obtain ⟨x, hx, hxk⟩ := List.mem_map.1 hgm
      have hgr : getR g A = some x := find_nodup S6.tb.nodup hx hxk
      obtain ⟨rv, H6, z1, z2, z3, z4⟩ := row_some h4 _ fl M A S6.tb g (by have := (hAv x hx).2; rw [hxk] at this; omega) x hgr (by have := (hAv x hx).1; omega)
      obtain ⟨ra, rc, rfl⟩ := avo_form z2
      obtain ⟨H7, hH7⟩ : ∃ H7, H7 = (H6.new (.cells [encS [], U64 0, .bool false, .slice none 0 0] 1)).set H6.next (.cells [encS x.key, U64 x.rts, .bool x.here, .slice ra x.V.length rc] 1) := ⟨_, rfl⟩
      have h7n : H7.next = H6.next + 1 := by rw [hH7]; rfl
      have h7o : ∀ z, z < h4.next → H7.get z = h4.get z := fun z hz => by rw [hH7]; simp (disch := first | assumption | omega | (simp only [nx] <;> omega) | fail) only [hpl]; exact z4 z hz
      have S7 := S6.garb (h' := H7) (by omega) h7o
      have y26 : H6.get y = some (.cells (encL (keysR [] [] A)) 1) := by rw [z4 y y1]; exact y2
      have st7 := hst.mono (h' := H7) (by omega) h7o
      by_cases hi0 : (i : Int) > 0
      · obtain ⟨j, rfl⟩ : ∃ j, i = j + 1 := ⟨i - 1, by omega⟩
        obtain ⟨g', hg'⟩ : ∃ g', (keysR [] [] A)[j]? = some g' := ⟨(keysR [] [] A)[j]'(by omega), by simp⟩
        have hc' : (0 ≤ (j : Int) ∧ (j : Int) < ((keysR [] [] A).length : Int)) := by omega
        have hgg' : (encL (keysR [] [] A))[j]? = some (encS g') := by simp [encL, hg']
        have v3 : IntKind.i64.wrap (((j + 1 : Nat) : Int) - 1) = (j : Int) := by rw [wrap_i64 (by omega) (by omega)]; omega
        have hlt : ltStr g' g = true := by
          have := List.pairwise_iff_getElem.1 hsorted j (j + 1) (by omega) (by omega) (by omega)
          rw [List.getElem?_eq_getElem (by omega)] at hg hg'
          rw [Option.some.inj hg, Option.some.inj hg'] at this
          exact this
        have b7 : (!Op.bytesLess (ByteArray.toList ⟨⟨g'⟩⟩) (ByteArray.toList ⟨⟨g⟩⟩)) = false := by rw [ldef, hlt]; rfl
        subst hH7
        refine W.seq <| W.seq <| W.reg <| OSuf.aop tyOK rfl sm rfl <| OSuf.aop tyOK rfl sm rfl <| OSuf.aop tyOK rfl (so_len (by simp only [aopnds, lk] <;> rfl) (by simp (disch := first | assumption | omega | (simp only [nx] <;> omega) | fail) only [aLenOf, ty60, hpl, hc, hc', sb, y2, y26, hgg, hgg', Value.cells, places, ty23, ty27, ty3, ty39, ty4, ty44, ty47, ty49, ty5, ty60, ty63, ty9, rowV] <;> rfl)) rfl <| OSuf.aopT tyOK rfl (so_bin (by simp only [lk] <;> rfl) (by simp only [lk] <;> rfl) bi_lss) (fun _ => rfl) (by first | rfl | assumption | ((simp only [bl, hc, hc', sb, y2, y26, hgg, hgg', Value.cells, places, ty23, ty27, ty3, ty39, ty4, ty44, ty47, ty49, ty5, ty60, ty63, ty9, rowV]) <;> first | done | assumption | omega) | (simp; done) | (simp; omega)) <| OSuf.nil <| SQ.normal ?_
        refine W.yes (by simp only [lk] <;> rfl) <| CWp.skip <| SQ.normal ?_
        refine W.seq <| W.block <| W.seq <| W.reg <| OSuf.aop tyOK rfl sm rfl <| OSuf.aop tyOK rfl sm rfl <| OSuf.aop tyOK rfl sm rfl <| OSuf.aop tyOK rfl (so_indexAddr (by simp only [lk] <;> rfl) (by simp only [lk] <;> rfl) (by simp (disch := first | assumption | omega | (simp only [nx] <;> omega) | fail) only [aIndexAddr, ty60, ty9, hpl, hc, hc', sb, y2, y26, hgg, hgg', Value.cells, places, ty23, ty27, ty3, ty39, ty4, ty44, ty47, ty49, ty5, ty60, ty63, ty9, rowV] <;> rfl)) rfl <| OSuf.aop tyOK rfl (so_load (by simp only [lk] <;> rfl) (by simp (disch := first | assumption | omega | (simp only [nx] <;> omega) | fail) only [aLoad, ty9, rowOf, hpl, hc, hc', sb, y2, y26, hgg, hgg', Value.cells, places, ty23, ty27, ty3, ty39, ty4, ty44, ty47, ty49, ty5, ty60, ty63, ty9, rowV] <;> rfl)) rfl <| OSuf.callD rfl (by simp only [aopnds, lk] <;> rfl) en20 (z1) rfl <| OSuf.aop tyOK rfl sm rfl <| OSuf.aop tyOK rfl (so_extract (by simp only [lk] <;> rfl) (by simp (disch := first | assumption | omega | (simp only [nx] <;> omega) | fail) only [aExtract, hpl, hc, hc', sb, y2, y26, hgg, hgg', Value.cells, places, ty23, ty27, ty3, ty39, ty4, ty44, ty47, ty49, ty5, ty60, ty63, ty9, rowV] <;> rfl)) rfl <| OSuf.aopT tyOK rfl (so_extract (by simp only [lk] <;> rfl) (by simp (disch := first | assumption | omega | (simp only [nx] <;> omega) | fail) only [aExtract, hpl, hc, hc', sb, y2, y26, hgg, hgg', Value.cells, places, ty23, ty27, ty3, ty39, ty4, ty44, ty47, ty49, ty5, ty60, ty63, ty9, rowV] <;> rfl)) (fun _ => rfl) (by first | rfl | assumption | ((simp only [bl, hc, hc', sb, y2, y26, hgg, hgg', Value.cells, places, ty23, ty27, ty3, ty39, ty4, ty44, ty47, ty49, ty5, ty60, ty63, ty9, rowV]) <;> first | done | assumption | omega) | (simp; done) | (simp; omega)) <| OSuf.aop tyOK rfl (so_alloc (by simp only [aAlloc, ty39] <;> rfl)) rfl <| OSuf.aop tyOK rfl (so_store (by simp only [lk] <;> rfl) (by simp only [lk] <;> rfl) (by simp (disch := first | assumption | omega | (simp only [nx] <;> omega) | fail) only [aStore, ty39, writeRow, hpl, hc, hc', sb, y2, y26, hgg, hgg', Value.cells, places, ty23, ty27, ty3, ty39, ty4, ty44, ty47, ty49, ty5, ty60, ty63, ty9, rowV] <;> rfl)) rfl <| OSuf.aopT tyOK rfl (so_assign (by simp only [lk] <;> rfl)) (fun _ => rfl) rfl <| OSuf.nil <| SQ.normal ?_
        refine W.seq <| W.regD tyOK mixed (by kernel_rfl) <| SqW.aopT rfl sm (fun _ => rfl) rfl <| SqW.aopF rfl (so_not (by simp only [lk] <;> rfl)) (fun _ => rfl) rfl <| SqW.aopF rfl sm (fun _ => rfl) rfl <| SqW.aop ag sm rfl <| SqW.aopT ag (so_bin (by simp only [lk] <;> rfl) (by simp only [lk] <;> rfl) bi_gtr) (fun _ => rfl) (by first | rfl | assumption | ((simp only [bl, hc, hc', sb, y2, y26, hgg, hgg', Value.cells, places, ty23, ty27, ty3, ty39, ty4, ty44, ty47, ty49, ty5, ty60, ty63, ty9, rowV]) <;> first | done | assumption | omega) | (simp; done) | (simp; omega)) <| SqW.aopT ag sm (fun _ => rfl) rfl <| SqW.aop ag sm rfl <| SqW.aop ag sm rfl <| SqW.aop ag (so_bin (by simp only [lk] <;> rfl) (by simp only [lk] <;> rfl) (bi_w bi_sub (by first | (simp only [v2, v3] <;> rfl) | rfl))) rfl <| SqW.aop ag (so_indexAddr (by simp only [lk] <;> rfl) (by simp only [lk] <;> rfl) (by simp (disch := first | assumption | omega | (simp only [nx] <;> omega) | fail) only [aIndexAddr, ty60, ty9, hpl, hc, hc', sb, y2, y26, hgg, hgg', Value.cells, places, ty23, ty27, ty3, ty39, ty4, ty44, ty47, ty49, ty5, ty60, ty63, ty9, rowV] <;> rfl)) rfl <| SqW.aop ag (so_load (by simp only [lk] <;> rfl) (by simp (disch := first | assumption | omega | (simp only [nx] <;> omega) | fail) only [aLoad, ty9, rowOf, hpl, hc, hc', sb, y2, y26, hgg, hgg', Value.cells, places, ty23, ty27, ty3, ty39, ty4, ty44, ty47, ty49, ty5, ty60, ty63, ty9, rowV] <;> rfl)) rfl <| SqW.aop ag sm rfl <| SqW.aop ag sm rfl <| SqW.aop ag (so_indexAddr (by simp only [lk] <;> rfl) (by simp only [lk] <;> rfl) (by simp (disch := first | assumption | omega | (simp only [nx] <;> omega) | fail) only [aIndexAddr, ty60, ty9, hpl, hc, hc', sb, y2, y26, hgg, hgg', Value.cells, places, ty23, ty27, ty3, ty39, ty4, ty44, ty47, ty49, ty5, ty60, ty63, ty9, rowV] <;> rfl)) rfl <| SqW.aop ag (so_load (by simp only [lk] <;> rfl) (by simp (disch := first | assumption | omega | (simp only [nx] <;> omega) | fail) only [aLoad, ty9, rowOf, hpl, hc, hc', sb, y2, y26, hgg, hgg', Value.cells, places, ty23, ty27, ty3, ty39, ty4, ty44, ty47, ty49, ty5, ty60, ty63, ty9, rowV] <;> rfl)) rfl <| SqW.aopF ag (so_bin (by simp only [lk] <;> rfl) (by simp only [lk] <;> rfl) bs_geq) (fun _ => rfl) (b7) <| SqW.aopF ag (so_pick (by simp only [lk] <;> rfl) (by simp only [lk, cond_true, cond_false] <;> rfl)) (fun _ => rfl) rfl <| SqW.aopF rfl (so_pick (by simp only [lk] <;> rfl) (by simp only [lk, cond_true, cond_false] <;> rfl)) (fun _ => rfl) rfl <| SqW.nil <| SQ.normal ?_
        refine W.no (by simp only [lk] <;> rfl) <| CWp.skip <| BQ.normal <| SQ.normal ?_
        refine W.reg <| OSuf.aop tyOK rfl sm rfl <| OSuf.aop tyOK rfl (so_bin (by simp only [lk] <;> rfl) (by simp only [lk] <;> rfl) (bi_w bi_add (by first | (simp only [v2, v3] <;> rfl) | rfl))) rfl <| OSuf.aop tyOK rfl (so_assign (by simp only [lk] <;> rfl)) rfl <| OSuf.nil <| ?_
        -- leaf: round
        refine LQ.normal (m := q - 1) (L := [(7, P0 (h.next + 2)), (14, .slice (some ⟨y, 0, none⟩) (keysR [] [] A).length 0), (15, I64 ((j + 1 + 1 : Nat) : Int))]) (by omega) ?_ ⟨j + 1 + 1, by omega, S7, st7, rfl⟩
        simp only [HasA, Tr.get_put, Nat.reduceEqDiff, reduceIte, v2, and_self]
      · subst hH7
        refine W.seq <| W.seq <| W.reg <| OSuf.aop tyOK rfl sm rfl <| OSuf.aop tyOK rfl sm rfl <| OSuf.aop tyOK rfl (so_len (by simp only [aopnds, lk] <;> rfl) (by simp (disch := first | assumption | omega | (simp only [nx] <;> omega) | fail) only [aLenOf, ty60, hpl, hc, sb, y2, y26, hgg, Value.cells, places, ty23, ty27, ty3, ty39, ty4, ty44, ty47, ty49, ty5, ty60, ty63, ty9, rowV] <;> rfl)) rfl <| OSuf.aopT tyOK rfl (so_bin (by simp only [lk] <;> rfl) (by simp only [lk] <;> rfl) bi_lss) (fun _ => rfl) (by first | rfl | assumption | ((simp only [bl, hc, sb, y2, y26, hgg, Value.cells, places, ty23, ty27, ty3, ty39, ty4, ty44, ty47, ty49, ty5, ty60, ty63, ty9, rowV]) <;> first | done | assumption | omega) | (simp; done) | (simp; omega)) <| OSuf.nil <| SQ.normal ?_
        refine W.yes (by simp only [lk] <;> rfl) <| CWp.skip <| SQ.normal ?_
        refine W.seq <| W.block <| W.seq <| W.reg <| OSuf.aop tyOK rfl sm rfl <| OSuf.aop tyOK rfl sm rfl <| OSuf.aop tyOK rfl sm rfl <| OSuf.aop tyOK rfl (so_indexAddr (by simp only [lk] <;> rfl) (by simp only [lk] <;> rfl) (by simp (disch := first | assumption | omega | (simp only [nx] <;> omega) | fail) only [aIndexAddr, ty60, ty9, hpl, hc, sb, y2, y26, hgg, Value.cells, places, ty23, ty27, ty3, ty39, ty4, ty44, ty47, ty49, ty5, ty60, ty63, ty9, rowV] <;> rfl)) rfl <| OSuf.aop tyOK rfl (so_load (by simp only [lk] <;> rfl) (by simp (disch := first | assumption | omega | (simp only [nx] <;> omega) | fail) only [aLoad, ty9, rowOf, hpl, hc, sb, y2, y26, hgg, Value.cells, places, ty23, ty27, ty3, ty39, ty4, ty44, ty47, ty49, ty5, ty60, ty63, ty9, rowV] <;> rfl)) rfl <| OSuf.callD rfl (by simp only [aopnds, lk] <;> rfl) en20 (z1) rfl <| OSuf.aop tyOK rfl sm rfl <| OSuf.aop tyOK rfl (so_extract (by simp only [lk] <;> rfl) (by simp (disch := first | assumption | omega | (simp only [nx] <;> omega) | fail) only [aExtract, hpl, hc, sb, y2, y26, hgg, Value.cells, places, ty23, ty27, ty3, ty39, ty4, ty44, ty47, ty49, ty5, ty60, ty63, ty9, rowV] <;> rfl)) rfl <| OSuf.aopT tyOK rfl (so_extract (by simp only [lk] <;> rfl) (by simp (disch := first | assumption | omega | (simp only [nx] <;> omega) | fail) only [aExtract, hpl, hc, sb, y2, y26, hgg, Value.cells, places, ty23, ty27, ty3, ty39, ty4, ty44, ty47, ty49, ty5, ty60, ty63, ty9, rowV] <;> rfl)) (fun _ => rfl) (by first | rfl | assumption | ((simp only [bl, hc, sb, y2, y26, hgg, Value.cells, places, ty23, ty27, ty3, ty39, ty4, ty44, ty47, ty49, ty5, ty60, ty63, ty9, rowV]) <;> first | done | assumption | omega) | (simp; done) | (simp; omega)) <| OSuf.aop tyOK rfl (so_alloc (by simp only [aAlloc, ty39] <;> rfl)) rfl <| OSuf.aop tyOK rfl (so_store (by simp only [lk] <;> rfl) (by simp only [lk] <;> rfl) (by simp (disch := first | assumption | omega | (simp only [nx] <;> omega) | fail) only [aStore, ty39, writeRow, hpl, hc, sb, y2, y26, hgg, Value.cells, places, ty23, ty27, ty3, ty39, ty4, ty44, ty47, ty49, ty5, ty60, ty63, ty9, rowV] <;> rfl)) rfl <| OSuf.aopT tyOK rfl (so_assign (by simp only [lk] <;> rfl)) (fun _ => rfl) rfl <| OSuf.nil <| SQ.normal ?_
        refine W.seq <| W.regD tyOK mixed (by kernel_rfl) <| SqW.aopT rfl sm (fun _ => rfl) rfl <| SqW.aopF rfl (so_not (by simp only [lk] <;> rfl)) (fun _ => rfl) rfl <| SqW.aopF rfl sm (fun _ => rfl) rfl <| SqW.aop ag sm rfl <| SqW.aopF ag (so_bin (by simp only [lk] <;> rfl) (by simp only [lk] <;> rfl) bi_gtr) (fun _ => rfl) (by first | rfl | assumption | ((simp only [bl, hc, sb, y2, y26, hgg, Value.cells, places, ty23, ty27, ty3, ty39, ty4, ty44, ty47, ty49, ty5, ty60, ty63, ty9, rowV]) <;> first | done | assumption | omega) | (simp; done) | (simp; omega)) <| SqW.aopF ag sm (fun _ => rfl) rfl <| SqW.pass ag rfl <| SqW.pass ag rfl <| SqW.pass ag rfl <| SqW.pass ag rfl <| SqW.pass ag rfl <| SqW.pass ag rfl <| SqW.pass ag rfl <| SqW.pass ag rfl <| SqW.pass ag rfl <| SqW.pass ag rfl <| SqW.aopF ag (so_pick (by simp only [lk] <;> rfl) (by simp only [lk, cond_true, cond_false] <;> rfl)) (fun _ => rfl) rfl <| SqW.aopF rfl (so_pick (by simp only [lk] <;> rfl) (by simp only [lk, cond_true, cond_false] <;> rfl)) (fun _ => rfl) rfl <| SqW.nil <| SQ.normal ?_
        refine W.no (by simp only [lk] <;> rfl) <| CWp.skip <| BQ.normal <| SQ.normal ?_
        refine W.reg <| OSuf.aop tyOK rfl sm rfl <| OSuf.aop tyOK rfl (so_bin (by simp only [lk] <;> rfl) (by simp only [lk] <;> rfl) (bi_w bi_add (by first | (simp only [v2] <;> rfl) | rfl))) rfl <| OSuf.aop tyOK rfl (so_assign (by simp only [lk] <;> rfl)) rfl <| OSuf.nil <| ?_
        -- leaf: round
        refine LQ.normal (m := q - 1) (L := [(7, P0 (h.next + 2)), (14, .slice (some ⟨y, 0, none⟩) (keysR [] [] A).length 0), (15, I64 ((i + 1 : Nat) : Int))]) (by omega) ?_ ⟨i + 1, by omega, S7, st7, rfl⟩
        simp only [HasA, Tr.get_put, Nat.reduceEqDiff, reduceIte, v2, and_self]
    · refine W.seq <| W.seq <| W.reg <| OSuf.aop tyOK rfl sm rfl <| OSuf.aop tyOK rfl sm rfl <| OSuf.aop tyOK rfl (so_len (by simp only [aopnds, lk] <;> rfl) (by simp (disch := first | assumption | omega | (simp only [nx] <;> omega) | fail) only [aLenOf, ty60, hpl] <;> rfl)) rfl <| OSuf.aopF tyOK rfl (so_bin (by simp only [lk] <;> rfl) (by simp only [lk] <;> rfl) bi_lss) (fun _ => rfl) (by first | rfl | assumption | ((simp only [bl]) <;> first | done | assumption | omega) | (simp; done) | (simp; omega)) <| OSuf.nil <| SQ.normal ?_
      refine W.no (by simp only [lk] <;> rfl) <| CWp.exit <| SQ.exit <| LQ.exit <| BQ.exit <| ?_
      -- leaf: cut
      refine NQ.normal (L := [(7, P0 (h.next + 2)), (14, .slice b5 (keysR [] [] A).length 0)]) ?_ ⟨⟨fl, M, S6⟩, rfl⟩
      simp only [HasA, Tr.get_put, Nat.reduceEqDiff, reduceIte, and_self]
  rintro L a' h5 ha ⟨⟨fl', M', S8⟩, rfl⟩
  have hlenc := len_c h5 _ fl' M' S8.tb.ta
  have hlA : M'.all.length = A.length := by rw [← List.length_map (f := Lk.rc)]; exact S8.tb.perm.length_eq
  rw [hlA] at hlenc
  refine SQ.normal <| CWp.known ha ?_
  simp only [mkA]
  refine W.seq <| W.reg <| OSuf.aop tyOK rfl sm rfl <| OSuf.aop tyOK rfl (so_len (by simp only [aopnds, lk] <;> rfl) (by simp (disch := first | assumption | omega | (simp only [nx] <;> omega) | fail) only [aLenOf, ty60, hpl] <;> rfl)) rfl <| OSuf.aop tyOK rfl sm rfl <| OSuf.callD rfl (by simp only [aopnds, lk] <;> rfl) en21 (hlenc) rfl <| OSuf.aop tyOK rfl (so_bin (by simp only [lk] <;> rfl) (by simp only [lk] <;> rfl) bi_eql) rfl <| OSuf.aop tyOK rfl (so_assign (by simp only [lk] <;> rfl)) rfl <| OSuf.nil <| SQ.normal ?_
  refine CWp.ret <| FQ.ret (by simp only [aRet, Try.f6, aResults, aResult, lk, Nat.reduceEqDiff, reduceIte] <;> rfl) ?_
  -- leaf: end
  simp [hkl]
end Go.Proofs.Ytldhcjfhlfgleaa
