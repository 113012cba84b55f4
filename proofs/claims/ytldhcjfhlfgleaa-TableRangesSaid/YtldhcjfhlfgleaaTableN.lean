/-
  The law TableNever, walked.
-/
import Derived.Test.YtldhcjfhlfgleaaTableL
import Derived.Test.YtldhcjfhlfgleaaTableW
namespace Go.Proofs.Ytldhcjfhlfgleaa
open Go.Ab
set_option linter.unusedSimpArgs false
set_option linter.unusedVariables false
set_option maxRecDepth 10000
set_option maxHeartbeats 4000000

/-! Touches. -/
structure Tch where
  key : Nat
  ts : Int
  ev : Bool
def Tch.cs (x : Tch) : List Value := [.int .u8 (x.key : Int), .int .u16 x.ts, .bool x.ev]
def flatT (l : List Tch) : List Value := (l.map Tch.cs).flatten
def Tch.ok (x : Tch) : Prop := x.key < 256 ∧ 0 ≤ x.ts ∧ x.ts < 65536
def Tch.k (x : Tch) : List UInt8 := kb (x.key % 7) (x.key / 7 % 5)
structure TchAt (h : AHeap) (b : Option Addr) (l : List Tch) : Prop where
  len : l.length ≤ maxLen
  ok : ∀ x ∈ l, x.ok
  at_ : l ≠ [] → ∃ r, b = some ⟨r, 0, none⟩ ∧ r < h.next ∧ h.get r = some (.ro (flatT l))
theorem flatT_get {l : List Tch} {i j : Nat} {x : Tch} (hx : l[i]? = some x) (hj : j < 3) : (flatT l)[i * 3 + j]? = x.cs[j]? :=
  flatten_get (fun y hy => by obtain ⟨z, _, rfl⟩ := List.mem_map.1 hy; rfl) (by simp [hx]) hj
theorem lit_u16 {n : Int} (h : (Lit.int .u16 n).wf = true) : 0 ≤ n ∧ n < 65536 := by
  simp [Lit.wf, IntKind.min, IntKind.max, IntKind.signed, IntKind.bits] at h; omega
theorem RdV.touches {h : AHeap} {v : Value} (hr : RdV Try.prog h 4 44 v) : ∃ (b : Option Addr) (l : List Tch), v = .slice b l.length 0 ∧ TchAt h b l := by
  obtain ⟨b, vss, rfl, h1, h2, h3⟩ := RdV.recs Try.underlying44 hr
  have key : ∃ l : List Tch, vss = l.map Tch.cs ∧ ∀ x ∈ l, x.ok := by
    clear h1 h3 hr
    induction vss with
    | nil => exact ⟨[], rfl, by simp⟩
    | cons v vss ih =>
      obtain ⟨l, e1, e2⟩ := ih fun x hx => h2 x (List.mem_cons_of_mem _ hx)
      obtain ⟨_, g⟩ := h2 v List.mem_cons_self
      obtain ⟨fss, g1, g2, g3⟩ := Rd.fields Try.underlying49 g
      match fss, g2 with
      | [a, b, c], _ =>
        obtain ⟨_, x1⟩ := g3 0 _ a rfl rfl
        obtain ⟨_, x2⟩ := g3 1 _ b rfl rfl
        obtain ⟨_, x3⟩ := g3 2 _ c rfl rfl
        obtain ⟨i, rfl, w1⟩ := Rd.int Try.underlying5 x1
        obtain ⟨j, rfl, w2⟩ := Rd.int Try.underlying47 x2
        obtain ⟨o, rfl⟩ := Rd.bool Try.underlying4 x3
        have r1 := lit_u8 w1
        have r2 := lit_u16 w2
        refine ⟨⟨i.toNat, j, o⟩ :: l, by rw [g1, e1]; simp [Tch.cs, Int.toNat_of_nonneg r1.1], fun x hx => ?_⟩
        cases hx with
        | head => exact ⟨by show i.toNat < 256; omega, r2.1, r2.2⟩
        | tail _ hx => exact e2 x hx
  obtain ⟨l, rfl, h4⟩ := key
  refine ⟨b, l, by simp, by simpa using h1, h4, fun hn => h3 (by simpa using hn)⟩

structure NS (h0 h : AHeap) (r a : Nat) (fl : Int) (M : TM) (A : List Rec) (hs : List Int) (i : Nat) : Prop where
  tb : TB h r fl M A
  len : A.length ≤ i
  v : ∀ x ∈ A, x.V.length ≤ 1000000
  hlen : hs.length = 35
  high : ∀ n, n < 35 → ∀ y, hs[n]? = some y → y ≤ rtsR (kb (n / 5) (n % 5)) fl A
  arow : h.get a = some (.cells (hs.map (Value.int .u64)) 1)
  ane : ¬ a = r ∧ a ∉ M.rows ∧ a < h.next
  new : h0.next ≤ r ∧ h0.next ≤ a ∧ ∀ z ∈ M.rows, h0.next ≤ z
  old : ∀ z, z < h0.next → h.get z = h0.get z
  next : h0.next ≤ h.next
theorem NS.step {h0 h h' : AHeap} {r a : Nat} {fl fl' : Int} {M M' : TM} {A A' : List Rec} {hs : List Int} {i : Nat} (S : NS h0 h r a fl M A hs i) (t : TB h' r fl' M' A') (f : FrT h h' r M M') (hl : A'.length ≤ i + 1) (hv : ∀ x ∈ A', x.V.length ≤ 1000000) (hm : ∀ k, rtsR k fl A ≤ rtsR k fl' A') : NS h0 h' r a fl' M' A' hs (i + 1) := by
  obtain ⟨n1, n2, n3⟩ := S.new
  obtain ⟨a1, a2, a3⟩ := S.ane
  have hnx := S.next
  refine ⟨t, hl, hv, S.hlen, fun n hn y hy => Int.le_trans (S.high n hn y hy) (hm _), by rw [f.old a a3 a1 a2]; exact S.arow, ⟨a1, fun h9 => ?_, Nat.lt_of_lt_of_le a3 f.next⟩, ⟨n1, n2, fun z hz => ?_⟩, fun z hz => ?_, Nat.le_trans hnx f.next⟩
  · rcases f.rows a h9 with h8 | h8
    · exact a2 h8
    · omega
  · rcases f.rows z hz with h8 | h8
    · exact n3 z h8
    · omega
  · rw [f.old z (by omega) (by omega) (fun h9 => by have := n3 z h9; omega)]; exact S.old z hz
theorem NS.garb {h0 h h' : AHeap} {r a : Nat} {fl : Int} {M : TM} {A : List Rec} {hs : List Int} {i : Nat} (S : NS h0 h r a fl M A hs i) (hn : h.next ≤ h'.next) (hk : ∀ z, z < h.next → h'.get z = h.get z) : NS h0 h' r a fl M A hs i :=
  ⟨S.tb.mono hn hk, S.len, S.v, S.hlen, S.high, by rw [hk a S.ane.2.2]; exact S.arow, ⟨S.ane.1, S.ane.2.1, Nat.lt_of_lt_of_le S.ane.2.2 hn⟩, S.new, fun z hz => by rw [hk z (Nat.lt_of_lt_of_le hz S.next)]; exact S.old z hz, Nat.le_trans S.next hn⟩
theorem NS.up {h0 h : AHeap} {r a : Nat} {fl : Int} {M : TM} {A : List Rec} {hs : List Int} {i : Nat} (S : NS h0 h r a fl M A hs i) : NS h0 h r a fl M A hs (i + 1) :=
  ⟨S.tb, Nat.le_succ_of_le S.len, S.v, S.hlen, S.high, S.arow, S.ane, S.new, S.old, S.next⟩
theorem NS.set {h0 h : AHeap} {r a : Nat} {fl : Int} {M : TM} {A : List Rec} {hs : List Int} {i : Nat} (S : NS h0 h r a fl M A hs i) (n : Nat) (y : Int) (hn : n < 35) (hy : y ≤ rtsR (kb (n / 5) (n % 5)) fl A) : NS h0 (h.set a (.cells ((hs.set n y).map (Value.int .u64)) 1)) r a fl M A (hs.set n y) i := by
  obtain ⟨a1, a2, a3⟩ := S.ane
  refine ⟨⟨S.tb.ta.keep (by simp) (AHeap.get_set_ne a1) (fun z hz => AHeap.get_set_ne fun e => a2 (by rw [e]; exact hz)) (fun z w hz hg => AHeap.get_set_ne fun e => by (rw [← e, S.arow] at hg; simp at hg)), S.tb.perm⟩, S.len, S.v, by simp [S.hlen], fun m hm z hz => ?_, AHeap.get_set_same _ _ _, ⟨a1, a2, by simpa using a3⟩, S.new, fun z hz => ?_, by simpa using S.next⟩
  · rw [List.getElem?_set] at hz
    split at hz
    · split at hz
      · rename_i e _; cases hz; subst e; exact hy
      · cases hz
    · exact S.high m hm z hz
  · rw [AHeap.get_set_ne (by have := S.new.2.1; omega)]; exact S.old z hz

theorem never_c (h : AHeap) (m : Nat) (hm : m < 256) (b : Option Addr) (l : List Tch) (hb : TchAt h b l) : FWp Try.prog 4 [.slice b l.length 0, .int .u8 m] h fun u h' => u = .bool true ∧ ∀ z o, z < h.next → h.get z = some o → h'.get z = some o := by
  refine W.enter tyOK Try.func4 rfl rfl ?_
  simp only [entry]
  have w1 : (m : Int).tmod 64 = ((m % 64 : Nat) : Int) := by rw [Int.tmod_eq_emod_of_nonneg (by omega)]; omega
  have w2 : IntKind.i64.wrap ((m % 64 : Nat) : Int) = ((m % 64 : Nat) : Int) := wrap_i64 (by omega) (by omega)
  have w3 : IntKind.i64.wrap (1 + ((m % 64 : Nat) : Int)) = ((1 + m % 64 : Nat) : Int) := by rw [wrap_i64 (by omega) (by omega)]; omega
  refine W.seq <| W.reg <| OSuf.aopF tyOK rfl (so_assign (by simp only [lk] <;> rfl)) (fun _ => rfl) rfl <| OSuf.nil <| SQ.normal ?_
  refine W.seq <| W.seq <| W.reg <| OSuf.callD rfl (by simp only [aopnds, lk] <;> rfl) en9 (works_c _) rfl <| OSuf.aopF tyOK rfl (so_not (by simp only [lk] <;> rfl)) (fun _ => rfl) rfl <| OSuf.nil <| SQ.normal ?_
  refine W.no (by simp only [lk] <;> rfl) <| CWp.skip <| SQ.normal ?_
  refine W.seq <| W.reg <| OSuf.aop tyOK rfl sm rfl <| OSuf.aop tyOK rfl (so_bin (by simp only [lk] <;> rfl) (by simp only [lk] <;> rfl) (bi_w (bi_rem (by decide)) (by first | (simp only [w1, w2, w3] <;> rfl) | rfl))) rfl <| OSuf.aop tyOK rfl (so_conw (so_conv tyOK (by simp only [lk] <;> rfl) ty5 ⟨_, rfl⟩ ty3 rfl) (by first | (simp only [w1, w2, w3] <;> rfl) | rfl)) rfl <| OSuf.aop tyOK rfl (so_bin (by simp only [lk] <;> rfl) (by simp only [lk] <;> rfl) (bi_w bi_add (by first | (simp only [w1, w2, w3] <;> rfl) | rfl))) rfl <| OSuf.callD rfl (by simp only [aopnds, lk] <;> rfl) en8 (new_c _ (1 + m % 64) (by omega) (by omega)) rfl <| OSuf.aop tyOK rfl (so_assign (by simp only [lk] <;> rfl)) rfl <| OSuf.nil <| SQ.normal ?_
  refine W.seq <| W.seq <| W.reg <| OSuf.aop tyOK rfl sm rfl <| OSuf.aopF tyOK rfl (so_bin (by simp only [lk] <;> rfl) (by simp only [lk] <;> rfl) (bi_nil ⟨_, _, ty23, rfl⟩)) (fun _ => rfl) rfl <| OSuf.nil <| SQ.normal ?_
  refine W.no (by simp only [lk] <;> rfl) <| CWp.skip <| SQ.normal ?_
  refine W.seq <| W.reg <| OSuf.aop tyOK rfl (so_alloc (by simp only [aAlloc, ty45] <;> rfl)) rfl <| OSuf.nil <| SQ.normal ?_
  refine W.seq <| W.seq <| W.reg <| OSuf.aop tyOK rfl (so_assign (by simp only [lk] <;> rfl)) rfl <| OSuf.nil <| SQ.normal ?_
  -- leaf: loop
  have hS0 : NS h (((h.new (.cells (List.replicate (1 + m % 64) (.pointer none)) 1)).new (.cells [.slice (some ⟨h.next, 0, none⟩) (1 + m % 64) (1 + m % 64 + 1), U64 0, I64 0] 1)).new (.cells ((List.replicate 35 (0 : Int)).map (Value.int .u64)) 1)) (h.next + 1) (h.next + 2) 0 ⟨h.next, 1 + m % 64, List.replicate (1 + m % 64) []⟩ [] (List.replicate 35 0) 0 := by
    have hta := new_ta h (1 + m % 64) (by omega) (by omega)
    refine ⟨TB.mono ⟨hta, ?_⟩ (by simp) (fun z hz => AHeap.get_new_ne (by simp at hz ⊢; omega)), by simp, by simp, by simp, fun n hn y hy => ?_, AHeap.get_new_at (by simp), ⟨by omega, ?_, by simp⟩, ⟨by omega, by omega, fun z hz => ?_⟩, fun z hz => ?_, by simp; omega⟩
    · rw [TM.all, all_rep]; exact .refl _
    · have := List.eq_of_mem_replicate (List.mem_of_getElem? hy)
      subst this; exact Int.le_refl _
    · simp [TM.rows, TM.all, all_rep]
    · simp [TM.rows, TM.all, all_rep] at hz; omega
    · simp (disch := first | assumption | omega | (simp only [nx] <;> omega) | fail) only [hpl]
  refine W.cut (fun L h' => (∀ z, z < h.next → h'.get z = h.get z) ∧ L = []) (W.block (W.loop (fun q L h' => ∃ (i : Nat) (fl : Int) (M : TM) (A : List Rec) (hs : List Int), i ≤ 150 ∧ i ≤ l.length ∧ q + i = 150 ∧ NS h h' (h.next + 1) (h.next + 2) fl M A hs i ∧ L = [(0, .slice b l.length 0), (5, P0 (h.next + 1)), (6, P0 (h.next + 2)), (7, I64 i)]) (n := 150) ⟨0, 0, _, _, _, by omega, by omega, by omega, hS0, rfl⟩ ?_ ?_)) ?_
  · simp [HasA, Tr.get_put]
  · rintro q L h1 ⟨i, fl, M, A, hs, hi150, hil, hq, S, rfl⟩
    simp only [mkA]
    have v2 : IntKind.i64.wrap ((i : Int) + 1) = ((i + 1 : Nat) : Int) := by rw [wrap_i64 (by omega) (by omega)]; omega
    by_cases hlt : (i : Int) < (l.length : Int)
    · by_cases h150 : (i : Int) < 150
      · obtain ⟨x, hx⟩ : ∃ x, l[i]? = some x := ⟨l[i]'(by omega), by simp⟩
        obtain ⟨r0, rfl, hr0, hg0⟩ := hb.at_ (fun e => by rw [e] at hx; simp at hx)
        obtain ⟨xo1, xo2, xo3⟩ := hb.ok x (List.mem_of_getElem? hx)
        have hg : h1.get r0 = some (.ro (flatT l)) := by rw [S.old r0 hr0]; exact hg0
        have hc : (0 ≤ (i : Int) ∧ (i : Int) < (l.length : Int)) := by omega
        have c0 : (flatT l)[i * 3]? = some (.int .u8 (x.key : Int)) := flatT_get (j := 0) hx (by omega)
        have c1 : (flatT l)[i * 3 + 1]? = some (.int .u16 x.ts) := flatT_get (j := 1) hx (by omega)
        have c2 : (flatT l)[i * 3 + 2]? = some (.bool x.ev) := flatT_get (j := 2) hx (by omega)
        have hkl : x.k.length < 9223372036854775807 := by simp [Tch.k, kb]
        have hkey := key_c h1 x.key xo1
        have hrts := rts_c h1 (h.next + 1) fl M A S.tb x.k hkl S.v
        refine W.seq <| W.seq <| W.reg <| OSuf.aop tyOK rfl sm rfl <| OSuf.aop tyOK rfl sm rfl <| OSuf.aop tyOK rfl (so_len (by simp only [aopnds, lk] <;> rfl) (by simp (disch := first | assumption | omega | (simp only [nx] <;> omega) | fail) only [aLenOf, ty44, hpl, hg, hc, sb, c0, c1, c2] <;> rfl)) rfl <| OSuf.aopT tyOK rfl (so_bin (by simp only [lk] <;> rfl) (by simp only [lk] <;> rfl) bi_lss) (fun _ => rfl) (by first | rfl | assumption | ((simp only [bl, hg, hc, sb, c0, c1, c2]) <;> first | done | assumption | omega) | (simp; done) | (simp; omega)) <| OSuf.aopT tyOK rfl sm (fun _ => rfl) rfl <| OSuf.aop tyOK ag sm rfl <| OSuf.aopT tyOK ag (so_bin (by simp only [lk] <;> rfl) (by simp only [lk] <;> rfl) bi_lss) (fun _ => rfl) (by first | rfl | assumption | ((simp only [bl, hg, hc, sb, c0, c1, c2]) <;> first | done | assumption | omega) | (simp; done) | (simp; omega)) <| OSuf.aopT tyOK rfl (so_pick (by simp only [lk] <;> rfl) (by simp only [lk, cond_true, cond_false] <;> rfl)) (fun _ => rfl) rfl <| OSuf.nil <| SQ.normal ?_
        refine W.yes (by simp only [lk] <;> rfl) <| CWp.skip <| SQ.normal ?_
        refine W.seq <| W.block <| W.seq <| W.reg <| OSuf.aop tyOK rfl sm rfl <| OSuf.aop tyOK rfl sm rfl <| OSuf.aop tyOK rfl (so_indexAddr (by simp only [lk] <;> rfl) (by simp only [lk] <;> rfl) (by simp (disch := first | assumption | omega | (simp only [nx] <;> omega) | fail) only [aIndexAddr, ty44, ty49, hpl, hg, hc, sb, c0, c1, c2] <;> rfl)) rfl <| OSuf.aop tyOK rfl (so_fieldAddr (by simp only [lk] <;> rfl) (fa_ok (k := 0) ty49 rfl rfl ty5 rfl rfl)) rfl <| OSuf.aop tyOK rfl (so_load (by simp only [lk] <;> rfl) (by simp (disch := first | assumption | omega | (simp only [nx] <;> omega) | fail) only [aLoad, ty5, rowOf, hpl, hg, hc, sb, c0, c1, c2] <;> rfl)) rfl <| OSuf.callD rfl (by simp only [aopnds, lk] <;> rfl) en17 (hkey) rfl <| OSuf.aop tyOK rfl (so_assign (by simp only [lk] <;> rfl)) rfl <| OSuf.nil <| SQ.normal ?_
        refine W.seq <| W.reg <| OSuf.aop tyOK rfl sm rfl <| OSuf.aop tyOK rfl sm rfl <| OSuf.callD rfl (by simp only [aopnds, lk] <;> rfl) en18 (hrts) rfl <| OSuf.aop tyOK rfl (so_assign (by simp only [lk] <;> rfl)) rfl <| OSuf.nil <| SQ.normal ?_
        refine W.seq <| W.reg <| OSuf.aop tyOK rfl sm rfl <| OSuf.callD rfl (by simp only [aopnds, lk] <;> rfl) en19 (floor_c _ _ fl M S.tb.ta) rfl <| OSuf.aop tyOK rfl (so_assign (by simp only [lk] <;> rfl)) rfl <| OSuf.nil <| SQ.normal ?_
        refine W.seq <| ?_
        -- leaf: upto
        refine W.cut (fun L h2 => ∃ (fl' : Int) (M' : TM) (A' : List Rec) (hs' : List Int), NS h h2 (h.next + 1) (h.next + 2) fl' M' A' hs' (i + 1) ∧ fl ≤ fl' ∧ rtsR x.k fl A ≤ rtsR x.k fl' A' ∧ L = [(0, .slice (some ⟨r0, 0, none⟩) l.length 0), (5, P0 (h.next + 1)), (6, P0 (h.next + 2)), (7, I64 i), (8, encS x.k), (9, U64 (rtsR x.k fl A)), (10, U64 fl)]) ?_ ?_
        · cases hev : x.ev with
          | true =>
            rw [hev] at c2
            cases hgr : getR x.k A with
            | none =>
              have hrow := row_none h1 (h.next + 1) fl M A S.tb x.k hkl hgr
              have hS1 : ∀ H : AHeap, h1.next ≤ H.next → (∀ z, z < h1.next → H.get z = h1.get z) → NS h H (h.next + 1) (h.next + 2) fl M A hs i := fun H a1 a2 => S.garb a1 a2
              refine W.seq <| W.reg <| OSuf.aop tyOK rfl sm rfl <| OSuf.aop tyOK rfl sm rfl <| OSuf.aop tyOK rfl (so_indexAddr (by simp only [lk] <;> rfl) (by simp only [lk] <;> rfl) (by simp (disch := first | assumption | omega | (simp only [nx] <;> omega) | fail) only [aIndexAddr, ty44, ty49, hpl, hg, hc, sb, c0, c1, c2, Value.cells, places, ty23, ty27, ty3, ty39, ty4, ty44, ty45, ty47, ty49, ty5, ty54, ty9] <;> rfl)) rfl <| OSuf.aop tyOK rfl (so_fieldAddr (by simp only [lk] <;> rfl) (fa_ok (k := 2) ty49 rfl rfl ty4 rfl rfl)) rfl <| OSuf.aopT tyOK rfl (so_load (by simp only [lk] <;> rfl) (by simp (disch := first | assumption | omega | (simp only [nx] <;> omega) | fail) only [aLoad, ty4, rowOf, hpl, hg, hc, sb, c0, c1, c2, Value.cells, places, ty23, ty27, ty3, ty39, ty4, ty44, ty45, ty47, ty49, ty5, ty54, ty9] <;> rfl)) (fun _ => rfl) (by first | rfl | assumption | ((simp only [bl, hg, hc, sb, c0, c1, c2, Value.cells, places, ty23, ty27, ty3, ty39, ty4, ty44, ty45, ty47, ty49, ty5, ty54, ty9]) <;> first | done | assumption | omega) | (simp; done) | (simp; omega)) <| OSuf.nil <| SQ.normal ?_
              refine W.yes (by simp only [lk] <;> rfl) <| W.seq <| W.reg <| OSuf.aop tyOK rfl sm rfl <| OSuf.aop tyOK rfl sm rfl <| OSuf.callD rfl (by simp only [aopnds, lk] <;> rfl) en20 (hrow) rfl <| OSuf.aop tyOK rfl sm rfl <| OSuf.aop tyOK rfl (so_extract (by simp only [lk] <;> rfl) (by simp (disch := first | assumption | omega | (simp only [nx] <;> omega) | fail) only [aExtract, hpl, hg, hc, sb, c0, c1, c2, Value.cells, places, ty23, ty27, ty3, ty39, ty4, ty44, ty45, ty47, ty49, ty5, ty54, ty9] <;> rfl)) rfl <| OSuf.aop tyOK rfl (so_extract (by simp only [lk] <;> rfl) (by simp (disch := first | assumption | omega | (simp only [nx] <;> omega) | fail) only [aExtract, hpl, hg, hc, sb, c0, c1, c2, Value.cells, places, ty23, ty27, ty3, ty39, ty4, ty44, ty45, ty47, ty49, ty5, ty54, ty9] <;> rfl)) rfl <| OSuf.aop tyOK rfl (so_alloc (by simp only [aAlloc, ty39] <;> rfl)) rfl <| OSuf.aop tyOK rfl (so_store (by simp only [lk] <;> rfl) (by simp only [lk] <;> rfl) (by simp (disch := first | assumption | omega | (simp only [nx] <;> omega) | fail) only [aStore, ty39, writeRow, hpl, hg, hc, sb, c0, c1, c2, Value.cells, places, ty23, ty27, ty3, ty39, ty4, ty44, ty45, ty47, ty49, ty5, ty54, ty9] <;> rfl)) rfl <| OSuf.aop tyOK rfl (so_assign (by simp only [lk] <;> rfl)) rfl <| OSuf.nil <| SQ.normal ?_
              refine W.seq <| W.reg <| OSuf.aop tyOK rfl sm rfl <| OSuf.aop tyOK rfl sm rfl <| OSuf.callD rfl (by simp only [aopnds, lk] <;> rfl) en12 (evict_none _ _ fl M A (hS1 _ (by simp only [nx]; omega) (fun z hz => by simp (disch := first | assumption | omega | (simp only [nx] <;> omega) | fail) only [hpl])).tb x.k hkl hgr) rfl <| OSuf.aop tyOK rfl (so_bin (by simp only [lk] <;> rfl) (by simp only [lk] <;> rfl) bi_eql) rfl <| OSuf.aop tyOK rfl sm rfl <| OSuf.aopF tyOK rfl (so_bin (by simp only [lk] <;> rfl) (by simp only [lk] <;> rfl) (bb_neq tyOK ty4 rfl)) (fun _ => rfl) (by first | rfl | assumption | ((simp only [bl, hg, hc, sb, c0, c1, c2, Value.cells, places, ty23, ty27, ty3, ty39, ty4, ty44, ty45, ty47, ty49, ty5, ty54, ty9]) <;> first | done | assumption | omega) | (simp; done) | (simp; omega)) <| OSuf.nil <| SQ.normal ?_
              refine W.no (by simp only [lk] <;> rfl) <| CWp.skip <| ?_
              -- leaf: cut
              refine NQ.normal (L := [(0, .slice (some ⟨r0, 0, none⟩) l.length 0), (5, P0 (h.next + 1)), (6, P0 (h.next + 2)), (7, I64 i), (8, encS x.k), (9, U64 (rtsR x.k fl A)), (10, U64 fl)]) ?_ ⟨fl, M, A, hs, ?_, Int.le_refl _, Int.le_refl _, rfl⟩
              · simp only [HasA, Tr.get_put, Nat.reduceEqDiff, reduceIte, and_self] <;> first | trivial | exact ⟨rfl, trivial⟩
              · exact (hS1 _ (by simp only [nx]; omega) (fun z hz => by simp (disch := first | assumption | omega | (simp only [nx] <;> omega) | fail) only [hpl])).up
            | some y =>
              obtain ⟨rv, H1, hrow, hrv, hrn, hro⟩ := row_some h1 (h.next + 1) fl M A S.tb x.k hkl y hgr (S.v y (getR_key hgr).1)
              obtain ⟨ra, rc, rfl⟩ := avo_form hrv
              have hS2 : NS h ((H1.new (.cells [encS [], U64 0, .bool false, .slice none 0 0] 1)).set H1.next (.cells [encS y.key, U64 y.rts, .bool y.here, .slice ra y.V.length rc] 1)) (h.next + 1) (h.next + 2) fl M A hs i := S.garb (by simp only [nx]; omega) (fun z hz => by simp (disch := first | assumption | omega | (simp only [nx] <;> omega) | fail) only [hpl]; exact hro z hz)
              obtain ⟨H2, M', hev2, htb2, hfr2⟩ := evict_some _ (h.next + 1) fl M A hS2.tb x.k hkl y hgr (by have := S.len; omega)
              refine W.seq <| W.reg <| OSuf.aop tyOK rfl sm rfl <| OSuf.aop tyOK rfl sm rfl <| OSuf.aop tyOK rfl (so_indexAddr (by simp only [lk] <;> rfl) (by simp only [lk] <;> rfl) (by simp (disch := first | assumption | omega | (simp only [nx] <;> omega) | fail) only [aIndexAddr, ty44, ty49, hpl, hg, hc, sb, c0, c1, c2, Value.cells, places, ty23, ty27, ty3, ty39, ty4, ty44, ty45, ty47, ty49, ty5, ty54, ty9, rowV] <;> rfl)) rfl <| OSuf.aop tyOK rfl (so_fieldAddr (by simp only [lk] <;> rfl) (fa_ok (k := 2) ty49 rfl rfl ty4 rfl rfl)) rfl <| OSuf.aopT tyOK rfl (so_load (by simp only [lk] <;> rfl) (by simp (disch := first | assumption | omega | (simp only [nx] <;> omega) | fail) only [aLoad, ty4, rowOf, hpl, hg, hc, sb, c0, c1, c2, Value.cells, places, ty23, ty27, ty3, ty39, ty4, ty44, ty45, ty47, ty49, ty5, ty54, ty9, rowV] <;> rfl)) (fun _ => rfl) (by first | rfl | assumption | ((simp only [bl, hg, hc, sb, c0, c1, c2, Value.cells, places, ty23, ty27, ty3, ty39, ty4, ty44, ty45, ty47, ty49, ty5, ty54, ty9, rowV]) <;> first | done | assumption | omega) | (simp; done) | (simp; omega)) <| OSuf.nil <| SQ.normal ?_
              refine W.yes (by simp only [lk] <;> rfl) <| W.seq <| W.reg <| OSuf.aop tyOK rfl sm rfl <| OSuf.aop tyOK rfl sm rfl <| OSuf.callD rfl (by simp only [aopnds, lk] <;> rfl) en20 (hrow) rfl <| OSuf.aop tyOK rfl sm rfl <| OSuf.aop tyOK rfl (so_extract (by simp only [lk] <;> rfl) (by simp (disch := first | assumption | omega | (simp only [nx] <;> omega) | fail) only [aExtract, hpl, hg, hc, sb, c0, c1, c2, Value.cells, places, ty23, ty27, ty3, ty39, ty4, ty44, ty45, ty47, ty49, ty5, ty54, ty9, rowV] <;> rfl)) rfl <| OSuf.aop tyOK rfl (so_extract (by simp only [lk] <;> rfl) (by simp (disch := first | assumption | omega | (simp only [nx] <;> omega) | fail) only [aExtract, hpl, hg, hc, sb, c0, c1, c2, Value.cells, places, ty23, ty27, ty3, ty39, ty4, ty44, ty45, ty47, ty49, ty5, ty54, ty9, rowV] <;> rfl)) rfl <| OSuf.aop tyOK rfl (so_alloc (by simp only [aAlloc, ty39] <;> rfl)) rfl <| OSuf.aop tyOK rfl (so_store (by simp only [lk] <;> rfl) (by simp only [lk] <;> rfl) (by simp (disch := first | assumption | omega | (simp only [nx] <;> omega) | fail) only [aStore, ty39, writeRow, hpl, hg, hc, sb, c0, c1, c2, Value.cells, places, ty23, ty27, ty3, ty39, ty4, ty44, ty45, ty47, ty49, ty5, ty54, ty9, rowV] <;> rfl)) rfl <| OSuf.aop tyOK rfl (so_assign (by simp only [lk] <;> rfl)) rfl <| OSuf.nil <| SQ.normal ?_
              refine W.seq <| W.reg <| OSuf.aop tyOK rfl sm rfl <| OSuf.aop tyOK rfl sm rfl <| OSuf.callD rfl (by simp only [aopnds, lk] <;> rfl) en12 (hev2) rfl <| OSuf.aop tyOK rfl (so_bin (by simp only [lk] <;> rfl) (by simp only [lk] <;> rfl) bi_eql) rfl <| OSuf.aop tyOK rfl sm rfl <| OSuf.aopF tyOK rfl (so_bin (by simp only [lk] <;> rfl) (by simp only [lk] <;> rfl) (bb_neq tyOK ty4 rfl)) (fun _ => rfl) (by first | rfl | assumption | ((simp only [bl, hg, hc, sb, c0, c1, c2, Value.cells, places, ty23, ty27, ty3, ty39, ty4, ty44, ty45, ty47, ty49, ty5, ty54, ty9, rowV]) <;> first | done | assumption | omega) | (simp; done) | (simp; omega)) <| OSuf.nil <| SQ.normal ?_
              refine W.no (by simp only [lk] <;> rfl) <| CWp.skip <| ?_
              -- leaf: cut
              refine NQ.normal (L := [(0, .slice (some ⟨r0, 0, none⟩) l.length 0), (5, P0 (h.next + 1)), (6, P0 (h.next + 2)), (7, I64 i), (8, encS x.k), (9, U64 (rtsR x.k fl A)), (10, U64 fl)]) ?_ ⟨_, M', _, hs, hS2.step htb2 hfr2 (Nat.le_succ_of_le (Nat.le_trans (delR_length _ _) S.len)) (fun z hz => S.v z (delR_mem hz)) (fun k => rts_evict x.k k fl A y hgr), mx_left _ _, rts_evict x.k x.k fl A y hgr, rfl⟩
              simp only [HasA, Tr.get_put, Nat.reduceEqDiff, reduceIte, and_self] <;> first | trivial | exact ⟨rfl, trivial⟩
          | false =>
            rw [hev] at c2
            have u1 : IntKind.u64.wrap x.ts = x.ts := wrap_u64 (by omega) (by omega)
            obtain ⟨H2, M', htc, htb2, hfr2⟩ := touch_c h1 (h.next + 1) fl M A S.tb x.k hkl x.ts (by have := S.len; omega)
            have hS2 := S.step htb2 hfr2 (Nat.le_trans (touchR_length _ _ _ _) (by have := S.len; omega)) (touchR_V S.v) (fun k => rts_touch x.k k x.ts fl A)
            have hn : x.key % 7 * 5 + x.key / 7 % 5 < 35 := by omega
            obtain ⟨hv, hhv⟩ : ∃ y, hs[x.key % 7 * 5 + x.key / 7 % 5]? = some y := ⟨hs[x.key % 7 * 5 + x.key / 7 % 5]'(by rw [S.hlen]; exact hn), by simp⟩
            have e1 : (x.key % 7 * 5 + x.key / 7 % 5) / 5 = x.key % 7 := by omega
            have e2 : (x.key % 7 * 5 + x.key / 7 % 5) % 5 = x.key / 7 % 5 := by omega
            have hS3 := hS2.set (x.key % 7 * 5 + x.key / 7 % 5) (mx hv x.ts) hn (by
              have h9 := hS2.high _ hn hv hhv
              rw [e1, e2] at h9 ⊢
              have h8 := rts_touched x.k x.ts fl A (kb_ok _ _)
              simp only [Tch.k] at h8 h9 ⊢
              simp only [mx]; split <;> omega)
            have u2 : (x.key : Int).tmod 7 = ((x.key % 7 : Nat) : Int) := by rw [Int.tmod_eq_emod_of_nonneg (by omega)]; omega
            have u3 : (x.key : Int).tdiv 7 = ((x.key / 7 : Nat) : Int) := by rw [Int.tdiv_eq_ediv_of_nonneg (by omega)]; omega
            have u4 : IntKind.u8.wrap ((x.key / 7 : Nat) : Int) = ((x.key / 7 : Nat) : Int) := wrap_u8 (by omega) (by omega)
            have u5 : ((x.key / 7 : Nat) : Int).tmod 5 = ((x.key / 7 % 5 : Nat) : Int) := by rw [Int.tmod_eq_emod_of_nonneg (by omega)]; omega
            have u6 : IntKind.i64.wrap ((x.key % 7 : Nat) : Int) = ((x.key % 7 : Nat) : Int) := wrap_i64 (by omega) (by omega)
            have u7 : IntKind.i64.wrap (((x.key % 7 : Nat) : Int) * 5) = ((x.key % 7 * 5 : Nat) : Int) := by rw [wrap_i64 (by omega) (by omega)]; omega
            have u8 : IntKind.i64.wrap ((x.key / 7 % 5 : Nat) : Int) = ((x.key / 7 % 5 : Nat) : Int) := wrap_i64 (by omega) (by omega)
            have u9 : IntKind.i64.wrap (((x.key % 7 * 5 : Nat) : Int) + ((x.key / 7 % 5 : Nat) : Int)) = ((x.key % 7 * 5 + x.key / 7 % 5 : Nat) : Int) := by rw [wrap_i64 (by omega) (by omega)]; omega
            have hg2 : H2.get r0 = some (.ro (flatT l)) := by rw [hS2.old r0 hr0]; exact hg0
            have ha2 := hS2.arow
            have hcn : (0 ≤ ((x.key % 7 * 5 + x.key / 7 % 5 : Nat) : Int) ∧ ((x.key % 7 * 5 + x.key / 7 % 5 : Nat) : Int) < (35 : Nat)) := by omega
            have hhv' : (hs.map (Value.int .u64))[x.key % 7 * 5 + x.key / 7 % 5]? = some (U64 hv) := by simp [hhv]
            have hbl : Nat.ble (x.key % 7 * 5 + x.key / 7 % 5 + 1) (hs.map (Value.int .u64)).length = true := Nat.ble_eq_true_of_le (by simp [S.hlen]; omega)
            have hspl : splice (hs.map (Value.int .u64)) (x.key % 7 * 5 + x.key / 7 % 5) [U64 (mx hv x.ts)] = (hs.set (x.key % 7 * 5 + x.key / 7 % 5) (mx hv x.ts)).map (Value.int .u64) := by
              rw [splice_one (by simp [S.hlen]; omega), List.map_set]
            refine W.seq <| W.reg <| OSuf.aop tyOK rfl sm rfl <| OSuf.aop tyOK rfl sm rfl <| OSuf.aop tyOK rfl (so_indexAddr (by simp only [lk] <;> rfl) (by simp only [lk] <;> rfl) (by simp (disch := first | assumption | omega | (simp only [nx] <;> omega) | fail) only [aIndexAddr, ty44, ty49, hpl, hg, hc, sb, c0, c1, c2, Value.cells, places, ty23, ty27, ty3, ty39, ty4, ty44, ty45, ty47, ty49, ty5, ty54, ty9, rowV, hg2, ha2, hcn, hhv', hbl, List.length_cons, List.length_nil] <;> rfl)) rfl <| OSuf.aop tyOK rfl (so_fieldAddr (by simp only [lk] <;> rfl) (fa_ok (k := 2) ty49 rfl rfl ty4 rfl rfl)) rfl <| OSuf.aopF tyOK rfl (so_load (by simp only [lk] <;> rfl) (by simp (disch := first | assumption | omega | (simp only [nx] <;> omega) | fail) only [aLoad, ty4, rowOf, hpl, hg, hc, sb, c0, c1, c2, Value.cells, places, ty23, ty27, ty3, ty39, ty4, ty44, ty45, ty47, ty49, ty5, ty54, ty9, rowV, hg2, ha2, hcn, hhv', hbl, List.length_cons, List.length_nil] <;> rfl)) (fun _ => rfl) (by first | rfl | assumption | ((simp only [bl, hg, hc, sb, c0, c1, c2, Value.cells, places, ty23, ty27, ty3, ty39, ty4, ty44, ty45, ty47, ty49, ty5, ty54, ty9, rowV, hg2, ha2, hcn, hhv', hbl, List.length_cons, List.length_nil]) <;> first | done | assumption | omega) | (simp; done) | (simp; omega)) <| OSuf.nil <| SQ.normal ?_
            refine W.no (by simp only [lk] <;> rfl) <| W.seq <| W.reg <| OSuf.aop tyOK rfl sm rfl <| OSuf.aop tyOK rfl sm rfl <| OSuf.aop tyOK rfl sm rfl <| OSuf.aop tyOK rfl sm rfl <| OSuf.aop tyOK rfl (so_indexAddr (by simp only [lk] <;> rfl) (by simp only [lk] <;> rfl) (by simp (disch := first | assumption | omega | (simp only [nx] <;> omega) | fail) only [aIndexAddr, ty44, ty49, hpl, hg, hc, sb, c0, c1, c2, Value.cells, places, ty23, ty27, ty3, ty39, ty4, ty44, ty45, ty47, ty49, ty5, ty54, ty9, rowV, hg2, ha2, hcn, hhv', hbl, List.length_cons, List.length_nil] <;> rfl)) rfl <| OSuf.aop tyOK rfl (so_fieldAddr (by simp only [lk] <;> rfl) (fa_ok (k := 1) ty49 rfl rfl ty47 rfl rfl)) rfl <| OSuf.aop tyOK rfl (so_load (by simp only [lk] <;> rfl) (by simp (disch := first | assumption | omega | (simp only [nx] <;> omega) | fail) only [aLoad, ty47, rowOf, hpl, hg, hc, sb, c0, c1, c2, Value.cells, places, ty23, ty27, ty3, ty39, ty4, ty44, ty45, ty47, ty49, ty5, ty54, ty9, rowV, hg2, ha2, hcn, hhv', hbl, List.length_cons, List.length_nil] <;> rfl)) rfl <| OSuf.aop tyOK rfl (so_conw (so_conv tyOK (by simp only [lk] <;> rfl) ty47 ⟨_, rfl⟩ ty27 rfl) (by first | (simp only [u1, u2, u3, u4, u5, u6, u7, u8, u9] <;> rfl) | rfl)) rfl <| OSuf.callD rfl (by simp only [aopnds, lk] <;> rfl) en10 (htc) rfl <| OSuf.nil <| SQ.normal ?_
            refine W.seq <| W.regD tyOK mixed (by kernel_rfl) <| SqW.aop rfl sm rfl <| SqW.aop rfl sm rfl <| SqW.aop rfl (so_indexAddr (by simp only [lk] <;> rfl) (by simp only [lk] <;> rfl) (by simp (disch := first | assumption | omega | (simp only [nx] <;> omega) | fail) only [aIndexAddr, ty44, ty49, hpl, hg, hc, sb, c0, c1, c2, Value.cells, places, ty23, ty27, ty3, ty39, ty4, ty44, ty45, ty47, ty49, ty5, ty54, ty9, rowV, hg2, ha2, hcn, hhv', hbl, List.length_cons, List.length_nil] <;> rfl)) rfl <| SqW.aop rfl (so_fieldAddr (by simp only [lk] <;> rfl) (fa_ok (k := 0) ty49 rfl rfl ty5 rfl rfl)) rfl <| SqW.aop rfl (so_load (by simp only [lk] <;> rfl) (by simp (disch := first | assumption | omega | (simp only [nx] <;> omega) | fail) only [aLoad, ty5, rowOf, hpl, hg, hc, sb, c0, c1, c2, Value.cells, places, ty23, ty27, ty3, ty39, ty4, ty44, ty45, ty47, ty49, ty5, ty54, ty9, rowV, hg2, ha2, hcn, hhv', hbl, List.length_cons, List.length_nil] <;> rfl)) rfl <| SqW.aop rfl (so_bin (by simp only [lk] <;> rfl) (by simp only [lk] <;> rfl) (bi_w (bi_rem (by decide)) (by first | (simp only [u1, u2, u3, u4, u5, u6, u7, u8, u9] <;> rfl) | rfl))) rfl <| SqW.aop rfl (so_conw (so_conv tyOK (by simp only [lk] <;> rfl) ty5 ⟨_, rfl⟩ ty3 rfl) (by first | (simp only [u1, u2, u3, u4, u5, u6, u7, u8, u9] <;> rfl) | rfl)) rfl <| SqW.aop rfl (so_bin (by simp only [lk] <;> rfl) (by simp only [lk] <;> rfl) (bi_w bi_mul (by first | (simp only [u1, u2, u3, u4, u5, u6, u7, u8, u9] <;> rfl) | rfl))) rfl <| SqW.aop rfl sm rfl <| SqW.aop rfl sm rfl <| SqW.aop rfl (so_indexAddr (by simp only [lk] <;> rfl) (by simp only [lk] <;> rfl) (by simp (disch := first | assumption | omega | (simp only [nx] <;> omega) | fail) only [aIndexAddr, ty44, ty49, hpl, hg, hc, sb, c0, c1, c2, Value.cells, places, ty23, ty27, ty3, ty39, ty4, ty44, ty45, ty47, ty49, ty5, ty54, ty9, rowV, hg2, ha2, hcn, hhv', hbl, List.length_cons, List.length_nil] <;> rfl)) rfl <| SqW.aop rfl (so_fieldAddr (by simp only [lk] <;> rfl) (fa_ok (k := 0) ty49 rfl rfl ty5 rfl rfl)) rfl <| SqW.aop rfl (so_load (by simp only [lk] <;> rfl) (by simp (disch := first | assumption | omega | (simp only [nx] <;> omega) | fail) only [aLoad, ty5, rowOf, hpl, hg, hc, sb, c0, c1, c2, Value.cells, places, ty23, ty27, ty3, ty39, ty4, ty44, ty45, ty47, ty49, ty5, ty54, ty9, rowV, hg2, ha2, hcn, hhv', hbl, List.length_cons, List.length_nil] <;> rfl)) rfl <| SqW.aop rfl (so_bin (by simp only [lk] <;> rfl) (by simp only [lk] <;> rfl) (bi_w (bi_quo (by decide)) (by first | (simp only [u1, u2, u3, u4, u5, u6, u7, u8, u9] <;> rfl) | rfl))) rfl <| SqW.aop rfl (so_bin (by simp only [lk] <;> rfl) (by simp only [lk] <;> rfl) (bi_w (bi_rem (by decide)) (by first | (simp only [u1, u2, u3, u4, u5, u6, u7, u8, u9] <;> rfl) | rfl))) rfl <| SqW.aop rfl (so_conw (so_conv tyOK (by simp only [lk] <;> rfl) ty5 ⟨_, rfl⟩ ty3 rfl) (by first | (simp only [u1, u2, u3, u4, u5, u6, u7, u8, u9] <;> rfl) | rfl)) rfl <| SqW.aop rfl (so_bin (by simp only [lk] <;> rfl) (by simp only [lk] <;> rfl) (bi_w bi_add (by first | (simp only [u1, u2, u3, u4, u5, u6, u7, u8, u9] <;> rfl) | rfl))) rfl <| SqW.aop rfl (so_assign (by simp only [lk] <;> rfl)) rfl <| SqW.nil <| SQ.normal ?_
            refine W.regD tyOK mixed (by kernel_rfl) <| SqW.aop rfl sm rfl <| SqW.aop rfl sm rfl <| SqW.aop rfl (so_indexAddr (by simp only [lk] <;> rfl) (by simp only [lk] <;> rfl) (by simp (disch := first | assumption | omega | (simp only [nx] <;> omega) | fail) only [aIndexAddr, ty45, ty27, hpl, hg, hc, sb, c0, c1, c2, Value.cells, places, ty23, ty27, ty3, ty39, ty4, ty44, ty45, ty47, ty49, ty5, ty54, ty9, rowV, hg2, ha2, hcn, hhv', hbl, List.length_cons, List.length_nil] <;> rfl)) rfl <| SqW.aop rfl (so_load (by simp only [lk] <;> rfl) (by simp (disch := first | assumption | omega | (simp only [nx] <;> omega) | fail) only [aLoad, ty27, rowOf, hpl, hg, hc, sb, c0, c1, c2, Value.cells, places, ty23, ty27, ty3, ty39, ty4, ty44, ty45, ty47, ty49, ty5, ty54, ty9, rowV, hg2, ha2, hcn, hhv', hbl, List.length_cons, List.length_nil] <;> rfl)) rfl <| SqW.aop rfl sm rfl <| SqW.aop rfl sm rfl <| SqW.aop rfl (so_indexAddr (by simp only [lk] <;> rfl) (by simp only [lk] <;> rfl) (by simp (disch := first | assumption | omega | (simp only [nx] <;> omega) | fail) only [aIndexAddr, ty44, ty49, hpl, hg, hc, sb, c0, c1, c2, Value.cells, places, ty23, ty27, ty3, ty39, ty4, ty44, ty45, ty47, ty49, ty5, ty54, ty9, rowV, hg2, ha2, hcn, hhv', hbl, List.length_cons, List.length_nil] <;> rfl)) rfl <| SqW.aop rfl (so_fieldAddr (by simp only [lk] <;> rfl) (fa_ok (k := 1) ty49 rfl rfl ty47 rfl rfl)) rfl <| SqW.aop rfl (so_load (by simp only [lk] <;> rfl) (by simp (disch := first | assumption | omega | (simp only [nx] <;> omega) | fail) only [aLoad, ty47, rowOf, hpl, hg, hc, sb, c0, c1, c2, Value.cells, places, ty23, ty27, ty3, ty39, ty4, ty44, ty45, ty47, ty49, ty5, ty54, ty9, rowV, hg2, ha2, hcn, hhv', hbl, List.length_cons, List.length_nil] <;> rfl)) rfl <| SqW.aop rfl (so_conw (so_conv tyOK (by simp only [lk] <;> rfl) ty47 ⟨_, rfl⟩ ty27 rfl) (by first | (simp only [u1, u2, u3, u4, u5, u6, u7, u8, u9] <;> rfl) | rfl)) rfl <| SqW.aop rfl (so_max (by simp only [aopnds, lk] <;> rfl)) rfl <| SqW.aop rfl (so_indexAddr (by simp only [lk] <;> rfl) (by simp only [lk] <;> rfl) (by simp (disch := first | assumption | omega | (simp only [nx] <;> omega) | fail) only [aIndexAddr, ty45, ty27, hpl, hg, hc, sb, c0, c1, c2, Value.cells, places, ty23, ty27, ty3, ty39, ty4, ty44, ty45, ty47, ty49, ty5, ty54, ty9, rowV, hg2, ha2, hcn, hhv', hbl, List.length_cons, List.length_nil] <;> rfl)) rfl <| SqW.aop rfl (so_store (by simp only [lk] <;> rfl) (by simp only [lk] <;> rfl) (by simp (disch := first | assumption | omega | (simp only [nx] <;> omega) | fail) only [aStore, ty27, writeRow, hpl, hg, hc, sb, c0, c1, c2, Value.cells, places, ty23, ty27, ty3, ty39, ty4, ty44, ty45, ty47, ty49, ty5, ty54, ty9, rowV, hg2, ha2, hcn, hhv', hbl, List.length_cons, List.length_nil] <;> rfl)) rfl <| SqW.nil <| ?_
            -- leaf: cut
            refine NQ.normal (L := [(0, .slice (some ⟨r0, 0, none⟩) l.length 0), (5, P0 (h.next + 1)), (6, P0 (h.next + 2)), (7, I64 i), (8, encS x.k), (9, U64 (rtsR x.k fl A)), (10, U64 fl)]) ?_ ⟨_, M', _, hs.set (x.key % 7 * 5 + x.key / 7 % 5) (mx hv x.ts), ?_, Int.le_refl _, rts_touch x.k x.k x.ts fl A, rfl⟩
            · simp only [HasA, Tr.get_put, Nat.reduceEqDiff, reduceIte, and_self] <;> first | trivial | exact ⟨rfl, trivial⟩
            · rw [← hspl] at hS3; exact hS3
        · rintro L a' h2 ha ⟨fl', M', A', hs', S', hfl, hrt, rfl⟩
          have hrts' := rts_c h2 (h.next + 1) fl' M' A' S'.tb x.k hkl S'.v
          have b1 : decide (rtsR x.k fl' A' < rtsR x.k fl A) = false := decide_eq_false (by omega)
          have b2 : decide (fl' < fl) = false := decide_eq_false (by omega)
          refine SQ.normal <| CWp.known ha ?_
          simp only [mkA]
          refine W.seq <| W.seq <| W.reg <| OSuf.aop tyOK rfl sm rfl <| OSuf.aop tyOK rfl sm rfl <| OSuf.callD rfl (by simp only [aopnds, lk] <;> rfl) en18 (hrts') rfl <| OSuf.aop tyOK rfl sm rfl <| OSuf.aopF tyOK rfl (so_bin (by simp only [lk] <;> rfl) (by simp only [lk] <;> rfl) bi_lss) (fun _ => rfl) (b1) <| OSuf.aopF tyOK rfl sm (fun _ => rfl) rfl <| OSuf.aop tyOK ag sm rfl <| OSuf.callD ag (by simp only [aopnds, lk] <;> rfl) en19 (floor_c _ _ fl' M' S'.tb.ta) rfl <| OSuf.aop tyOK ag sm rfl <| OSuf.aopF tyOK ag (so_bin (by simp only [lk] <;> rfl) (by simp only [lk] <;> rfl) bi_lss) (fun _ => rfl) (b2) <| OSuf.aopF tyOK rfl (so_pick (by simp only [lk] <;> rfl) (by simp only [lk, cond_true, cond_false] <;> rfl)) (fun _ => rfl) rfl <| OSuf.nil <| SQ.normal ?_
          refine W.no (by simp only [lk] <;> rfl) <| CWp.skip <| SQ.normal ?_
          refine W.seq <| W.reg <| OSuf.aop tyOK rfl (so_assign (by simp only [lk] <;> rfl)) rfl <| OSuf.nil <| SQ.normal ?_
          -- leaf: loop
          refine W.cut (fun L h' => NS h h' (h.next + 1) (h.next + 2) fl' M' A' hs' (i + 1) ∧ L = [(0, .slice (some ⟨r0, 0, none⟩) l.length 0), (5, P0 (h.next + 1)), (6, P0 (h.next + 2)), (7, I64 i)]) (W.block (W.loop (fun q L h' => ∃ n : Nat, q + n = 35 ∧ NS h h' (h.next + 1) (h.next + 2) fl' M' A' hs' (i + 1) ∧ L = [(0, .slice (some ⟨r0, 0, none⟩) l.length 0), (5, P0 (h.next + 1)), (6, P0 (h.next + 2)), (7, I64 i), (14, I64 n)]) (n := 35) ⟨0, by omega, S', rfl⟩ ?_ ?_)) ?_
          · simp [HasA, Tr.get_put]
          · clear S'
            rintro q L h3 ⟨n, hq, S', rfl⟩
            simp only [mkA]
            by_cases hn : (n : Int) < 35
            · have t1 : (n : Int).tdiv 5 = ((n / 5 : Nat) : Int) := by rw [Int.tdiv_eq_ediv_of_nonneg (by omega)]; omega
              have t2 : IntKind.i64.wrap ((n / 5 : Nat) : Int) = ((n / 5 : Nat) : Int) := wrap_i64 (by omega) (by omega)
              have t3 : IntKind.i64.wrap (97 + ((n / 5 : Nat) : Int)) = ((97 + n / 5 : Nat) : Int) := by rw [wrap_i64 (by omega) (by omega)]; omega
              have t4 : IntKind.u8.wrap ((97 + n / 5 : Nat) : Int) = ((97 + n / 5 : Nat) : Int) := wrap_u8 (by omega) (by omega)
              have t5 : (n : Int).tmod 5 = ((n % 5 : Nat) : Int) := by rw [Int.tmod_eq_emod_of_nonneg (by omega)]; omega
              have t6 : IntKind.i64.wrap (97 + ((n % 5 : Nat) : Int)) = ((97 + n % 5 : Nat) : Int) := by rw [wrap_i64 (by omega) (by omega)]; omega
              have t7 : IntKind.u8.wrap ((97 + n % 5 : Nat) : Int) = ((97 + n % 5 : Nat) : Int) := wrap_u8 (by omega) (by omega)
              have t8 : IntKind.i64.wrap ((n : Int) + 1) = ((n + 1 : Nat) : Int) := by rw [wrap_i64 (by omega) (by omega)]; omega
              obtain ⟨y, hy⟩ : ∃ y, hs'[n]? = some y := ⟨hs'[n]'(by rw [S'.hlen]; omega), by simp⟩
              have hyv : (hs'.map (Value.int .u64))[n]? = some (U64 y) := by simp [hy]
              have hle : decide (rtsR (kb (n / 5) (n % 5)) fl' A' < y) = false := decide_eq_false (by have := S'.high n (by omega) y hy; omega)
              have hcn : (0 ≤ (n : Int) ∧ (n : Int) < (35 : Nat)) := by omega
              have harow := S'.arow
              have hlt4 := S'.ane.2.2
              have hS4 := S'.garb (h' := h3.new (.cells [.int .u8 ((97 + n / 5 : Nat) : Int), .int .u8 ((97 + n % 5 : Nat) : Int)] 1)) (by simp) (fun z hz => AHeap.get_new_ne (by omega))
              have hr4 := rts_c _ (h.next + 1) fl' M' A' hS4.tb (kb (n / 5) (n % 5)) (by simp [kb]) hS4.v
              refine W.seq <| W.seq <| W.reg <| OSuf.aop tyOK rfl sm rfl <| OSuf.aopT tyOK rfl (so_bin (by simp only [lk] <;> rfl) (by simp only [lk] <;> rfl) bi_lss) (fun _ => rfl) (by first | rfl | assumption | ((simp only [bl, Value.cells, places, ty23, ty27, ty3, ty39, ty4, ty44, ty45, ty47, ty49, ty5, ty54, ty9, hcn, harow, hyv, sb]) <;> first | done | assumption | omega) | (simp; done) | (simp; omega)) <| OSuf.nil <| SQ.normal ?_
              refine W.yes (by simp only [lk] <;> rfl) <| CWp.skip <| SQ.normal ?_
              refine W.seq <| W.block <| W.seq <| CWp.sqd tyOK mixed (ms := [0, 0, 2, 6, 14, 0, 32, 96, 224, 510, 1022, 2047, 0, 4096, 12288, 32767]) (by kernel_rfl) (
                  .free rfl rfl sm rfl <| .free rfl rfl sm rfl <| .free rfl rfl (so_bin (by simp only [lk] <;> rfl) (by simp only [lk] <;> rfl) (bi_w (bi_quo (by decide)) (by first | (simp only [t1, t2, t3, t4, t5, t6, t7, t8] <;> rfl) | rfl))) rfl <| .free rfl rfl (so_bin (by simp only [lk] <;> rfl) (by simp only [lk] <;> rfl) (bi_w bi_add (by first | (simp only [t1, t2, t3, t4, t5, t6, t7, t8] <;> rfl) | rfl))) rfl <| .read rfl (by kernel_rfl) (so_conw (so_conv tyOK (by simp only [lk] <;> rfl) ty3 ⟨_, rfl⟩ ty5 rfl) (by first | (simp only [t1, t2, t3, t4, t5, t6, t7, t8] <;> rfl) | rfl)) (by first | rfl | (simp [veq, veq1, veqs]; done) | (simp [veq, veq1, veqs, splice]; done)) trivial rfl <| .free rfl rfl sm rfl <| .free rfl rfl (so_bin (by simp only [lk] <;> rfl) (by simp only [lk] <;> rfl) (bi_w (bi_rem (by decide)) (by first | (simp only [t1, t2, t3, t4, t5, t6, t7, t8] <;> rfl) | rfl))) rfl <| .free rfl rfl (so_bin (by simp only [lk] <;> rfl) (by simp only [lk] <;> rfl) (bi_w bi_add (by first | (simp only [t1, t2, t3, t4, t5, t6, t7, t8] <;> rfl) | rfl))) rfl <| .read rfl (by kernel_rfl) (so_conw (so_conv tyOK (by simp only [lk] <;> rfl) ty3 ⟨_, rfl⟩ ty5 rfl) (by first | (simp only [t1, t2, t3, t4, t5, t6, t7, t8] <;> rfl) | rfl)) (by first | rfl | (simp [veq, veq1, veqs]; done) | (simp [veq, veq1, veqs, splice]; done)) trivial rfl <| .change rfl rfl (so_buildSlice (by simp only [aparts, lk] <;> rfl) (by simp (disch := first | assumption | omega | (simp only [nx] <;> omega) | fail) only [aBuildSlice, ty54, ty5, hpl, Value.cells, places, ty23, ty27, ty3, ty39, ty4, ty44, ty45, ty47, ty49, ty5, ty54, ty9, hcn, harow, hyv, sb] <;> rfl)) rfl ⟨.inl rfl, .inl rfl, trivial⟩ rfl <| .read rfl (by kernel_rfl) (so_convert (by simp only [lk] <;> rfl) (by simp (disch := first | assumption | omega | (simp only [nx] <;> omega) | fail) only [aConv, ty23, ty27, ty3, ty39, ty4, ty44, ty45, ty47, ty49, ty5, ty54, ty9, aCells, rowOf, hpl] <;> rfl)) (by first | rfl | (simp [veq, veq1, veqs]; done) | (simp [veq, veq1, veqs, splice]; done)) ⟨.inl rfl, trivial⟩ rfl <| .call rfl rfl (fcallO (by simp only [aopnds, lk] <;> rfl) en18 (hr4)) rfl ⟨.inl rfl, .inl rfl, .inl rfl, trivial⟩ rfl <| .free rfl rfl sm rfl <| .free rfl rfl (so_indexAddr (by simp only [lk] <;> rfl) (by simp only [lk] <;> rfl) (by simp (disch := first | assumption | omega | (simp only [nx] <;> omega) | fail) only [aIndexAddr, ty45, ty27, hpl, Value.cells, places, ty23, ty27, ty3, ty39, ty4, ty44, ty45, ty47, ty49, ty5, ty54, ty9, hcn, harow, hyv, sb] <;> rfl)) rfl <| .read rfl rfl (so_load (by simp only [lk] <;> rfl) (by simp (disch := first | assumption | omega | (simp only [nx] <;> omega) | fail) only [aLoad, ty27, rowOf, hpl, Value.cells, places, ty23, ty27, ty3, ty39, ty4, ty44, ty45, ty47, ty49, ty5, ty54, ty9, hcn, harow, hyv, sb] <;> rfl)) (by first | rfl | (simp [veq, veq1, veqs]; done) | (simp [veq, veq1, veqs, splice]; done)) ⟨.inr (so_load (by simp only [lk] <;> rfl) (by simp (disch := first | assumption | omega | (simp only [nx] <;> omega) | fail) only [aLoad, ty27, rowOf, hpl, Value.cells, places, ty23, ty27, ty3, ty39, ty4, ty44, ty45, ty47, ty49, ty5, ty54, ty9, hcn, harow, hyv, sb] <;> rfl)), .inr (so_load (by simp only [lk] <;> rfl) (by simp (disch := first | assumption | omega | (simp only [nx] <;> omega) | fail) only [aLoad, ty27, rowOf, hpl, Value.cells, places, ty23, ty27, ty3, ty39, ty4, ty44, ty45, ty47, ty49, ty5, ty54, ty9, hcn, harow, hyv, sb] <;> rfl)), trivial⟩ rfl <| .free rfl rfl (so_bw (so_bin (by simp only [lk] <;> rfl) (by simp only [lk] <;> rfl) bi_lss) (b' := false) (hle)) rfl <| .nil) <| SQ.normal ?_
              refine W.no (by simp only [lk] <;> rfl) <| CWp.skip <| BQ.normal <| SQ.normal ?_
              refine W.reg <| OSuf.aop tyOK rfl sm rfl <| OSuf.aop tyOK rfl (so_bin (by simp only [lk] <;> rfl) (by simp only [lk] <;> rfl) (bi_w bi_add (by first | (simp only [t1, t2, t3, t4, t5, t6, t7, t8] <;> rfl) | rfl))) rfl <| OSuf.aop tyOK rfl (so_assign (by simp only [lk] <;> rfl)) rfl <| OSuf.nil <| ?_
              -- leaf: round
              refine LQ.normal (m := q - 1) (L := [(0, .slice (some ⟨r0, 0, none⟩) l.length 0), (5, P0 (h.next + 1)), (6, P0 (h.next + 2)), (7, I64 i), (14, I64 ((n + 1 : Nat) : Int))]) (by omega) ?_ ⟨n + 1, by omega, hS4, rfl⟩
              simp only [HasA, Tr.get_put, Nat.reduceEqDiff, reduceIte, t8, and_self]
            · refine W.seq <| W.seq <| W.reg <| OSuf.aop tyOK rfl sm rfl <| OSuf.aopF tyOK rfl (so_bin (by simp only [lk] <;> rfl) (by simp only [lk] <;> rfl) bi_lss) (fun _ => rfl) (by first | rfl | assumption | ((simp only [bl]) <;> first | done | assumption | omega) | (simp; done) | (simp; omega)) <| OSuf.nil <| SQ.normal ?_
              refine W.no (by simp only [lk] <;> rfl) <| CWp.exit <| SQ.exit <| LQ.exit <| BQ.exit <| ?_
              -- leaf: cut
              refine NQ.normal (L := [(0, .slice (some ⟨r0, 0, none⟩) l.length 0), (5, P0 (h.next + 1)), (6, P0 (h.next + 2)), (7, I64 i)]) ?_ ⟨S', rfl⟩
              simp only [HasA, Tr.get_put, Nat.reduceEqDiff, reduceIte, and_self]
          · clear S'
            rintro L a' h3 ha ⟨S', rfl⟩
            refine BQ.normal <| SQ.normal <| CWp.known ha ?_
            simp only [mkA]
            refine W.reg <| OSuf.aop tyOK rfl sm rfl <| OSuf.aop tyOK rfl (so_bin (by simp only [lk] <;> rfl) (by simp only [lk] <;> rfl) (bi_w bi_add (by first | (simp only [v2] <;> rfl) | rfl))) rfl <| OSuf.aop tyOK rfl (so_assign (by simp only [lk] <;> rfl)) rfl <| OSuf.nil <| ?_
            -- leaf: round
            refine LQ.normal (m := q - 1) (L := [(0, .slice (some ⟨r0, 0, none⟩) l.length 0), (5, P0 (h.next + 1)), (6, P0 (h.next + 2)), (7, I64 ((i + 1 : Nat) : Int))]) (by omega) ?_ ⟨i + 1, fl', M', A', hs', by omega, by omega, by omega, S', rfl⟩
            simp only [HasA, Tr.get_put, Nat.reduceEqDiff, reduceIte, v2, and_self]
      · refine W.seq <| W.seq <| W.reg <| OSuf.aop tyOK rfl sm rfl <| OSuf.aop tyOK rfl sm rfl <| OSuf.aop tyOK rfl (so_len (by simp only [aopnds, lk] <;> rfl) (by simp (disch := first | assumption | omega | (simp only [nx] <;> omega) | fail) only [aLenOf, ty44, hpl] <;> rfl)) rfl <| OSuf.aopT tyOK rfl (so_bin (by simp only [lk] <;> rfl) (by simp only [lk] <;> rfl) bi_lss) (fun _ => rfl) (by first | rfl | assumption | ((simp only [bl]) <;> first | done | assumption | omega) | (simp; done) | (simp; omega)) <| OSuf.aopT tyOK rfl sm (fun _ => rfl) rfl <| OSuf.aop tyOK ag sm rfl <| OSuf.aopF tyOK ag (so_bin (by simp only [lk] <;> rfl) (by simp only [lk] <;> rfl) bi_lss) (fun _ => rfl) (by first | rfl | assumption | ((simp only [bl]) <;> first | done | assumption | omega) | (simp; done) | (simp; omega)) <| OSuf.aopF tyOK rfl (so_pick (by simp only [lk] <;> rfl) (by simp only [lk, cond_true, cond_false] <;> rfl)) (fun _ => rfl) rfl <| OSuf.nil <| SQ.normal ?_
        refine W.no (by simp only [lk] <;> rfl) <| CWp.exit <| SQ.exit <| LQ.exit <| BQ.exit <| ?_
        -- leaf: cut
        exact NQ.normal (L := []) trivial ⟨S.old, rfl⟩
    · refine W.seq <| W.seq <| W.reg <| OSuf.aop tyOK rfl sm rfl <| OSuf.aop tyOK rfl sm rfl <| OSuf.aop tyOK rfl (so_len (by simp only [aopnds, lk] <;> rfl) (by simp (disch := first | assumption | omega | (simp only [nx] <;> omega) | fail) only [aLenOf, ty44, hpl] <;> rfl)) rfl <| OSuf.aopF tyOK rfl (so_bin (by simp only [lk] <;> rfl) (by simp only [lk] <;> rfl) bi_lss) (fun _ => rfl) (by first | rfl | assumption | ((simp only [bl]) <;> first | done | assumption | omega) | (simp; done) | (simp; omega)) <| OSuf.aopF tyOK rfl sm (fun _ => rfl) rfl <| OSuf.pass ag rfl <| OSuf.pass ag rfl <| OSuf.aopF tyOK rfl (so_pick (by simp only [lk] <;> rfl) (by simp only [lk, cond_true, cond_false] <;> rfl)) (fun _ => rfl) rfl <| OSuf.nil <| SQ.normal ?_
      refine W.no (by simp only [lk] <;> rfl) <| CWp.exit <| SQ.exit <| LQ.exit <| BQ.exit <| ?_
      -- leaf: cut
      exact NQ.normal (L := []) trivial ⟨S.old, rfl⟩
  rintro L a' h' ha ⟨hold, rfl⟩
  refine SQ.normal <| CWp.known ha ?_
  simp only [mkA]
  refine W.seq <| W.reg <| OSuf.aopT tyOK rfl (so_assign (by simp only [lk] <;> rfl)) (fun _ => rfl) rfl <| OSuf.nil <| SQ.normal ?_
  refine CWp.ret <| FQ.ret (by simp only [aRet, Try.f4, aResults, aResult, lk, Nat.reduceEqDiff, reduceIte] <;> rfl) ?_
  -- leaf: end
  exact ⟨rfl, fun z o hz ho => by rw [hold z hz]; exact ho⟩
end Go.Proofs.Ytldhcjfhlfgleaa
