/-
  Merged: OrdM, OrdN, OrdO, OrdP, OrdQ, OrdR.
-/
import Derived.Test.YtjenbiohcecfnaaGreatOrdL
namespace Go.Proofs.YtjenbiohcecfnaaGreat
open Go.Ab
set_option linter.unusedSimpArgs false
set_option linter.unusedVariables false
set_option maxRecDepth 10000
set_option maxHeartbeats 8000000
theorem conv_b {T : Tr TI} {s d e : TypeId} {si di ei : TI} {l : List Value} {r : List UInt8} {h : AHeap} {b : Option Addr} {n c : Nat} (hs : T.get s = some si) (hsu : si.und = .slice e) (he : T.get e = some ei) (heu : ei.und = .int .u8) (hd : T.get d = some di) (hdu : di.und = .string) (hc : aCells h 1 n (.slice b n c) = some l) (hb : bytesIn l = some r) :
    aConv T s d (.slice b n c) h = some (.string ⟨r.toArray⟩, h) := by
  unfold aConv; rw [hs, hd]; simp only [hsu, hdu, he, hc, heu, hb]
theorem one_b {h : AHeap} {y c : Nat} {n : Int} (hg : h.get y = some (.cells [.int .u8 n] 1)) : aCells h 1 1 (.slice (some ⟨y, 0, none⟩) 1 c) = some [.int .u8 n] := aCells_of (vs := [.int .u8 n]) (by simp only [rowOf, hg]) (Nat.le_refl _) rfl
def keyL (n : Int) : List UInt8 := [UInt8.ofNat (97 + n % 8).toNat]
def K8 : List (List UInt8) := [[97], [98], [99], [100], [101], [102], [103], [104]]
theorem keyL_mem (n : Int) : keyL n ∈ K8 := by
  have h0 := Int.emod_nonneg n (b := 8) (by omega)
  have h1 := Int.emod_lt_of_pos n (b := 8) (by omega)
  have h2 : n % 8 = 0 ∨ n % 8 = 1 ∨ n % 8 = 2 ∨ n % 8 = 3 ∨ n % 8 = 4 ∨ n % 8 = 5 ∨ n % 8 = 6 ∨ n % 8 = 7 := by omega
  rcases h2 with h2 | h2 | h2 | h2 | h2 | h2 | h2 | h2 <;> rw [keyL, h2] <;> decide
theorem K8_ok {k : List UInt8} (h : k ∈ K8) : okKey k := by
  simp only [K8, List.mem_cons, List.not_mem_nil, or_false] at h
  rcases h with rfl | rfl | rfl | rfl | rfl | rfl | rfl | rfl <;> exact ⟨by simp, by simp⟩
theorem key_c (h : AHeap) (n : Int) (h0 : 0 ≤ n) (h1 : n < 256) : FWp Tryz.prog 16 [.int .u8 n] h fun u h' => u = encS (keyL n) ∧ h' = h := by
  have tb16 := And.intro ty118 (And.intro ty5 (ty9))
  have w2 : IntKind.u8.wrap (97 + n % 8) = 97 + n % 8 := wrap_u8 (by omega) (by omega)
  refine FWp.gcs (.flat rfl) (W.enter tyOK Tryz.func16 rfl rfl ?_)
  simp only [entry]
  refine W.seq <| W.reg <| OSuf.aop tyOK rfl za rfl <| OSuf.nil <| SQ.normal ?_
  refine W.seq <| W.reg <| OSuf.aop tyOK rfl sm rfl <| OSuf.aop tyOK rfl (zb (hv := bi_w (bi_rem (by decide)) rfl)) rfl <| OSuf.aop tyOK rfl (zb (hv := bi_w bi_add rfl)) rfl <| OSuf.aop tyOK rfl (so_buildSlice (by simp only [aparts, lk] <;> rfl) (by simp only [aBuildSlice, ty118, ty5, Value.cells, places, tb16] <;> rfl)) rfl <| OSuf.aop tyOK rfl (so_convert (by simp only [lk] <;> rfl) (conv_b ty118 rfl ty5 rfl ty9 rfl (one_b (AHeap.get_new_same _ _)) rfl)) rfl <| OSuf.aop tyOK rfl za rfl <| OSuf.nil <| SQ.normal ?_
  refine CWp.ret <| FQ.ret (by simp only [aRet, Tryz.f16, aResults, aResult, lk, Nat.reduceEqDiff, reduceIte] <;> rfl) ?_
  -- leaf: end
  exact ⟨by rw [Int.tmod_eq_emod_of_nonneg h0, w2]; rfl, fun z o hz ho => by simp (disch := first | assumption | omega | (simp only [nx] <;> omega) | fail) only [hpl]; exact ho⟩
def valB (n : Int) (del : Bool) : ByteArray := if del then ⟨#[]⟩ else ⟨#[UInt8.ofNat (48 + n % 10).toNat]⟩
theorem valB_del {n : Int} {del : Bool} (h : del = true) : valB n del = ⟨#[]⟩ := by rw [valB, if_pos h]
theorem valB_size (n : Int) (del : Bool) : (valB n del).size ≤ 24 := by
  cases del with
  | true => show (0 : Nat) ≤ 24; omega
  | false => show (1 : Nat) ≤ 24; omega
theorem val_c (h : AHeap) (n : Int) (h0 : 0 ≤ n) (h1 : n < 256) (del : Bool) : FWp Tryz.prog 46 [.int .u8 n, .bool del] h fun u h' => u = .string (valB n del) ∧ h' = h := by
  have tb46 := And.intro ty118 (And.intro ty5 (ty9))
  cases del with
  | true =>
    refine W.enter tyOK Tryz.func46 rfl rfl ?_
    simp only [entry]
    refine W.seq <| W.reg <| OSuf.aop tyOK rfl za rfl <| OSuf.nil <| SQ.normal ?_
    refine W.seq <| W.seq <| W.reg <| OSuf.aopT tyOK rfl sm (fun _ => rfl) (by first | rfl | assumption | ((simp only [bl]) <;> first | done | assumption | omega) | (simp; done) | (simp; omega)) <| OSuf.nil <| SQ.normal ?_
    refine W.yes (by simp only [lk] <;> rfl) <| W.seq <| W.reg <| OSuf.aop tyOK rfl za rfl <| OSuf.nil <| SQ.normal ?_
    refine CWp.ret <| SQ.ret <| FQ.ret (by simp only [aRet, Tryz.f46, aResults, aResult, lk, Nat.reduceEqDiff, reduceIte] <;> rfl) ?_
    -- leaf: end
    exact ⟨rfl, rfl⟩
  | false =>
    have w2 : IntKind.u8.wrap (48 + n % 10) = 48 + n % 10 := wrap_u8 (by omega) (by omega)
    refine FWp.gcs (.flat rfl) (W.enter tyOK Tryz.func46 rfl rfl ?_)
    simp only [entry]
    refine W.seq <| W.reg <| OSuf.aop tyOK rfl za rfl <| OSuf.nil <| SQ.normal ?_
    refine W.seq <| W.seq <| W.reg <| OSuf.aopF tyOK rfl sm (fun _ => rfl) (by first | rfl | assumption | ((simp only [bl, Value.cells, places, tb46]) <;> first | done | assumption | omega) | (simp; done) | (simp; omega)) <| OSuf.nil <| SQ.normal ?_
    refine W.no (by simp only [lk] <;> rfl) <| CWp.skip <| SQ.normal ?_
    refine W.seq <| W.reg <| OSuf.aop tyOK rfl sm rfl <| OSuf.aop tyOK rfl (zb (hv := bi_w (bi_rem (by decide)) rfl)) rfl <| OSuf.aop tyOK rfl (zb (hv := bi_w bi_add rfl)) rfl <| OSuf.aop tyOK rfl (so_buildSlice (by simp only [aparts, lk] <;> rfl) (by simp only [aBuildSlice, ty118, ty5, Value.cells, places, tb46] <;> rfl)) rfl <| OSuf.aop tyOK rfl (so_convert (by simp only [lk] <;> rfl) (conv_b ty118 rfl ty5 rfl ty9 rfl (one_b (AHeap.get_new_same _ _)) rfl)) rfl <| OSuf.aop tyOK rfl za rfl <| OSuf.nil <| SQ.normal ?_
    refine CWp.ret <| FQ.ret (by simp only [aRet, Tryz.f46, aResults, aResult, lk, Nat.reduceEqDiff, reduceIte] <;> rfl) ?_
    -- leaf: end
    exact ⟨by rw [Int.tmod_eq_emod_of_nonneg h0, w2]; rfl, fun z o hz ho => by simp (disch := first | assumption | omega | (simp only [nx] <;> omega) | fail) only [hpl]; exact ho⟩
def svRow : Value → Option Nat
  | .slice (some a) _ _ => some a.block
  | _ => none
inductive SV (h : AHeap) (sz lo : Nat) : List Value → Value → Prop
  | nil : SV h sz lo [] (.slice none 0 0)
  | some {y n : Nat} {vs : List Value} (hn : vs.length = n * sz) (hlo : lo ≤ y) (hy : y < h.next) (hg : h.get y = .some (.cells vs sz)) (hne : vs ≠ []) : SV h sz lo vs (.slice (.some ⟨y, 0, .none⟩) n 0)
theorem SV.mono {h h' : AHeap} {sz lo : Nat} {vs : List Value} {v : Value} (s : SV h sz lo vs v) (hn : h.next ≤ h'.next) (hk : ∀ z, z < h.next → svRow v = Option.some z → h'.get z = h.get z) : SV h' sz lo vs v := by
  cases s with
  | nil => exact .nil
  | some h1 h2 h3 h4 h5 => exact .some h1 h2 (by omega) (by rw [hk _ h3 rfl]; exact h4) h5
theorem ap_any {h : AHeap} {sz lo k : Nat} {A B : List Value} {v x : Value} (s : SV h sz lo A v) (hl : aLen x = some k) (hx : aCells h sz k x = some B) (hB : B.length = k * sz) (hone : oneCells B = true) (hlen : vLen v + k ≤ 3000000) (hlo : lo ≤ h.next) (hsz : 0 < sz := by decide) :
    ∃ v' h', (∀ ats A', appT T ats = some A' → A'.size = sz → A'.bytes ≤ 100 → aAppend T ats v x h = some (v', h')) ∧ SV h' sz lo (A ++ B) v' ∧ h.next ≤ h'.next ∧ h'.next ≤ h.next + 1 ∧ (∀ z, z < h.next → ¬ svRow v = some z → h'.get z = h.get z) ∧ ((svRow v' = svRow v ∧ k = 0) ∨ svRow v' = some h.next) ∧ vLen v' = vLen v + k := by
  cases hk : Nat.beq k 0 with
  | true =>
    have e := Nat.eq_of_beq_eq_true hk
    subst e
    have e2 : B = [] := List.length_eq_zero_iff.1 (by rw [hB]; omega)
    subst e2
    refine ⟨v, h, fun ats A' h1 h2 h3 => ?_, by rw [List.append_nil]; exact s, Nat.le_refl _, by omega, fun _ _ _ => rfl, .inl ⟨rfl, rfl⟩, rfl⟩
    have hb : Nat.ble ((2 * (vLen v + 0) + 256) * A'.bytes) 281474976710656 = true := Nat.ble_eq_true_of_le (by
      have : (2 * (vLen v + 0) + 256) * A'.bytes ≤ 7000000 * 100 := Nat.mul_le_mul (by omega) h3
      omega)
    subst h2
    cases s <;> simp only [aAppend, h1, hl, hx, hb, cond_true, hk]
  | false =>
    have hk0 : 0 < k := by
      cases k with
      | zero => cases hk
      | succ k => omega
    have hBne : B ≠ [] := fun e => by
      rw [e] at hB
      have := Nat.mul_pos hk0 hsz
      simp at hB; omega
    cases s with
    | nil =>
      refine ⟨.slice (some ⟨h.next, 0, none⟩) k 0, h.new (.cells B sz), fun ats A' h1 h2 h3 => ?_, .some (by simpa using hB) hlo (by simp) (AHeap.get_new_same _ _) (by simpa using hBne), by simp, by simp, fun z hz _ => AHeap.get_new_ne (by omega), .inr rfl, by simp [vLen]⟩
      subst h2
      exact ap_0 h1 hl hx (by have : (2 * (0 + k) + 256) * A'.bytes ≤ 7000000 * 100 := Nat.mul_le_mul (by simp only [vLen] at hlen; omega) h3
                              omega) hk
    | @some y n _ h1 h2 h3 h4 =>
      have hc : cellsOf A 0 (n * sz) = .some A := cellsOf_all h1
      refine ⟨.slice (.some ⟨h.next, 0, .none⟩) (n + k) 0, (h.kill y).new (.cells (A ++ B) sz), fun ats A' g1 g2 g3 => ?_, .some (by rw [List.length_append, h1, hB, Nat.add_mul]) hlo (by simp only [nx]; omega) (AHeap.get_new_at (by simp only [nx]; omega)) (fun e => hBne (List.append_eq_nil_iff.1 e).2), by simp only [nx]; omega, by simp only [nx]; omega, fun z hz hne => ?_, .inr rfl, rfl⟩
      · subst g2
        exact ap_u g1 hl hx (by have : (2 * (n + k) + 256) * A'.bytes ≤ 7000000 * 100 := Nat.mul_le_mul (by simp only [vLen] at hlen; omega) g3
                                omega) hk h4 hone hc
      · have hzy : ¬ y = z := fun e => hne (by rw [← e]; rfl)
        simp (disch := first | assumption | omega | (simp only [nx] <;> omega) | fail) only [hpl]
theorem SV.row {h : AHeap} {sz lo : Nat} {vs : List Value} {v : Value} {y : Nat} (s : SV h sz lo vs v) (hy : svRow v = Option.some y) : lo ≤ y ∧ y < h.next ∧ h.get y = Option.some (.cells vs sz) ∧ v = .slice (Option.some ⟨y, 0, Option.none⟩) (vLen v) 0 ∧ vs.length = vLen v * sz := by
  cases s with
  | nil => cases hy
  | some h1 h2 h3 h4 => cases hy; exact ⟨h2, h3, h4, rfl, h1⟩
theorem SV.form {h : AHeap} {sz lo : Nat} {vs : List Value} {v : Value} (s : SV h sz lo vs v) : ∃ b, v = .slice b (vLen v) 0 ∧ vs.length = vLen v * sz ∧ (vs ≠ [] → ∃ y, b = Option.some ⟨y, 0, Option.none⟩ ∧ svRow v = Option.some y ∧ lo ≤ y ∧ y < h.next ∧ h.get y = Option.some (.cells vs sz)) := by
  cases s with
  | nil => exact ⟨Option.none, rfl, by simp [vLen], fun h => (h rfl).elim⟩
  | some h1 h2 h3 h4 => exact ⟨_, rfl, h1, fun _ => ⟨_, rfl, rfl, h2, h3, h4⟩⟩
theorem SV.empty {h : AHeap} {sz lo : Nat} {vs : List Value} {v : Value} (s : SV h sz lo vs v) (e : vs = []) : v = .slice Option.none 0 0 := by
  cases s with
  | nil => rfl
  | some _ _ _ _ h5 => exact (h5 e).elim
theorem SV.avs {h : AHeap} {lo : Nat} {V : List Vr} {v : Value} (s : SV h 5 lo (flatV V) v) : AVs h V v := by
  have hl := flatV_length V
  cases hV : V with
  | nil => rw [hV] at s; rw [s.empty rfl]; exact .nil
  | cons x K =>
    have hne : flatV V ≠ [] := fun e => by rw [e, hV] at hl; simp at hl
    obtain ⟨b, h1, h2, h3⟩ := s.form
    obtain ⟨y, rfl, _, _, h5, h6⟩ := h3 hne
    have e : vLen v = V.length := by omega
    rw [h1, e, ← hV]
    exact .some (vs := flatV V) (by rw [hV]; simp) h5 (by simp only [rowOf, h6]) (cellsOf_all hl)
theorem ris_snoc {w : Vr} {K : List Vr} (h1 : Ris K) (h2 : ∀ x ∈ K, x.ts < w.ts) : Ris (K ++ [w]) := by
  intro i x y hx hy
  have hl := (List.getElem?_eq_some_iff.1 hy).1
  simp at hl
  by_cases h3 : i + 1 < K.length
  · rw [List.getElem?_append_left h3] at hy
    rw [List.getElem?_append_left (by omega)] at hx
    exact h1 i x y hx hy
  · have e : i + 1 = K.length := by omega
    rw [e] at hy
    rw [List.getElem?_append_left (by omega)] at hx
    simp at hy
    rw [← hy]; exact h2 x (List.mem_of_getElem? hx)
structure Stp where
  far : Int
  lsn : Int
  del : Bool
  val : Int
  base : Bool
def Stp.cs (x : Stp) : List Value := [.int .u8 x.far, .int .u8 x.lsn, .bool x.del, .int .u8 x.val, .bool x.base]
def Stp.ok (x : Stp) : Prop := (0 ≤ x.far ∧ x.far < 256) ∧ (0 ≤ x.lsn ∧ x.lsn < 256) ∧ (0 ≤ x.val ∧ x.val < 256)
def flatP (l : List Stp) : List Value := (l.map Stp.cs).flatten
structure StpAt (h : AHeap) (b : Option Addr) (l : List Stp) : Prop where
  len : l.length ≤ maxLen
  ok : ∀ x ∈ l, x.ok
  at_ : l ≠ [] → ∃ r, b = some ⟨r, 0, none⟩ ∧ r < h.next ∧ h.get r = some (.ro (flatP l))
theorem StpAt.mono {h h' : AHeap} {b : Option Addr} {l : List Stp} (s : StpAt h b l) (hn : h.next ≤ h'.next) (hk : ∀ z, z < h.next → h'.get z = h.get z) : StpAt h' b l :=
  ⟨s.len, s.ok, fun hne => by obtain ⟨r, h1, h2, h3⟩ := s.at_ hne; exact ⟨r, h1, by omega, by rw [hk _ h2]; exact h3⟩⟩
theorem flatP_get {l : List Stp} {i j : Nat} {x : Stp} (hx : l[i]? = some x) (hj : j < 5) : (flatP l)[i * 5 + j]? = x.cs[j]? :=
  flatten_get (fun y hy => by obtain ⟨z, _, rfl⟩ := List.mem_map.1 hy; rfl) (by simp [hx]) hj
structure VeI (h g : AHeap) (i : Nat) (t : Int) (V : List Vr) (v : Value) : Prop where
  t0 : 0 ≤ t
  t1 : t ≤ 20 * i
  len : V.length = i
  ris : Ris V
  le : ∀ x ∈ V, x.ts ≤ t
  sv : SV g 5 h.next (flatV V) v
  next : h.next ≤ g.next
  old : ∀ z, z < h.next → g.get z = h.get z
theorem VeI.put {h g : AHeap} {i : Nat} {t t' : Int} {V : List Vr} {v : Value} (I : VeI h g i t V v) (hi : i < 6) (h0 : t ≤ t') (h1 : i = 0 ∨ t < t') (h2 : t' ≤ t + 20) (lsn : Int) (del : Bool) (val : ByteArray) :
    ∃ v' H, (∀ ats A', appT T ats = some A' → A'.size = 5 → A'.bytes ≤ 100 → aAppend T ats v (.slice (some ⟨g.next, 0, none⟩) 1 2) (g.new (.cells [U64 t', U64 lsn, .bool del, .string val, .bool false] 5)) = some (v', H)) ∧ VeI h H (i + 1) t' (V ++ [⟨t', lsn, del, val, false⟩]) v' := by
  have hnx := I.next
  have hsv : SV (g.new (.cells [U64 t', U64 lsn, .bool del, .string val, .bool false] 5)) 5 h.next (flatV V) v := I.sv.mono (by simp) fun z hz _ => AHeap.get_new_ne (by omega)
  have hc : aCells (g.new (.cells [U64 t', U64 lsn, .bool del, .string val, .bool false] 5)) 5 1 (.slice (some ⟨g.next, 0, none⟩) 1 2) = some [U64 t', U64 lsn, .bool del, .string val, .bool false] := aCells_of (vs := [U64 t', U64 lsn, .bool del, .string val, .bool false]) (by simp only [rowOf, AHeap.get_new_same]) (Nat.le_refl _) rfl
  have hvl : vLen v ≤ 10 := by
    obtain ⟨_, _, h9, _⟩ := I.sv.form
    have := flatV_length V; have := I.len; omega
  obtain ⟨v', H, a1, a2, a3, a4, a5, a6, a7⟩ := ap_any hsv rfl hc rfl rfl (by omega) (by simp only [nx]; omega)
  refine ⟨v', H, a1, by have := I.t0; omega, by have := I.t1; omega, by simp [I.len], ?_, fun x hx => ?_, by rw [flatV_app]; exact a2, by simp only [nx] at a3; omega, fun z hz => ?_⟩
  · refine ris_snoc I.ris fun x hx => ?_
    rcases h1 with h1 | h1
    · have := I.len; rw [h1] at this; rw [List.length_eq_zero_iff.1 this] at hx; cases hx
    · have := I.le x hx; show x.ts < t'; omega
  · rcases List.mem_append.1 hx with hx | hx
    · have := I.le x hx; omega
    · simp at hx; rw [hx]; exact Int.le_refl _
  · rw [a5 z (by simp only [nx]; omega) (fun e => ?_), AHeap.get_new_ne (by omega)]
    · exact I.old z hz
    · have := (hsv.row e).1; omega
theorem vers19_c (h : AHeap) (b : Option Addr) (l : List Stp) (hs : StpAt h b l) : FWp Tryz.prog 45 [.slice b l.length 0] h fun u h' => ∃ i t V, i ≤ 6 ∧ VeI h h' i t V u := by
  have tb45 := And.intro ty113 (And.intro ty140 (And.intro ty27 (And.intro ty34 (And.intro ty4 (And.intro ty49 (ty5))))))
  refine W.enter tyOK Tryz.func45 rfl rfl ?_
  simp only [entry]
  refine W.seq <| W.reg <| OSuf.aop tyOK rfl za rfl <| OSuf.nil <| SQ.normal ?_
  refine W.seq <| W.reg <| OSuf.aop tyOK rfl za rfl <| OSuf.nil <| SQ.normal ?_
  refine W.seq <| W.reg <| OSuf.aop tyOK rfl za rfl <| OSuf.nil <| SQ.normal ?_
  refine W.seq <| W.seq <| W.reg <| OSuf.aop tyOK rfl za rfl <| OSuf.nil <| SQ.normal ?_
  -- leaf: loop
  have hlm : l.length ≤ 9223372036854775807 := by have := hs.len; simp only [maxLen] at this; omega
  refine W.cut (fun L g => ∃ i t V v, i ≤ 6 ∧ VeI h g i t V v ∧ L = [(3, v)]) (W.block (W.loop (fun q L g => ∃ i t V v, q + i = 6 ∧ VeI h g i t V v ∧ L = [(0, .slice b l.length 0), (3, v), (4, U64 t), (5, I64 i)]) (n := 6) ⟨0, 0, [], .slice none 0 0, rfl, ⟨by omega, by omega, rfl, ris_nil, (fun x hx => by cases hx), .nil, Nat.le_refl _, fun _ _ => rfl⟩, rfl⟩ ?_ ?_)) ?_
  · simp [HasA, Tr.get_put]
  · rintro q L g ⟨i, t, V, v, hq, I, rfl⟩
    simp only [mkA]
    have v2 : IntKind.i64.wrap ((i : Int) + 1) = ((i + 1 : Nat) : Int) := by rw [wrap_i64 (by omega) (by omega)]; omega
    by_cases hlt : (i : Int) < (l.length : Int)
    · by_cases h6 : (i : Int) < 6
      · obtain ⟨x, hx⟩ : ∃ x, l[i]? = some x := ⟨l[i]'(by omega), by simp⟩
        obtain ⟨r0, rfl, hr0, hg0⟩ := hs.at_ (fun e => by rw [e] at hx; simp at hx)
        obtain ⟨⟨f1, f2⟩, ⟨l1, l2⟩, ⟨w1, w2⟩⟩ := hs.ok x (List.mem_of_getElem? hx)
        have hg : g.get r0 = some (.ro (flatP l)) := by rw [I.old r0 hr0]; exact hg0
        have hc : (0 ≤ (i : Int) ∧ (i : Int) < (l.length : Int)) := by omega
        have c0 : (flatP l)[i * 5]? = some (.int .u8 x.far) := flatP_get (j := 0) hx (by omega)
        have c1 : (flatP l)[i * 5 + 1]? = some (.int .u8 x.lsn) := flatP_get (j := 1) hx (by omega)
        have c2 : (flatP l)[i * 5 + 2]? = some (.bool x.del) := flatP_get (j := 2) hx (by omega)
        have c3 : (flatP l)[i * 5 + 3]? = some (.int .u8 x.val) := flatP_get (j := 3) hx (by omega)
        have c4 : (flatP l)[i * 5 + 4]? = some (.bool x.base) := flatP_get (j := 4) hx (by omega)
        have t0 := I.t0
        have t1 := I.t1
        have hfar : x.far.tmod 20 = x.far % 20 := Int.tmod_eq_emod_of_nonneg f1
        have hlsn : x.lsn.tmod 12 = x.lsn % 12 := Int.tmod_eq_emod_of_nonneg l1
        have ew : IntKind.u64.wrap (IntKind.u64.wrap (t + 1) + IntKind.u64.wrap (x.far.tmod 20)) = t + 1 + x.far % 20 := by
          rw [hfar, wrap_u64 (n := t + 1) (by omega) (by omega), wrap_u64 (n := x.far % 20) (by omega) (by omega), wrap_u64 (by omega) (by omega)]
        by_cases hi0 : (i : Int) > 0
        · skip
          obtain ⟨v', H, a1, I'⟩ := I.put (t' := IntKind.u64.wrap (IntKind.u64.wrap (t + 1) + IntKind.u64.wrap (x.far.tmod 20))) (by omega) (by rw [ew]; omega) (.inr (by rw [ew]; omega)) (by rw [ew]; omega) (IntKind.u64.wrap (x.lsn.tmod 12)) x.del (valB x.val x.del)
          refine W.seq <| W.seq <| W.reg <| OSuf.aop tyOK rfl sm rfl <| OSuf.aop tyOK rfl sm rfl <| OSuf.aop tyOK rfl (so_len (by simp only [aopnds, lk] <;> rfl) (by simp (disch := first | assumption | omega | (simp only [nx] <;> omega) | fail) only [aLenOf, ty113, hpl, hg, hc, sb, c0, c1, c2, c3, c4, Value.cells, places, tb45] <;> rfl)) rfl <| OSuf.aopT tyOK rfl (zb (hv := bi_lss)) (fun _ => rfl) (decide_eq_true hlt) <| OSuf.aopT tyOK rfl sm (fun _ => rfl) rfl <| OSuf.aop tyOK ag sm rfl <| OSuf.aopT tyOK ag (zb (hv := bi_lss)) (fun _ => rfl) (decide_eq_true h6) <| OSuf.aopT tyOK rfl (so_pick (by simp only [lk] <;> rfl) (by simp only [lk, cond_true, cond_false] <;> rfl)) (fun _ => rfl) rfl <| OSuf.nil <| SQ.normal ?_
          refine W.yes (by simp only [lk] <;> rfl) <| CWp.skip <| SQ.normal ?_
          refine W.seq <| W.block <| W.seq <| W.seq <| W.reg <| OSuf.aop tyOK rfl sm rfl <| OSuf.aopT tyOK rfl (zb (hv := bi_gtr)) (fun _ => rfl) (decide_eq_true hi0) <| OSuf.aopT tyOK rfl sm (fun _ => rfl) rfl <| OSuf.pass ag rfl <| OSuf.pass ag rfl <| OSuf.pass ag rfl <| OSuf.pass ag rfl <| OSuf.pass ag rfl <| OSuf.pass ag rfl <| OSuf.aopT tyOK rfl (so_pick (by simp only [lk] <;> rfl) (by simp only [lk, cond_true, cond_false] <;> rfl)) (fun _ => rfl) rfl <| OSuf.nil <| SQ.normal ?_
          refine W.yes (by simp only [lk] <;> rfl) <| W.reg <| OSuf.aop tyOK rfl sm rfl <| OSuf.aop tyOK rfl (zb (hv := bi_w bi_add (by first | (simp only [v2] <;> rfl) | rfl))) rfl <| OSuf.aop tyOK rfl sm rfl <| OSuf.aop tyOK rfl sm rfl <| OSuf.aop tyOK rfl (zi (hv := by simp (disch := first | assumption | omega | (simp only [nx] <;> omega) | fail) only [aIndexAddr, ty113, ty140, hpl, hg, hc, sb, c0, c1, c2, c3, c4, Value.cells, places, tb45] <;> rfl)) rfl <| OSuf.aop tyOK rfl (zf (hv := fa_ok (k := 0) ty140 rfl rfl ty5 rfl rfl)) rfl <| OSuf.aop tyOK rfl (zl (hv := by simp (disch := first | assumption | omega | (simp only [nx] <;> omega) | fail) only [aLoad, ty5, rowOf, hpl, hg, hc, sb, c0, c1, c2, c3, c4, Value.cells] <;> rfl)) rfl <| OSuf.aop tyOK rfl (zb (hv := bi_w (bi_rem (by decide)) (by first | (simp only [v2] <;> rfl) | rfl))) rfl <| OSuf.aop tyOK rfl (so_conw (so_conv tyOK (by simp only [lk] <;> rfl) ty5 ⟨_, rfl⟩ ty27 rfl) (by first | (simp only [v2] <;> rfl) | rfl)) rfl <| OSuf.aop tyOK rfl (zb (hv := bi_w bi_add (by first | (simp only [v2] <;> rfl) | rfl))) rfl <| OSuf.aop tyOK rfl za rfl <| OSuf.nil <| SQ.normal ?_
          refine CWp.sqd tyOK mixed (ms := [0, 0, 0, 0, 12, 28, 60, 124, 252, 0, 0, 1536, 3584, 7680, 0, 0, 49152, 114688, 245760, 0, 0, 1572864, 3670016, 7864320, 16760832, 33554430, 67108862, 134217727, 268435455]) (by kernel_rfl) (
              .free rfl rfl sm rfl <| .free rfl rfl sm rfl <| .free rfl rfl sm rfl <| .free rfl rfl sm rfl <| .free rfl rfl (zi (hv := by simp (disch := first | assumption | omega | (simp only [nx] <;> omega) | fail) only [aIndexAddr, ty113, ty140, hpl, hg, hc, sb, c0, c1, c2, c3, c4, Value.cells, places, tb45] <;> rfl)) rfl <| .free rfl rfl (zf (hv := fa_ok (k := 1) ty140 rfl rfl ty5 rfl rfl)) rfl <| .read rfl rfl (zl (hv := by simp (disch := first | assumption | omega | (simp only [nx] <;> omega) | fail) only [aLoad, ty5, rowOf, hpl, hg, hc, sb, c0, c1, c2, c3, c4, Value.cells] <;> rfl)) (by first | rfl | (simp [veq, veq1, veqs]; done) | (simp [veq, veq1, veqs, splice]; done)) trivial rfl <| .free rfl rfl (zb (hv := bi_w (bi_rem (by decide)) (by first | (simp only [v2] <;> rfl) | rfl))) rfl <| .read rfl (by kernel_rfl) (so_conw (so_conv tyOK (by simp only [lk] <;> rfl) ty5 ⟨_, rfl⟩ ty27 rfl) (by first | (simp only [v2] <;> rfl) | rfl)) (by first | rfl | (simp [veq, veq1, veqs]; done) | (simp [veq, veq1, veqs, splice]; done)) trivial rfl <| .free rfl rfl sm rfl <| .free rfl rfl sm rfl <| .free rfl rfl (zi (hv := by simp (disch := first | assumption | omega | (simp only [nx] <;> omega) | fail) only [aIndexAddr, ty113, ty140, hpl, hg, hc, sb, c0, c1, c2, c3, c4, Value.cells, places, tb45] <;> rfl)) rfl <| .free rfl rfl (zf (hv := fa_ok (k := 2) ty140 rfl rfl ty4 rfl rfl)) rfl <| .read rfl rfl (zl (hv := by simp (disch := first | assumption | omega | (simp only [nx] <;> omega) | fail) only [aLoad, ty4, rowOf, hpl, hg, hc, sb, c0, c1, c2, c3, c4, Value.cells] <;> rfl)) (by first | rfl | (simp [veq, veq1, veqs]; done) | (simp [veq, veq1, veqs, splice]; done)) trivial rfl <| .free rfl rfl sm rfl <| .free rfl rfl sm rfl <| .free rfl rfl (zi (hv := by simp (disch := first | assumption | omega | (simp only [nx] <;> omega) | fail) only [aIndexAddr, ty113, ty140, hpl, hg, hc, sb, c0, c1, c2, c3, c4, Value.cells, places, tb45] <;> rfl)) rfl <| .free rfl rfl (zf (hv := fa_ok (k := 3) ty140 rfl rfl ty5 rfl rfl)) rfl <| .read rfl rfl (zl (hv := by simp (disch := first | assumption | omega | (simp only [nx] <;> omega) | fail) only [aLoad, ty5, rowOf, hpl, hg, hc, sb, c0, c1, c2, c3, c4, Value.cells] <;> rfl)) (by first | rfl | (simp [veq, veq1, veqs]; done) | (simp [veq, veq1, veqs, splice]; done)) trivial rfl <| .free rfl rfl sm rfl <| .free rfl rfl sm rfl <| .free rfl rfl (zi (hv := by simp (disch := first | assumption | omega | (simp only [nx] <;> omega) | fail) only [aIndexAddr, ty113, ty140, hpl, hg, hc, sb, c0, c1, c2, c3, c4, Value.cells, places, tb45] <;> rfl)) rfl <| .free rfl rfl (zf (hv := fa_ok (k := 2) ty140 rfl rfl ty4 rfl rfl)) rfl <| .read rfl rfl (zl (hv := by simp (disch := first | assumption | omega | (simp only [nx] <;> omega) | fail) only [aLoad, ty4, rowOf, hpl, hg, hc, sb, c0, c1, c2, c3, c4, Value.cells] <;> rfl)) (by first | rfl | (simp [veq, veq1, veqs]; done) | (simp [veq, veq1, veqs, splice]; done)) trivial rfl <| .call rfl rfl (fcallO (by simp only [aopnds, lk] <;> rfl) en46 (val_c _ x.val w1 w2 x.del)) rfl ⟨.inl rfl, .inl rfl, .inr (zl (hv := by simp (disch := first | assumption | omega | (simp only [nx] <;> omega) | fail) only [aLoad, ty4, rowOf, hpl, hg, hc, sb, c0, c1, c2, c3, c4, Value.cells] <;> rfl)), .inr (so_conw (so_conv tyOK (by simp only [lk] <;> rfl) ty5 ⟨_, rfl⟩ ty27 rfl) (by first | (simp only [v2] <;> rfl) | rfl)), .inr (zl (hv := by simp (disch := first | assumption | omega | (simp only [nx] <;> omega) | fail) only [aLoad, ty5, rowOf, hpl, hg, hc, sb, c0, c1, c2, c3, c4, Value.cells] <;> rfl)), trivial⟩ rfl <| .free rfl rfl (so_build (by simp only [aparts, lk] <;> rfl) (by simp only [aBuild, ty49, hg, hc, sb, c0, c1, c2, c3, c4, Value.cells, places, tb45] <;> rfl)) rfl <| .change rfl rfl (so_buildSlice (by simp only [aparts, lk] <;> rfl) (by simp only [aBuildSlice, ty34, ty49, hg, hc, sb, c0, c1, c2, c3, c4, Value.cells, places, tb45] <;> rfl)) rfl ⟨.inl rfl, .inl rfl, .inl rfl, .inl rfl, .inl rfl, trivial⟩ rfl <| .change rfl rfl (so_append (by simp only [aopnds, lk] <;> rfl) (a1 _ _ (by simp only [appT, ty34, ty49] <;> rfl) rfl (by decide))) rfl ⟨.inl rfl, .inl rfl, .inl rfl, .inl rfl, .inl rfl, trivial⟩ rfl <| .free rfl rfl za rfl <| .nil) <| BQ.normal <| SQ.normal ?_
          refine W.reg <| OSuf.aop tyOK rfl sm rfl <| OSuf.aop tyOK rfl (zb (hv := bi_w bi_add (by first | (simp only [v2] <;> rfl) | rfl))) rfl <| OSuf.aop tyOK rfl za rfl <| OSuf.nil <| ?_
          -- leaf: round
          refine LQ.normal (m := q - 1) (L := [(0, .slice (some ⟨r0, 0, none⟩) l.length 0), (3, v'), (4, U64 (IntKind.u64.wrap (IntKind.u64.wrap (t + 1) + IntKind.u64.wrap (x.far.tmod 20)))), (5, I64 ((i + 1 : Nat) : Int))]) (by omega) ?_ ⟨i + 1, IntKind.u64.wrap (IntKind.u64.wrap (t + 1) + IntKind.u64.wrap (x.far.tmod 20)), _, v', by omega, I', rfl⟩
          simp only [HasA, Tr.get_put, Nat.reduceEqDiff, reduceIte, v2, and_self]
        · rcases Bool.eq_false_or_eq_true x.base with hb | hb
          · skip
            obtain ⟨v', H, a1, I'⟩ := I.put (t' := t) (by omega) (Int.le_refl _) (.inl (by omega)) (by omega) (IntKind.u64.wrap (x.lsn.tmod 12)) x.del (valB x.val x.del)
            refine W.seq <| W.seq <| W.reg <| OSuf.aop tyOK rfl sm rfl <| OSuf.aop tyOK rfl sm rfl <| OSuf.aop tyOK rfl (so_len (by simp only [aopnds, lk] <;> rfl) (by simp (disch := first | assumption | omega | (simp only [nx] <;> omega) | fail) only [aLenOf, ty113, hpl, hg, hc, sb, c0, c1, c2, c3, c4, Value.cells, places, tb45] <;> rfl)) rfl <| OSuf.aopT tyOK rfl (zb (hv := bi_lss)) (fun _ => rfl) (decide_eq_true hlt) <| OSuf.aopT tyOK rfl sm (fun _ => rfl) rfl <| OSuf.aop tyOK ag sm rfl <| OSuf.aopT tyOK ag (zb (hv := bi_lss)) (fun _ => rfl) (decide_eq_true h6) <| OSuf.aopT tyOK rfl (so_pick (by simp only [lk] <;> rfl) (by simp only [lk, cond_true, cond_false] <;> rfl)) (fun _ => rfl) rfl <| OSuf.nil <| SQ.normal ?_
            refine W.yes (by simp only [lk] <;> rfl) <| CWp.skip <| SQ.normal ?_
            refine W.seq <| W.block <| W.seq <| W.seq <| W.reg <| OSuf.aop tyOK rfl sm rfl <| OSuf.aopF tyOK rfl (zb (hv := bi_gtr)) (fun _ => rfl) (decide_eq_false hi0) <| OSuf.aopF tyOK rfl sm (fun _ => rfl) rfl <| OSuf.aop tyOK ag sm rfl <| OSuf.aop tyOK ag sm rfl <| OSuf.aop tyOK ag (zi (hv := by simp (disch := first | assumption | omega | (simp only [nx] <;> omega) | fail) only [aIndexAddr, ty113, ty140, hpl, hg, hc, sb, c0, c1, c2, c3, c4, Value.cells, places, tb45] <;> rfl)) rfl <| OSuf.aop tyOK ag (zf (hv := fa_ok (k := 4) ty140 rfl rfl ty4 rfl rfl)) rfl <| OSuf.aopT tyOK ag (zl (hv := by simp (disch := first | assumption | omega | (simp only [nx] <;> omega) | fail) only [aLoad, ty4, rowOf, hpl, hg, hc, sb, c0, c1, c2, c3, c4, Value.cells] <;> rfl)) (fun _ => rfl) (hb) <| OSuf.aopF tyOK ag (so_not (by simp only [lk] <;> rfl)) (fun _ => rfl) rfl <| OSuf.aopF tyOK rfl (so_pick (by simp only [lk] <;> rfl) (by simp only [lk, cond_true, cond_false] <;> rfl)) (fun _ => rfl) rfl <| OSuf.nil <| SQ.normal ?_
            refine W.no (by simp only [lk] <;> rfl) <| CWp.skip <| SQ.normal ?_
            refine CWp.sqd tyOK mixed (ms := [0, 0, 0, 0, 12, 28, 60, 124, 252, 0, 0, 1536, 3584, 7680, 0, 0, 49152, 114688, 245760, 0, 0, 1572864, 3670016, 7864320, 16760832, 33554430, 67108862, 134217727, 268435455]) (by kernel_rfl) (
                .free rfl rfl sm rfl <| .free rfl rfl sm rfl <| .free rfl rfl sm rfl <| .free rfl rfl sm rfl <| .free rfl rfl (zi (hv := by simp (disch := first | assumption | omega | (simp only [nx] <;> omega) | fail) only [aIndexAddr, ty113, ty140, hpl, hg, hc, sb, c0, c1, c2, c3, c4, Value.cells, places, tb45] <;> rfl)) rfl <| .free rfl rfl (zf (hv := fa_ok (k := 1) ty140 rfl rfl ty5 rfl rfl)) rfl <| .read rfl rfl (zl (hv := by simp (disch := first | assumption | omega | (simp only [nx] <;> omega) | fail) only [aLoad, ty5, rowOf, hpl, hg, hc, sb, c0, c1, c2, c3, c4, Value.cells] <;> rfl)) (by first | rfl | (simp [veq, veq1, veqs]; done) | (simp [veq, veq1, veqs, splice]; done)) trivial rfl <| .free rfl rfl (zb (hv := bi_w (bi_rem (by decide)) (by first | (simp only [v2] <;> rfl) | rfl))) rfl <| .read rfl (by kernel_rfl) (so_conw (so_conv tyOK (by simp only [lk] <;> rfl) ty5 ⟨_, rfl⟩ ty27 rfl) (by first | (simp only [v2] <;> rfl) | rfl)) (by first | rfl | (simp [veq, veq1, veqs]; done) | (simp [veq, veq1, veqs, splice]; done)) trivial rfl <| .free rfl rfl sm rfl <| .free rfl rfl sm rfl <| .free rfl rfl (zi (hv := by simp (disch := first | assumption | omega | (simp only [nx] <;> omega) | fail) only [aIndexAddr, ty113, ty140, hpl, hg, hc, sb, c0, c1, c2, c3, c4, Value.cells, places, tb45] <;> rfl)) rfl <| .free rfl rfl (zf (hv := fa_ok (k := 2) ty140 rfl rfl ty4 rfl rfl)) rfl <| .read rfl rfl (zl (hv := by simp (disch := first | assumption | omega | (simp only [nx] <;> omega) | fail) only [aLoad, ty4, rowOf, hpl, hg, hc, sb, c0, c1, c2, c3, c4, Value.cells] <;> rfl)) (by first | rfl | (simp [veq, veq1, veqs]; done) | (simp [veq, veq1, veqs, splice]; done)) trivial rfl <| .free rfl rfl sm rfl <| .free rfl rfl sm rfl <| .free rfl rfl (zi (hv := by simp (disch := first | assumption | omega | (simp only [nx] <;> omega) | fail) only [aIndexAddr, ty113, ty140, hpl, hg, hc, sb, c0, c1, c2, c3, c4, Value.cells, places, tb45] <;> rfl)) rfl <| .free rfl rfl (zf (hv := fa_ok (k := 3) ty140 rfl rfl ty5 rfl rfl)) rfl <| .read rfl rfl (zl (hv := by simp (disch := first | assumption | omega | (simp only [nx] <;> omega) | fail) only [aLoad, ty5, rowOf, hpl, hg, hc, sb, c0, c1, c2, c3, c4, Value.cells] <;> rfl)) (by first | rfl | (simp [veq, veq1, veqs]; done) | (simp [veq, veq1, veqs, splice]; done)) trivial rfl <| .free rfl rfl sm rfl <| .free rfl rfl sm rfl <| .free rfl rfl (zi (hv := by simp (disch := first | assumption | omega | (simp only [nx] <;> omega) | fail) only [aIndexAddr, ty113, ty140, hpl, hg, hc, sb, c0, c1, c2, c3, c4, Value.cells, places, tb45] <;> rfl)) rfl <| .free rfl rfl (zf (hv := fa_ok (k := 2) ty140 rfl rfl ty4 rfl rfl)) rfl <| .read rfl rfl (zl (hv := by simp (disch := first | assumption | omega | (simp only [nx] <;> omega) | fail) only [aLoad, ty4, rowOf, hpl, hg, hc, sb, c0, c1, c2, c3, c4, Value.cells] <;> rfl)) (by first | rfl | (simp [veq, veq1, veqs]; done) | (simp [veq, veq1, veqs, splice]; done)) trivial rfl <| .call rfl rfl (fcallO (by simp only [aopnds, lk] <;> rfl) en46 (val_c _ x.val w1 w2 x.del)) rfl ⟨.inl rfl, .inl rfl, .inr (zl (hv := by simp (disch := first | assumption | omega | (simp only [nx] <;> omega) | fail) only [aLoad, ty4, rowOf, hpl, hg, hc, sb, c0, c1, c2, c3, c4, Value.cells] <;> rfl)), .inr (so_conw (so_conv tyOK (by simp only [lk] <;> rfl) ty5 ⟨_, rfl⟩ ty27 rfl) (by first | (simp only [v2] <;> rfl) | rfl)), .inr (zl (hv := by simp (disch := first | assumption | omega | (simp only [nx] <;> omega) | fail) only [aLoad, ty5, rowOf, hpl, hg, hc, sb, c0, c1, c2, c3, c4, Value.cells] <;> rfl)), trivial⟩ rfl <| .free rfl rfl (so_build (by simp only [aparts, lk] <;> rfl) (by simp only [aBuild, ty49, hg, hc, sb, c0, c1, c2, c3, c4, Value.cells, places, tb45] <;> rfl)) rfl <| .change rfl rfl (so_buildSlice (by simp only [aparts, lk] <;> rfl) (by simp only [aBuildSlice, ty34, ty49, hg, hc, sb, c0, c1, c2, c3, c4, Value.cells, places, tb45] <;> rfl)) rfl ⟨.inl rfl, .inl rfl, .inl rfl, .inl rfl, .inl rfl, trivial⟩ rfl <| .change rfl rfl (so_append (by simp only [aopnds, lk] <;> rfl) (a1 _ _ (by simp only [appT, ty34, ty49] <;> rfl) rfl (by decide))) rfl ⟨.inl rfl, .inl rfl, .inl rfl, .inl rfl, .inl rfl, trivial⟩ rfl <| .free rfl rfl za rfl <| .nil) <| BQ.normal <| SQ.normal ?_
            refine W.reg <| OSuf.aop tyOK rfl sm rfl <| OSuf.aop tyOK rfl (zb (hv := bi_w bi_add (by first | (simp only [v2] <;> rfl) | rfl))) rfl <| OSuf.aop tyOK rfl za rfl <| OSuf.nil <| ?_
            -- leaf: round
            refine LQ.normal (m := q - 1) (L := [(0, .slice (some ⟨r0, 0, none⟩) l.length 0), (3, v'), (4, U64 (t)), (5, I64 ((i + 1 : Nat) : Int))]) (by omega) ?_ ⟨i + 1, t, _, v', by omega, I', rfl⟩
            simp only [HasA, Tr.get_put, Nat.reduceEqDiff, reduceIte, v2, and_self]
          · skip
            obtain ⟨v', H, a1, I'⟩ := I.put (t' := IntKind.u64.wrap (IntKind.u64.wrap (t + 1) + IntKind.u64.wrap (x.far.tmod 20))) (by omega) (by rw [ew]; omega) (.inr (by rw [ew]; omega)) (by rw [ew]; omega) (IntKind.u64.wrap (x.lsn.tmod 12)) x.del (valB x.val x.del)
            refine W.seq <| W.seq <| W.reg <| OSuf.aop tyOK rfl sm rfl <| OSuf.aop tyOK rfl sm rfl <| OSuf.aop tyOK rfl (so_len (by simp only [aopnds, lk] <;> rfl) (by simp (disch := first | assumption | omega | (simp only [nx] <;> omega) | fail) only [aLenOf, ty113, hpl, hg, hc, sb, c0, c1, c2, c3, c4, Value.cells, places, tb45] <;> rfl)) rfl <| OSuf.aopT tyOK rfl (zb (hv := bi_lss)) (fun _ => rfl) (decide_eq_true hlt) <| OSuf.aopT tyOK rfl sm (fun _ => rfl) rfl <| OSuf.aop tyOK ag sm rfl <| OSuf.aopT tyOK ag (zb (hv := bi_lss)) (fun _ => rfl) (decide_eq_true h6) <| OSuf.aopT tyOK rfl (so_pick (by simp only [lk] <;> rfl) (by simp only [lk, cond_true, cond_false] <;> rfl)) (fun _ => rfl) rfl <| OSuf.nil <| SQ.normal ?_
            refine W.yes (by simp only [lk] <;> rfl) <| CWp.skip <| SQ.normal ?_
            refine W.seq <| W.block <| W.seq <| W.seq <| W.reg <| OSuf.aop tyOK rfl sm rfl <| OSuf.aopF tyOK rfl (zb (hv := bi_gtr)) (fun _ => rfl) (decide_eq_false hi0) <| OSuf.aopF tyOK rfl sm (fun _ => rfl) rfl <| OSuf.aop tyOK ag sm rfl <| OSuf.aop tyOK ag sm rfl <| OSuf.aop tyOK ag (zi (hv := by simp (disch := first | assumption | omega | (simp only [nx] <;> omega) | fail) only [aIndexAddr, ty113, ty140, hpl, hg, hc, sb, c0, c1, c2, c3, c4, Value.cells, places, tb45] <;> rfl)) rfl <| OSuf.aop tyOK ag (zf (hv := fa_ok (k := 4) ty140 rfl rfl ty4 rfl rfl)) rfl <| OSuf.aopF tyOK ag (zl (hv := by simp (disch := first | assumption | omega | (simp only [nx] <;> omega) | fail) only [aLoad, ty4, rowOf, hpl, hg, hc, sb, c0, c1, c2, c3, c4, Value.cells] <;> rfl)) (fun _ => rfl) (hb) <| OSuf.aopT tyOK ag (so_not (by simp only [lk] <;> rfl)) (fun _ => rfl) rfl <| OSuf.aopT tyOK rfl (so_pick (by simp only [lk] <;> rfl) (by simp only [lk, cond_true, cond_false] <;> rfl)) (fun _ => rfl) rfl <| OSuf.nil <| SQ.normal ?_
            refine W.yes (by simp only [lk] <;> rfl) <| W.reg <| OSuf.aop tyOK rfl sm rfl <| OSuf.aop tyOK rfl (zb (hv := bi_w bi_add (by first | (simp only [v2] <;> rfl) | rfl))) rfl <| OSuf.aop tyOK rfl sm rfl <| OSuf.aop tyOK rfl sm rfl <| OSuf.aop tyOK rfl (zi (hv := by simp (disch := first | assumption | omega | (simp only [nx] <;> omega) | fail) only [aIndexAddr, ty113, ty140, hpl, hg, hc, sb, c0, c1, c2, c3, c4, Value.cells, places, tb45] <;> rfl)) rfl <| OSuf.aop tyOK rfl (zf (hv := fa_ok (k := 0) ty140 rfl rfl ty5 rfl rfl)) rfl <| OSuf.aop tyOK rfl (zl (hv := by simp (disch := first | assumption | omega | (simp only [nx] <;> omega) | fail) only [aLoad, ty5, rowOf, hpl, hg, hc, sb, c0, c1, c2, c3, c4, Value.cells] <;> rfl)) rfl <| OSuf.aop tyOK rfl (zb (hv := bi_w (bi_rem (by decide)) (by first | (simp only [v2] <;> rfl) | rfl))) rfl <| OSuf.aop tyOK rfl (so_conw (so_conv tyOK (by simp only [lk] <;> rfl) ty5 ⟨_, rfl⟩ ty27 rfl) (by first | (simp only [v2] <;> rfl) | rfl)) rfl <| OSuf.aop tyOK rfl (zb (hv := bi_w bi_add (by first | (simp only [v2] <;> rfl) | rfl))) rfl <| OSuf.aop tyOK rfl za rfl <| OSuf.nil <| SQ.normal ?_
            refine CWp.sqd tyOK mixed (ms := [0, 0, 0, 0, 12, 28, 60, 124, 252, 0, 0, 1536, 3584, 7680, 0, 0, 49152, 114688, 245760, 0, 0, 1572864, 3670016, 7864320, 16760832, 33554430, 67108862, 134217727, 268435455]) (by kernel_rfl) (
                .free rfl rfl sm rfl <| .free rfl rfl sm rfl <| .free rfl rfl sm rfl <| .free rfl rfl sm rfl <| .free rfl rfl (zi (hv := by simp (disch := first | assumption | omega | (simp only [nx] <;> omega) | fail) only [aIndexAddr, ty113, ty140, hpl, hg, hc, sb, c0, c1, c2, c3, c4, Value.cells, places, tb45] <;> rfl)) rfl <| .free rfl rfl (zf (hv := fa_ok (k := 1) ty140 rfl rfl ty5 rfl rfl)) rfl <| .read rfl rfl (zl (hv := by simp (disch := first | assumption | omega | (simp only [nx] <;> omega) | fail) only [aLoad, ty5, rowOf, hpl, hg, hc, sb, c0, c1, c2, c3, c4, Value.cells] <;> rfl)) (by first | rfl | (simp [veq, veq1, veqs]; done) | (simp [veq, veq1, veqs, splice]; done)) trivial rfl <| .free rfl rfl (zb (hv := bi_w (bi_rem (by decide)) (by first | (simp only [v2] <;> rfl) | rfl))) rfl <| .read rfl (by kernel_rfl) (so_conw (so_conv tyOK (by simp only [lk] <;> rfl) ty5 ⟨_, rfl⟩ ty27 rfl) (by first | (simp only [v2] <;> rfl) | rfl)) (by first | rfl | (simp [veq, veq1, veqs]; done) | (simp [veq, veq1, veqs, splice]; done)) trivial rfl <| .free rfl rfl sm rfl <| .free rfl rfl sm rfl <| .free rfl rfl (zi (hv := by simp (disch := first | assumption | omega | (simp only [nx] <;> omega) | fail) only [aIndexAddr, ty113, ty140, hpl, hg, hc, sb, c0, c1, c2, c3, c4, Value.cells, places, tb45] <;> rfl)) rfl <| .free rfl rfl (zf (hv := fa_ok (k := 2) ty140 rfl rfl ty4 rfl rfl)) rfl <| .read rfl rfl (zl (hv := by simp (disch := first | assumption | omega | (simp only [nx] <;> omega) | fail) only [aLoad, ty4, rowOf, hpl, hg, hc, sb, c0, c1, c2, c3, c4, Value.cells] <;> rfl)) (by first | rfl | (simp [veq, veq1, veqs]; done) | (simp [veq, veq1, veqs, splice]; done)) trivial rfl <| .free rfl rfl sm rfl <| .free rfl rfl sm rfl <| .free rfl rfl (zi (hv := by simp (disch := first | assumption | omega | (simp only [nx] <;> omega) | fail) only [aIndexAddr, ty113, ty140, hpl, hg, hc, sb, c0, c1, c2, c3, c4, Value.cells, places, tb45] <;> rfl)) rfl <| .free rfl rfl (zf (hv := fa_ok (k := 3) ty140 rfl rfl ty5 rfl rfl)) rfl <| .read rfl rfl (zl (hv := by simp (disch := first | assumption | omega | (simp only [nx] <;> omega) | fail) only [aLoad, ty5, rowOf, hpl, hg, hc, sb, c0, c1, c2, c3, c4, Value.cells] <;> rfl)) (by first | rfl | (simp [veq, veq1, veqs]; done) | (simp [veq, veq1, veqs, splice]; done)) trivial rfl <| .free rfl rfl sm rfl <| .free rfl rfl sm rfl <| .free rfl rfl (zi (hv := by simp (disch := first | assumption | omega | (simp only [nx] <;> omega) | fail) only [aIndexAddr, ty113, ty140, hpl, hg, hc, sb, c0, c1, c2, c3, c4, Value.cells, places, tb45] <;> rfl)) rfl <| .free rfl rfl (zf (hv := fa_ok (k := 2) ty140 rfl rfl ty4 rfl rfl)) rfl <| .read rfl rfl (zl (hv := by simp (disch := first | assumption | omega | (simp only [nx] <;> omega) | fail) only [aLoad, ty4, rowOf, hpl, hg, hc, sb, c0, c1, c2, c3, c4, Value.cells] <;> rfl)) (by first | rfl | (simp [veq, veq1, veqs]; done) | (simp [veq, veq1, veqs, splice]; done)) trivial rfl <| .call rfl rfl (fcallO (by simp only [aopnds, lk] <;> rfl) en46 (val_c _ x.val w1 w2 x.del)) rfl ⟨.inl rfl, .inl rfl, .inr (zl (hv := by simp (disch := first | assumption | omega | (simp only [nx] <;> omega) | fail) only [aLoad, ty4, rowOf, hpl, hg, hc, sb, c0, c1, c2, c3, c4, Value.cells] <;> rfl)), .inr (so_conw (so_conv tyOK (by simp only [lk] <;> rfl) ty5 ⟨_, rfl⟩ ty27 rfl) (by first | (simp only [v2] <;> rfl) | rfl)), .inr (zl (hv := by simp (disch := first | assumption | omega | (simp only [nx] <;> omega) | fail) only [aLoad, ty5, rowOf, hpl, hg, hc, sb, c0, c1, c2, c3, c4, Value.cells] <;> rfl)), trivial⟩ rfl <| .free rfl rfl (so_build (by simp only [aparts, lk] <;> rfl) (by simp only [aBuild, ty49, hg, hc, sb, c0, c1, c2, c3, c4, Value.cells, places, tb45] <;> rfl)) rfl <| .change rfl rfl (so_buildSlice (by simp only [aparts, lk] <;> rfl) (by simp only [aBuildSlice, ty34, ty49, hg, hc, sb, c0, c1, c2, c3, c4, Value.cells, places, tb45] <;> rfl)) rfl ⟨.inl rfl, .inl rfl, .inl rfl, .inl rfl, .inl rfl, trivial⟩ rfl <| .change rfl rfl (so_append (by simp only [aopnds, lk] <;> rfl) (a1 _ _ (by simp only [appT, ty34, ty49] <;> rfl) rfl (by decide))) rfl ⟨.inl rfl, .inl rfl, .inl rfl, .inl rfl, .inl rfl, trivial⟩ rfl <| .free rfl rfl za rfl <| .nil) <| BQ.normal <| SQ.normal ?_
            refine W.reg <| OSuf.aop tyOK rfl sm rfl <| OSuf.aop tyOK rfl (zb (hv := bi_w bi_add (by first | (simp only [v2] <;> rfl) | rfl))) rfl <| OSuf.aop tyOK rfl za rfl <| OSuf.nil <| ?_
            -- leaf: round
            refine LQ.normal (m := q - 1) (L := [(0, .slice (some ⟨r0, 0, none⟩) l.length 0), (3, v'), (4, U64 (IntKind.u64.wrap (IntKind.u64.wrap (t + 1) + IntKind.u64.wrap (x.far.tmod 20)))), (5, I64 ((i + 1 : Nat) : Int))]) (by omega) ?_ ⟨i + 1, IntKind.u64.wrap (IntKind.u64.wrap (t + 1) + IntKind.u64.wrap (x.far.tmod 20)), _, v', by omega, I', rfl⟩
            simp only [HasA, Tr.get_put, Nat.reduceEqDiff, reduceIte, v2, and_self]
      · refine W.seq <| W.seq <| W.reg <| OSuf.aop tyOK rfl sm rfl <| OSuf.aop tyOK rfl sm rfl <| OSuf.aop tyOK rfl (so_len (by simp only [aopnds, lk] <;> rfl) (by simp (disch := first | assumption | omega | (simp only [nx] <;> omega) | fail) only [aLenOf, ty113, hpl] <;> rfl)) rfl <| OSuf.aopT tyOK rfl (zb (hv := bi_lss)) (fun _ => rfl) (decide_eq_true hlt) <| OSuf.aopT tyOK rfl sm (fun _ => rfl) rfl <| OSuf.aop tyOK ag sm rfl <| OSuf.aopF tyOK ag (zb (hv := bi_lss)) (fun _ => rfl) (decide_eq_false h6) <| OSuf.aopF tyOK rfl (so_pick (by simp only [lk] <;> rfl) (by simp only [lk, cond_true, cond_false] <;> rfl)) (fun _ => rfl) rfl <| OSuf.nil <| SQ.normal ?_
        refine W.no (by simp only [lk] <;> rfl) <| CWp.exit <| SQ.exit <| LQ.exit <| BQ.exit <| ?_
        -- leaf: cut
        refine NQ.normal (L := [(3, v)]) ?_ ⟨i, t, V, v, by omega, I, rfl⟩
        simp only [HasA, Tr.get_put, Nat.reduceEqDiff, reduceIte, and_self]
    · refine W.seq <| W.seq <| W.reg <| OSuf.aop tyOK rfl sm rfl <| OSuf.aop tyOK rfl sm rfl <| OSuf.aop tyOK rfl (so_len (by simp only [aopnds, lk] <;> rfl) (by simp (disch := first | assumption | omega | (simp only [nx] <;> omega) | fail) only [aLenOf, ty113, hpl] <;> rfl)) rfl <| OSuf.aopF tyOK rfl (zb (hv := bi_lss)) (fun _ => rfl) (decide_eq_false hlt) <| OSuf.aopF tyOK rfl sm (fun _ => rfl) rfl <| OSuf.pass ag rfl <| OSuf.pass ag rfl <| OSuf.aopF tyOK rfl (so_pick (by simp only [lk] <;> rfl) (by simp only [lk, cond_true, cond_false] <;> rfl)) (fun _ => rfl) rfl <| OSuf.nil <| SQ.normal ?_
      refine W.no (by simp only [lk] <;> rfl) <| CWp.exit <| SQ.exit <| LQ.exit <| BQ.exit <| ?_
      -- leaf: cut
      refine NQ.normal (L := [(3, v)]) ?_ ⟨i, t, V, v, by omega, I, rfl⟩
      simp only [HasA, Tr.get_put, Nat.reduceEqDiff, reduceIte, and_self]
  rintro L a' g ha ⟨i, t, V, v, hi, I, rfl⟩
  refine SQ.normal <| CWp.known ha ?_
  simp only [mkA]
  refine W.seq <| W.reg <| OSuf.aop tyOK rfl sm rfl <| OSuf.aop tyOK rfl za rfl <| OSuf.nil <| SQ.normal ?_
  refine CWp.ret <| FQ.ret (by simp only [aRet, Tryz.f45, aResults, aResult, lk, Nat.reduceEqDiff, reduceIte] <;> rfl) ?_
  -- leaf: end
  exact ⟨i, t, V, hi, I⟩
structure Old where
  key : Int
  rts : Int
  here : Bool
  b : Option Addr
  S : List Stp
def Old.cs (x : Old) : List Value := [.int .u8 x.key, .int .u8 x.rts, .bool x.here, .slice x.b x.S.length 0]
def flatO (l : List Old) : List Value := (l.map Old.cs).flatten
structure OldAt (h : AHeap) (b : Option Addr) (l : List Old) : Prop where
  len : l.length ≤ maxLen
  ok : ∀ x ∈ l, (0 ≤ x.key ∧ x.key < 256) ∧ (0 ≤ x.rts ∧ x.rts < 256) ∧ StpAt h x.b x.S
  at_ : l ≠ [] → ∃ r, b = some ⟨r, 0, none⟩ ∧ r < h.next ∧ h.get r = some (.ro (flatO l))
theorem flatO_get {l : List Old} {i j : Nat} {x : Old} (hx : l[i]? = some x) (hj : j < 4) : (flatO l)[i * 4 + j]? = x.cs[j]? :=
  flatten_get (fun y hy => by obtain ⟨z, _, rfl⟩ := List.mem_map.1 hy; rfl) (by simp [hx]) hj
structure XR where
  key : List UInt8
  rts : Int
  here : Bool
  v : Value
def XR.cs (x : XR) : List Value := [encS x.key, U64 x.rts, .bool x.here, x.v]
def flatX (l : List XR) : List Value := (l.map XR.cs).flatten
theorem flatX_get {l : List XR} {i j : Nat} {x : XR} (hx : l[i]? = some x) (hj : j < 4) : (flatX l)[i * 4 + j]? = x.cs[j]? :=
  flatten_get (fun y hy => by obtain ⟨z, _, rfl⟩ := List.mem_map.1 hy; rfl) (by simp [hx]) hj
theorem flatX_length (l : List XR) : (flatX l).length = l.length * 4 := by
  induction l with
  | nil => rfl
  | cons a l ih =>
    simp only [flatX, List.map_cons, List.flatten_cons, List.length_append, List.length_cons] at ih ⊢
    rw [ih]; simp [XR.cs]; omega
theorem flatX_app (a : List XR) (x : XR) : flatX (a ++ [x]) = flatX a ++ x.cs := by simp [flatX]
structure Bg (h g : AHeap) (tr pr i : Nat) (M : TM) (A : List Rec) (X : List XR) (v : Value) : Prop where
  tb : TB g tr 0 M A
  alen : A.length ≤ i
  av : ∀ x ∈ A, x.V.length ≤ 700 ∧ Ris x.V ∧ x.key ∈ K8
  xlen : X.length ≤ i
  row : g.get pr = some (.cells [v, U64 0] 1)
  prl : pr < g.next
  prh : h.next ≤ pr
  prt : ¬ pr = tr
  prm : pr ∉ M.rows
  trh : h.next ≤ tr
  mh : ∀ z ∈ M.rows, h.next ≤ z
  sv : SV g 4 h.next (flatX X) v
  next : h.next ≤ g.next
  old : ∀ z, z < h.next → g.get z = h.get z
theorem Bg.up {h g : AHeap} {tr pr i j : Nat} {M : TM} {A : List Rec} {X : List XR} {v : Value} (B : Bg h g tr pr i M A X v) (hij : i ≤ j) : Bg h g tr pr j M A X v :=
  { B with alen := Nat.le_trans B.alen hij, xlen := Nat.le_trans B.xlen hij }
theorem Bg.garb {h g g' : AHeap} {tr pr i : Nat} {M : TM} {A : List Rec} {X : List XR} {v : Value} (B : Bg h g tr pr i M A X v) (hn : g.next ≤ g'.next) (hk : ∀ z, z < g.next → g'.get z = g.get z) : Bg h g' tr pr i M A X v :=
  { B with tb := B.tb.mono hn hk, row := by rw [hk _ B.prl]; exact B.row, prl := Nat.lt_of_lt_of_le B.prl hn, sv := B.sv.mono hn fun z hz _ => hk z hz, next := Nat.le_trans B.next hn, old := fun z hz => by rw [hk z (Nat.lt_of_lt_of_le hz B.next)]; exact B.old z hz }
theorem app0 {g : AHeap} {V : List Vr} {v : Value} {y : Nat} (hv : AVs g V v) (hl : V.length ≤ 1000) :
    ∃ v' H, (∀ ats A', appT T ats = some A' → A'.size = 5 → A'.bytes ≤ 100 → aAppend T ats (.slice (some ⟨y, 0, none⟩) 0 1) v g = some (v', H)) ∧ AVs H V v' ∧ g.next ≤ H.next ∧ (∀ z, z < g.next → H.get z = g.get z) := by
  obtain ⟨b, c, rfl⟩ := avs_form hv
  have hcl := avs_cells hv
  cases hV : V with
  | nil =>
    subst hV
    refine ⟨.slice (some ⟨y, 0, none⟩) 0 1, g, fun ats A' h1 h2 h3 => ?_, .emp, Nat.le_refl _, fun _ _ => rfl⟩
    have hb : (2 * (0 + 0) + 256) * A'.bytes ≤ 281474976710656 := by
      have : (2 * (0 + 0) + 256) * A'.bytes ≤ 7000000 * 100 := Nat.mul_le_mul (by omega) h3
      omega
    exact ap_n0 h1 rfl (by rw [h2]; exact hcl) hb
  | cons x K =>
    rw [← hV]
    have hne : V ≠ [] := by rw [hV]; simp
    have hk : Nat.beq V.length 0 = false := by rw [hV]; rfl
    refine ⟨.slice (some ⟨g.next, 0, none⟩) V.length 0, g.new (.cells (flatV V) 5), fun ats A' h1 h2 h3 => ?_, .some (vs := flatV V) hne (by simp) (by simp only [rowOf, AHeap.get_new_same]) (cellsOf_all (flatV_length V)), by simp, fun z hz => AHeap.get_new_ne (by omega)⟩
    have hb : (2 * (0 + V.length) + 256) * A'.bytes ≤ 281474976710656 := by
      have : (2 * (0 + V.length) + 256) * A'.bytes ≤ 7000000 * 100 := Nat.mul_le_mul (by omega) h3
      omega
    have h4 := ap_k0 (r := y) (x := .slice b V.length c) h1 rfl (by rw [h2]; exact hcl) hb hk
    rw [h2] at h4; exact h4
theorem setR_len (x : Rec) (A : List Rec) : (setR x A).length ≤ A.length + 1 := by
  rw [setR]; split <;> simp
theorem Bg.step {h g : AHeap} {tr pr i xr : Nat} {M : TM} {A : List Rec} {X : List XR} {v vv : Value} {k : List UInt8} {rt : Int} {hr : Bool} {V : List Vr} (B : Bg h g tr pr i M A X v) (hi : i < 8) (hxr : xr < g.next) (hx : g.get xr = some (.cells [encS k, U64 rt, .bool hr, vv] 1)) (hxp : ¬ xr = pr) (hV : SV g 5 h.next (flatV V) vv) (hV6 : V.length ≤ 6) (hris : Ris V) (hk : okKey k) (hk8 : k ∈ K8) :
    ∃ v' H v2 H2 H3 M', (∃ c n d, v2 = .slice c n d) ∧ (∀ ats A', appT T ats = some A' → A'.size = 4 → A'.bytes ≤ 100 → aAppend T ats v (.slice (some ⟨g.next, 0, none⟩) 1 2) (g.new (.cells [encS k, U64 rt, .bool hr, vv] 4)) = some (v', H)) ∧
      H.get pr = some (.cells [v, U64 0] 1) ∧ H.get xr = some (.cells [encS k, U64 rt, .bool hr, vv] 1) ∧ g.next ≤ H.next ∧
      (∀ ats A', appT T ats = some A' → A'.size = 5 → A'.bytes ≤ 100 → aAppend T ats (.slice (some ⟨H.next, 0, none⟩) 0 1) vv ((H.set pr (.cells [v', U64 0] 1)).new (.cells [] 5)) = some (v2, H2)) ∧
      FWp Tryz.prog 11 [P0 tr, .agg #[encS k, U64 rt, .bool hr, v2]] H2 (fun u h' => u = I64 0 ∧ h' = H3) ∧ H2.get xr = some (.cells [encS k, U64 rt, .bool hr, vv] 1) ∧ Bg h H3 tr pr (i + 1) M' (setR ⟨k, rt, hr, V⟩ A) (X ++ [⟨k, rt, hr, vv⟩]) v' := by
  have hnx := B.next
  obtain ⟨g1, hg1⟩ : ∃ g1, g1 = g.new (.cells [encS k, U64 rt, .bool hr, vv] 4) := ⟨_, rfl⟩
  have n1 : g1.next = g.next + 1 := by rw [hg1]; rfl
  have o1 : ∀ z, z < g.next → g1.get z = g.get z := fun z hz => by rw [hg1, AHeap.get_new_ne (by omega)]
  have hsv : SV g1 4 h.next (flatX X) v := B.sv.mono (by omega) fun z hz _ => o1 z hz
  have hc : aCells g1 4 1 (.slice (some ⟨g.next, 0, none⟩) 1 2) = some [encS k, U64 rt, .bool hr, vv] := aCells_of (vs := [encS k, U64 rt, .bool hr, vv]) (by rw [hg1]; simp only [rowOf, AHeap.get_new_same]) (Nat.le_refl _) rfl
  have hvl : vLen v ≤ 10 := by
    obtain ⟨_, _, h9, _⟩ := B.sv.form
    have := flatX_length X; have := B.xlen; omega
  have hvvone : vv.oneCell' = true := by
    obtain ⟨_, h9, _⟩ := hV.form
    rw [h9]; rfl
  obtain ⟨v', H, a1, a2, a3, a4, a5, a6, a7⟩ := ap_any hsv rfl hc rfl (by simp only [oneCells, List.all_cons, List.all_nil, hvvone]; rfl) (by omega) (by omega)
  -- what stays
  have kp : ∀ z w s, z < g.next → g.get z = some (.cells w s) → ¬ s = 4 → H.get z = g.get z := fun z w s hz hg hs => by
    rw [a5 z (by omega) (fun e => ?_), o1 z hz]
    have := (B.sv.row e).2.2.1
    rw [hg] at this; simp at this; exact hs this.2
  have ko : ∀ z, z < h.next → H.get z = g.get z := fun z hz => by
    rw [a5 z (by omega) (fun e => ?_), o1 z (by omega)]
    have := (B.sv.row e).1; omega
  have hpr : H.get pr = some (.cells [v, U64 0] 1) := by rw [kp pr _ 1 B.prl B.row (by omega)]; exact B.row
  have hxr2 : H.get xr = some (.cells [encS k, U64 rt, .bool hr, vv] 1) := by rw [kp xr _ 1 hxr hx (by omega)]; exact hx
  obtain ⟨H1, hH1⟩ : ∃ H1, H1 = H.set pr (.cells [v', U64 0] 1) := ⟨_, rfl⟩
  have m1 : H1.next = H.next := by rw [hH1]; rfl
  have q1 : ∀ z, ¬ z = pr → H1.get z = H.get z := fun z hz => by rw [hH1, AHeap.get_set_ne (by omega)]
  have q2 : H1.get pr = some (.cells [v', U64 0] 1) := by rw [hH1]; exact AHeap.get_set_same _ _ _
  have htr := B.tb.ta.row
  have htl := B.tb.ta.lt
  have tb1 : TB H1 tr 0 M A := by
    have hprt := B.prt
    refine ⟨B.tb.ta.keep (by omega) ?_ (fun z hz => ?_) (fun y w hy hg => ?_), B.tb.perm⟩
    · rw [q1 tr (by omega)]; exact kp tr _ 1 htl htr (by omega)
    · obtain ⟨h8, w, h9⟩ := row_of B.tb.ta hz
      rw [q1 z (fun e => B.prm (by rw [← e]; exact hz))]; exact kp z _ 1 h8 h9 (by omega)
    · rw [q1 y (fun e => ?_)]
      · exact kp y _ 5 hy hg (by omega)
      · rw [e, B.row] at hg; simp at hg
  have sv1 : SV H1 4 h.next (flatX (X ++ [⟨k, rt, hr, vv⟩])) v' := by
    rw [flatX_app]
    refine SV.mono a2 (by omega) fun z hz e => q1 z fun e2 => ?_
    have := (a2.row e).2.2.1
    rw [e2, hpr] at this; simp at this
  have hV1 : SV H1 5 h.next (flatV V) vv := by
    refine hV.mono (by omega) fun z hz e => ?_
    have h9 := (hV.row e).2.2.1
    rw [q1 z (fun e2 => by rw [e2, B.row] at h9; simp at h9)]
    exact kp z _ 5 hz h9 (by omega)
  obtain ⟨G, hG⟩ : ∃ G, G = H1.new (.cells [] 5) := ⟨_, rfl⟩
  have nG : G.next = H1.next + 1 := by rw [hG]; rfl
  have oG : ∀ z, z < H1.next → G.get z = H1.get z := fun z hz => by rw [hG, AHeap.get_new_ne (by omega)]
  have hVG : AVs G V vv := (hV1.mono (by omega) fun z hz _ => oG z hz).avs
  obtain ⟨v2, H2, b1, b2, b3, b4⟩ := app0 (y := H.next) hVG (by omega)
  have o2 : ∀ z, z < H1.next → H2.get z = H1.get z := fun z hz => by rw [b4 z (by omega), oG z hz]
  have tb2 : TB H2 tr 0 M A := tb1.mono (by omega) o2
  have hal := B.alen
  obtain ⟨H3, M', t1, t2, t3⟩ := set_c H2 tr 0 M A tb2 k rt hr V v2 b2 (by omega) hk hris (by omega)
  have n3 := t3.next
  have hprl := B.prl
  have hprh := B.prh
  refine ⟨v', H, v2, H2, H3, M', by obtain ⟨c, d, h9⟩ := avs_form b2; exact ⟨c, _, d, h9⟩, by rw [← hg1]; exact a1, hpr, hxr2, by omega, by rw [← hH1, ← hG]; exact b1, t1, by rw [o2 xr (by omega), q1 xr hxp]; exact hxr2, ⟨t2, ?_, ?_, ?_, ?_, by omega, B.prh, B.prt, fun hz => ?_, B.trh, fun z hz => ?_, ?_, by omega, fun z hz => ?_⟩⟩
  · have := setR_len ⟨k, rt, hr, V⟩ A; omega
  · intro x hx
    rcases setR_mem hx with h9 | h9
    · rw [h9]; exact ⟨by show V.length ≤ 700; omega, hris, hk8⟩
    · exact B.av x h9
  · have := B.xlen; simp; omega
  · rw [t3.old pr (by omega) B.prt B.prm, o2 pr (by omega)]; exact q2
  · rcases t3.rows pr hz with h9 | h9
    · exact B.prm h9
    · omega
  · rcases t3.rows z hz with h9 | h9
    · exact B.mh z h9
    · omega
  · refine sv1.mono (by omega) fun z hz e => ?_
    have h9 := (sv1.row e).2.2.1
    rw [t3.old z (by omega) (fun e2 => ?_) (fun hm => ?_), o2 z hz]
    · have h8 := tb1.ta.row
      rw [← e2, h9] at h8; simp at h8
    · obtain ⟨_, w, h8⟩ := row_of tb1.ta hm
      rw [h9] at h8; simp at h8
  · have := B.trh
    rw [t3.old z (by omega) (by omega) (fun hm => by have := B.mh z hm; omega), o2 z (by omega), q1 z (by omega), ko z hz]; exact B.old z hz
theorem SV.low {h : AHeap} {sz lo lo' : Nat} {vs : List Value} {v : Value} (s : SV h sz lo vs v) (hl : lo' ≤ lo) : SV h sz lo' vs v := by
  cases s with
  | nil => exact .nil
  | some h1 h2 h3 h4 h5 => exact .some h1 (by omega) h3 h4 h5
theorem begun_c (h : AHeap) (b : Option Addr) (l : List Old) (hb : OldAt h b l) : FWp Tryz.prog 13 [.slice b l.length 0, .int .u8 0] h fun u h' => ∃ tr pr i M A X v, i ≤ 8 ∧ u = .tuple #[P0 tr, P0 pr] ∧ Bg h h' tr pr i M A X v := by
  have tb13 := And.intro ty108 (And.intro ty110 (And.intro ty112 (And.intro ty113 (And.intro ty115 (And.intro ty22 (And.intro ty27 (And.intro ty34 (And.intro ty36 (And.intro ty4 (And.intro ty49 (And.intro ty5 (And.intro ty51 (ty9)))))))))))))
  refine W.enter tyOK Tryz.func13 rfl rfl ?_
  simp only [entry]
  refine W.seq <| W.reg <| OSuf.aop tyOK rfl za rfl <| OSuf.aop tyOK rfl za rfl <| OSuf.nil <| SQ.normal ?_
  refine W.seq <| W.reg <| OSuf.callD rfl (by simp only [aopnds, lk] <;> rfl) en17 (new_c _ 3 (by omega) (by omega)) rfl <| OSuf.aop tyOK rfl (so_build (by simp only [aparts, lk] <;> rfl) (by simp only [aBuild, ty110, Value.cells, places, tb13] <;> rfl)) rfl <| OSuf.aop tyOK rfl (so_box (by simp only [lk] <;> rfl)) rfl <| OSuf.aop tyOK rfl za rfl <| OSuf.aop tyOK rfl za rfl <| OSuf.nil <| SQ.normal ?_
  refine W.seq <| W.seq <| W.reg <| OSuf.aop tyOK rfl sm rfl <| OSuf.aopF tyOK rfl (zb (hv := bi_nil ⟨_, _, ty22, rfl⟩)) (fun _ => rfl) rfl <| OSuf.nil <| SQ.normal ?_
  refine W.no (by simp only [lk] <;> rfl) <| CWp.skip <| SQ.normal ?_
  refine W.seq <| W.seq <| W.reg <| OSuf.aop tyOK rfl sm rfl <| OSuf.aopF tyOK rfl (zb (hv := bi_gtr)) (fun _ => rfl) (by first | rfl | assumption | ((simp only [bl, Value.cells, places, tb13]) <;> first | done | assumption | omega) | (simp; done) | (simp; omega)) <| OSuf.nil <| SQ.normal ?_
  refine W.no (by simp only [lk] <;> rfl) <| CWp.skip <| SQ.normal ?_
  refine W.seq <| W.seq <| W.reg <| OSuf.aop tyOK rfl za rfl <| OSuf.nil <| SQ.normal ?_
  -- leaf: loop
  have hlm : l.length ≤ 9223372036854775807 := by have := hb.len; simp only [maxLen] at this; omega
  have B0 : Bg h (((h.new (.cells (List.replicate 3 (.pointer none)) 1)).new (.cells [.slice (some ⟨h.next, 0, none⟩) 3 (3 + 1), U64 0, I64 0] 1)).new (.cells [.slice none 0 0, U64 0] 1)) (h.next + 1) (h.next + 2) 0 ⟨h.next, 3, List.replicate 3 []⟩ [] [] (.slice none 0 0) := by
    have hta := new_ta h 3 (by omega) (by omega)
    refine ⟨TB.mono ⟨hta, ?_⟩ (by simp) (fun z hz => AHeap.get_new_ne (by simp at hz ⊢; omega)), Nat.le_refl _, (fun x hx => by cases hx), Nat.le_refl _, AHeap.get_new_at (by simp), by simp, by omega, by omega, ?_, by omega, fun z hz => ?_, .nil, by simp only [nx]; omega, fun z hz => ?_⟩
    · rw [TM.all, all_rep]; exact .refl _
    · simp [TM.rows, TM.all, all_rep]
    · simp [TM.rows, TM.all, all_rep] at hz; omega
    · simp (disch := first | assumption | omega | (simp only [nx] <;> omega) | fail) only [hpl]
  refine W.cut (fun L g => ∃ i M A X v, i ≤ 8 ∧ Bg h g (h.next + 1) (h.next + 2) i M A X v ∧ L = [(6, P0 (h.next + 1)), (7, P0 (h.next + 2))]) (W.block (W.loop (fun q L g => ∃ i M A X v, q + i = 8 ∧ Bg h g (h.next + 1) (h.next + 2) i M A X v ∧ L = [(0, .slice b l.length 0), (6, P0 (h.next + 1)), (7, P0 (h.next + 2)), (8, I64 i)]) (n := 8) ⟨0, _, _, _, _, rfl, B0, rfl⟩ ?_ ?_)) ?_
  · simp [HasA, Tr.get_put]
  · clear B0
    rintro q L g ⟨i, M, A, X, v, hq, B, rfl⟩
    simp only [mkA]
    have v2 : IntKind.i64.wrap ((i : Int) + 1) = ((i + 1 : Nat) : Int) := by rw [wrap_i64 (by omega) (by omega)]; omega
    by_cases hlt : (i : Int) < (l.length : Int)
    · by_cases h8 : (i : Int) < 8
      · obtain ⟨x, hx⟩ : ∃ x, l[i]? = some x := ⟨l[i]'(by omega), by simp⟩
        obtain ⟨r0, rfl, hr0, hg0⟩ := hb.at_ (fun e => by rw [e] at hx; simp at hx)
        obtain ⟨⟨k1, k2⟩, ⟨s1, s2⟩, hst⟩ := hb.ok x (List.mem_of_getElem? hx)
        have hg : g.get r0 = some (.ro (flatO l)) := by rw [B.old r0 hr0]; exact hg0
        have hc : (0 ≤ (i : Int) ∧ (i : Int) < (l.length : Int)) := by omega
        have c0 : (flatO l)[i * 4]? = some (.int .u8 x.key) := flatO_get (j := 0) hx (by omega)
        have c1 : (flatO l)[i * 4 + 1]? = some (.int .u8 x.rts) := flatO_get (j := 1) hx (by omega)
        have c2 : (flatO l)[i * 4 + 2]? = some (.bool x.here) := flatO_get (j := 2) hx (by omega)
        have c3 : (flatO l)[i * 4 + 3]? = some (.slice x.b x.S.length 0) := flatO_get (j := 3) hx (by omega)
        obtain ⟨xb, hv1, hv2, hv3⟩ := B.sv.form
        have hXl := flatX_length X
        have hvl : vLen v = X.length := by omega
        rw [hvl] at hv1
        have hrow := B.row
        rw [hv1] at hrow
        refine W.seq <| W.seq <| W.reg <| OSuf.aop tyOK rfl sm rfl <| OSuf.aop tyOK rfl sm rfl <| OSuf.aop tyOK rfl (so_len (by simp only [aopnds, lk] <;> rfl) (by simp (disch := first | assumption | omega | (simp only [nx] <;> omega) | fail) only [aLenOf, ty51, hpl] <;> rfl)) rfl <| OSuf.aopT tyOK rfl (zb (hv := bi_lss)) (fun _ => rfl) (decide_eq_true hlt) <| OSuf.aopT tyOK rfl sm (fun _ => rfl) rfl <| OSuf.aop tyOK ag sm rfl <| OSuf.aopT tyOK ag (zb (hv := bi_lss)) (fun _ => rfl) (decide_eq_true h8) <| OSuf.aopT tyOK rfl (so_pick (by simp only [lk] <;> rfl) (by simp only [lk, cond_true, cond_false] <;> rfl)) (fun _ => rfl) rfl <| OSuf.nil <| SQ.normal ?_
        refine W.yes (by simp only [lk] <;> rfl) <| CWp.skip <| SQ.normal ?_
        refine W.seq <| W.block <| W.seq <| W.reg <| OSuf.aopF tyOK rfl za (fun _ => rfl) rfl <| OSuf.nil <| SQ.normal ?_
        refine W.seq <| W.seq <| W.reg <| OSuf.aop tyOK rfl za rfl <| OSuf.nil <| SQ.normal ?_
        -- leaf: loop
        refine W.cut (fun L g' => g' = g ∧ ∃ kn, L = [(0, .slice (some ⟨r0, 0, none⟩) l.length 0), (6, P0 (h.next + 1)), (7, P0 (h.next + 2)), (8, I64 i), (9, .bool kn)]) (W.block (W.loop (fun q L g' => ∃ (kn : Bool) (j : Nat), q + j = X.length ∧ g' = g ∧ L = [(0, .slice (some ⟨r0, 0, none⟩) l.length 0), (6, P0 (h.next + 1)), (7, P0 (h.next + 2)), (8, I64 i), (9, .bool kn), (10, I64 j)]) (n := X.length) ⟨false, 0, rfl, rfl, rfl⟩ ?_ ?_)) ?_
        · simp [HasA, Tr.get_put]
        · rintro q L g' ⟨kn, j, hqj, rfl, rfl⟩
          simp only [mkA]
          have v3 : IntKind.i64.wrap ((j : Int) + 1) = ((j + 1 : Nat) : Int) := by have := B.xlen; rw [wrap_i64 (by omega) (by omega)]; omega
          by_cases hj : (j : Int) < (X.length : Int)
          · obtain ⟨y, hy⟩ : ∃ y, X[j]? = some y := ⟨X[j]'(by omega), by simp⟩
            obtain ⟨zbq, hz1, hz2, hz3, hz4, hz5⟩ := hv3 (fun e => by rw [e] at hXl; simp at hXl; omega)
            subst hz1
            have hcj : (0 ≤ (j : Int) ∧ (j : Int) < (X.length : Int)) := by omega
            have y0 : (flatX X)[j * 4]? = some (encS y.key) := flatX_get (j := 0) hy (by omega)
            cases kn with
            | true =>
              refine W.seq <| W.seq <| W.reg <| OSuf.aop tyOK rfl sm rfl <| OSuf.aop tyOK rfl sm rfl <| OSuf.aop tyOK rfl (so_nilCheck (by simp only [lk] <;> rfl)) rfl <| OSuf.aop tyOK rfl (zf (hv := fa_ok (k := 0) ty110 rfl rfl ty108 rfl rfl)) rfl <| OSuf.aop tyOK rfl (zl (hv := by simp (disch := first | assumption | omega | (simp only [nx] <;> omega) | fail) only [aLoad, ty108, rowOf, hpl, hrow, hcj, sb, hz5, y0, hg, hc, c0] <;> rfl)) rfl <| OSuf.aop tyOK rfl (so_len (by simp only [aopnds, lk] <;> rfl) (by simp (disch := first | assumption | omega | (simp only [nx] <;> omega) | fail) only [aLenOf, ty108, hpl, hrow, hcj, sb, hz5, y0, hg, hc, c0] <;> rfl)) rfl <| OSuf.aopT tyOK rfl (zb (hv := bi_lss)) (fun _ => rfl) (decide_eq_true hj) <| OSuf.nil <| SQ.normal ?_
              refine W.yes (by simp only [lk] <;> rfl) <| CWp.skip <| SQ.normal ?_
              refine W.seq <| W.block <| CWp.sqd tyOK mixed (ms := [0, 1, 3, 7, 15, 31, 3, 127, 255, 511, 3, 3, 3075, 7171, 15363, 31747, 65535, 131071, 262143]) (by kernel_rfl) (
                  .free rfl rfl sm rfl <| .free rfl rfl (so_bw sm (b' := true) (by first | rfl | assumption | ((simp only [bl, hrow, hcj, sb, hz5, y0, hg, hc, c0]) <;> first | done | assumption | omega) | (simp; done) | (simp; omega))) rfl <| .skip ag rfl <| .skip ag rfl <| .skip ag rfl <| .skip ag rfl <| .skip ag rfl <| .skip ag rfl <| .skip ag rfl <| .skip ag rfl <| .skip ag rfl <| .skip ag rfl <| .skip ag rfl <| .skip ag rfl <| .skip ag rfl <| .skip ag rfl <| .skip ag rfl <| .free rfl rfl (so_pick (by simp only [lk] <;> rfl) (by simp only [lk, cond_true, cond_false] <;> rfl)) rfl <| .free rfl rfl za rfl <| .nil) <| BQ.normal <| SQ.normal ?_
              refine W.reg <| OSuf.aop tyOK rfl sm rfl <| OSuf.aop tyOK rfl (zb (hv := bi_w bi_add (by first | (simp only [v3] <;> rfl) | rfl))) rfl <| OSuf.aop tyOK rfl za rfl <| OSuf.nil <| ?_
              -- leaf: round
              refine LQ.normal (m := q - 1) (L := [(0, .slice (some ⟨r0, 0, none⟩) l.length 0), (6, P0 (h.next + 1)), (7, P0 (h.next + 2)), (8, I64 i), (9, .bool true), (10, I64 ((j + 1 : Nat) : Int))]) (by omega) ?_ ⟨true, j + 1, by omega, rfl, rfl⟩
              simp only [HasA, Tr.get_put, Nat.reduceEqDiff, reduceIte, v3, and_self]
            | false =>
              refine W.seq <| W.seq <| W.reg <| OSuf.aop tyOK rfl sm rfl <| OSuf.aop tyOK rfl sm rfl <| OSuf.aop tyOK rfl (so_nilCheck (by simp only [lk] <;> rfl)) rfl <| OSuf.aop tyOK rfl (zf (hv := fa_ok (k := 0) ty110 rfl rfl ty108 rfl rfl)) rfl <| OSuf.aop tyOK rfl (zl (hv := by simp (disch := first | assumption | omega | (simp only [nx] <;> omega) | fail) only [aLoad, ty108, rowOf, hpl, hrow, hcj, sb, hz5, y0, hg, hc, c0] <;> rfl)) rfl <| OSuf.aop tyOK rfl (so_len (by simp only [aopnds, lk] <;> rfl) (by simp (disch := first | assumption | omega | (simp only [nx] <;> omega) | fail) only [aLenOf, ty108, hpl, hrow, hcj, sb, hz5, y0, hg, hc, c0] <;> rfl)) rfl <| OSuf.aopT tyOK rfl (zb (hv := bi_lss)) (fun _ => rfl) (decide_eq_true hj) <| OSuf.nil <| SQ.normal ?_
              refine W.yes (by simp only [lk] <;> rfl) <| CWp.skip <| SQ.normal ?_
              refine W.seq <| W.block <| CWp.sqd tyOK mixed (ms := [0, 1, 3, 7, 15, 31, 3, 127, 255, 511, 3, 3, 3075, 7171, 15363, 31747, 65535, 131071, 262143]) (by kernel_rfl) (
                  .free rfl rfl sm rfl <| .free rfl rfl (so_bw sm (b' := false) (by first | rfl | assumption | ((simp only [bl, hrow, hcj, sb, hz5, y0, hg, hc, c0]) <;> first | done | assumption | omega) | (simp; done) | (simp; omega))) rfl <| .free ag rfl sm rfl <| .free ag rfl (so_nilCheck (by simp only [lk] <;> rfl)) rfl <| .free ag rfl (zf (hv := fa_ok (k := 0) ty110 rfl rfl ty108 rfl rfl)) rfl <| .read ag rfl (zl (hv := by simp (disch := first | assumption | omega | (simp only [nx] <;> omega) | fail) only [aLoad, ty108, rowOf, hpl, hrow, hcj, sb, hz5, y0, hg, hc, c0] <;> rfl)) (by first | rfl | (simp [veq, veq1, veqs]; done) | (simp [veq, veq1, veqs, splice]; done)) trivial rfl <| .free ag rfl sm rfl <| .free ag rfl (zi (hv := by simp (disch := first | assumption | omega | (simp only [nx] <;> omega) | fail) only [aIndexAddr, ty108, ty112, hpl, hrow, hcj, sb, hz5, y0, hg, hc, c0] <;> rfl)) rfl <| .free ag rfl (zf (hv := fa_ok (k := 0) ty112 rfl rfl ty9 rfl rfl)) rfl <| .read ag rfl (zl (hv := by simp (disch := first | assumption | omega | (simp only [nx] <;> omega) | fail) only [aLoad, ty9, rowOf, hpl, hrow, hcj, sb, hz5, y0, hg, hc, c0] <;> rfl)) (by first | rfl | (simp [veq, veq1, veqs]; done) | (simp [veq, veq1, veqs, splice]; done)) trivial rfl <| .free ag rfl sm rfl <| .free ag rfl sm rfl <| .free ag rfl (zi (hv := by simp (disch := first | assumption | omega | (simp only [nx] <;> omega) | fail) only [aIndexAddr, ty51, ty115, hpl, hrow, hcj, sb, hz5, y0, hg, hc, c0] <;> rfl)) rfl <| .free ag rfl (zf (hv := fa_ok (k := 0) ty115 rfl rfl ty5 rfl rfl)) rfl <| .read ag rfl (zl (hv := by simp (disch := first | assumption | omega | (simp only [nx] <;> omega) | fail) only [aLoad, ty5, rowOf, hpl, hrow, hcj, sb, hz5, y0, hg, hc, c0] <;> rfl)) (by first | rfl | (simp [veq, veq1, veqs]; done) | (simp [veq, veq1, veqs, splice]; done)) trivial rfl <| .call ag rfl (fcallO (by simp only [aopnds, lk] <;> rfl) en16 (key_c _ x.key k1 k2)) rfl ⟨.inl rfl, .inr (zl (hv := by simp (disch := first | assumption | omega | (simp only [nx] <;> omega) | fail) only [aLoad, ty9, rowOf, hpl, hrow, hcj, sb, hz5, y0, hg, hc, c0] <;> rfl)), .inr (zl (hv := by simp (disch := first | assumption | omega | (simp only [nx] <;> omega) | fail) only [aLoad, ty108, rowOf, hpl, hrow, hcj, sb, hz5, y0, hg, hc, c0] <;> rfl)), trivial⟩ rfl <| .free ag rfl (zb (hv := bs_eql)) rfl <| .free rfl rfl (so_pick (by simp only [lk] <;> rfl) (by simp only [lk, cond_true, cond_false] <;> rfl)) rfl <| .free rfl rfl za rfl <| .nil) <| BQ.normal <| SQ.normal ?_
              refine W.reg <| OSuf.aop tyOK rfl sm rfl <| OSuf.aop tyOK rfl (zb (hv := bi_w bi_add (by first | (simp only [v3] <;> rfl) | rfl))) rfl <| OSuf.aop tyOK rfl za rfl <| OSuf.nil <| ?_
              -- leaf: round
              refine LQ.normal (m := q - 1) (L := [(0, .slice (some ⟨r0, 0, none⟩) l.length 0), (6, P0 (h.next + 1)), (7, P0 (h.next + 2)), (8, I64 i), (9, .bool ((ByteArray.toList ⟨⟨y.key⟩⟩) == (ByteArray.toList ⟨⟨keyL x.key⟩⟩))), (10, I64 ((j + 1 : Nat) : Int))]) (by omega) ?_ ⟨_, j + 1, by omega, rfl, rfl⟩
              simp only [HasA, Tr.get_put, Nat.reduceEqDiff, reduceIte, v3, and_self]
          · refine W.seq <| W.seq <| W.reg <| OSuf.aop tyOK rfl sm rfl <| OSuf.aop tyOK rfl sm rfl <| OSuf.aop tyOK rfl (so_nilCheck (by simp only [lk] <;> rfl)) rfl <| OSuf.aop tyOK rfl (zf (hv := fa_ok (k := 0) ty110 rfl rfl ty108 rfl rfl)) rfl <| OSuf.aop tyOK rfl (zl (hv := by simp (disch := first | assumption | omega | (simp only [nx] <;> omega) | fail) only [aLoad, ty108, rowOf, hpl, hrow] <;> rfl)) rfl <| OSuf.aop tyOK rfl (so_len (by simp only [aopnds, lk] <;> rfl) (by simp (disch := first | assumption | omega | (simp only [nx] <;> omega) | fail) only [aLenOf, ty108, hpl, hrow] <;> rfl)) rfl <| OSuf.aopF tyOK rfl (zb (hv := bi_lss)) (fun _ => rfl) (decide_eq_false hj) <| OSuf.nil <| SQ.normal ?_
            refine W.no (by simp only [lk] <;> rfl) <| CWp.exit <| SQ.exit <| LQ.exit <| BQ.exit <| ?_
            -- leaf: cut
            refine NQ.normal (L := [(0, .slice (some ⟨r0, 0, none⟩) l.length 0), (6, P0 (h.next + 1)), (7, P0 (h.next + 2)), (8, I64 i), (9, .bool kn)]) ?_ ⟨rfl, kn, rfl⟩
            simp only [HasA, Tr.get_put, Nat.reduceEqDiff, reduceIte, and_self]
        rintro L a' g' ha ⟨rfl, kn, rfl⟩
        cases kn with
        | true =>
          refine SQ.normal <| CWp.known ha ?_
          simp only [mkA]
          refine W.seq <| W.seq <| W.reg <| OSuf.aopT tyOK rfl sm (fun _ => rfl) (by first | rfl | assumption | ((simp only [bl]) <;> first | done | assumption | omega) | (simp; done) | (simp; omega)) <| OSuf.nil <| SQ.normal ?_
          refine W.yes (by simp only [lk] <;> rfl) <| CWp.exit <| SQ.exit <| BQ.exit <| SQ.normal ?_
          refine W.reg <| OSuf.aop tyOK rfl sm rfl <| OSuf.aop tyOK rfl (zb (hv := bi_w bi_add (by first | (simp only [v2] <;> rfl) | rfl))) rfl <| OSuf.aop tyOK rfl za rfl <| OSuf.nil <| ?_
          -- leaf: round
          refine LQ.normal (m := q - 1) (L := [(0, .slice (some ⟨r0, 0, none⟩) l.length 0), (6, P0 (h.next + 1)), (7, P0 (h.next + 2)), (8, I64 ((i + 1 : Nat) : Int))]) (by omega) ?_ ⟨i + 1, M, A, X, v, by omega, B.up (by omega), rfl⟩
          simp only [HasA, Tr.get_put, Nat.reduceEqDiff, reduceIte, v2, and_self]
        | false =>
          obtain ⟨rt, hrt⟩ : ∃ rt, rt = if 0 > IntKind.u64.wrap x.rts then 0 else IntKind.u64.wrap x.rts := ⟨_, rfl⟩
          have hkk : okKey (keyL x.key) := ⟨by simp [keyL], by simp [keyL]⟩
          rcases Bool.eq_false_or_eq_true x.here with hh | hh
          · obtain ⟨g1, hg1⟩ : ∃ g1, g1 = (g'.new (.cells [encS [], U64 0, .bool false, .slice none 0 0] 1)).set g'.next (.cells [encS (keyL x.key), U64 rt, .bool true, .slice none 0 0] 1) := ⟨_, rfl⟩
            have n1 : g1.next = g'.next + 1 := by rw [hg1]; rfl
            have o1 : ∀ z, z < g'.next → g1.get z = g'.get z := fun z hz => by rw [hg1]; simp (disch := first | assumption | omega | (simp only [nx] <;> omega) | fail) only [hpl]
            have x1 : g1.get g'.next = some (.cells [encS (keyL x.key), U64 rt, .bool true, .slice none 0 0] 1) := by rw [hg1]; exact AHeap.get_set_same _ _ _
            have prl := B.prl
            have hnx := B.next
            have hrow1 : g1.get (h.next + 2) = some (.cells [.slice xb X.length 0, U64 0] 1) := by rw [o1 _ prl]; exact hrow
            have hvs := vers19_c g1 x.b x.S (hst.mono (by omega) fun z hz => by rw [o1 z (by omega)]; exact B.old z hz)
            have e4 : ∀ a b c d : Value, cellsOf [a, b, c, d] 0 4 = some [a, b, c, d] := fun _ _ _ _ => rfl
            have hlater : ∀ vv g2, (∃ i t V, i ≤ 6 ∧ VeI g1 g2 i t V vv) → ∃ v' H w2 H2 H3 M' A' X', (∃ c n d, w2 = .slice c n d) ∧ (∃ c n, vv = .slice c n 0) ∧ g2.get g'.next = some (.cells [encS (keyL x.key), U64 rt, .bool true, .slice none 0 0] 1) ∧ g1.next ≤ g2.next ∧
                (g2.set g'.next (.cells [encS (keyL x.key), U64 rt, .bool true, vv] 1)).get g'.next = some (.cells [encS (keyL x.key), U64 rt, .bool true, vv] 1) ∧ g2.get (h.next + 2) = some (.cells [.slice xb X.length 0, U64 0] 1) ∧
                (∀ ats A', appT T ats = some A' → A'.size = 4 → A'.bytes ≤ 100 → aAppend T ats (.slice xb X.length 0) (.slice (some ⟨g2.next, 0, none⟩) 1 2) ((g2.set g'.next (.cells [encS (keyL x.key), U64 rt, .bool true, vv] 1)).new (.cells [encS (keyL x.key), U64 rt, .bool true, vv] 4)) = some (v', H)) ∧
                H.get (h.next + 2) = some (.cells [.slice xb X.length 0, U64 0] 1) ∧ H.get g'.next = some (.cells [encS (keyL x.key), U64 rt, .bool true, vv] 1) ∧ g2.next ≤ H.next ∧
                (∀ ats A', appT T ats = some A' → A'.size = 5 → A'.bytes ≤ 100 → aAppend T ats (.slice (some ⟨H.next, 0, none⟩) 0 1) vv ((H.set (h.next + 2) (.cells [v', U64 0] 1)).new (.cells [] 5)) = some (w2, H2)) ∧
                FWp Tryz.prog 11 [P0 (h.next + 1), .agg #[encS (keyL x.key), U64 rt, .bool true, w2]] H2 (fun u h' => u = I64 0 ∧ h' = H3) ∧ H2.get g'.next = some (.cells [encS (keyL x.key), U64 rt, .bool true, vv] 1) ∧ Bg h H3 (h.next + 1) (h.next + 2) (i + 1) M' A' X' v' := by
              rintro vv g2 ⟨i', t', V, hi', I⟩
              have n2 := I.next
              obtain ⟨g3, hg3⟩ : ∃ g3, g3 = g2.set g'.next (.cells [encS (keyL x.key), U64 rt, .bool true, vv] 1) := ⟨_, rfl⟩
              have n3 : g3.next = g2.next := by rw [hg3]; rfl
              have o3 : ∀ z, ¬ z = g'.next → g3.get z = g2.get z := fun z hz => by rw [hg3, AHeap.get_set_ne (by omega)]
              have x3 : g3.get g'.next = some (.cells [encS (keyL x.key), U64 rt, .bool true, vv] 1) := by rw [hg3]; exact AHeap.get_set_same _ _ _
              have B3 := B.garb (g' := g3) (by omega) fun z hz => by rw [o3 z (by omega), I.old z (by omega), o1 z hz]
              have hV3 : SV g3 5 h.next (flatV V) vv := (I.sv.mono (by omega) fun z hz e => o3 z (by have := (I.sv.row e).1; omega)).low (by omega)
              obtain ⟨v', H, w2, H2, H3, M', ⟨wc, wn, wd, rfl⟩, a1, a2, a3, a4, a5, a6, a8, a7⟩ := B3.step (by omega) (by omega) x3 (by omega) hV3 (by rw [I.len]; exact hi') I.ris hkk (keyL_mem _)
              have hrow3 := B3.row
              rw [hv1] at hrow3 a1 a2
              rw [n3] at a1
              rw [← hg3]
              exact ⟨v', H, _, H2, H3, M', _, _, ⟨wc, wn, wd, rfl⟩, by obtain ⟨c, h9, _⟩ := I.sv.form; exact ⟨c, _, h9⟩, by rw [I.old _ (by omega)]; exact x1, n2, x3, by rw [← o3 _ (by omega)]; exact hrow3, a1, a2, a3, by omega, a5, a6, a8, a7⟩
            subst hg1 hrt
            rw [hh] at c2
            refine SQ.normal <| CWp.known ha ?_
            simp only [mkA]
            refine W.seq <| W.seq <| W.reg <| OSuf.aopF tyOK rfl sm (fun _ => rfl) (by first | rfl | assumption | ((simp only [bl, hg, hc, sb, c0, c1, c2, c3, hrow, hrow1, x1, e4, Option.map_some, cond_true, Value.cells, places, tb13]) <;> first | done | assumption | omega) | (simp; done) | (simp; omega)) <| OSuf.nil <| SQ.normal ?_
            refine W.no (by simp only [lk] <;> rfl) <| CWp.skip <| SQ.normal ?_
            refine W.seq <| CWp.sql tyOK mixed (ms := [0, 0, 3, 7, 15, 31, 0, 0, 192, 448, 960, 1984, 0, 4096, 12288, 28672, 65472, 0, 0, 393216, 917504, 1966080, 4194303, 0, 16777215]) (by kernel_rfl) (
                .free rfl rfl rfl sm rfl <| .free rfl rfl rfl sm rfl <| .free rfl rfl rfl (zi (hv := by simp (disch := first | assumption | omega | (simp only [nx] <;> omega) | fail) only [aIndexAddr, ty51, ty115, hpl, hg, hc, sb, c0, c1, c2, c3, hrow, hrow1, x1, e4, cond_true, Value.cells, places, tb13] <;> rfl)) rfl <| .free rfl rfl rfl (zf (hv := fa_ok (k := 0) ty115 rfl rfl ty5 rfl rfl)) rfl <| .read rfl rfl rfl (zl (hv := by simp (disch := first | assumption | omega | (simp only [nx] <;> omega) | fail) only [aLoad, ty5, rowOf, hpl, hg, hc, sb, c0, c1, c2, c3, hrow, hrow1, x1, e4, Option.map_some, cond_true, Value.cells] <;> rfl)) (by first | rfl | (simp [veq, veq1, veqs]; done) | (simp [veq, veq1, veqs, splice]; done)) trivial rfl <| .call rfl rfl rfl (fcallO (by simp only [aopnds, lk] <;> rfl) en16 (key_c _ x.key k1 k2)) rfl ⟨.inl rfl, trivial⟩ rfl <| .free rfl rfl rfl sm rfl <| .free rfl rfl rfl sm rfl <| .free rfl rfl rfl (zi (hv := by simp (disch := first | assumption | omega | (simp only [nx] <;> omega) | fail) only [aIndexAddr, ty51, ty115, hpl, hg, hc, sb, c0, c1, c2, c3, hrow, hrow1, x1, e4, cond_true, Value.cells, places, tb13] <;> rfl)) rfl <| .free rfl rfl rfl (zf (hv := fa_ok (k := 1) ty115 rfl rfl ty5 rfl rfl)) rfl <| .read rfl rfl rfl (zl (hv := by simp (disch := first | assumption | omega | (simp only [nx] <;> omega) | fail) only [aLoad, ty5, rowOf, hpl, hg, hc, sb, c0, c1, c2, c3, hrow, hrow1, x1, e4, Option.map_some, cond_true, Value.cells] <;> rfl)) (by first | rfl | (simp [veq, veq1, veqs]; done) | (simp [veq, veq1, veqs, splice]; done)) ⟨.inr (zl (hv := by simp (disch := first | assumption | omega | (simp only [nx] <;> omega) | fail) only [aLoad, ty5, rowOf, hpl, hg, hc, sb, c0, c1, c2, c3, hrow, hrow1, x1, e4, Option.map_some, cond_true, Value.cells] <;> rfl)), trivial⟩ rfl <| .read rfl rfl (by kernel_rfl) (so_conw (so_conv tyOK (by simp only [lk] <;> rfl) ty5 ⟨_, rfl⟩ ty27 rfl) (by first | (simp only [v2] <;> rfl) | rfl)) (by first | rfl | (simp [veq, veq1, veqs]; done) | (simp [veq, veq1, veqs, splice]; done)) ⟨.inr (so_conw (so_conv tyOK (by simp only [lk] <;> rfl) ty5 ⟨_, rfl⟩ ty27 rfl) (by first | (simp only [v2] <;> rfl) | rfl)), trivial⟩ rfl <| .free rfl rfl rfl sm rfl <| .free rfl rfl rfl (so_nilCheck (by simp only [lk] <;> rfl)) rfl <| .free rfl rfl rfl (zf (hv := fa_ok (k := 1) ty110 rfl rfl ty27 rfl rfl)) rfl <| .read rfl rfl rfl (zl (hv := by simp (disch := first | assumption | omega | (simp only [nx] <;> omega) | fail) only [aLoad, ty27, rowOf, hpl, hg, hc, sb, c0, c1, c2, c3, hrow, hrow1, x1, e4, Option.map_some, cond_true, Value.cells] <;> rfl)) (by first | rfl | (simp [veq, veq1, veqs]; done) | (simp [veq, veq1, veqs, splice]; done)) ⟨.inr (zl (hv := by simp (disch := first | assumption | omega | (simp only [nx] <;> omega) | fail) only [aLoad, ty27, rowOf, hpl, hg, hc, sb, c0, c1, c2, c3, hrow, hrow1, x1, e4, Option.map_some, cond_true, Value.cells] <;> rfl)), trivial⟩ rfl <| .read rfl rfl rfl (so_max (by simp only [aopnds, lk] <;> rfl)) (by first | rfl | (simp [veq, veq1, veqs]; done) | (simp [veq, veq1, veqs, splice]; done)) ⟨.inr (so_max (by simp only [aopnds, lk] <;> rfl)), trivial⟩ rfl <| .free rfl rfl rfl sm rfl <| .free rfl rfl rfl sm rfl <| .free rfl rfl rfl (zi (hv := by simp (disch := first | assumption | omega | (simp only [nx] <;> omega) | fail) only [aIndexAddr, ty51, ty115, hpl, hg, hc, sb, c0, c1, c2, c3, hrow, hrow1, x1, e4, cond_true, Value.cells, places, tb13] <;> rfl)) rfl <| .free rfl rfl rfl (zf (hv := fa_ok (k := 2) ty115 rfl rfl ty4 rfl rfl)) rfl <| .read rfl rfl rfl (zl (hv := by simp (disch := first | assumption | omega | (simp only [nx] <;> omega) | fail) only [aLoad, ty4, rowOf, hpl, hg, hc, sb, c0, c1, c2, c3, hrow, hrow1, x1, e4, Option.map_some, cond_true, Value.cells] <;> rfl)) (by first | rfl | (simp [veq, veq1, veqs]; done) | (simp [veq, veq1, veqs, splice]; done)) ⟨.inr (zl (hv := by simp (disch := first | assumption | omega | (simp only [nx] <;> omega) | fail) only [aLoad, ty4, rowOf, hpl, hg, hc, sb, c0, c1, c2, c3, hrow, hrow1, x1, e4, Option.map_some, cond_true, Value.cells] <;> rfl)), trivial⟩ rfl <| .free rfl rfl rfl (so_build (by simp only [aparts, lk] <;> rfl) (by simp only [aBuild, ty112, hg, hc, sb, c0, c1, c2, c3, hrow, hrow1, x1, e4, cond_true, Value.cells, places, tb13] <;> rfl)) rfl <| .late rfl rfl rfl (so_alloc (by simp only [aAlloc, ty112] <;> rfl)) rfl rfl ⟨.inr (zl (hv := by simp (disch := first | assumption | omega | (simp only [nx] <;> omega) | fail) only [aLoad, ty4, rowOf, hpl, hg, hc, sb, c0, c1, c2, c3, hrow, hrow1, x1, e4, Option.map_some, cond_true, Value.cells] <;> rfl)), .inr (so_max (by simp only [aopnds, lk] <;> rfl)), .inr (zl (hv := by simp (disch := first | assumption | omega | (simp only [nx] <;> omega) | fail) only [aLoad, ty27, rowOf, hpl, hg, hc, sb, c0, c1, c2, c3, hrow, hrow1, x1, e4, Option.map_some, cond_true, Value.cells] <;> rfl)), .inr (so_conw (so_conv tyOK (by simp only [lk] <;> rfl) ty5 ⟨_, rfl⟩ ty27 rfl) (by first | (simp only [v2] <;> rfl) | rfl)), .inr (zl (hv := by simp (disch := first | assumption | omega | (simp only [nx] <;> omega) | fail) only [aLoad, ty5, rowOf, hpl, hg, hc, sb, c0, c1, c2, c3, hrow, hrow1, x1, e4, Option.map_some, cond_true, Value.cells] <;> rfl)), .inr (zl (hv := by simp (disch := first | assumption | omega | (simp only [nx] <;> omega) | fail) only [aLoad, ty5, rowOf, hpl, hg, hc, sb, c0, c1, c2, c3, hrow, hrow1, x1, e4, Option.map_some, cond_true, Value.cells] <;> rfl)), trivial⟩ rfl <| .change rfl rfl rfl (zs (hv := by simp (disch := first | assumption | omega | (simp only [nx] <;> omega) | fail) only [aStore, ty112, writeRow, hpl, hg, hc, sb, c0, c1, c2, c3, hrow, hrow1, x1, e4, Option.map_some, cond_true, Value.cells] <;> rfl)) rfl ⟨.inl rfl, .inl rfl, .inl rfl, .inl rfl, .inl rfl, .inl rfl, trivial⟩ rfl <| .nil) <| SQ.normal ?_
            refine W.seq <| W.seq <| W.reg <| OSuf.aop tyOK rfl (zf (hv := fa_ok (k := 2) ty112 rfl rfl ty4 rfl rfl)) rfl <| OSuf.aopT tyOK rfl (zl (hv := by simp (disch := first | assumption | omega | (simp only [nx] <;> omega) | fail) only [aLoad, ty4, rowOf, hpl, hg, hc, sb, c0, c1, c2, c3, hrow, hrow1, x1, e4, Option.map_some, cond_true, Value.cells] <;> rfl)) (fun _ => rfl) (by first | rfl | assumption | ((simp only [bl, hg, hc, sb, c0, c1, c2, c3, hrow, hrow1, x1, e4, Option.map_some, cond_true, Value.cells, places, tb13]) <;> first | done | assumption | omega) | (simp; done) | (simp; omega)) <| OSuf.nil <| SQ.normal ?_
            refine W.yes (by simp only [lk] <;> rfl) <| W.reg <| OSuf.aop tyOK rfl sm rfl <| OSuf.aop tyOK rfl sm rfl <| OSuf.aop tyOK rfl (zi (hv := by simp (disch := first | assumption | omega | (simp only [nx] <;> omega) | fail) only [aIndexAddr, ty51, ty115, hpl, hg, hc, sb, c0, c1, c2, c3, hrow, hrow1, x1, e4, cond_true, Value.cells, places, tb13] <;> rfl)) rfl <| OSuf.aop tyOK rfl (zf (hv := fa_ok (k := 3) ty115 rfl rfl ty113 rfl rfl)) rfl <| OSuf.aop tyOK rfl (zl (hv := by simp (disch := first | assumption | omega | (simp only [nx] <;> omega) | fail) only [aLoad, ty113, rowOf, hpl, hg, hc, sb, c0, c1, c2, c3, hrow, hrow1, x1, e4, Option.map_some, cond_true, Value.cells] <;> rfl)) rfl <| OSuf.call rfl (by simp only [aopnds, lk] <;> rfl) en45 (hvs) ?_
            rintro vv g2 hvv
            obtain ⟨v', H, w2, H2, H3, M', A', X', ⟨wc, wn, wd, rfl⟩, ⟨vc, vm, rfl⟩, y1, y2, y3, y4, a1, a2, a3, y5, a5, a6, a8, a7⟩ := hlater vv g2 hvv
            obtain ⟨vb, hvb, _, _⟩ := a7.sv.form
            generalize vLen v' = vn at hvb
            subst hvb
            refine ⟨_, rfl, ?_⟩
            refine OSuf.aop tyOK rfl (zf (hv := fa_ok (k := 3) ty112 rfl rfl ty34 rfl rfl)) rfl <| OSuf.aop tyOK rfl (zs (hv := by simp (disch := first | assumption | omega | (simp only [nx] <;> omega) | fail) only [aStore, ty34, writeRow, hpl, hg, hc, sb, c0, c1, c2, c3, hrow, hrow1, x1, e4, Option.map_some, cond_true, Value.cells, hg, hc, sb, c0, c1, c2, c3, y1, y3, y4, a2, a3, a8, e4, Option.map_some, cond_true, Value.cells] <;> rfl)) rfl <| OSuf.nil <| SQ.normal ?_
            refine W.seq <| CWp.sqd tyOK mixed (ms := [0, 0, 2, 6, 14, 0, 32, 126, 255, 511, 1023]) (by kernel_rfl) (
                .free rfl rfl sm rfl <| .free rfl rfl sm rfl <| .free rfl rfl (so_nilCheck (by simp only [lk] <;> rfl)) rfl <| .free rfl rfl (zf (hv := fa_ok (k := 0) ty110 rfl rfl ty108 rfl rfl)) rfl <| .read rfl rfl (zl (hv := by simp (disch := first | assumption | omega | (simp only [nx] <;> omega) | fail) only [aLoad, ty108, rowOf, hpl, hg, hc, sb, c0, c1, c2, c3, hrow, hrow1, x1, e4, Option.map_some, cond_true, Value.cells, hg, hc, sb, c0, c1, c2, c3, y1, y3, y4, a2, a3, a8, e4, Option.map_some, cond_true, Value.cells] <;> rfl)) (by first | rfl | (simp [veq, veq1, veqs]; done) | (simp [veq, veq1, veqs, splice]; done)) trivial rfl <| .read rfl rfl (zl (hv := by simp (disch := first | assumption | omega | (simp only [nx] <;> omega) | fail) only [aLoad, ty112, rowOf, hpl, hg, hc, sb, c0, c1, c2, c3, hrow, hrow1, x1, e4, Option.map_some, cond_true, Value.cells, hg, hc, sb, c0, c1, c2, c3, y1, y3, y4, a2, a3, a8, e4, Option.map_some, cond_true, Value.cells] <;> rfl)) (by first | rfl | (simp [veq, veq1, veqs]; done) | (simp [veq, veq1, veqs, splice]; done)) trivial rfl <| .change rfl rfl (so_buildSlice (by simp only [aparts, lk] <;> rfl) (by simp only [aBuildSlice, ty108, ty112, hg, hc, sb, c0, c1, c2, c3, hrow, hrow1, x1, e4, cond_true, Value.cells, places, tb13, hg, hc, sb, c0, c1, c2, c3, y1, y3, y4, a2, a3, a8, e4, cond_true, Value.cells, places, tb13] <;> rfl)) rfl ⟨.inl rfl, .inr (zl (hv := by simp (disch := first | assumption | omega | (simp only [nx] <;> omega) | fail) only [aLoad, ty108, rowOf, hpl, hg, hc, sb, c0, c1, c2, c3, hrow, hrow1, x1, e4, Option.map_some, cond_true, Value.cells, hg, hc, sb, c0, c1, c2, c3, y1, y3, y4, a2, a3, a8, e4, Option.map_some, cond_true, Value.cells] <;> rfl)), trivial⟩ rfl <| .change rfl rfl (so_append (by simp only [aopnds, lk] <;> rfl) (a1 _ _ (by simp only [appT, ty108, ty112] <;> rfl) rfl (by decide))) rfl ⟨.inl rfl, .inl rfl, trivial⟩ rfl <| .free rfl rfl (so_nilCheck (by simp only [lk] <;> rfl)) rfl <| .free rfl rfl (zf (hv := fa_ok (k := 0) ty110 rfl rfl ty108 rfl rfl)) rfl <| .change rfl rfl (zs (hv := by simp (disch := first | assumption | omega | (simp only [nx] <;> omega) | fail) only [aStore, ty108, writeRow, hpl, hg, hc, sb, c0, c1, c2, c3, hrow, hrow1, x1, e4, Option.map_some, cond_true, Value.cells, hg, hc, sb, c0, c1, c2, c3, y1, y3, y4, a2, a3, a8, e4, Option.map_some, cond_true, Value.cells] <;> rfl)) rfl ⟨.inl rfl, .inl rfl, trivial⟩ rfl <| .nil) <| SQ.normal ?_
            refine W.seq <| CWp.sqd tyOK mixed (ms := [0, 0, 2, 0, 8, 0, 32, 0, 0, 256, 896, 2046, 4095, 8191]) (by kernel_rfl) (
                .free rfl rfl sm rfl <| .free rfl rfl (zf (hv := fa_ok (k := 0) ty112 rfl rfl ty9 rfl rfl)) rfl <| .read rfl rfl (zl (hv := by simp (disch := first | assumption | omega | (simp only [nx] <;> omega) | fail) only [aLoad, ty9, rowOf, hpl, hg, hc, sb, c0, c1, c2, c3, hrow, hrow1, x1, e4, Option.map_some, cond_true, Value.cells, hg, hc, sb, c0, c1, c2, c3, y1, y3, y4, a2, a3, a8, e4, Option.map_some, cond_true, Value.cells] <;> rfl)) (by first | rfl | (simp [veq, veq1, veqs]; done) | (simp [veq, veq1, veqs, splice]; done)) trivial rfl <| .free rfl rfl (zf (hv := fa_ok (k := 1) ty112 rfl rfl ty27 rfl rfl)) rfl <| .read rfl rfl (zl (hv := by simp (disch := first | assumption | omega | (simp only [nx] <;> omega) | fail) only [aLoad, ty27, rowOf, hpl, hg, hc, sb, c0, c1, c2, c3, hrow, hrow1, x1, e4, Option.map_some, cond_true, Value.cells, hg, hc, sb, c0, c1, c2, c3, y1, y3, y4, a2, a3, a8, e4, Option.map_some, cond_true, Value.cells] <;> rfl)) (by first | rfl | (simp [veq, veq1, veqs]; done) | (simp [veq, veq1, veqs, splice]; done)) trivial rfl <| .free rfl rfl (zf (hv := fa_ok (k := 2) ty112 rfl rfl ty4 rfl rfl)) rfl <| .read rfl rfl (zl (hv := by simp (disch := first | assumption | omega | (simp only [nx] <;> omega) | fail) only [aLoad, ty4, rowOf, hpl, hg, hc, sb, c0, c1, c2, c3, hrow, hrow1, x1, e4, Option.map_some, cond_true, Value.cells, hg, hc, sb, c0, c1, c2, c3, y1, y3, y4, a2, a3, a8, e4, Option.map_some, cond_true, Value.cells] <;> rfl)) (by first | rfl | (simp [veq, veq1, veqs]; done) | (simp [veq, veq1, veqs, splice]; done)) trivial rfl <| .change rfl rfl (so_buildSlice (by simp only [aparts, lk] <;> rfl) (by simp only [aBuildSlice, ty34, ty49, hg, hc, sb, c0, c1, c2, c3, hrow, hrow1, x1, e4, cond_true, Value.cells, places, tb13, hg, hc, sb, c0, c1, c2, c3, y1, y3, y4, a2, a3, a8, e4, cond_true, Value.cells, places, tb13] <;> rfl)) rfl ⟨.inr (zl (hv := by simp (disch := first | assumption | omega | (simp only [nx] <;> omega) | fail) only [aLoad, ty4, rowOf, hpl, hg, hc, sb, c0, c1, c2, c3, hrow, hrow1, x1, e4, Option.map_some, cond_true, Value.cells, hg, hc, sb, c0, c1, c2, c3, y1, y3, y4, a2, a3, a8, e4, Option.map_some, cond_true, Value.cells] <;> rfl)), .inr (zl (hv := by simp (disch := first | assumption | omega | (simp only [nx] <;> omega) | fail) only [aLoad, ty27, rowOf, hpl, hg, hc, sb, c0, c1, c2, c3, hrow, hrow1, x1, e4, Option.map_some, cond_true, Value.cells, hg, hc, sb, c0, c1, c2, c3, y1, y3, y4, a2, a3, a8, e4, Option.map_some, cond_true, Value.cells] <;> rfl)), .inr (zl (hv := by simp (disch := first | assumption | omega | (simp only [nx] <;> omega) | fail) only [aLoad, ty9, rowOf, hpl, hg, hc, sb, c0, c1, c2, c3, hrow, hrow1, x1, e4, Option.map_some, cond_true, Value.cells, hg, hc, sb, c0, c1, c2, c3, y1, y3, y4, a2, a3, a8, e4, Option.map_some, cond_true, Value.cells] <;> rfl)), trivial⟩ rfl <| .free rfl rfl (zf (hv := fa_ok (k := 3) ty112 rfl rfl ty34 rfl rfl)) rfl <| .read rfl rfl (zl (hv := by simp (disch := first | assumption | omega | (simp only [nx] <;> omega) | fail) only [aLoad, ty34, rowOf, hpl, hg, hc, sb, c0, c1, c2, c3, hrow, hrow1, x1, e4, Option.map_some, cond_true, Value.cells, hg, hc, sb, c0, c1, c2, c3, y1, y3, y4, a2, a3, a8, e4, Option.map_some, cond_true, Value.cells] <;> rfl)) (by first | rfl | (simp [veq, veq1, veqs]; done) | (simp [veq, veq1, veqs, splice]; done)) ⟨.inr (zl (hv := by simp (disch := first | assumption | omega | (simp only [nx] <;> omega) | fail) only [aLoad, ty34, rowOf, hpl, hg, hc, sb, c0, c1, c2, c3, hrow, hrow1, x1, e4, Option.map_some, cond_true, Value.cells, hg, hc, sb, c0, c1, c2, c3, y1, y3, y4, a2, a3, a8, e4, Option.map_some, cond_true, Value.cells] <;> rfl)), trivial⟩ rfl <| .change rfl rfl (so_append (by simp only [aopnds, lk] <;> rfl) (a5 _ _ (by simp only [appT, ty34, ty49] <;> rfl) rfl (by decide))) rfl ⟨.inl rfl, .inr (zl (hv := by simp (disch := first | assumption | omega | (simp only [nx] <;> omega) | fail) only [aLoad, ty4, rowOf, hpl, hg, hc, sb, c0, c1, c2, c3, hrow, hrow1, x1, e4, Option.map_some, cond_true, Value.cells, hg, hc, sb, c0, c1, c2, c3, y1, y3, y4, a2, a3, a8, e4, Option.map_some, cond_true, Value.cells] <;> rfl)), .inr (zl (hv := by simp (disch := first | assumption | omega | (simp only [nx] <;> omega) | fail) only [aLoad, ty27, rowOf, hpl, hg, hc, sb, c0, c1, c2, c3, hrow, hrow1, x1, e4, Option.map_some, cond_true, Value.cells, hg, hc, sb, c0, c1, c2, c3, y1, y3, y4, a2, a3, a8, e4, Option.map_some, cond_true, Value.cells] <;> rfl)), .inr (zl (hv := by simp (disch := first | assumption | omega | (simp only [nx] <;> omega) | fail) only [aLoad, ty9, rowOf, hpl, hg, hc, sb, c0, c1, c2, c3, hrow, hrow1, x1, e4, Option.map_some, cond_true, Value.cells, hg, hc, sb, c0, c1, c2, c3, y1, y3, y4, a2, a3, a8, e4, Option.map_some, cond_true, Value.cells] <;> rfl)), trivial⟩ rfl <| .free rfl rfl (so_build (by simp only [aparts, lk] <;> rfl) (by simp only [aBuild, ty36, hg, hc, sb, c0, c1, c2, c3, hrow, hrow1, x1, e4, cond_true, Value.cells, places, tb13, hg, hc, sb, c0, c1, c2, c3, y1, y3, y4, a2, a3, a8, e4, cond_true, Value.cells, places, tb13] <;> rfl)) rfl <| .call rfl rfl (fcallO (by simp only [aopnds, lk] <;> rfl) en11 (a6)) rfl ⟨.inl rfl, .inl rfl, .inl rfl, .inl rfl, trivial⟩ rfl <| .free rfl rfl (so_bw (zb (hv := bi_neq)) (b' := false) (by first | rfl | assumption | ((simp only [bl, hg, hc, sb, c0, c1, c2, c3, hrow, hrow1, x1, e4, Option.map_some, cond_true, Value.cells, places, tb13, hg, hc, sb, c0, c1, c2, c3, y1, y3, y4, a2, a3, a8, e4, Option.map_some, cond_true, Value.cells, places, tb13]) <;> first | done | assumption | omega) | (simp; done) | (simp; omega))) rfl <| .nil) <| SQ.normal ?_
            refine W.no (by simp only [lk] <;> rfl) <| CWp.skip <| BQ.normal <| SQ.normal ?_
            refine W.reg <| OSuf.aop tyOK rfl sm rfl <| OSuf.aop tyOK rfl (zb (hv := bi_w bi_add (by first | (simp only [v2] <;> rfl) | rfl))) rfl <| OSuf.aop tyOK rfl za rfl <| OSuf.nil <| ?_
            -- leaf: round
            refine LQ.normal (m := q - 1) (L := [(0, .slice (some ⟨r0, 0, none⟩) l.length 0), (6, P0 (h.next + 1)), (7, P0 (h.next + 2)), (8, I64 ((i + 1 : Nat) : Int))]) (by omega) ?_ ⟨i + 1, M', _, _, _, by omega, a7, rfl⟩
            simp only [HasA, Tr.get_put, Nat.reduceEqDiff, reduceIte, v2, and_self]
          · obtain ⟨g1, hg1⟩ : ∃ g1, g1 = (g'.new (.cells [encS [], U64 0, .bool false, .slice none 0 0] 1)).set g'.next (.cells [encS (keyL x.key), U64 rt, .bool false, .slice none 0 0] 1) := ⟨_, rfl⟩
            have n1 : g1.next = g'.next + 1 := by rw [hg1]; rfl
            have o1 : ∀ z, z < g'.next → g1.get z = g'.get z := fun z hz => by rw [hg1]; simp (disch := first | assumption | omega | (simp only [nx] <;> omega) | fail) only [hpl]
            have x1 : g1.get g'.next = some (.cells [encS (keyL x.key), U64 rt, .bool false, .slice none 0 0] 1) := by rw [hg1]; exact AHeap.get_set_same _ _ _
            have prl := B.prl
            have B1 := B.garb (g' := g1) (by omega) o1
            obtain ⟨v', H, w2, H2, H3, M', ⟨wc, wn, wd, rfl⟩, a1, a2, a3, a4, a5, a6, a8, a7⟩ := B1.step (by omega) (by omega) x1 (by omega) (V := []) .nil (by simp) ris_nil hkk (keyL_mem _)
            obtain ⟨vb, hvb, _, _⟩ := a7.sv.form
            generalize vLen v' = vn at hvb
            subst hvb
            have hrow1 := B1.row
            rw [hv1] at hrow1 a1 a2
            subst hg1 hrt
            have e4 : ∀ a b c d : Value, cellsOf [a, b, c, d] 0 4 = some [a, b, c, d] := fun _ _ _ _ => rfl
            rw [hh] at c2
            refine SQ.normal <| CWp.known ha ?_
            simp only [mkA]
            refine W.seq <| W.seq <| W.reg <| OSuf.aopF tyOK rfl sm (fun _ => rfl) (by first | rfl | assumption | ((simp only [bl, hg, hc, sb, c0, c1, c2, c3, hrow, hrow1, a2, a3, a8, x1, e4, Option.map_some, cond_true, Value.cells, places, tb13]) <;> first | done | assumption | omega) | (simp; done) | (simp; omega)) <| OSuf.nil <| SQ.normal ?_
            refine W.no (by simp only [lk] <;> rfl) <| CWp.skip <| SQ.normal ?_
            refine W.seq <| CWp.sql tyOK mixed (ms := [0, 0, 3, 7, 15, 31, 0, 0, 192, 448, 960, 1984, 0, 4096, 12288, 28672, 65472, 0, 0, 393216, 917504, 1966080, 4194303, 0, 16777215]) (by kernel_rfl) (
                .free rfl rfl rfl sm rfl <| .free rfl rfl rfl sm rfl <| .free rfl rfl rfl (zi (hv := by simp (disch := first | assumption | omega | (simp only [nx] <;> omega) | fail) only [aIndexAddr, ty51, ty115, hpl, hg, hc, sb, c0, c1, c2, c3, hrow, hrow1, a2, a3, a8, x1, e4, cond_true, Value.cells, places, tb13] <;> rfl)) rfl <| .free rfl rfl rfl (zf (hv := fa_ok (k := 0) ty115 rfl rfl ty5 rfl rfl)) rfl <| .read rfl rfl rfl (zl (hv := by simp (disch := first | assumption | omega | (simp only [nx] <;> omega) | fail) only [aLoad, ty5, rowOf, hpl, hg, hc, sb, c0, c1, c2, c3, hrow, hrow1, a2, a3, a8, x1, e4, Option.map_some, cond_true, Value.cells] <;> rfl)) (by first | rfl | (simp [veq, veq1, veqs]; done) | (simp [veq, veq1, veqs, splice]; done)) trivial rfl <| .call rfl rfl rfl (fcallO (by simp only [aopnds, lk] <;> rfl) en16 (key_c _ x.key k1 k2)) rfl ⟨.inl rfl, trivial⟩ rfl <| .free rfl rfl rfl sm rfl <| .free rfl rfl rfl sm rfl <| .free rfl rfl rfl (zi (hv := by simp (disch := first | assumption | omega | (simp only [nx] <;> omega) | fail) only [aIndexAddr, ty51, ty115, hpl, hg, hc, sb, c0, c1, c2, c3, hrow, hrow1, a2, a3, a8, x1, e4, cond_true, Value.cells, places, tb13] <;> rfl)) rfl <| .free rfl rfl rfl (zf (hv := fa_ok (k := 1) ty115 rfl rfl ty5 rfl rfl)) rfl <| .read rfl rfl rfl (zl (hv := by simp (disch := first | assumption | omega | (simp only [nx] <;> omega) | fail) only [aLoad, ty5, rowOf, hpl, hg, hc, sb, c0, c1, c2, c3, hrow, hrow1, a2, a3, a8, x1, e4, Option.map_some, cond_true, Value.cells] <;> rfl)) (by first | rfl | (simp [veq, veq1, veqs]; done) | (simp [veq, veq1, veqs, splice]; done)) ⟨.inr (zl (hv := by simp (disch := first | assumption | omega | (simp only [nx] <;> omega) | fail) only [aLoad, ty5, rowOf, hpl, hg, hc, sb, c0, c1, c2, c3, hrow, hrow1, a2, a3, a8, x1, e4, Option.map_some, cond_true, Value.cells] <;> rfl)), trivial⟩ rfl <| .read rfl rfl (by kernel_rfl) (so_conw (so_conv tyOK (by simp only [lk] <;> rfl) ty5 ⟨_, rfl⟩ ty27 rfl) (by first | (simp only [v2] <;> rfl) | rfl)) (by first | rfl | (simp [veq, veq1, veqs]; done) | (simp [veq, veq1, veqs, splice]; done)) ⟨.inr (so_conw (so_conv tyOK (by simp only [lk] <;> rfl) ty5 ⟨_, rfl⟩ ty27 rfl) (by first | (simp only [v2] <;> rfl) | rfl)), trivial⟩ rfl <| .free rfl rfl rfl sm rfl <| .free rfl rfl rfl (so_nilCheck (by simp only [lk] <;> rfl)) rfl <| .free rfl rfl rfl (zf (hv := fa_ok (k := 1) ty110 rfl rfl ty27 rfl rfl)) rfl <| .read rfl rfl rfl (zl (hv := by simp (disch := first | assumption | omega | (simp only [nx] <;> omega) | fail) only [aLoad, ty27, rowOf, hpl, hg, hc, sb, c0, c1, c2, c3, hrow, hrow1, a2, a3, a8, x1, e4, Option.map_some, cond_true, Value.cells] <;> rfl)) (by first | rfl | (simp [veq, veq1, veqs]; done) | (simp [veq, veq1, veqs, splice]; done)) ⟨.inr (zl (hv := by simp (disch := first | assumption | omega | (simp only [nx] <;> omega) | fail) only [aLoad, ty27, rowOf, hpl, hg, hc, sb, c0, c1, c2, c3, hrow, hrow1, a2, a3, a8, x1, e4, Option.map_some, cond_true, Value.cells] <;> rfl)), trivial⟩ rfl <| .read rfl rfl rfl (so_max (by simp only [aopnds, lk] <;> rfl)) (by first | rfl | (simp [veq, veq1, veqs]; done) | (simp [veq, veq1, veqs, splice]; done)) ⟨.inr (so_max (by simp only [aopnds, lk] <;> rfl)), trivial⟩ rfl <| .free rfl rfl rfl sm rfl <| .free rfl rfl rfl sm rfl <| .free rfl rfl rfl (zi (hv := by simp (disch := first | assumption | omega | (simp only [nx] <;> omega) | fail) only [aIndexAddr, ty51, ty115, hpl, hg, hc, sb, c0, c1, c2, c3, hrow, hrow1, a2, a3, a8, x1, e4, cond_true, Value.cells, places, tb13] <;> rfl)) rfl <| .free rfl rfl rfl (zf (hv := fa_ok (k := 2) ty115 rfl rfl ty4 rfl rfl)) rfl <| .read rfl rfl rfl (zl (hv := by simp (disch := first | assumption | omega | (simp only [nx] <;> omega) | fail) only [aLoad, ty4, rowOf, hpl, hg, hc, sb, c0, c1, c2, c3, hrow, hrow1, a2, a3, a8, x1, e4, Option.map_some, cond_true, Value.cells] <;> rfl)) (by first | rfl | (simp [veq, veq1, veqs]; done) | (simp [veq, veq1, veqs, splice]; done)) ⟨.inr (zl (hv := by simp (disch := first | assumption | omega | (simp only [nx] <;> omega) | fail) only [aLoad, ty4, rowOf, hpl, hg, hc, sb, c0, c1, c2, c3, hrow, hrow1, a2, a3, a8, x1, e4, Option.map_some, cond_true, Value.cells] <;> rfl)), trivial⟩ rfl <| .free rfl rfl rfl (so_build (by simp only [aparts, lk] <;> rfl) (by simp only [aBuild, ty112, hg, hc, sb, c0, c1, c2, c3, hrow, hrow1, a2, a3, a8, x1, e4, cond_true, Value.cells, places, tb13] <;> rfl)) rfl <| .late rfl rfl rfl (so_alloc (by simp only [aAlloc, ty112] <;> rfl)) rfl rfl ⟨.inr (zl (hv := by simp (disch := first | assumption | omega | (simp only [nx] <;> omega) | fail) only [aLoad, ty4, rowOf, hpl, hg, hc, sb, c0, c1, c2, c3, hrow, hrow1, a2, a3, a8, x1, e4, Option.map_some, cond_true, Value.cells] <;> rfl)), .inr (so_max (by simp only [aopnds, lk] <;> rfl)), .inr (zl (hv := by simp (disch := first | assumption | omega | (simp only [nx] <;> omega) | fail) only [aLoad, ty27, rowOf, hpl, hg, hc, sb, c0, c1, c2, c3, hrow, hrow1, a2, a3, a8, x1, e4, Option.map_some, cond_true, Value.cells] <;> rfl)), .inr (so_conw (so_conv tyOK (by simp only [lk] <;> rfl) ty5 ⟨_, rfl⟩ ty27 rfl) (by first | (simp only [v2] <;> rfl) | rfl)), .inr (zl (hv := by simp (disch := first | assumption | omega | (simp only [nx] <;> omega) | fail) only [aLoad, ty5, rowOf, hpl, hg, hc, sb, c0, c1, c2, c3, hrow, hrow1, a2, a3, a8, x1, e4, Option.map_some, cond_true, Value.cells] <;> rfl)), .inr (zl (hv := by simp (disch := first | assumption | omega | (simp only [nx] <;> omega) | fail) only [aLoad, ty5, rowOf, hpl, hg, hc, sb, c0, c1, c2, c3, hrow, hrow1, a2, a3, a8, x1, e4, Option.map_some, cond_true, Value.cells] <;> rfl)), trivial⟩ rfl <| .change rfl rfl rfl (zs (hv := by simp (disch := first | assumption | omega | (simp only [nx] <;> omega) | fail) only [aStore, ty112, writeRow, hpl, hg, hc, sb, c0, c1, c2, c3, hrow, hrow1, a2, a3, a8, x1, e4, Option.map_some, cond_true, Value.cells] <;> rfl)) rfl ⟨.inl rfl, .inl rfl, .inl rfl, .inl rfl, .inl rfl, .inl rfl, trivial⟩ rfl <| .nil) <| SQ.normal ?_
            refine W.seq <| W.seq <| W.reg <| OSuf.aop tyOK rfl (zf (hv := fa_ok (k := 2) ty112 rfl rfl ty4 rfl rfl)) rfl <| OSuf.aopF tyOK rfl (zl (hv := by simp (disch := first | assumption | omega | (simp only [nx] <;> omega) | fail) only [aLoad, ty4, rowOf, hpl, hg, hc, sb, c0, c1, c2, c3, hrow, hrow1, a2, a3, a8, x1, e4, Option.map_some, cond_true, Value.cells] <;> rfl)) (fun _ => rfl) (by first | rfl | assumption | ((simp only [bl, hg, hc, sb, c0, c1, c2, c3, hrow, hrow1, a2, a3, a8, x1, e4, Option.map_some, cond_true, Value.cells, places, tb13]) <;> first | done | assumption | omega) | (simp; done) | (simp; omega)) <| OSuf.nil <| SQ.normal ?_
            refine W.no (by simp only [lk] <;> rfl) <| CWp.skip <| SQ.normal ?_
            refine W.seq <| CWp.sqd tyOK mixed (ms := [0, 0, 2, 6, 14, 0, 32, 126, 255, 511, 1023]) (by kernel_rfl) (
                .free rfl rfl sm rfl <| .free rfl rfl sm rfl <| .free rfl rfl (so_nilCheck (by simp only [lk] <;> rfl)) rfl <| .free rfl rfl (zf (hv := fa_ok (k := 0) ty110 rfl rfl ty108 rfl rfl)) rfl <| .read rfl rfl (zl (hv := by simp (disch := first | assumption | omega | (simp only [nx] <;> omega) | fail) only [aLoad, ty108, rowOf, hpl, hg, hc, sb, c0, c1, c2, c3, hrow, hrow1, a2, a3, a8, x1, e4, Option.map_some, cond_true, Value.cells] <;> rfl)) (by first | rfl | (simp [veq, veq1, veqs]; done) | (simp [veq, veq1, veqs, splice]; done)) trivial rfl <| .read rfl rfl (zl (hv := by simp (disch := first | assumption | omega | (simp only [nx] <;> omega) | fail) only [aLoad, ty112, rowOf, hpl, hg, hc, sb, c0, c1, c2, c3, hrow, hrow1, a2, a3, a8, x1, e4, Option.map_some, cond_true, Value.cells] <;> rfl)) (by first | rfl | (simp [veq, veq1, veqs]; done) | (simp [veq, veq1, veqs, splice]; done)) trivial rfl <| .change rfl rfl (so_buildSlice (by simp only [aparts, lk] <;> rfl) (by simp only [aBuildSlice, ty108, ty112, hg, hc, sb, c0, c1, c2, c3, hrow, hrow1, a2, a3, a8, x1, e4, cond_true, Value.cells, places, tb13] <;> rfl)) rfl ⟨.inl rfl, .inr (zl (hv := by simp (disch := first | assumption | omega | (simp only [nx] <;> omega) | fail) only [aLoad, ty108, rowOf, hpl, hg, hc, sb, c0, c1, c2, c3, hrow, hrow1, a2, a3, a8, x1, e4, Option.map_some, cond_true, Value.cells] <;> rfl)), trivial⟩ rfl <| .change rfl rfl (so_append (by simp only [aopnds, lk] <;> rfl) (a1 _ _ (by simp only [appT, ty108, ty112] <;> rfl) rfl (by decide))) rfl ⟨.inl rfl, .inl rfl, trivial⟩ rfl <| .free rfl rfl (so_nilCheck (by simp only [lk] <;> rfl)) rfl <| .free rfl rfl (zf (hv := fa_ok (k := 0) ty110 rfl rfl ty108 rfl rfl)) rfl <| .change rfl rfl (zs (hv := by simp (disch := first | assumption | omega | (simp only [nx] <;> omega) | fail) only [aStore, ty108, writeRow, hpl, hg, hc, sb, c0, c1, c2, c3, hrow, hrow1, a2, a3, a8, x1, e4, Option.map_some, cond_true, Value.cells] <;> rfl)) rfl ⟨.inl rfl, .inl rfl, trivial⟩ rfl <| .nil) <| SQ.normal ?_
            refine W.seq <| CWp.sqd tyOK mixed (ms := [0, 0, 2, 0, 8, 0, 32, 0, 0, 256, 896, 2046, 4095, 8191]) (by kernel_rfl) (
                .free rfl rfl sm rfl <| .free rfl rfl (zf (hv := fa_ok (k := 0) ty112 rfl rfl ty9 rfl rfl)) rfl <| .read rfl rfl (zl (hv := by simp (disch := first | assumption | omega | (simp only [nx] <;> omega) | fail) only [aLoad, ty9, rowOf, hpl, hg, hc, sb, c0, c1, c2, c3, hrow, hrow1, a2, a3, a8, x1, e4, Option.map_some, cond_true, Value.cells] <;> rfl)) (by first | rfl | (simp [veq, veq1, veqs]; done) | (simp [veq, veq1, veqs, splice]; done)) trivial rfl <| .free rfl rfl (zf (hv := fa_ok (k := 1) ty112 rfl rfl ty27 rfl rfl)) rfl <| .read rfl rfl (zl (hv := by simp (disch := first | assumption | omega | (simp only [nx] <;> omega) | fail) only [aLoad, ty27, rowOf, hpl, hg, hc, sb, c0, c1, c2, c3, hrow, hrow1, a2, a3, a8, x1, e4, Option.map_some, cond_true, Value.cells] <;> rfl)) (by first | rfl | (simp [veq, veq1, veqs]; done) | (simp [veq, veq1, veqs, splice]; done)) trivial rfl <| .free rfl rfl (zf (hv := fa_ok (k := 2) ty112 rfl rfl ty4 rfl rfl)) rfl <| .read rfl rfl (zl (hv := by simp (disch := first | assumption | omega | (simp only [nx] <;> omega) | fail) only [aLoad, ty4, rowOf, hpl, hg, hc, sb, c0, c1, c2, c3, hrow, hrow1, a2, a3, a8, x1, e4, Option.map_some, cond_true, Value.cells] <;> rfl)) (by first | rfl | (simp [veq, veq1, veqs]; done) | (simp [veq, veq1, veqs, splice]; done)) trivial rfl <| .change rfl rfl (so_buildSlice (by simp only [aparts, lk] <;> rfl) (by simp only [aBuildSlice, ty34, ty49, hg, hc, sb, c0, c1, c2, c3, hrow, hrow1, a2, a3, a8, x1, e4, cond_true, Value.cells, places, tb13] <;> rfl)) rfl ⟨.inr (zl (hv := by simp (disch := first | assumption | omega | (simp only [nx] <;> omega) | fail) only [aLoad, ty4, rowOf, hpl, hg, hc, sb, c0, c1, c2, c3, hrow, hrow1, a2, a3, a8, x1, e4, Option.map_some, cond_true, Value.cells] <;> rfl)), .inr (zl (hv := by simp (disch := first | assumption | omega | (simp only [nx] <;> omega) | fail) only [aLoad, ty27, rowOf, hpl, hg, hc, sb, c0, c1, c2, c3, hrow, hrow1, a2, a3, a8, x1, e4, Option.map_some, cond_true, Value.cells] <;> rfl)), .inr (zl (hv := by simp (disch := first | assumption | omega | (simp only [nx] <;> omega) | fail) only [aLoad, ty9, rowOf, hpl, hg, hc, sb, c0, c1, c2, c3, hrow, hrow1, a2, a3, a8, x1, e4, Option.map_some, cond_true, Value.cells] <;> rfl)), trivial⟩ rfl <| .free rfl rfl (zf (hv := fa_ok (k := 3) ty112 rfl rfl ty34 rfl rfl)) rfl <| .read rfl rfl (zl (hv := by simp (disch := first | assumption | omega | (simp only [nx] <;> omega) | fail) only [aLoad, ty34, rowOf, hpl, hg, hc, sb, c0, c1, c2, c3, hrow, hrow1, a2, a3, a8, x1, e4, Option.map_some, cond_true, Value.cells] <;> rfl)) (by first | rfl | (simp [veq, veq1, veqs]; done) | (simp [veq, veq1, veqs, splice]; done)) ⟨.inr (zl (hv := by simp (disch := first | assumption | omega | (simp only [nx] <;> omega) | fail) only [aLoad, ty34, rowOf, hpl, hg, hc, sb, c0, c1, c2, c3, hrow, hrow1, a2, a3, a8, x1, e4, Option.map_some, cond_true, Value.cells] <;> rfl)), trivial⟩ rfl <| .change rfl rfl (so_append (by simp only [aopnds, lk] <;> rfl) (a5 _ _ (by simp only [appT, ty34, ty49] <;> rfl) rfl (by decide))) rfl ⟨.inl rfl, .inr (zl (hv := by simp (disch := first | assumption | omega | (simp only [nx] <;> omega) | fail) only [aLoad, ty4, rowOf, hpl, hg, hc, sb, c0, c1, c2, c3, hrow, hrow1, a2, a3, a8, x1, e4, Option.map_some, cond_true, Value.cells] <;> rfl)), .inr (zl (hv := by simp (disch := first | assumption | omega | (simp only [nx] <;> omega) | fail) only [aLoad, ty27, rowOf, hpl, hg, hc, sb, c0, c1, c2, c3, hrow, hrow1, a2, a3, a8, x1, e4, Option.map_some, cond_true, Value.cells] <;> rfl)), .inr (zl (hv := by simp (disch := first | assumption | omega | (simp only [nx] <;> omega) | fail) only [aLoad, ty9, rowOf, hpl, hg, hc, sb, c0, c1, c2, c3, hrow, hrow1, a2, a3, a8, x1, e4, Option.map_some, cond_true, Value.cells] <;> rfl)), trivial⟩ rfl <| .free rfl rfl (so_build (by simp only [aparts, lk] <;> rfl) (by simp only [aBuild, ty36, hg, hc, sb, c0, c1, c2, c3, hrow, hrow1, a2, a3, a8, x1, e4, cond_true, Value.cells, places, tb13] <;> rfl)) rfl <| .call rfl rfl (fcallO (by simp only [aopnds, lk] <;> rfl) en11 (a6)) rfl ⟨.inl rfl, .inl rfl, .inl rfl, .inl rfl, trivial⟩ rfl <| .free rfl rfl (so_bw (zb (hv := bi_neq)) (b' := false) (by first | rfl | assumption | ((simp only [bl, hg, hc, sb, c0, c1, c2, c3, hrow, hrow1, a2, a3, a8, x1, e4, Option.map_some, cond_true, Value.cells, places, tb13]) <;> first | done | assumption | omega) | (simp; done) | (simp; omega))) rfl <| .nil) <| SQ.normal ?_
            refine W.no (by simp only [lk] <;> rfl) <| CWp.skip <| BQ.normal <| SQ.normal ?_
            refine W.reg <| OSuf.aop tyOK rfl sm rfl <| OSuf.aop tyOK rfl (zb (hv := bi_w bi_add (by first | (simp only [v2] <;> rfl) | rfl))) rfl <| OSuf.aop tyOK rfl za rfl <| OSuf.nil <| ?_
            -- leaf: round
            refine LQ.normal (m := q - 1) (L := [(0, .slice (some ⟨r0, 0, none⟩) l.length 0), (6, P0 (h.next + 1)), (7, P0 (h.next + 2)), (8, I64 ((i + 1 : Nat) : Int))]) (by omega) ?_ ⟨i + 1, M', _, _, _, by omega, a7, rfl⟩
            simp only [HasA, Tr.get_put, Nat.reduceEqDiff, reduceIte, v2, and_self]
      · refine W.seq <| W.seq <| W.reg <| OSuf.aop tyOK rfl sm rfl <| OSuf.aop tyOK rfl sm rfl <| OSuf.aop tyOK rfl (so_len (by simp only [aopnds, lk] <;> rfl) (by simp (disch := first | assumption | omega | (simp only [nx] <;> omega) | fail) only [aLenOf, ty51, hpl] <;> rfl)) rfl <| OSuf.aopT tyOK rfl (zb (hv := bi_lss)) (fun _ => rfl) (decide_eq_true hlt) <| OSuf.aopT tyOK rfl sm (fun _ => rfl) rfl <| OSuf.aop tyOK ag sm rfl <| OSuf.aopF tyOK ag (zb (hv := bi_lss)) (fun _ => rfl) (decide_eq_false h8) <| OSuf.aopF tyOK rfl (so_pick (by simp only [lk] <;> rfl) (by simp only [lk, cond_true, cond_false] <;> rfl)) (fun _ => rfl) rfl <| OSuf.nil <| SQ.normal ?_
        refine W.no (by simp only [lk] <;> rfl) <| CWp.exit <| SQ.exit <| LQ.exit <| BQ.exit <| ?_
        -- leaf: cut
        refine NQ.normal (L := [(6, P0 (h.next + 1)), (7, P0 (h.next + 2))]) ?_ ⟨i, M, A, X, v, by omega, B, rfl⟩
        simp only [HasA, Tr.get_put, Nat.reduceEqDiff, reduceIte, and_self]
    · refine W.seq <| W.seq <| W.reg <| OSuf.aop tyOK rfl sm rfl <| OSuf.aop tyOK rfl sm rfl <| OSuf.aop tyOK rfl (so_len (by simp only [aopnds, lk] <;> rfl) (by simp (disch := first | assumption | omega | (simp only [nx] <;> omega) | fail) only [aLenOf, ty51, hpl] <;> rfl)) rfl <| OSuf.aopF tyOK rfl (zb (hv := bi_lss)) (fun _ => rfl) (decide_eq_false hlt) <| OSuf.aopF tyOK rfl sm (fun _ => rfl) rfl <| OSuf.pass ag rfl <| OSuf.pass ag rfl <| OSuf.aopF tyOK rfl (so_pick (by simp only [lk] <;> rfl) (by simp only [lk, cond_true, cond_false] <;> rfl)) (fun _ => rfl) rfl <| OSuf.nil <| SQ.normal ?_
      refine W.no (by simp only [lk] <;> rfl) <| CWp.exit <| SQ.exit <| LQ.exit <| BQ.exit <| ?_
      -- leaf: cut
      refine NQ.normal (L := [(6, P0 (h.next + 1)), (7, P0 (h.next + 2))]) ?_ ⟨i, M, A, X, v, by omega, B, rfl⟩
      simp only [HasA, Tr.get_put, Nat.reduceEqDiff, reduceIte, and_self]
  rintro L a' g ha ⟨i, M, A, X, v, hi, B, rfl⟩
  refine SQ.normal <| CWp.known ha ?_
  simp only [mkA]
  refine W.seq <| W.reg <| OSuf.aop tyOK rfl sm rfl <| OSuf.aop tyOK rfl sm rfl <| OSuf.aop tyOK rfl za rfl <| OSuf.aop tyOK rfl za rfl <| OSuf.nil <| SQ.normal ?_
  refine CWp.ret <| FQ.ret (by simp only [aRet, Tryz.f13, aResults, aResult, lk, Nat.reduceEqDiff, reduceIte] <;> rfl) ?_
  -- leaf: end
  exact ⟨_, _, i, M, A, X, v, hi, rfl, B⟩
end Go.Proofs.YtjenbiohcecfnaaGreat
