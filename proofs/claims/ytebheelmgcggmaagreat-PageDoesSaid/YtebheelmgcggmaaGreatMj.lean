/-
  Merged: PgX, PgY, PgZ.
-/
import Derived.Test.YtebheelmgcggmaaGreatMb
import Derived.Test.YtebheelmgcggmaaGreatMe
import Derived.Test.YtebheelmgcggmaaGreatMf
set_option linter.unusedSimpArgs false
set_option linter.unusedVariables false
set_option maxRecDepth 10000
set_option maxHeartbeats 8000000
namespace Go.Proofs.YtebheelmgcggmaaGreat
open Go.Ab Go.Sort
def partM (p : Lf) (lo hi : List UInt8) : Lf := { p with low := lo, high := hi, base := p.base.filter fun r => insR lo hi r.key, deltas := p.deltas.filter fun r => insR lo hi r.key }
def joinOK (a b : Lf) : Bool := chk a && (chk b && decide (a.high ≠ [] ∧ a.high = b.low ∧ a.full = b.full))
def joinD (a b : Lf) (ds : List Rec) : Lf := ⟨a.low, b.high, a.full, a.base ++ b.base, ds⟩
namespace PInv
variable {p : Lf} {U C : List Rec}
end PInv
end Go.Proofs.YtebheelmgcggmaaGreat
namespace Go.Proofs.YtebheelmgcggmaaGreat
open Go.Ab Go.Sort
section
variable {P : Program} {T : Tr TI} {ρ : Operand → Option Value} {h : AHeap} {dst : Option Tmp} {ty : TypeId} {pos : String} {af : Array Edge} {g : Option (Nat × Bool)} {xs : Array Operand} {ats : Array TypeId} {u v : Value}
end
abbrev zcs : List Value := [.string ⟨#[]⟩, .int .u64 0, .bool false, .string ⟨#[]⟩]
theorem ap_none {h : AHeap} {ats : Array TypeId} {A : AppT} {s x : Value} (ha : appT T ats = some A) (hl : aLen x = some 0) (hx : aCells h A.size 0 x = some []) (hs : s = .slice none 0 0 ∨ ∃ r off len, s = .slice (some ⟨r, off, none⟩) len 0) (hb : (2 * (vLen s + 0) + 256) * A.bytes ≤ 281474976710656) : aAppend T ats s x h = some (s, h) := by
  rcases hs with rfl | ⟨r, off, len, rfl⟩ <;> simp only [aAppend, ha, hl, hx, Nat.ble_eq_true_of_le hb, cond_true] <;> rfl
theorem RS.cells {h : AHeap} {l : List Rec} {b : Option Addr} {n c : Nat} (s : RS h l (.slice b n c)) {g : AHeap} (hk : ∀ z, z < h.next → g.get z = h.get z) : aCells g 4 l.length (.slice b n c) = some (fl l) := by
  obtain ⟨b', c', e, hr⟩ := s.ex
  cases e
  rcases hr with ⟨rfl, hn, rfl⟩ | ⟨r, off, rfl, hr⟩
  · have : l = [] := List.length_eq_zero_iff.1 hn
    subst this; rfl
  · by_cases h0 : l.length = 0
    · have : l = [] := List.length_eq_zero_iff.1 h0
      subst this; rfl
    · obtain ⟨hr1, vs, hr2, hr3⟩ := hr h0
      have e0 : Nat.beq (l.length * 4) 0 = false := by
        cases e : Nat.beq (l.length * 4) 0 with
        | false => rfl
        | true => have := Nat.eq_of_beq_eq_true e; omega
      have e2 : rowOf g r = some vs := by rw [rowOf_eq (hk r hr1)]; exact hr2
      simp only [aCells, e0, cond_false, Nat.ble_eq_true_of_le (Nat.le_refl l.length), cond_true, e2, hr3]
theorem fl_ones : ∀ l : List Rec, oneCells (fl l) = true
  | [] => rfl
  | x :: l => by
    have := fl_ones l
    rw [fl_cons]
    simp only [oneCells, List.all_append, Bool.and_eq_true] at this ⊢
    exact ⟨fl_one' x, this⟩
where fl_one' (x : Rec) : x.cs.all Value.oneCell' = true := rfl
end Go.Proofs.YtebheelmgcggmaaGreat
namespace Go.Proofs.YtebheelmgcggmaaGreat
open Go.Ab Go.Sort
theorem gcD {f : FuncId} {args : List Value} {h : AHeap} {l : List Rec} {r lo : Nat} {K0 : Value → AHeap → Prop} (hr : r < h.next) (hf : FWp Tryz.prog f args h K0)
    (hk : ∀ u h', K0 u h' → ∃ x, FS h' lo l false u x ∧ (∀ q, x = some q → q = r) ∧ ∀ z, z < h.next → ¬ z = r → h'.get z = h.get z) :
    FWp Tryz.prog f args h fun u g => u = cval false r l ∧ g = h.set r (.cells (fl l) 4) := by
  intro μ args' w hl st
  refine (hf μ args' w hl st).mono ?_
  rintro e w' ⟨u, v', h', μ', rfl, hK, ex, hv⟩
  obtain ⟨x, s, hx, hold⟩ := hk u h' hK
  have s' := s
  cases s with
  | @some r' n c rest hn h1 h2 h3 h4 =>
    obtain rfl := hx r' rfl
    refine ⟨_, v', h.set r' (.cells (fl l) 4), μ', rfl, ⟨rfl, rfl⟩, Ext.rename (μ' := μ') ex (fun r => r) (Nat.le_refl _) (fun _ _ => rfl) (fun q o ho => ?_) (fun _ _ _ _ _ _ h => h), ?_⟩
    · by_cases hq : q = r'
      · subst hq
        rw [AHeap.get_set_same] at ho; cases ho
        exact ⟨hr, .cells (fl l ++ rest) 4, h3, rfl, fun e c g => bo_fl _ _ g⟩
      · rw [zS xA] at ho
        obtain ⟨k1, e0, c0, i1, i2, i3⟩ := st.live q o ho
        exact ⟨k1, o, by rw [hold q k1 hq]; exact ho, rfl, fun e c g => (g.narrow i3.below).mono (fun _ _ => rfl) (Nat.le_refl _)⟩
    · exact vr_cval (ρ := fun r => r) s' hr (fun q hq => (hx q hq).symm) hv
theorem del_x (h : AHeap) (lo : Nat) (l : List Rec) (v fv : Value) (P : Rec → Bool) (s : OS h lo l v) (hl : l.length ≤ 1000000)
    (ask : ∀ x, x ∈ l → ∀ g, h.next ≤ g.next → (∀ z, z < h.next → (∀ n c, v ≠ .slice (some ⟨z, 0, none⟩) n c) → g.get z = h.get z) → VWp Tryz.prog fv [x.V] g fun u g' => u = .bool (P x) ∧ g' = g) :
    ∃ v' H x, FWp Tryz.prog 53 [v, fv] h (fun u g => u = v' ∧ g = H) ∧ FS H lo (l.filter fun x => !P x) (nilV v) v' x ∧ (∀ r, x = some r → ∃ n c, v = .slice (some ⟨r, 0, none⟩) n c) ∧ H.next = h.next ∧ ∀ z, (∀ n c, v ≠ .slice (some ⟨z, 0, none⟩) n c) → H.get z = h.get z := by
  have hd := del_os h lo l v fv P (fun pre g => h.next ≤ g.next ∧ ∀ z, z < h.next → (∀ n c, v ≠ .slice (some ⟨z, 0, none⟩) n c) → g.get z = h.get z) s hl ⟨Nat.le_refl _, fun _ _ _ => rfl⟩
    (fun r n c er pre g o hJ => ⟨hJ.1, fun z hz hv => by
      have : ¬ r = z := fun e => hv n c (by rw [← e]; exact er)
      rw [zS xA]; exact hJ.2 z hz hv⟩)
    (fun pre g o hJ => ⟨by have := hJ.1; simp; omega, fun z hz hv => by have := hJ.1; rw [zN xA]; exact hJ.2 z hz hv⟩)
    (fun pre g hJ => hJ.1)
    (fun pre x post hp g hJ => (ask x (by rw [← hp]; simp) g hJ.1 hJ.2).mono fun u g' ⟨e1, e2⟩ => by subst e2; exact ⟨e1, hJ, fun _ _ _ => rfl⟩)
  have fin : ∀ r n c, v = .slice (some ⟨r, 0, none⟩) n c → lo ≤ r → r < h.next → nilV v = false → ∃ v' H x, FWp Tryz.prog 53 [v, fv] h (fun u g => u = v' ∧ g = H) ∧ FS H lo (l.filter fun x => !P x) (nilV v) v' x ∧ (∀ r, x = some r → ∃ n c, v = .slice (some ⟨r, 0, none⟩) n c) ∧ H.next = h.next ∧ ∀ z, (∀ n c, v ≠ .slice (some ⟨z, 0, none⟩) n c) → H.get z = h.get z := by
    intro r n c er h1 h2 hnv
    rw [hnv] at hd ⊢
    refine ⟨cval false r (l.filter fun x => !P x), h.set r (.cells (fl (l.filter fun x => !P x)) 4), some r, gcD (lo := lo) h2 hd (fun u g hK => ?_), ?_, fun q hq => by cases hq; exact ⟨n, c, er⟩, rfl, fun z hz => ?_⟩
    · obtain ⟨⟨j1, j2⟩, x, fs, gx⟩ := hK
      refine ⟨x, fs, fun q hq => ?_, fun z hz hne => j2 z hz (fun n' c' e => ?_)⟩
      · obtain ⟨n', c', e⟩ := gx q hq
        rw [er] at e; cases e; rfl
      · rw [er] at e; cases e; exact hne rfl
    · exact .some rfl h1 h2 (by rw [AHeap.get_set_same, List.append_nil]) (.inl rfl)
    · have : ¬ r = z := fun e => hz n c (by rw [← e]; exact er)
      rw [zS xA]
  cases s with
  | nil e =>
    subst e
    refine ⟨.slice none 0 0, h, none, FWp.gcs ⟨fun _ => none, _, .slice0⟩ (hd.mono fun u g hK => ?_), .nil rfl, fun r hr => (by cases hr), rfl, fun _ _ => rfl⟩
    obtain ⟨⟨j1, j2⟩, x, fs, gx⟩ := hK
    refine ⟨?_, fun r o hr ho => by rw [j2 r hr (fun n c e => by cases e)]; exact ho⟩
    cases fs with
    | nil _ => rfl
  | @emp r e h1 h2 h3 => exact fin r _ _ rfl h1 h2 rfl
  | @some r n e hn h1 h2 h3 => exact fin r _ _ rfl h1 h2 rfl
end Go.Proofs.YtebheelmgcggmaaGreat
