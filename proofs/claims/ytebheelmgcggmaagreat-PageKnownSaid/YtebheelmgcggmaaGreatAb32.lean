/-
  Rows that are arrays; writing a row twice.
-/
import Derived.Test.YtebheelmgcggmaaGreatAb31
import Derived.Sort.LotD3
import Derived.Sort.LotA
import Derived.Sort.LotB
import Derived.Sort.LotC
import Derived.Sort.LotD5
namespace Go.Ab
set_option linter.unusedSimpArgs false
set_option linter.unusedVariables false
set_option linter.unusedSectionVars false
theorem AHeap.set_set (h : AHeap) (r : Nat) (x y : AObj) : (h.set r x).set r y = h.set r y := congrArg (AHeap.mk _) (Tr.put_put _ _ _ _)
theorem AHeap.set_self {h : AHeap} {r : Nat} {x : AObj} (hr : h.get r = some x) : h.set r x = h := by
  cases h; exact congrArg (AHeap.mk _) (Tr.put_self hr)
section
variable {P : Program} {T : Tr TI} {h : AHeap} {t : TypeId} {x y : Operand} {k k' : IntKind} {m n : Int}
theorem bi_shl (hn : 0 ≤ n) : aBin P T .shl t x y (.int k m) (.int k' n) = some (.int k (k.wrap (m * 2 ^ (min n.toNat k.bits)))) := by
  have : ¬ n < 0 := by omega
  simp [aBin, flat, flat1, eqGuard, binOp, Op.shift, this, pureRun_pure]
theorem bi_shr (hn : 0 ≤ n) : aBin P T .shr t x y (.int k m) (.int k' n) = some (.int k (m.fdiv (2 ^ (min n.toNat k.bits)))) := by
  have : ¬ n < 0 := by omega
  simp [aBin, flat, flat1, eqGuard, binOp, Op.shift, this, pureRun_pure]
theorem bi_and : aBin P T .and t x y (.int k m) (.int k n) = some (.int k (k.wrap ((BitVec.ofInt k.bits m &&& BitVec.ofInt k.bits n).toNat : Nat))) := by simp [aBin, flat, flat1, eqGuard, binOp, Op.intBits, pureRun_pure]
theorem bi_xor : aBin P T .xor t x y (.int k m) (.int k n) = some (.int k (k.wrap ((BitVec.ofInt k.bits m ^^^ BitVec.ofInt k.bits n).toNat : Nat))) := by simp [aBin, flat, flat1, eqGuard, binOp, Op.intBits, pureRun_pure]
theorem wrap_u64_range (n : Int) : 0 ≤ IntKind.u64.wrap n ∧ IntKind.u64.wrap n < 18446744073709551616 := by
  simp only [IntKind.wrap, IntKind.bits, IntKind.signed]
  simp
  omega
theorem FWp.gcE {f : FuncId} {args : List Value} {K0 K : Value → AHeap → Prop} (hf : FWp P f args h K0)
    (hk : ∀ u h', K0 u h' → BV h.next u ∧ ∃ H : AHeap, H.next = h.next ∧ (∀ r o, H.get r = some o → (h.get r = some o ∧ (r < h.next → h'.get r = some o)) ∨ (r < h.next ∧ h'.get r = some o ∧ BO h.next o)) ∧ K u H) : FWp P f args h K := by
  intro μ args' w hl st
  refine (hf μ args' w hl st).mono ?_
  rintro e w' ⟨u, v', h', μ', rfl, hg, x, hr⟩
  obtain ⟨hb, H, hn, hget, hK⟩ := hk u h' hg
  have hget' : ∀ r o, H.get r = some o → r < h.next ∧ h'.get r = some o ∧ (h.get r = some o ∨ BO h.next o) := by
    intro r o hr
    rcases hget r o hr with ⟨h1, h2⟩ | ⟨h1, h2, h3⟩
    · have := (st.live r o h1).1; exact ⟨this, h2 this, .inl h1⟩
    · exact ⟨h1, h2, .inr h3⟩
  refine ⟨u, v', H, μ, rfl, hK, Ext.old st x hn hget', ?_⟩
  obtain ⟨_, _, g⟩ := hb
  exact VRel.mono (n := h.next) (fun q hq => (x.agree q hq).symm) (by omega) (g.narrow hr)
theorem FWp.gcNew {f : FuncId} {args : List Value} {n : Nat} {o : AObj} (hb : BO h.next o)
    (hf : FWp P f args h fun u h' => ∃ x, u = .slice (some ⟨x, 0, none⟩) n 0 ∧ h.next ≤ x ∧ h'.get x = some o ∧ ∀ r p, r < h.next → h.get r = some p → h'.get r = some p) : FWp P f args h fun u h' => u = .slice (some ⟨h.next, 0, none⟩) n 0 ∧ h' = h.new o := by
  intro μ args' w hl st
  refine (hf μ args' w hl st).mono ?_
  rintro e w' ⟨u, v', h', μ', rfl, ⟨x, rfl, hx, hg, hk⟩, ex, hr⟩
  obtain ⟨en, h1, h2⟩ := Ext.newOne st ex rfl (fun r o ho => ⟨(st.live r o ho).1, hk r o (st.live r o ho).1 ho, .inl ho⟩) hg hx hb
  refine ⟨_, v', _, _, rfl, ⟨rfl, rfl⟩, h2, ?_⟩
  cases hr with
  | sliceU hlt hm hl hc => rw [h1] at hm; cases hm; exact .sliceU (by simp) (Emb.upd_same _ _ _) hl hc
  | sliceZ hlt hm => rw [h1] at hm; cases hm; exact .sliceZ (by simp) (Emb.upd_same _ _ _)
theorem en_ok {r m since stamp clock : Nat} {seen : Array Nat} {es : List AEnt} {e : AEnt} (hr : h.get r = some (.mapIter (some m) since (seen.push stamp) clock)) (hm : h.get m = some (.map es clock)) (hf : es.find? (fun e => e.born == stamp) = some e) : aEntry (.pointer (some ⟨r, 0, none⟩)) h = some (.tuple #[e.key, e.val]) := by
  have hb : (seen.push stamp).back? = some stamp := by simp
  simp only [aEntry, hr, hm, hb, Nat.beq_refl, cond_true, hf]
theorem ix_str {s : ByteArray} {i : Nat} {b : UInt8} {ti : TI} (ht : T.get t = some ti) (hu : ti.und = .string) (hb : s.data.toList[i]? = some b) : aIndex T t (.string s) (.int k i) = some (.int .u8 b.toNat) := by
  have h0 : (0 : Int) ≤ (i : Int) := by omega
  simp only [aIndex, ht, hu, h0, if_true, Int.toNat_natCast, hb, Option.map_some]
end
section
variable {α : Type} [Inhabited α] (enc : α → Value)
theorem arr_get {d : Array α} {i : Nat} (hi : i < d.size) : (d.toList.map enc)[i]? = some (enc d[i]!) := by
  simp [hi]
theorem arr_set {d : Array α} {i : Nat} (x : α) (hi : i < d.size) : splice (d.toList.map enc) i [enc x] = (d.setIfInBounds i x).toList.map enc := by
  have : ∀ (vs : List Value) (i : Nat) (x : Value), i < vs.length → splice vs i [x] = vs.set i x := by
    intro vs
    induction vs with
    | nil => intro i x h; simp at h
    | cons v vs ih =>
      intro i x h
      cases i with
      | zero => cases vs <;> rfl
      | succ i => simp only [splice, List.set_cons_succ]; rw [ih i x (by simpa using h)]
  rw [this _ _ _ (by simpa using hi)]
  simp [List.map_set]
theorem arr_ble {d : Array α} {i : Nat} (hi : i < d.size) : Nat.ble (i + 1) (d.toList.map enc).length = true := Nat.ble_eq_true_of_le (by simp; omega)
end
end Go.Ab
