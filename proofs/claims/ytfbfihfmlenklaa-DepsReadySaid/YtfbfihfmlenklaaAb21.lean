/-
  A call's own rubbish is dropped from the view; what it hands back gets the next number.
-/
import Derived.Test.YtfbfihfmlenklaaAb20
namespace Go.Ab
set_option linter.unusedSimpArgs false
set_option linter.unusedVariables false

mutual
/-- A value whose rows are numbers below n stands for what it stands for, with no number beyond. -/
theorem VRel.narrow {μ₀ μ : Emb} {n m : Nat} : ∀ {v x y : Value}, VRel μ₀ n v x → VRel μ m v y → VRel μ n v y
  | _, _, _, .bool b, .bool _ => .bool b
  | _, _, _, .int k i, .int _ _ => .int k i
  | _, _, _, .float k x, .float _ _ => .float k x
  | _, _, _, .complex k x y, .complex _ _ _ => .complex k x y
  | _, _, _, .string s, .string _ => .string s
  | _, _, _, .ptr0, .ptr0 => .ptr0
  | _, _, _, .ptr hr _, .ptr _ hm => .ptr hr hm
  | _, _, _, .slice0, .slice0 => .slice0
  | _, _, _, .sliceK hr _, .sliceK _ hm => .sliceK hr hm
  | _, _, _, .sliceK hr _, .sliceKZ _ hm => .sliceKZ hr hm
  | _, _, _, .sliceU hr _ _ _, .sliceU _ hm a b => .sliceU hr hm a b
  | _, _, _, .sliceU hr _ _ _, .sliceZ _ hm => .sliceZ hr hm
  | _, _, _, .sliceZ hr _, .sliceU _ hm a b => .sliceU hr hm a b
  | _, _, _, .sliceZ hr _, .sliceZ _ hm => .sliceZ hr hm
  | _, _, _, .sliceKZ hr _, .sliceK _ hm => .sliceK hr hm
  | _, _, _, .sliceKZ hr _, .sliceKZ _ hm => .sliceKZ hr hm
  | _, _, _, .map0, .map0 => .map0
  | _, _, _, .map hr _, .map _ hm => .map hr hm
  | _, _, _, .func hf h1 h2, .func hf' g1 g2 => .func hf (LRel.narrow h1 g1) (LRel.narrow h2 g2)
  | _, _, _, .func hf _ _, .yield _ _ => absurd rfl (hf _)
  | _, _, _, .yield _ _, .func hf _ _ => absurd rfl (hf _)
  | _, _, _, .yield hr _, .yield _ hm => .yield hr hm
  | _, _, _, .nilFunc, .nilFunc => .nilFunc
  | _, _, _, .iface h, .iface g => .iface (VRel.narrow h g)
  | _, _, _, .nilIface, .nilIface => .nilIface
  | _, _, _, .agg h, .agg g => .agg (LRel.narrow h g)
  | _, _, _, .tuple h, .tuple g => .tuple (LRel.narrow h g)
theorem LRel.narrow {μ₀ μ : Emb} {n m : Nat} : ∀ {v x y : List Value}, LRel μ₀ n v x → LRel μ m v y → LRel μ n v y
  | _, _, _, .nil, .nil => .nil
  | _, _, _, .cons h t, .cons g s => .cons (VRel.narrow h g) (LRel.narrow t s)
end

/-- All rows of a value are numbers below n. -/
def BV (n : Nat) (v : Value) : Prop := ∃ μ x, VRel μ n v x
theorem BV.flat {n : Nat} {v : Value} (h : Ab.flat v = true) : BV n v := ⟨fun _ => none, v, .of_flat _ _ h⟩

/-- All rows of a row's contents are numbers below n. -/
def BO (n : Nat) : AObj → Prop
  | .cells vs _ => ∀ v ∈ vs, BV n v
  | .ro vs => ∀ v ∈ vs, BV n v
  | .map es _ => ∀ e ∈ es, BV n e.val
  | .mapIter m _ _ _ => ∀ r, m = some r → r < n
  | .strIter _ _ => True
  | .loop l => ∀ t v, l.tmps.get t = some v → BV n v

theorem ActRel.narrow {μ : Emb} {n m : Nat} {a : Tr Value} {tmps : Array Value} (hb : ∀ t v, a.get t = some v → BV n v) (h : ActRel μ m a tmps) : ActRel μ n a tmps := fun t v hv =>
  let ⟨v', h1, h2⟩ := h t v hv
  let ⟨_, _, h3⟩ := hb t v hv
  ⟨v', h1, h3.narrow h2⟩
theorem EsRel.narrow {μ : Emb} {n m : Nat} : ∀ {l : List AEnt} {l' : List MapEntry}, (∀ e ∈ l, BV n e.val) → EsRel μ m l l' → EsRel μ n l l'
  | _, _, _, .nil => .nil
  | _, _, hb, .cons h t => .cons ⟨h.key, h.kflat, let ⟨_, _, g⟩ := hb _ List.mem_cons_self; g.narrow h.val, h.born⟩ (t.narrow fun e he => hb e (List.mem_cons_of_mem _ he))
theorem ORel.narrow {μ : Emb} {n m : Nat} {e : Ent} {c : Obj} {o : AObj} (hb : BO n o) (h : ORel μ m e c o) : ORel μ n e c o := by
  cases o with
  | cells vs sz =>
    obtain ⟨h1, cs, t, fz, h2, h3, h4, h5, h6⟩ := h
    refine ⟨h1, cs, t, fz, h2, h3, h4, h5, fun i v hv => ?_⟩
    obtain ⟨v', g1, g2⟩ := h6 i v hv
    obtain ⟨_, _, g3⟩ := hb v (List.mem_of_getElem? hv)
    exact ⟨v', g1, g3.narrow g2⟩
  | ro vs =>
    obtain ⟨cs, t, fz, h2, h6⟩ := h
    refine ⟨cs, t, fz, h2, fun i v hv => ?_⟩
    obtain ⟨v', g1, g2⟩ := h6 i v hv
    obtain ⟨_, _, g3⟩ := hb v (List.mem_of_getElem? hv)
    exact ⟨v', g1, g3.narrow g2⟩
  | map es clock => obtain ⟨h0, ms, h1, h2⟩ := h; exact ⟨h0, ms, h1, h2.narrow hb⟩
  | mapIter mm since seen stepped =>
    obtain ⟨h0, m', h1, h2⟩ := h
    refine ⟨h0, m', h1, ?_⟩
    cases mm <;> cases m' <;> first | exact h2 | skip
    obtain ⟨a, f, b, c⟩ := h2
    exact ⟨hb _ rfl, f, b, c⟩
  | strIter s pos => exact h
  | loop l =>
    obtain ⟨h0, r, h1, h2, h3, h4, h7, h5, h6⟩ := h
    exact ⟨h0, r, h1, h2, h3, h4, h7, h5.narrow hb, h6⟩
theorem ORel.below {μ : Emb} {n : Nat} {e : Ent} {c : Obj} {o : AObj} (h : ORel μ n e c o) : BO n o := by
  cases o with
  | cells vs sz =>
    obtain ⟨h1, cs, t, fz, h2, h3, h4, h5, h6⟩ := h
    intro v hv
    obtain ⟨i, hi⟩ := List.getElem?_of_mem hv
    obtain ⟨v', _, g⟩ := h6 i v hi
    exact ⟨μ, v', g⟩
  | ro vs =>
    obtain ⟨cs, t, fz, h2, h6⟩ := h
    intro v hv
    obtain ⟨i, hi⟩ := List.getElem?_of_mem hv
    obtain ⟨v', _, g⟩ := h6 i v hi
    exact ⟨μ, v', g⟩
  | map es clock =>
    obtain ⟨h0, ms, h1, h2⟩ := h
    intro e he
    obtain ⟨i, hi⟩ := List.getElem?_of_mem he
    obtain ⟨m, _, g⟩ := h2.getElem? i hi
    exact ⟨μ, _, g.val⟩
  | mapIter mm since seen stepped =>
    obtain ⟨h0, m', h1, h2⟩ := h
    intro r hr
    subst hr
    cases m' with
    | none => exact h2.elim
    | some b => exact h2.1
  | strIter s pos => trivial
  | loop l =>
    obtain ⟨h0, r, h1, h2, h3, h4, h7, h5, h6⟩ := h
    intro t v hv
    obtain ⟨v', _, g⟩ := h5 t v hv
    exact ⟨μ, v', g⟩

/-- Another view of what a step came to: the old rows that are kept (as they are now), no new ones. -/
theorem Ext.old {μ μ' : Emb} {h h' H : AHeap} {w w' : World} (st : StRel μ h w) (x : Ext μ h w μ' h' w') (hn : H.next = h.next) (hget : ∀ r o, H.get r = some o → r < h.next ∧ h'.get r = some o ∧ (h.get r = some o ∨ BO h.next o)) : Ext μ h w μ H w' := by
  have hl : ∀ r o, H.get r = some o → ∃ e c, μ r = some e ∧ μ' r = some e ∧ w'.heap[e.b]? = some c ∧ ORel μ h.next e c o := by
    intro r o hr
    obtain ⟨h1, h2, h3⟩ := hget r o hr
    obtain ⟨_, e, c, g1, g2, g3⟩ := x.st.live r o h2
    have hb : BO h.next o := by
      rcases h3 with h3 | h3
      · obtain ⟨_, e0, c0, k1, k2, k3⟩ := st.live r o h3; exact k3.below
      · exact h3
    refine ⟨e, c, by rw [← x.agree r h1]; exact g1, g1, g2, ?_⟩
    exact (g3.narrow hb).mono (fun q hq => (x.agree q hq).symm) (Nat.le_refl _)
  refine ⟨by omega, Agree.refl _ _, x.size, x.os, x.output, fun b hb hf => ?_, ⟨fun r o hr => ?_, fun r q o p e f hr ho hq hm hn' hbb => ?_⟩⟩
  · obtain ⟨y1, y2⟩ := x.frame b hb hf
    refine ⟨y1, fun r o e hr ho hm => ?_⟩
    obtain ⟨h1, h2, _⟩ := hget r o hr
    exact y2 r o e h2 ho (by rw [x.agree r h1]; exact hm)
  · obtain ⟨e, c, g1, _, g2, g3⟩ := hl r o hr
    exact ⟨by rw [hn]; exact (hget r o hr).1, e, c, g1, g2, by rw [hn]; exact g3⟩
  · obtain ⟨h1, h2, _⟩ := hget r o hr
    obtain ⟨h3, h4, _⟩ := hget q p hq
    exact x.st.apart r q o p e f h2 ho h4 (by rw [x.agree r h1]; exact hm) (by rw [x.agree q h3]; exact hn') hbb

/-- The same, and one new row, under the next number. -/
theorem Ext.newOne {μ μ' : Emb} {h h' H : AHeap} {w w' : World} (st : StRel μ h w) (x : Ext μ h w μ' h' w') (hn : H.next = h.next) (hget : ∀ r o, H.get r = some o → r < h.next ∧ h'.get r = some o ∧ (h.get r = some o ∨ BO h.next o))
    {r2 : Nat} {o2 : AObj} (hr2 : h'.get r2 = some o2) (hge : h.next ≤ r2) (hb2 : BO h.next o2) : ∃ e, μ' r2 = some e ∧ Ext μ h w (μ.upd h.next e) (H.new o2) w' := by
  have x0 := Ext.old st x hn hget
  obtain ⟨_, e, c, g1, g2, g3⟩ := x.st.live r2 o2 hr2
  refine ⟨e, g1, ?_⟩
  have hag : Agree h.next μ (μ.upd h.next e) := Agree.upd μ e (Nat.le_refl _)
  have ho2 : ORel (μ.upd h.next e) (h.next + 1) e c o2 := ((g3.narrow hb2).mono (fun q hq => by rw [Emb.upd_ne _ _ (by omega)]; exact (x.agree q hq).symm) (by omega))
  have gN : ∀ q, (H.new o2).get q = if h.next = q then some o2 else H.get q := fun q => by rw [AHeap.get_new, hn]
  refine ⟨by simp; omega, hag, x.size, x.os, x.output, fun b hb hf => ⟨(x0.frame b hb hf).1, ?_⟩, ⟨?_, ?_⟩⟩
  · intro q o f hq ho hm
    rw [gN] at hq
    split at hq
    · rename_i e1; subst e1; cases hq; rw [Emb.upd_same] at hm; cases hm
      exact (x.frame b hb hf).2 r2 o2 e hr2 ho g1
    · rename_i e1
      rw [Emb.upd_ne _ _ (Ne.symm e1)] at hm
      exact (x0.frame b hb hf).2 q o f hq ho hm
  · intro q o hq
    rw [gN] at hq
    split at hq
    · rename_i e1; subst e1; cases hq
      exact ⟨by simp; omega, e, c, Emb.upd_same _ _ _, g2, by simp only [AHeap.next_new, hn]; exact ho2⟩
    · rename_i e1
      obtain ⟨k1, f, c', k2, k3, k4⟩ := x0.st.live q o hq
      exact ⟨by simp; omega, f, c', by rw [Emb.upd_ne _ _ (Ne.symm e1)]; exact k2, k3, k4.mono (by rw [hn]; exact hag) (by simp)⟩
  · intro q s o p f g hq ho hs hm hg' hbb
    rw [gN] at hq hs
    have hold : ∀ {q o}, H.get q = some o → ∀ {f}, (μ.upd h.next e) q = some f → μ q = some f ∧ μ' q = some f ∧ h'.get q = some o ∧ q < h.next := by
      intro q o hq f hm
      obtain ⟨h1, h2, _⟩ := hget q o hq
      rw [Emb.upd_ne _ _ (by omega)] at hm
      exact ⟨hm, by rw [x.agree q h1]; exact hm, h2, h1⟩
    split at hq <;> split at hs
    · omega
    · rename_i e1 e2
      subst e1; cases hq; rw [Emb.upd_same] at hm; cases hm
      obtain ⟨_, k2, k3, k4⟩ := hold hs hg'
      have := x.st.apart r2 s o2 p e g hr2 ho k3 g1 k2 hbb
      omega
    · rename_i e1 e2
      subst e2; cases hs; rw [Emb.upd_same] at hg'; cases hg'
      obtain ⟨_, k2, k3, k4⟩ := hold hq hm
      have := x.st.apart q r2 o o2 f e k3 ho hr2 k2 g1 hbb
      omega
    · obtain ⟨k1, _, _, _⟩ := hold hq hm
      obtain ⟨k2, _, _, _⟩ := hold hs hg'
      exact x0.st.apart q s o p f g hq ho hs k1 k2 hbb

/-- A call whose own rubbish is dropped. -/
theorem FWp.gc {P : Program} {f : FuncId} {args : List Value} {h H : AHeap} {v : Value} (hn : H.next = h.next) (hv : BV h.next v)
    (hf : FWp P f args h fun u h' => u = v ∧ ∀ r o, H.get r = some o → r < h.next ∧ h'.get r = some o ∧ (h.get r = some o ∨ BO h.next o)) : FWp P f args h fun u h' => u = v ∧ h' = H := by
  intro μ args' w hl st
  refine (hf μ args' w hl st).mono ?_
  rintro e w' ⟨u, v', h', μ', rfl, ⟨rfl, hg⟩, x, hr⟩
  refine ⟨u, v', H, μ, rfl, ⟨rfl, rfl⟩, Ext.old st x hn hg, ?_⟩
  obtain ⟨_, _, g⟩ := hv
  exact VRel.mono (n := h.next) (fun q hq => (x.agree q hq).symm) (by omega) (g.narrow hr)

end Go.Ab
