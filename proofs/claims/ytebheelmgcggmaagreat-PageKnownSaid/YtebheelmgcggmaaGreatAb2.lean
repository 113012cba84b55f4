/-
  A world that an abstract heap is a view of; what a step may change (Ext); the steps of memory: a new row, a row that is written, one that grows in its place.
-/
import Derived.Test.YtebheelmgcggmaaGreatAb1
namespace Go.Ab
set_option linter.unusedSimpArgs false
set_option linter.unusedVariables false
noncomputable def Emb.upd (μ : Emb) (r : Nat) (e : Ent) : Emb := fun q => if q = r then some e else μ q
theorem Emb.upd_same (μ : Emb) (r : Nat) (e : Ent) : μ.upd r e r = some e := by simp [Emb.upd]
theorem Emb.upd_ne (μ : Emb) {r q : Nat} (e : Ent) (h : q ≠ r) : μ.upd r e q = μ q := by simp [Emb.upd, h]
theorem Agree.upd (μ : Emb) {n r : Nat} (e : Ent) (h : n ≤ r) : Agree n μ (μ.upd r e) := fun _ hq => Emb.upd_ne μ e (by omega)
noncomputable def ActRel (μ : Emb) (n : Nat) (a : Tr Value) (tmps : Array Value) : Prop :=
  ∀ (t : Nat) (v : Value), a.get t = some v → ∃ v', tmps[t]? = some v' ∧ VRel μ n v v'
theorem ActRel.mono {μ μ' : Emb} {n m : Nat} {a : Tr Value} {tmps : Array Value} (h : ActRel μ n a tmps) (ha : Agree n μ μ') (hn : n ≤ m) : ActRel μ' m a tmps :=
  fun t v hv => let ⟨v', h1, h2⟩ := h t v hv; ⟨v', h1, h2.mono ha hn⟩
structure ERel (μ : Emb) (n : Nat) (e : AEnt) (m : MapEntry) : Prop where
  key : m.key = e.key
  kflat : flat e.key = true
  val : VRel μ n e.val m.val
  born : m.born = e.born
theorem ERel.mono {μ μ' : Emb} {n m : Nat} {e : AEnt} {x : MapEntry} (h : ERel μ n e x) (ha : Agree n μ μ') (hn : n ≤ m) : ERel μ' m e x :=
  ⟨h.key, h.kflat, h.val.mono ha hn, h.born⟩
inductive EsRel (μ : Emb) (n : Nat) : List AEnt → List MapEntry → Prop
  | nil : EsRel μ n [] []
  | cons {e : AEnt} {m : MapEntry} {l : List AEnt} {l' : List MapEntry} (h : ERel μ n e m) (t : EsRel μ n l l') : EsRel μ n (e :: l) (m :: l')
theorem EsRel.mono {μ μ' : Emb} {n m : Nat} (ha : Agree n μ μ') (hn : n ≤ m) : ∀ {l : List AEnt} {l' : List MapEntry}, EsRel μ n l l' → EsRel μ' m l l'
  | _, _, .nil => .nil
  | _, _, .cons h t => .cons (h.mono ha hn) (t.mono ha hn)
theorem EsRel.length {μ : Emb} {n : Nat} : ∀ {l : List AEnt} {l' : List MapEntry}, EsRel μ n l l' → l'.length = l.length
  | _, _, .nil => rfl
  | _, _, .cons _ t => by simp [t.length]
noncomputable def CellsAt (μ : Emb) (n : Nat) (e : Ent) (c : Obj) (vs : List Value) : Prop :=
  ∃ cs t fz, c = .cells cs t fz ∧ vs.length ≤ e.ext ∧ e.d + e.ext ≤ cs.size ∧ (∀ i, i < e.ext → ¬ (fz.1 ≤ e.d + i ∧ e.d + i < fz.2)) ∧
    ∀ (i : Nat) (v : Value), vs[i]? = some v → ∃ v', cs[e.d + i]? = some v' ∧ VRel μ n v v'
noncomputable def ORel (μ : Emb) (n : Nat) (e : Ent) (c : Obj) : AObj → Prop
  | .cells vs sz => e.sz = sz ∧ CellsAt μ n e c vs
  | .ro vs => ∃ cs t fz, c = .cells cs t fz ∧ ∀ (i : Nat) (v : Value), vs[i]? = some v → ∃ v', cs[e.d + i]? = some v' ∧ VRel μ n v v'
  | .map es clock => e.d = 0 ∧ ∃ ms, c = .map ms clock ∧ EsRel μ n es ms.toList
  | .mapIter m since seen stepped => e.d = 0 ∧ ∃ m', c = .mapIter m' since seen stepped ∧ (match m, m' with
      | none, none => True
      | some r, some b => r < n ∧ ∃ f, μ r = some f ∧ f.b = b
      | _, _ => False)
  | .strIter s pos => e.d = 0 ∧ c = .stringIter s pos
  | .loop l => e.d = 0 ∧ ∃ r, c = .loop r ∧ r.state = l.state ∧ r.pending = l.pending ∧ r.fn = l.fn ∧ r.tmps.size = l.nt ∧ ActRel μ n l.tmps r.tmps ∧ r.params = l.params ∧ r.assign = l.assign ∧ r.body = l.body
theorem CellsAt.mono {μ μ' : Emb} {n m : Nat} {e : Ent} {c : Obj} {vs : List Value} (h : CellsAt μ n e c vs) (ha : Agree n μ μ') (hn : n ≤ m) : CellsAt μ' m e c vs := by
  obtain ⟨cs, t, fz, h1, h2, h3, h4, h5⟩ := h
  exact ⟨cs, t, fz, h1, h2, h3, h4, fun i v hv => let ⟨v', a, b⟩ := h5 i v hv; ⟨v', a, b.mono ha hn⟩⟩
theorem ORel.mono {μ μ' : Emb} {n m : Nat} {e : Ent} {c : Obj} {o : AObj} (h : ORel μ n e c o) (ha : Agree n μ μ') (hn : n ≤ m) : ORel μ' m e c o := by
  cases o with
  | cells vs sz => exact ⟨h.1, h.2.mono ha hn⟩
  | ro vs =>
    obtain ⟨cs, t, fz, h1, h5⟩ := h
    exact ⟨cs, t, fz, h1, fun i v hv => let ⟨v', a, b⟩ := h5 i v hv; ⟨v', a, b.mono ha hn⟩⟩
  | map es clock => obtain ⟨h0, ms, h1, h2⟩ := h; exact ⟨h0, ms, h1, h2.mono ha hn⟩
  | mapIter m since seen stepped =>
    obtain ⟨h0, m', h1, h2⟩ := h
    refine ⟨h0, m', h1, ?_⟩
    cases m <;> cases m' <;> first | exact h2 | skip
    obtain ⟨a, f, b, c⟩ := h2
    exact ⟨by omega, f, (ha _ a).trans b, c⟩
  | strIter s pos => exact h
  | loop l =>
    obtain ⟨h0, r, h1, h2, h3, h4, h7, h5, h6⟩ := h
    exact ⟨h0, r, h1, h2, h3, h4, h7, h5.mono ha hn, h6⟩
structure StRel (μ : Emb) (h : AHeap) (w : World) : Prop where
  live : ∀ r o, h.get r = some o → r < h.next ∧ ∃ e c, μ r = some e ∧ w.heap[e.b]? = some c ∧ ORel μ h.next e c o
  apart : ∀ r q o p e f, h.get r = some o → o.own = true → h.get q = some p → μ r = some e → μ q = some f → e.b = f.b → r = q
structure Ext (μ : Emb) (h : AHeap) (w : World) (μ' : Emb) (h' : AHeap) (w' : World) : Prop where
  next : h.next ≤ h'.next
  agree : Agree h.next μ μ'
  size : w.heap.size ≤ w'.heap.size
  os : w'.os = w.os
  output : w'.output = w.output
  frame : ∀ b, b < w.heap.size → (∀ r o e, h.get r = some o → o.own = true → μ r = some e → e.b ≠ b) →
    w'.heap[b]? = w.heap[b]? ∧ ∀ r o e, h'.get r = some o → o.own = true → μ' r = some e → e.b ≠ b
  free : ∀ b, b < w.heap.size → (∀ r o e, h.get r = some o → μ r = some e → e.b ≠ b) → ∀ r o e, h'.get r = some o → μ' r = some e → e.b ≠ b
  st : StRel μ' h' w'
theorem Ext.refl {μ : Emb} {h : AHeap} {w : World} (st : StRel μ h w) : Ext μ h w μ h w :=
  ⟨Nat.le_refl _, Agree.refl _ _, Nat.le_refl _, rfl, rfl, fun _ _ hb => ⟨rfl, hb⟩, fun _ _ hb => hb, st⟩
theorem Ext.trans {μ μ' μ'' : Emb} {h h' h'' : AHeap} {w w' w'' : World} (a : Ext μ h w μ' h' w') (b : Ext μ' h' w' μ'' h'' w'') : Ext μ h w μ'' h'' w'' :=
  ⟨Nat.le_trans a.next b.next, a.agree.trans b.agree a.next, Nat.le_trans a.size b.size, b.os.trans a.os, b.output.trans a.output, fun x hx hb =>
    have ⟨h1, h2⟩ := a.frame x hx hb
    have ⟨h3, h4⟩ := b.frame x (Nat.lt_of_lt_of_le hx a.size) h2
    ⟨h3.trans h1, h4⟩, fun x hx hb => b.free x (Nat.lt_of_lt_of_le hx a.size) (a.free x hx hb), b.st⟩
theorem lt_of_heap {w : World} {b : Nat} {c : Obj} (h : w.heap[b]? = some c) : b < w.heap.size := by
  rcases Nat.lt_or_ge b w.heap.size with h' | h'
  · exact h'
  · rw [Array.getElem?_eq_none h'] at h; cases h
theorem StRel.same {μ : Emb} {h : AHeap} {w w' : World} (st : StRel μ h w) (e : w'.heap = w.heap) : StRel μ h w' :=
  ⟨fun r o hr => by rw [e]; exact st.live r o hr, st.apart⟩
theorem Ext.same {μ : Emb} {h : AHeap} {w w' : World} (st : StRel μ h w) (e : w'.heap = w.heap) (h1 : w'.os = w.os) (h2 : w'.output = w.output) : Ext μ h w μ h w' :=
  ⟨Nat.le_refl _, Agree.refl _ _, by rw [e]; exact Nat.le_refl _, h1, h2, fun _ _ hb => ⟨by rw [e], hb⟩, fun _ _ hb => hb, st.same e⟩
theorem Ext.alloc {μ : Emb} {h : AHeap} {w : World} (st : StRel μ h w) (c : Obj) : Ext μ h w μ h { w with heap := w.heap.push c } := by
  refine ⟨Nat.le_refl _, Agree.refl _ _, by simp, rfl, rfl, fun b hb hf => ⟨?_, hf⟩, fun _ _ hf => hf, ⟨fun r o hr => ?_, st.apart⟩⟩
  · simp only [Array.getElem?_push]; rw [if_neg (by omega)]
  · obtain ⟨h1, e, c', h2, h3, h4⟩ := st.live r o hr
    have := lt_of_heap h3
    exact ⟨h1, e, c', h2, by simp only [Array.getElem?_push]; rw [if_neg (by omega)]; exact h3, h4⟩
theorem Ext.new {μ : Emb} {h : AHeap} {w : World} (st : StRel μ h w) (c : Obj) (e : Ent) (o : AObj) (hb : e.b = w.heap.size)
    (ho : ORel (μ.upd h.next e) (h.next + 1) e c o) : Ext μ h w (μ.upd h.next e) (h.new o) { w with heap := w.heap.push c } := by
  have hag : Agree h.next μ (μ.upd h.next e) := Agree.upd μ e (Nat.le_refl _)
  have old : ∀ r p, h.get r = some p → r ≠ h.next := fun r p hr => by have := (st.live r p hr).1; omega
  refine ⟨by simp, hag, by simp, rfl, rfl, fun b hb' hf => ⟨?_, ?_⟩, fun b hb' hf => ?_, ⟨?_, ?_⟩⟩
  · simp only [Array.getElem?_push]; rw [if_neg (by omega)]
  · intro r p f hr hp hm
    rw [AHeap.get_new] at hr
    split at hr
    · rename_i hq; subst hq; rw [Emb.upd_same] at hm; cases hm; omega
    · rename_i hq; rw [Emb.upd_ne _ _ (Ne.symm hq)] at hm; exact hf r p f hr hp hm
  · intro r p f hr hm
    rw [AHeap.get_new] at hr
    split at hr
    · rename_i hq; subst hq; rw [Emb.upd_same] at hm; cases hm; omega
    · rename_i hq; rw [Emb.upd_ne _ _ (Ne.symm hq)] at hm; exact hf r p f hr hm
  · intro r p hr
    rw [AHeap.get_new] at hr
    split at hr
    · rename_i hq; subst hq; cases hr
      exact ⟨by simp, e, c, Emb.upd_same _ _ _, by simp [hb], ho⟩
    · rename_i hq
      obtain ⟨h1, f, c', h2, h3, h4⟩ := st.live r p hr
      have := lt_of_heap h3
      exact ⟨by simp; omega, f, c', by rw [Emb.upd_ne _ _ (Ne.symm hq)]; exact h2, by simp only [Array.getElem?_push]; rw [if_neg (by omega)]; exact h3, h4.mono hag (by simp)⟩
  · intro r q p s f g hr hp hq hm hn hfg
    rw [AHeap.get_new] at hr hq
    split at hr <;> split at hq
    · rename_i a b; omega
    · rename_i a b; subst a; rw [Emb.upd_same] at hm; cases hm
      obtain ⟨h1, f', c', h2, h3, h4⟩ := st.live q s hq
      rw [Emb.upd_ne _ _ (Ne.symm b)] at hn; rw [h2] at hn; cases hn
      have := lt_of_heap h3; omega
    · rename_i a b; subst b; rw [Emb.upd_same] at hn; cases hn
      obtain ⟨h1, f', c', h2, h3, h4⟩ := st.live r p hr
      rw [Emb.upd_ne _ _ (Ne.symm a)] at hm; rw [h2] at hm; cases hm
      have := lt_of_heap h3; omega
    · rename_i a b
      rw [Emb.upd_ne _ _ (Ne.symm a)] at hm
      rw [Emb.upd_ne _ _ (Ne.symm b)] at hn
      exact st.apart r q p s f g hr hp hq hm hn hfg
theorem Ext.set {μ : Emb} {h : AHeap} {w w' : World} (st : StRel μ h w) {r : Nat} {o o' : AObj} {e : Ent} {c' : Obj} (hr : h.get r = some o) (ho : o.own = true) (hm : μ r = some e)
    (hsz : w'.heap.size = w.heap.size) (hoth : ∀ b, b ≠ e.b → w'.heap[b]? = w.heap[b]?) (hc : w'.heap[e.b]? = some c') (h1 : w'.os = w.os) (h2 : w'.output = w.output)
    (hor : ORel μ h.next e c' o') : Ext μ h w μ (h.set r o') w' := by
  refine ⟨Nat.le_refl _, Agree.refl _ _, by omega, h1, h2, fun b hb hf => ⟨hoth b ?_, ?_⟩, fun b hb hf => ?_, ⟨?_, ?_⟩⟩
  · exact fun hbe => hf r o e hr ho hm hbe.symm
  · intro q p f hq hp hn
    rw [AHeap.get_set] at hq
    split at hq
    · rename_i a; subst a; exact hf r o f hr ho hn
    · exact hf q p f hq hp hn
  · intro q p f hq hn
    rw [AHeap.get_set] at hq
    split at hq
    · rename_i a; subst a; exact hf r o f hr hn
    · exact hf q p f hq hn
  · intro q p hq
    rw [AHeap.get_set] at hq
    split at hq
    · rename_i a; subst a; cases hq
      exact ⟨(st.live r o hr).1, e, c', hm, hc, hor⟩
    · rename_i a
      obtain ⟨h3, f, c, h4, h5, h6⟩ := st.live q p hq
      refine ⟨h3, f, c, h4, ?_, h6⟩
      rw [hoth f.b fun hbe => a (st.apart r q o p e f hr ho hq hm h4 hbe.symm)]
      exact h5
  · intro q s p t f g hq hp hs hf hg hfg
    rw [AHeap.get_set] at hq hs
    split at hq <;> split at hs
    · omega
    · rename_i a b; subst a; rw [hm] at hf; cases hf; exact st.apart r s o t e g hr ho hs hm hg hfg
    · rename_i a b; subst b; exact st.apart q r p o f g hq hp hr hf hg hfg
    · exact st.apart q s p t f g hq hp hs hf hg hfg
theorem Ext.rebase {μ : Emb} {h : AHeap} {w w' : World} (st : StRel μ h w) {r : Nat} {o o' : AObj} {e e' : Ent} {c' : Obj} (hr : h.get r = some o) (ho : o.own = true) (hm : μ r = some e)
    (hsz : w'.heap.size = w.heap.size) (hoth : ∀ b, b ≠ e.b → w'.heap[b]? = w.heap[b]?) (hc : w'.heap[e.b]? = some c') (h1 : w'.os = w.os) (h2 : w'.output = w.output) (he : e'.b = e.b)
    (hor : ORel (μ.upd h.next e') (h.next + 1) e' c' o') : Ext μ h w (μ.upd h.next e') ((h.kill r).new o') w' := by
  have hag : Agree h.next μ (μ.upd h.next e') := Agree.upd μ e' (Nat.le_refl _)
  have hrn : r < h.next := (st.live r o hr).1
  have get' : ∀ q, ((h.kill r).new o').get q = if h.next = q then some o' else if r = q then none else h.get q := fun q => by
    rw [AHeap.get_new, AHeap.get_kill]; rfl
  refine ⟨by simp, hag, by omega, h1, h2, fun b hb hf => ⟨hoth b ?_, ?_⟩, fun b hb hf => ?_, ⟨?_, ?_⟩⟩
  · exact fun hbe => hf r o e hr ho hm hbe.symm
  · intro q p f hq hp hn
    rw [get'] at hq
    split at hq
    · rename_i a; subst a; rw [Emb.upd_same] at hn; cases hn; rw [he]; exact hf r o e hr ho hm
    · rename_i a
      split at hq
      · cases hq
      · rw [Emb.upd_ne _ _ (Ne.symm a)] at hn; exact hf q p f hq hp hn
  · intro q p f hq hn
    rw [get'] at hq
    split at hq
    · rename_i a; subst a; rw [Emb.upd_same] at hn; cases hn; rw [he]; exact hf r o e hr hm
    · rename_i a
      split at hq
      · cases hq
      · rw [Emb.upd_ne _ _ (Ne.symm a)] at hn; exact hf q p f hq hn
  · intro q p hq
    rw [get'] at hq
    split at hq
    · rename_i a; subst a; cases hq
      exact ⟨by simp, e', c', Emb.upd_same _ _ _, by rw [he]; exact hc, hor⟩
    · rename_i a
      split at hq
      · cases hq
      · rename_i b
        obtain ⟨h3, f, c, h4, h5, h6⟩ := st.live q p hq
        refine ⟨by simp; omega, f, c, by rw [Emb.upd_ne _ _ (Ne.symm a)]; exact h4, ?_, h6.mono hag (by simp)⟩
        rw [hoth f.b fun hbe => b (st.apart r q o p e f hr ho hq hm h4 hbe.symm)]
        exact h5
  · intro q s p t f g hq hp hs hf hg hfg
    rw [get'] at hq hs
    split at hq <;> split at hs
    · omega
    · rename_i a b; subst a; rw [Emb.upd_same] at hf; cases hf
      split at hs
      · cases hs
      · rename_i d
        rw [Emb.upd_ne _ _ (Ne.symm b)] at hg
        exact absurd (st.apart r s o t e g hr ho hs hm hg (by rw [← he]; exact hfg)) d
    · rename_i a b; subst b; rw [Emb.upd_same] at hg; cases hg
      split at hq
      · cases hq
      · rename_i d
        rw [Emb.upd_ne _ _ (Ne.symm a)] at hf
        exact absurd (st.apart r q o p e f hr ho hq hm hf (by rw [← he]; exact hfg.symm)) d
    · rename_i a b
      split at hq
      · cases hq
      · split at hs
        · cases hs
        · rw [Emb.upd_ne _ _ (Ne.symm a)] at hf
          rw [Emb.upd_ne _ _ (Ne.symm b)] at hg
          exact st.apart q s p t f g hq hp hs hf hg hfg
theorem Ext.adopt {μ : Emb} {h : AHeap} {w : World} (st : StRel μ h w) {c : Obj} (e : Ent) (o : AObj) (hc : w.heap[e.b]? = some c) (hfree : ∀ r p f, h.get r = some p → μ r = some f → f.b ≠ e.b)
    (ho : ORel (μ.upd h.next e) (h.next + 1) e c o) : StRel (μ.upd h.next e) (h.new o) w := by
  have hag : Agree h.next μ (μ.upd h.next e) := Agree.upd μ e (Nat.le_refl _)
  refine ⟨?_, ?_⟩
  · intro r p hr
    rw [AHeap.get_new] at hr
    split at hr
    · rename_i hq; subst hq; cases hr
      exact ⟨by simp, e, c, Emb.upd_same _ _ _, hc, ho⟩
    · rename_i hq
      obtain ⟨h1, f, c', h2, h3, h4⟩ := st.live r p hr
      exact ⟨by simp; omega, f, c', by rw [Emb.upd_ne _ _ (Ne.symm hq)]; exact h2, h3, h4.mono hag (by simp)⟩
  · intro r q p s f g hr hp hq hm hn hfg
    rw [AHeap.get_new] at hr hq
    split at hr <;> split at hq
    · rename_i a b; omega
    · rename_i a b; subst a; rw [Emb.upd_same] at hm; cases hm
      rw [Emb.upd_ne _ _ (Ne.symm b)] at hn
      exact (hfree q s g hq hn hfg.symm).elim
    · rename_i a b; subst b; rw [Emb.upd_same] at hn; cases hn
      rw [Emb.upd_ne _ _ (Ne.symm a)] at hm
      exact (hfree r p f hr hm hfg).elim
    · rename_i a b
      rw [Emb.upd_ne _ _ (Ne.symm a)] at hm
      rw [Emb.upd_ne _ _ (Ne.symm b)] at hn
      exact st.apart r q p s f g hr hp hq hm hn hfg
theorem Ext.kill {μ : Emb} {h : AHeap} {w : World} (st : StRel μ h w) (r : Nat) : Ext μ h w μ (h.kill r) w := by
  refine ⟨Nat.le_refl _, Agree.refl _ _, Nat.le_refl _, rfl, rfl, fun b _ hf => ⟨rfl, ?_⟩, fun b _ hf => ?_, ⟨?_, ?_⟩⟩
  · intro q p f hq hp hn
    rw [AHeap.get_kill] at hq
    split at hq
    · cases hq
    · exact hf q p f hq hp hn
  · intro q p f hq hn
    rw [AHeap.get_kill] at hq
    split at hq
    · cases hq
    · exact hf q p f hq hn
  · intro q p hq
    rw [AHeap.get_kill] at hq
    split at hq
    · cases hq
    · exact st.live q p hq
  · intro q s p t f g hq hp hs hf hg hfg
    rw [AHeap.get_kill] at hq hs
    split at hq
    · cases hq
    · split at hs
      · cases hs
      · exact st.apart q s p t f g hq hp hs hf hg hfg
theorem Ext.adoptE {μ0 μ : Emb} {h0 h : AHeap} {w0 w : World} (x : Ext μ0 h0 w0 μ h w) {c : Obj} (e : Ent) (o : AObj) (hc : w.heap[e.b]? = some c) (hfree : ∀ r p f, h.get r = some p → μ r = some f → f.b ≠ e.b)
    (f1 : ∀ b, b < w0.heap.size → (∀ r o f, h0.get r = some o → o.own = true → μ0 r = some f → f.b ≠ b) → e.b ≠ b) (f2 : ∀ b, b < w0.heap.size → (∀ r o f, h0.get r = some o → μ0 r = some f → f.b ≠ b) → e.b ≠ b)
    (ho : ORel (μ.upd h.next e) (h.next + 1) e c o) : Ext μ0 h0 w0 (μ.upd h.next e) (h.new o) w := by
  have hag : Agree h.next μ (μ.upd h.next e) := Agree.upd μ e (Nat.le_refl _)
  have hnx := x.next
  refine ⟨by simp; omega, x.agree.trans hag hnx, x.size, x.os, x.output, fun b hb hf => ?_, fun b hb hf => ?_, Ext.adopt x.st e o hc hfree ho⟩
  · obtain ⟨y1, y2⟩ := x.frame b hb hf
    refine ⟨y1, fun r p f hr hp hm => ?_⟩
    rw [AHeap.get_new] at hr
    split at hr
    · rename_i hq; subst hq; rw [Emb.upd_same] at hm; cases hm; exact f1 b hb hf
    · rename_i hq; rw [Emb.upd_ne _ _ (Ne.symm hq)] at hm; exact y2 r p f hr hp hm
  · intro r p f hr hm
    rw [AHeap.get_new] at hr
    split at hr
    · rename_i hq; subst hq; rw [Emb.upd_same] at hm; cases hm; exact f2 b hb hf
    · rename_i hq; rw [Emb.upd_ne _ _ (Ne.symm hq)] at hm; exact x.free b hb hf r p f hr hm
end Go.Ab
