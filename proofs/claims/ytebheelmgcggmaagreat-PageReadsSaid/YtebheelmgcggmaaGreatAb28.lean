/-
  The arguments of a law: a view of what they read as; what they read as behind a call that has changed nothing.
-/
import Derived.Test.YtebheelmgcggmaaGreatAb27
import Derived.ChangeReads
import Derived.ChangeArms
import Derived.ChangeSlices
namespace Go.Ab
set_option linter.unusedSimpArgs false
set_option linter.unusedVariables false
def contig (P : Program) (total : Nat) : List Field → Nat → Bool
  | [], o => Nat.beq o total
  | f :: fs, o => Nat.beq f.offset o && contig P total fs (o + P.cellsOf f.type)
def plainT (P : Program) : Nat → TypeId → Bool
  | 0, _ => false
  | n + 1, t => match P.underlying t with
    | some .bool => Nat.beq (P.cellsOf t) 1
    | some (.int _) => Nat.beq (P.cellsOf t) 1
    | some .string => Nat.beq (P.cellsOf t) 1
    | some (.slice e) => Nat.beq (P.cellsOf t) 1 && (!Nat.beq (P.cellsOf e) 0 && plainT P n e)
    | some (.struct fs) => contig P (P.cellsOf t) fs.toList 0 && fs.toList.all (fun f => plainT P n f.type)
    | some (.array m e) => Nat.beq (m * P.cellsOf e) (P.cellsOf t) && plainT P n e
    | _ => false
def Rd (P : Program) (h : AHeap) : Nat → TypeId → List Value → Prop
  | 0, _, _ => False
  | n + 1, t, vs => match P.underlying t with
    | some .bool => ∃ b, vs = [.bool b]
    | some (.int k) => ∃ i, vs = [.int k i] ∧ (Lit.int k i).wf = true
    | some .string => ∃ s : ByteArray, vs = [.string s] ∧ s.size ≤ maxLen
    | some (.slice e) => vs = [.slice none 0 0] ∨ ∃ (r : Nat) (vss : List (List Value)), vs = [.slice (some ⟨r, 0, none⟩) vss.length 0] ∧ vss.length ≤ maxLen ∧ r < h.next ∧ (vss ≠ [] → h.get r = some (.ro vss.flatten)) ∧ ∀ v ∈ vss, v.length = P.cellsOf e ∧ Rd P h n e v
    | some (.struct fs) => ∃ vss : List (List Value), vs = vss.flatten ∧ vss.length = fs.size ∧ ∀ (i : Nat) (f : Field) (v : List Value), fs[i]? = some f → vss[i]? = some v → v.length = P.cellsOf f.type ∧ Rd P h n f.type v
    | some (.array m e) => ∃ vss : List (List Value), vs = vss.flatten ∧ vss.length = m ∧ ∀ v ∈ vss, v.length = P.cellsOf e ∧ Rd P h n e v
    | _ => False
structure Grow (μ : Emb) (h : AHeap) (μ' : Emb) (h' : AHeap) (w : World) : Prop where
  next : h.next ≤ h'.next
  agree : Agree h.next μ μ'
  kept : ∀ r o, h.get r = some o → h'.get r = some o
  st : StRel μ' h' w
  ro : ∀ r o, h'.get r = some o → o.own = false
theorem Grow.trans {μ μ' μ'' : Emb} {h h' h'' : AHeap} {w : World} (a : Grow μ h μ' h' w) (b : Grow μ' h' μ'' h'' w) : Grow μ h μ'' h'' w :=
  ⟨Nat.le_trans a.next b.next, a.agree.trans b.agree a.next, fun r o hr => b.kept r o (a.kept r o hr), b.st, b.ro⟩
theorem Grow.refl {μ : Emb} {h : AHeap} {w : World} (st : StRel μ h w) (ro : ∀ r o, h.get r = some o → o.own = false) : Grow μ h μ h w :=
  ⟨Nat.le_refl _, Agree.refl _ _, fun _ _ h => h, st, ro⟩
theorem Rd.mono {P : Program} {h h' : AHeap} (hn : h.next ≤ h'.next) (hk : ∀ r o, h.get r = some o → h'.get r = some o) : ∀ {n : Nat} {t : TypeId} {vs : List Value}, Rd P h n t vs → Rd P h' n t vs
  | 0, _, _, h => h
  | n + 1, t, vs, h => by
    unfold Rd at h ⊢
    split at h
    · exact h
    · exact h
    · exact h
    · rcases h with h | ⟨r, vss, h1, h2, h3, h4, h5⟩
      · exact .inl h
      · exact .inr ⟨r, vss, h1, h2, by omega, fun hne => hk _ _ (h4 hne), fun v hv => ⟨(h5 v hv).1, Rd.mono hn hk (h5 v hv).2⟩⟩
    · obtain ⟨vss, h1, h2, h3⟩ := h
      exact ⟨vss, h1, h2, fun i f v hf hv => ⟨(h3 i f v hf hv).1, Rd.mono hn hk (h3 i f v hf hv).2⟩⟩
    · obtain ⟨vss, h1, h2, h3⟩ := h
      exact ⟨vss, h1, h2, fun v hv => ⟨(h3 v hv).1, Rd.mono hn hk (h3 v hv).2⟩⟩
    · exact h
theorem Grow.new {μ : Emb} {h : AHeap} {w : World} (st : StRel μ h w) (ro : ∀ r o, h.get r = some o → o.own = false) (e : Ent) {c : Obj} (hc : w.heap[e.b]? = some c) (vs : List Value) (ho : ORel μ h.next e c (.ro vs)) :
    Grow μ h (μ.upd h.next e) (h.new (.ro vs)) w := by
  have hag : Agree h.next μ (μ.upd h.next e) := Agree.upd μ e (Nat.le_refl _)
  have old : ∀ r p, h.get r = some p → r ≠ h.next := fun r p hr => by have := (st.live r p hr).1; omega
  have gN : ∀ q o, (h.new (.ro vs)).get q = some o → (q = h.next ∧ o = .ro vs) ∨ (q ≠ h.next ∧ h.get q = some o) := by
    intro q o hq
    rw [AHeap.get_new] at hq
    split at hq
    · rename_i e; exact .inl ⟨e.symm, by cases hq; rfl⟩
    · rename_i e; exact .inr ⟨fun x => e x.symm, hq⟩
  have hro : ∀ q o, (h.new (.ro vs)).get q = some o → o.own = false := by
    intro q o hq
    rcases gN q o hq with ⟨_, rfl⟩ | ⟨_, h2⟩
    · rfl
    · exact ro q o h2
  refine ⟨by simp, hag, fun r o hr => by rw [AHeap.get_new, if_neg (Ne.symm (old r o hr))]; exact hr, ⟨fun r o hr => ?_, fun r q o p f g hr hown => ?_⟩, hro⟩
  · rcases gN r o hr with ⟨rfl, rfl⟩ | ⟨hne, h2⟩
    · exact ⟨by simp, e, c, Emb.upd_same _ _ _, hc, ho.mono hag (by simp)⟩
    · obtain ⟨h1, f, c', a1, a2, a3⟩ := st.live r o h2
      exact ⟨by simp; omega, f, c', by rw [Emb.upd_ne _ _ hne]; exact a1, a2, a3.mono hag (by simp)⟩
  · rw [hro r o hr] at hown; cases hown
theorem Grow.bump {μ : Emb} {h : AHeap} {w : World} (st : StRel μ h w) (ro : ∀ r o, h.get r = some o → o.own = false) (e : Ent) : Grow μ h (μ.upd h.next e) ⟨h.next + 1, h.rows⟩ w := by
  have hag : Agree h.next μ (μ.upd h.next e) := Agree.upd μ e (Nat.le_refl _)
  refine ⟨by simp, hag, fun r o hr => hr, ⟨fun r o hr => ?_, fun r q o p f g hr hown => ?_⟩, fun r o hr => ro r o hr⟩
  · have hr' : h.get r = some o := hr
    obtain ⟨h1, f, c', a1, a2, a3⟩ := st.live r o hr'
    exact ⟨by simp; omega, f, c', by rw [Emb.upd_ne _ _ (by omega)]; exact a1, a2, a3.mono hag (by simp)⟩
  · rw [ro r o hr] at hown; cases hown
section
variable {H : Type} {enc : TypeId × Value → H} {P : Program} {w : World} {spare : Nat → Bool} {held : Bool}
theorem view_all {k : Nat}
    (ih : ∀ (t : TypeId), plainT P k t = true → ∀ (n : Nat) (cs : List Value) (x : DataW H × List MemPlace), DataW.trod enc P w 0 spare held n t cs = some x → ∀ (μ : Emb) (h : AHeap), StRel μ h w → (∀ r o, h.get r = some o → o.own = false) →
      ∃ μ' h' vs, Grow μ h μ' h' w ∧ LRel μ' h'.next vs cs ∧ Rd P h' k t vs) :
    ∀ (ps : List (TypeId × List Value)), (∀ p ∈ ps, plainT P k p.1 = true ∧ ∃ n x, DataW.trod enc P w 0 spare held n p.1 p.2 = some x) → ∀ (μ : Emb) (h : AHeap), StRel μ h w → (∀ r o, h.get r = some o → o.own = false) →
      ∃ μ' h' vss, Grow μ h μ' h' w ∧ LRel μ' h'.next (List.flatten vss) (ps.map (·.2)).flatten ∧ vss.length = ps.length ∧ ∀ (i : Nat) (p : TypeId × List Value) (v : List Value), ps[i]? = some p → vss[i]? = some v → v.length = p.2.length ∧ Rd P h' k p.1 v
  | [], _, μ, h, st, ro => ⟨μ, h, [], .refl st ro, .nil, rfl, fun i p v hp => by simp at hp⟩
  | p :: ps, hps, μ, h, st, ro => by
    obtain ⟨hp, n, x, hx⟩ := hps p List.mem_cons_self
    obtain ⟨μ1, h1, vs, g1, l1, r1⟩ := ih p.1 hp n p.2 x hx μ h st ro
    obtain ⟨μ2, h2, vss, g2, l2, e2, r2⟩ := view_all ih ps (fun q hq => hps q (List.mem_cons_of_mem _ hq)) μ1 h1 g1.st g1.ro
    refine ⟨μ2, h2, vs :: vss, g1.trans g2, ?_, by simp [e2], fun i q v hq hv => ?_⟩
    · simp only [List.map_cons, List.flatten_cons]
      exact (l1.mono g2.agree g2.next).append l2
    · cases i with
      | zero =>
        simp at hq hv; subst hq; subst hv
        exact ⟨l1.length, r1.mono g2.next g2.kept⟩
      | succ i => simp at hq hv; exact r2 i q v hq hv
theorem contig_flat {cs : List Value} : ∀ (fs : List Field) (o : Nat), contig P cs.length fs o = true → (fs.map fun f => (cs.drop f.offset).take (P.cellsOf f.type)).flatten = cs.drop o
  | [], o, h => by
    simp only [contig] at h
    have := Nat.eq_of_beq_eq_true h
    simp [this]
  | f :: fs, o, h => by
    simp only [contig, Bool.and_eq_true] at h
    have e := Nat.eq_of_beq_eq_true h.1
    simp only [List.map_cons, List.flatten_cons]
    rw [contig_flat fs _ h.2, e, ← List.drop_drop, List.take_append_drop]
theorem contig_len {total : Nat} : ∀ (fs : List Field) (o : Nat), contig P total fs o = true → o ≤ total ∧ ∀ f ∈ fs, f.offset + P.cellsOf f.type ≤ total
  | [], o, h => by
    simp only [contig] at h
    have := Nat.eq_of_beq_eq_true h
    exact ⟨by omega, fun f hf => by cases hf⟩
  | f :: fs, o, h => by
    simp only [contig, Bool.and_eq_true] at h
    have e := Nat.eq_of_beq_eq_true h.1
    obtain ⟨h1, h2⟩ := contig_len fs _ h.2
    refine ⟨by omega, fun g hg => ?_⟩
    cases hg with
    | head => omega
    | tail _ hm => exact h2 g hm
theorem array_flat {cs : List Value} (s : Nat) : ∀ (m o : Nat), o + m * s = cs.length → ((List.range m).map fun i => (cs.drop (o + i * s)).take s).flatten = cs.drop o
  | 0, o, h => by simp at h; simp [h]
  | m + 1, o, h => by
    rw [List.range_succ_eq_map, List.map_cons, List.flatten_cons, List.map_map]
    have hm : (m + 1) * s = s + m * s := by rw [Nat.add_mul]; omega
    have e : (List.map ((fun i => List.take s (List.drop (o + i * s) cs)) ∘ Nat.succ) (List.range m)) = (List.range m).map fun i => (cs.drop ((o + s) + i * s)).take s := by
      apply List.map_congr_left
      intro i _
      simp only [Function.comp, Nat.succ_eq_add_one]
      congr 2
      rw [Nat.add_mul]; omega
    rw [e, array_flat s m (o + s) (by omega), Nat.zero_mul, Nat.add_zero, ← List.drop_drop, List.take_append_drop]
theorem cells_block {a : Addr} {n : Nat} {cs : List Value} (h : w.cells? 0 a n = some cs) (hn : 0 < n) : a.spot = none ∧ cs.length = n ∧ ∃ c t fz, w.heap[a.block]? = some (.cells c t fz) ∧ ∀ i, i < n → c[a.off + i]? = cs[i]? := by
  have hc := World.cells?_some h
  have h0 : w.cell? a = cs[0]? := by have := hc.2.2 0 hn; simpa [Addr.add] using this
  have hl : cs.length = n := hc.2.1
  have hsp : a.spot = none ∧ ∃ c t fz, w.heap[a.block]? = some (.cells c t fz) := by
    have hs : ∃ v, cs[0]? = some v := ⟨cs[0], by simp [hl, hn]⟩
    obtain ⟨v, hv⟩ := hs
    rw [hv] at h0
    unfold World.cell? at h0
    split at h0
    · rename_i c t fz hh
      cases hsp : a.spot with
      | none => exact ⟨rfl, c, t, fz, hh⟩
      | some s => simp [hsp] at h0
    · cases h0
  obtain ⟨hs, c, t, fz, hh⟩ := hsp
  refine ⟨hs, hl, c, t, fz, hh, fun i hi => ?_⟩
  have := hc.2.2 i hi
  rw [← this]
  have e : a.add i = ⟨a.block, a.off + i, none⟩ := by
    unfold Addr.add
    split
    · rename_i h0; subst h0; cases a; simp only at hs; subst hs; rfl
    · rfl
  rw [e]
  simp [World.cell?, hh]
theorem view : ∀ (k : Nat) (t : TypeId), plainT P k t = true → ∀ (n : Nat) (cs : List Value) (x : DataW H × List MemPlace), DataW.trod enc P w 0 (fun _ => true) held n t cs = some x → ∀ (μ : Emb) (h : AHeap), StRel μ h w → (∀ r o, h.get r = some o → o.own = false) →
    ∃ μ' h' vs, Grow μ h μ' h' w ∧ LRel μ' h'.next vs cs ∧ Rd P h' k t vs
  | 0, t, hp, _, _, _, _, _, _, _, _ => by cases hp
  | k + 1, t, hp, n, cs, x, hx, μ, h, st, ro => by
    unfold plainT at hp
    unfold Rd
    split at hp
    · rename_i hu
      obtain ⟨b, rfl, _⟩ := DataW.trod_bool hu hx
      exact ⟨μ, h, [.bool b], .refl st ro, .cons (.bool b) .nil, b, rfl⟩
    · rename_i q hu
      obtain ⟨i, rfl, _, hw⟩ := DataW.trod_int hu hx
      exact ⟨μ, h, [.int q i], .refl st ro, .cons (.int q i) .nil, i, rfl, hw⟩
    · rename_i hu
      obtain ⟨s, rfl, _, hw⟩ := DataW.trod_string hu hx
      exact ⟨μ, h, [.string s], .refl st ro, .cons (.string s) .nil, s, rfl, hw⟩
    · rename_i e hu
      simp only [Bool.and_eq_true, Bool.not_eq_true'] at hp
      obtain ⟨hc1, hz, hpe⟩ := hp
      have hpos : 0 < P.cellsOf e := Nat.pos_of_ne_zero fun h0 => by rw [h0] at hz; cases hz
      rcases DataW.trod_slice hu hx with ⟨rfl, _⟩ | ⟨a, len, cap, elems, rest, m, _, rfl, _, _, hl, hm, hlen, hel, hsp, _⟩
      · exact ⟨μ, h, [.slice none 0 0], .refl st ro, .cons .slice0 .nil, .inl rfl⟩
      obtain ⟨hrl, hr⟩ := hsp rfl
      rcases Nat.eq_zero_or_pos cap with hcap | hcap
      · subst hcap
        have : len = 0 := by omega
        subst this
        refine ⟨_, _, [.slice (some ⟨h.next, 0, none⟩) 0 0], Grow.bump st ro ⟨a.block, 0, 0, 0⟩, .cons (.sliceZ (Nat.lt_succ_self _) (Emb.upd_same _ _ _)) .nil, .inr ⟨h.next, [], rfl, by simp, by simp, fun hne => (hne rfl).elim, fun v hv => by cases hv⟩⟩
      · -- a cell at least
        have hfirst : ∃ c0, w.cells? 0 a (P.cellsOf e) = some c0 := by
          have ha : a.add (0 * P.cellsOf e) = a := by simp [Addr.add]
          rcases Nat.eq_zero_or_pos len with h0 | h0
          · have := hr 0 (by omega)
            rw [h0, Nat.zero_add, ha] at this
            have hs : ∃ v, rest[0]? = some v := ⟨rest[0]'(by omega), by simp <;> omega⟩
            obtain ⟨v, hv⟩ := hs
            rw [hv, Option.bind_eq_some_iff] at this
            obtain ⟨c0, hc0, _⟩ := this
            exact ⟨c0, hc0⟩
          · have := hel 0 h0
            rw [ha] at this
            have hs : ∃ v, elems[0]? = some v := ⟨elems[0]'(by omega), by simp <;> omega⟩
            obtain ⟨v, hv⟩ := hs
            rw [hv, Option.bind_eq_some_iff] at this
            obtain ⟨c0, hc0, _⟩ := this
            exact ⟨c0, hc0⟩
        obtain ⟨c0, hc0⟩ := hfirst
        obtain ⟨hspot, _, c, ct, fz, hblock, _⟩ := cells_block hc0 hpos
        -- the elements
        have helem : ∀ i, i < len → ∃ ci xi, w.cells? 0 (a.add (i * P.cellsOf e)) (P.cellsOf e) = some ci ∧ DataW.trod enc P w 0 (fun _ => true) held m e ci = some xi := by
          intro i hi
          have := hel i hi
          have hs : ∃ v, elems[i]? = some v := ⟨elems[i]'(by omega), by simp <;> omega⟩
          obtain ⟨v, hv⟩ := hs
          rw [hv, Option.bind_eq_some_iff] at this
          obtain ⟨ci, h1, h2⟩ := this
          exact ⟨ci, v, h1, h2⟩
        let piece : Nat → List Value := fun i => (w.cells? 0 (a.add (i * P.cellsOf e)) (P.cellsOf e)).getD []
        have hpiece : ∀ i, i < len → (piece i).length = P.cellsOf e ∧ (∃ xi, DataW.trod enc P w 0 (fun _ => true) held m e (piece i) = some xi) ∧ ∀ j, j < P.cellsOf e → c[a.off + i * P.cellsOf e + j]? = (piece i)[j]? := by
          intro i hi
          obtain ⟨ci, xi, h1, h2⟩ := helem i hi
          have e1 : piece i = ci := by simp only [piece, h1, Option.getD_some]
          obtain ⟨_, h3, c', ct', fz', h4, h5⟩ := cells_block h1 hpos
          have e2 : (a.add (i * P.cellsOf e)).block = a.block ∧ (a.add (i * P.cellsOf e)).off = a.off + i * P.cellsOf e := by
            unfold Addr.add; split
            · rename_i h0; rw [h0]; simp
            · simp
          rw [e2.1, hblock] at h4
          cases h4
          rw [e1]
          refine ⟨h3, ⟨xi, h2⟩, fun j hj => ?_⟩
          rw [← h5 j hj, e2.2]
        obtain ⟨μ1, h1, vss, g1, l1, e1, r1⟩ := view_all (view k) ((List.range len).map fun i => (e, piece i)) (fun p hp => by
          simp only [List.mem_map, List.mem_range] at hp
          obtain ⟨i, hi, rfl⟩ := hp
          obtain ⟨_, ⟨xi, h2⟩, _⟩ := hpiece i hi
          exact ⟨hpe, m, xi, h2⟩) μ h st ro
        simp only [List.map_map, List.length_map, List.length_range] at l1 e1
        have hflat : ∀ i v, ((List.range len).map piece).flatten[i]? = some v → c[a.off + i]? = some v := by
          have aux : ∀ (q o : Nat), o + q ≤ len → ∀ i v, ((List.range q).map fun j => piece (o + j)).flatten[i]? = some v → c[a.off + o * P.cellsOf e + i]? = some v := by
            intro q
            induction q with
            | zero => intro o _ i v hv; simp at hv
            | succ q ihq =>
              intro o ho i v hv
              rw [List.range_succ_eq_map, List.map_cons, List.flatten_cons, List.map_map, Nat.add_zero] at hv
              obtain ⟨p1, _, p3⟩ := hpiece o (by omega)
              by_cases hi : i < P.cellsOf e
              · rw [List.getElem?_append_left (by omega)] at hv
                rw [p3 i hi]; exact hv
              · rw [List.getElem?_append_right (by omega), p1] at hv
                have := ihq (o + 1) (by omega) (i - P.cellsOf e) v (by
                  have e9 : (List.map (fun j => piece (o + 1 + j)) (List.range q)) = List.map ((fun j => piece (o + j)) ∘ Nat.succ) (List.range q) := by
                    apply List.map_congr_left; intro j _; simp only [Function.comp, Nat.succ_eq_add_one]; congr 1; omega
                  rw [e9]; exact hv)
                have e8 : a.off + (o + 1) * P.cellsOf e + (i - P.cellsOf e) = a.off + o * P.cellsOf e + i := by rw [Nat.add_mul]; omega
                rw [e8] at this; exact this
          intro i v hv
          have := aux len 0 (by omega) i v (by simpa using hv)
          simpa using this
        have g2 := Grow.new g1.st g1.ro ⟨a.block, a.off, cap * P.cellsOf e, P.cellsOf e⟩ hblock vss.flatten ⟨c, ct, fz, rfl, fun i v hv => by
          obtain ⟨v', q1, q2⟩ := l1.getElem? i hv
          exact ⟨v', hflat i v' q1, q2⟩⟩
        refine ⟨_, _, [.slice (some ⟨h1.next, 0, none⟩) vss.length 0], g1.trans g2, ?_, .inr ⟨h1.next, vss, rfl, ?_, ?_, ?_, ?_⟩⟩
        · refine .cons ?_ .nil
          obtain ⟨ab, ao, asp⟩ := a
          simp only at hspot
          subst hspot
          have := VRel.sliceU (μ := μ1.upd h1.next ⟨ab, ao, cap * P.cellsOf e, P.cellsOf e⟩) (n := h1.next + 1) (r := h1.next) (off := 0) (len := len) (cap := cap) (by omega) (Emb.upd_same _ _ _) hl (by simp)
          rw [e1]
          simpa using this
        · rw [e1]; omega
        · simp
        · intro _; exact AHeap.get_new_same _ _
        · intro v hv
          obtain ⟨i, hi⟩ := List.getElem?_of_mem hv
          have hil : i < len := by have := (List.getElem?_eq_some_iff.1 hi).1; omega
          obtain ⟨q1, q2⟩ := r1 i (e, piece i) v (by simp [hil]) hi
          exact ⟨q1.trans (hpiece i hil).1, q2.mono g2.next g2.kept⟩
    · rename_i fs hu
      simp only [Bool.and_eq_true] at hp
      obtain ⟨hcg, hall⟩ := hp
      obtain ⟨xs, m, _, _, hl, hxl, hf⟩ := DataW.trod_struct hu hx
      rw [← hl] at hcg
      obtain ⟨μ1, h1, vss, g1, l1, e1, r1⟩ := view_all (view k) (fs.toList.map fun f => (f.type, (cs.drop f.offset).take (P.cellsOf f.type))) (fun p hp => by
        simp only [List.mem_map] at hp
        obtain ⟨f, hfm, rfl⟩ := hp
        obtain ⟨i, hi⟩ := List.getElem?_of_mem hfm
        rw [Array.getElem?_toList] at hi
        have h1 := hf i f hi
        have hil : i < xs.length := by rw [hxl]; exact (Array.getElem?_eq_some_iff.1 hi).1
        refine ⟨(List.all_eq_true.1 hall) f hfm, m, xs[i], ?_⟩
        rw [h1]; simp [hil]) μ h st ro
      refine ⟨μ1, h1, vss.flatten, g1, ?_, vss, rfl, by rw [e1]; simp, fun i f v hfi hv => ?_⟩
      · rw [List.map_map] at l1
        have e2 := contig_flat (cs := cs) fs.toList 0 hcg
        simp only [List.drop_zero] at e2
        rw [show ((fun x : TypeId × List Value => x.2) ∘ fun f : Field => (f.type, (cs.drop f.offset).take (P.cellsOf f.type))) = fun f : Field => (cs.drop f.offset).take (P.cellsOf f.type) from rfl, e2] at l1
        exact l1
      · obtain ⟨q1, q2⟩ := r1 i (f.type, (cs.drop f.offset).take (P.cellsOf f.type)) v (by simp [hfi]) hv
        refine ⟨?_, q2⟩
        have hfm : f ∈ fs.toList := by
          rw [← Array.getElem?_toList] at hfi
          exact List.mem_of_getElem? hfi
        have := (contig_len fs.toList 0 hcg).2 f hfm
        rw [q1]; simp; omega
    · rename_i m e hu
      simp only [Bool.and_eq_true] at hp
      obtain ⟨hsz, hpe⟩ := hp
      have hsz' := Nat.eq_of_beq_eq_true hsz
      obtain ⟨xs, j, hl, hxs⟩ : ∃ (xs : List (DataW H × List MemPlace)) (j : Nat), cs.length = P.cellsOf t ∧ (List.range m).mapM (fun i => DataW.trod enc P w 0 (fun _ => true) held j e ((cs.drop (i * P.cellsOf e)).take (P.cellsOf e))) = some xs := by
        cases n with
        | zero => simp [DataW.trod] at hx
        | succ n =>
          unfold DataW.trod at hx
          rw [hu] at hx
          split at hx <;> simp_all
          obtain ⟨hl, xs, hp, hd⟩ := hx
          exact ⟨xs, n, hp⟩
      have hget : ∀ i, i < m → ∃ x, DataW.trod enc P w 0 (fun _ => true) held j e ((cs.drop (i * P.cellsOf e)).take (P.cellsOf e)) = some x := by
        intro i hi
        have h1 := mapM_some_get hxs i i (by simp [hi])
        have h2 := mapM_some_length hxs
        simp at h2
        exact ⟨xs[i]'(by omega), by rw [h1]; simp <;> omega⟩
      obtain ⟨μ1, h1, vss, g1, l1, e1, r1⟩ := view_all (view k) ((List.range m).map fun i => (e, (cs.drop (i * P.cellsOf e)).take (P.cellsOf e))) (fun p hp => by
        simp only [List.mem_map, List.mem_range] at hp
        obtain ⟨i, hi, rfl⟩ := hp
        obtain ⟨x, hx⟩ := hget i hi
        exact ⟨hpe, j, x, hx⟩) μ h st ro
      refine ⟨μ1, h1, vss.flatten, g1, ?_, vss, rfl, by rw [e1]; simp, fun v hv => ?_⟩
      · rw [List.map_map] at l1
        have e2 := array_flat (cs := cs) (P.cellsOf e) m 0 (by omega)
        simp only [List.drop_zero, Nat.zero_add] at e2
        rw [show ((fun x : TypeId × List Value => x.2) ∘ fun i : Nat => (e, (cs.drop (i * P.cellsOf e)).take (P.cellsOf e))) = fun i : Nat => (cs.drop (i * P.cellsOf e)).take (P.cellsOf e) from rfl, e2] at l1
        exact l1
      · obtain ⟨i, hi⟩ := List.getElem?_of_mem hv
        have him : i < m := by have := (List.getElem?_eq_some_iff.1 hi).1; rw [e1] at this; simpa using this
        obtain ⟨q1, q2⟩ := r1 i (e, (cs.drop (i * P.cellsOf e)).take (P.cellsOf e)) v (by simp [him]) hi
        refine ⟨?_, q2⟩
        have : (i + 1) * P.cellsOf e ≤ m * P.cellsOf e := Nat.mul_le_mul_right _ him
        rw [Nat.add_mul] at this
        rw [q1]; simp; omega
    · cases hp
end
end Go.Ab
