/-
  A law with arguments: from what is proved of the view to what the form asks.
-/
import Derived.Test.YtebheelmgcggmaaGreatAb28
import Derived.ChangeOld
namespace Go.Ab
set_option linter.unusedSimpArgs false
set_option linter.unusedVariables false
section
variable {H : Type} {enc : TypeId × Value → H} {P : Program} {w w' : World} {sp : Nat → Bool} {held : Bool}
theorem trod_spare : ∀ (n k : Nat) (t : TypeId) (cs : List Value) (x : DataW H × List MemPlace), plainT P k t = true → DataW.trod enc P w 0 (fun _ => true) held n t cs = some x → (∀ p ∈ x.2, sp p.block = true) → DataW.trod enc P w 0 sp held n t cs = some x := by
  intro n
  induction n with
  | zero => intro k t cs x _ h; simp [DataW.trod] at h
  | succ n ih =>
    intro k t cs x hp h hs
    rw [DataW.trod_step] at h ⊢
    cases k with
    | zero => cases hp
    | succ k =>
    unfold plainT at hp
    unfold DataW.trodStep at h ⊢
    split at hp
    · rename_i hu; rw [hu] at h ⊢; split at h <;> first | exact h | (simp_all; done)
    · rename_i q hu; rw [hu] at h ⊢; split at h <;> first | exact h | (simp_all; done)
    · rename_i hu; rw [hu] at h ⊢; split at h <;> first | exact h | (simp_all; done)
    · rename_i e hu
      simp only [Bool.and_eq_true, Bool.not_eq_true'] at hp
      obtain ⟨hc1, hz, hpe⟩ := hp
      have hpos : 0 < P.cellsOf e := Nat.pos_of_ne_zero fun h0 => by rw [h0] at hz; cases hz
      rw [hu] at h ⊢
      split at h <;> first | exact h | skip
      all_goals try (rename_i heq; simp at heq; done)
      rename_i e' a len cap heq
      simp only [Option.some.injEq, TypeDesc.slice.injEq] at heq
      subst heq
      simp only at h ⊢
      split at h
      · rename_i hc
        rw [if_pos hc]
        simp only [if_true, Option.map_eq_some_iff, Option.bind_eq_some_iff] at h ⊢
        obtain ⟨elems, he, rest, hrest, rfl⟩ := h
        have hlen : elems.length = len := by simpa using mapM_some_length he
        have hrl : rest.length = cap - len := by simpa using mapM_some_length hrest
        have one : ∀ (i : Nat) (y : DataW H × List MemPlace), y ∈ elems ++ rest →
            (w.cells? 0 (a.add (i * P.cellsOf e)) (P.cellsOf e)).bind (DataW.trod enc P w 0 (fun _ => true) held n e) = some y → (w.cells? 0 (a.add (i * P.cellsOf e)) (P.cellsOf e)).bind (DataW.trod enc P w 0 sp held n e) = some y := by
          intro i y hy hv
          simp only [Option.bind_eq_some_iff] at hv ⊢
          obtain ⟨cs', hc', hy'⟩ := hv
          exact ⟨cs', hc', ih k e cs' y hpe hy' (fun p hp => hs p (List.mem_append.2 (.inr (List.mem_flatMap.2 ⟨y, hy, hp⟩))))⟩
        refine ⟨elems, mapM_carry he (fun i y hi hy => one i y (List.mem_append.2 (.inl hy))), rest, ?_, rfl⟩
        rcases Nat.eq_zero_or_pos cap with hcap | hcap
        · have e0 : cap - len = 0 := by omega
          rw [e0] at hrest ⊢
          simp at hrest
          subst hrest
          simp
        · have hb : sp a.block = true := by
            have := hs (.cell a.block (a.off + 0)) (List.mem_append.2 (.inl (MemPlace.mem_row.2 ⟨0, ?_, rfl⟩)))
            · exact this
            · have : 0 < elems.length + rest.length := by omega
              exact Nat.mul_pos this hpos
          rw [if_pos hb]
          exact mapM_carry hrest (fun j y hj hy => one (len + j) y (List.mem_append.2 (.inr hy)))
      · cases h
    · rename_i fs hu
      simp only [Bool.and_eq_true] at hp
      rw [hu] at h ⊢
      dsimp only at h ⊢
      by_cases hc : cs.length = P.cellsOf t
      · rw [if_pos hc] at h ⊢
        simp only [Option.map_eq_some_iff] at h ⊢
        obtain ⟨xs, hx, rfl⟩ := h
        exact ⟨xs, mapM_carry hx (fun f y hf hy hv => ih k _ _ _ ((List.all_eq_true.1 hp.2) f hf) hv (fun p hp => hs p (List.mem_flatMap.2 ⟨y, hy, hp⟩))), rfl⟩
      · rw [if_neg hc] at h; cases h
    · rename_i m e hu
      simp only [Bool.and_eq_true] at hp
      rw [hu] at h ⊢
      dsimp only at h ⊢
      by_cases hc : cs.length = P.cellsOf t
      · rw [if_pos hc] at h ⊢
        simp only [Option.map_eq_some_iff] at h ⊢
        obtain ⟨xs, hx, rfl⟩ := h
        exact ⟨xs, mapM_carry hx (fun f y hf hy hv => ih k _ _ _ hp.2 hv (fun p hp => hs p (List.mem_flatMap.2 ⟨y, hy, hp⟩))), rfl⟩
      · rw [if_neg hc] at h; cases h
    · cases hp
theorem trodAll_spare {k : Nat} : ∀ {ts : List TypeId} {vs : List Value} {ds : List (DataW H)} {ps : List MemPlace}, ts.all (plainT P k) = true → DataW.TrodAll enc P w 0 (fun _ => true) held ts vs ds ps → Kept w w' → (∀ p ∈ ps, sp p.block = true) → DataW.TrodAll enc P w' 0 sp held ts vs ds ps
  | [], [], [], _, _, h, _, _ => h
  | t :: ts, v :: vs, d :: ds, ps, hp, ⟨p, q, ⟨fuel, h1⟩, h2, e⟩, hk, hs => by
    subst e
    simp only [List.all_cons, Bool.and_eq_true] at hp
    have hlt := DataW.trod_lt fuel t _ _ h1
    have hsame : ∀ x ∈ p, w.sameAt w' x := by
      intro x hx
      have := hlt x hx
      cases x with
      | cell b o => simp only [World.sameAt, World.cell?]; simp only [MemPlace.block] at this; rw [hk.heap b this]
      | map b => simp only [World.sameAt]; exact hk.heap b this
    have a1 := trod_spare fuel k t _ _ hp.1 h1 (fun x hx => hs x (List.mem_append.2 (.inl hx)))
    exact ⟨p, q, ⟨fuel, DataW.trod_carry fuel t _ _ a1 hsame⟩, trodAll_spare hp.2 h2 hk (fun x hx => hs x (List.mem_append.2 (.inr hx))), rfl⟩
def RdV (P : Program) (h : AHeap) (k : Nat) (t : TypeId) (v : Value) : Prop :=
  match P.underlying t with
  | some (.struct _) => ∃ vs, v = .agg vs.toArray ∧ Rd P h k t vs
  | some (.array _ _) => ∃ vs, v = .agg vs.toArray ∧ Rd P h k t vs
  | _ => Rd P h k t [v]
theorem RdV.mono {h h' : AHeap} (hn : h.next ≤ h'.next) (hk : ∀ r o, h.get r = some o → h'.get r = some o) {k : Nat} {t : TypeId} {v : Value} (hv : RdV P h k t v) : RdV P h' k t v := by
  unfold RdV at hv ⊢
  split at hv
  · obtain ⟨vs, h1, h2⟩ := hv; exact ⟨vs, h1, h2.mono hn hk⟩
  · obtain ⟨vs, h1, h2⟩ := hv; exact ⟨vs, h1, h2.mono hn hk⟩
  · exact Rd.mono hn hk hv
def RdArgs (P : Program) (h : AHeap) (k : Nat) : List TypeId → List Value → Prop
  | [], [] => True
  | t :: ts, v :: vs => RdV P h k t v ∧ RdArgs P h k ts vs
  | _, _ => False
theorem view_value {k : Nat} {t : TypeId} {v : Value} {r : Reach} {base : Nat} (hp : plainT P k t = true) (hval : Value.okWide P w r base t v) {fuel : Nat} {x : DataW H × List MemPlace} (hx : DataW.trod enc P w 0 (fun _ => true) held fuel t v.cells.toList = some x)
    (μ : Emb) (h : AHeap) (st : StRel μ h w) (ro : ∀ r o, h.get r = some o → o.own = false) : ∃ μ' h' u, Grow μ h μ' h' w ∧ VRel μ' h'.next u v ∧ RdV P h' k t u := by
  obtain ⟨μ', h', vs, g, l, rd⟩ := view k t hp fuel _ _ hx μ h st ro
  unfold Value.okWide at hval
  have agg : (∃ cs, v = .agg cs ∧ cs.size = P.cellsOf t ∧ Row.okWide P w r base t cs) → ∃ u, VRel μ' h'.next u v ∧ ∃ vs, u = .agg vs.toArray ∧ Rd P h' k t vs := by
    rintro ⟨cs, rfl, _⟩
    exact ⟨.agg vs.toArray, .agg (by simpa [Value.cells] using l), vs, rfl, rd⟩
  have one : (∀ cs, v ≠ .agg cs) → ∃ u, VRel μ' h'.next u v ∧ Rd P h' k t [u] := by
    intro hne
    have hc : v.cells.toList = [v] := by cases v <;> first | rfl | exact (hne _ rfl).elim
    rw [hc] at l
    cases l with
    | cons h1 t1 => cases t1; exact ⟨_, h1, rd⟩
  unfold RdV
  split at hval
  · rename_i fs hu
    obtain ⟨u, h1, h2⟩ := agg hval
    exact ⟨μ', h', u, g, h1, by rw [hu]; exact h2⟩
  · rename_i m e hu
    obtain ⟨u, h1, h2⟩ := agg hval
    exact ⟨μ', h', u, g, h1, by rw [hu]; exact h2⟩
  · rename_i hn1 hn2
    obtain ⟨u, h1, h2⟩ := one (by
      rintro cs rfl
      unfold Cell.okWide at hval
      split at hval <;> first | (rename_i heq; simp_all; done) | skip
      unfold Cell.ok at hval
      split at hval <;> first | (simp_all; done) | exact hval)
    refine ⟨μ', h', u, g, h1, ?_⟩
    split
    · rename_i fs hu; exact (hn1 fs hu).elim
    · rename_i m e hu; exact (hn2 m e hu).elim
    · exact h2
theorem view_args {k : Nat} {r : Reach} {base : Nat} : ∀ {ts : List TypeId} {vs : List Value} {ds : List (DataW H)} {ps : List MemPlace}, ts.all (plainT P k) = true → (∀ (j : Nat) t v, ts[j]? = some t → vs[j]? = some v → Value.okWide P w r base t v) →
    DataW.TrodAll enc P w 0 (fun _ => true) held ts vs ds ps → ∀ (μ : Emb) (h : AHeap), StRel μ h w → (∀ r o, h.get r = some o → o.own = false) → ∃ μ' h' us, Grow μ h μ' h' w ∧ LRel μ' h'.next us vs ∧ RdArgs P h' k ts us
  | [], [], [], _, _, _, _, μ, h, st, ro => ⟨μ, h, [], .refl st ro, .nil, trivial⟩
  | t :: ts, v :: vs, d :: ds, ps, hp, hval, ⟨p, q, ⟨fuel, h1⟩, h2, e⟩, μ, h, st, ro => by
    simp only [List.all_cons, Bool.and_eq_true] at hp
    obtain ⟨μ1, h1', u, g1, l1, r1⟩ := view_value hp.1 (hval 0 t v rfl rfl) h1 μ h st ro
    obtain ⟨μ2, h2', us, g2, l2, r2⟩ := view_args hp.2 (fun j t v ht hv => hval (j + 1) t v (by simpa using ht) (by simpa using hv)) h2 μ1 h1' g1.st g1.ro
    exact ⟨μ2, h2', u :: us, g1.trans g2, .cons (l1.mono g2.agree g2.next) l2, r1.mono g2.next g2.kept, r2⟩
theorem law_calls {k : Nat} {r : Reach} {base : Nat} {f : FuncId} {fn : Func} {s : ChangeSpec} {apart fresh handsOn again : Bool} {args : Array Value} {ds gs : List (DataW H)} {before : List MemPlace} (hvars : s.vars = [])
    (hp : fn.params.toList.all (plainT P k) = true) (hval : ∀ (j : Nat) t v, fn.params[j]? = some t → args[j]? = some v → Value.okWide P w r base t v)
    (hW : DataW.Whole enc P fn.params.toList s.vars apart w args.toList ds gs before)
    (hlaw : ∀ (h : AHeap) (us : List Value), RdArgs P h k fn.params.toList us → FWp P f us h fun u _ => u = .bool true)
    (hspec : ∀ ds : List (DataW H), ds.length = fn.params.size → (s.fn H ds).args = ds ∧ (s.fn H ds).vars = [] ∧
      ∀ (w' : World) (b : Nat) (sp : Nat → Bool) (hd : Bool), DataW.TrodAll enc P w' b sp hd fn.resultTypes.toList ((Value.bool true).resultList fn.resultTypes.size) (s.fn H ds).results [])
    (hok : ∀ (w' : World) (j : Nat) (t : TypeId) (r : Value), fn.resultTypes[j]? = some t → ((Value.bool true).resultList fn.resultTypes.size)[j]? = some r → Value.okWide P w' .any 0 t r) :
    Calls P f args w fun e w' => ∃ v, e = .returned v ∧ s.post enc P fn apart fresh handsOn again w args v w' := by
  have hW' := hW
  obtain ⟨p, q, hA, hV, hps, hfz, hnd⟩ := hW
  rw [hvars] at hV
  have hgs : gs = [] ∧ q = [] := by
    cases gs with
    | nil => exact ⟨rfl, hV⟩
    | cons g gs => exact hV.elim
  obtain ⟨rfl, rfl⟩ := hgs
  have hlen : ds.length = fn.params.size := by
    have : ∀ {ts : List TypeId} {vs : List Value} {ds : List (DataW H)} {ps : List MemPlace}, DataW.TrodAll enc P w 0 (fun _ => true) true ts vs ds ps → ds.length = ts.length := by
      intro ts
      induction ts with
      | nil => intro vs ds ps h; cases vs <;> cases ds <;> first | rfl | exact h.elim
      | cons t ts ih => intro vs ds ps h; cases vs <;> cases ds <;> first | exact h.elim | (obtain ⟨a, b, _, h2, _⟩ := h; simp [ih h2])
    have := this hA
    simpa using this
  have st0 : StRel (fun _ => none) ⟨0, .leaf⟩ w := ⟨fun r o hr => (by cases hr), fun r q o p e f hr => (by cases hr)⟩
  obtain ⟨μ, h, us, g, l, rd⟩ := view_args hp (fun j t v ht hv => hval j t v (by simpa using ht) (by simpa using hv)) hA _ _ st0 (fun r o hr => by cases hr)
  refine ((hlaw h us rd) μ args w l g.st).mono ?_
  rintro e w' ⟨u, v', h', μ', rfl, rfl, x, hr⟩
  have hv' : v' = .bool true := hr.flat_eq rfl
  subst hv'
  have hk : Kept w w' := ⟨x.os, x.output, x.size, fun b hb => (x.frame b hb fun r o e hr ho => by rw [g.ro r o hr] at ho; cases ho).1⟩
  obtain ⟨s1, s2, s3⟩ := hspec ds hlen
  refine ⟨_, rfl, post_of_kept (pa := p) (pv := []) hW' ?_ ?_ ?_ (by rw [hps]) hk (hok w')⟩
  · intro b sp hd; rw [List.append_nil]; exact s3 w' b sp hd
  · intro sp hsp
    rw [List.append_nil, s1]
    refine trodAll_spare hp hA hk fun x hx => hsp x ?_
    rw [hps]; exact List.mem_append.2 (.inl hx)
  · intro sp hsp
    rw [List.append_nil, s2, hvars]; rfl
end
end Go.Ab
