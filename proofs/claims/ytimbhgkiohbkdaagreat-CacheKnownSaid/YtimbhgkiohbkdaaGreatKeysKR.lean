/-
  The keys of a map, collected and sorted, at string, for the maps of page. Merged: SortA, Sort12U, SortNU. The keys of a map of numbers, read out of a heap, and sorted. The keys of a map, collected and sorted, at uint64, for the maps of tree. The keys of a map, collected and sorted, at uint64, for the maps of lss. The keys of a map, collected and sorted, at uint64, for the maps of tree.
-/
import Derived.Test.YtimbhgkiohbkdaaGreatTy
import Derived.Test.YtimbhgkiohbkdaaGreatAb22
namespace Go.Proofs.YtimbhgkiohbkdaaGreat.SortS.KR
open Go.Ab Go.Sort
set_option linter.unusedSimpArgs false
set_option linter.unusedVariables false
set_option maxRecDepth 10000
set_option maxHeartbeats 8000000
noncomputable abbrev P0 (p : Nat) : Value := .pointer (some ⟨p, 0, none⟩)
structure MapOK (l : List (El × Value × Nat)) (clock : Nat) : Prop where
  lt : ∀ x ∈ l, x.2.2 < clock
  inj : ∀ x ∈ l, ∀ y ∈ l, x.2.2 = y.2.2 → x = y
  nodup : l.Nodup
theorem keys_c (h : AHeap) (m : Nat) : FWp Tryz.prog 162 [.map (some m)] h fun u h' => u = .func (.func 221) #[] #[P0 h.next] ∧ h' = h.new (.cells [.map (some m)] 1) := by
  refine W.enter tyOK Tryz.func162 rfl rfl ?_
  simp only [entry]
  refine W.seq <| W.reg <| OSuf.aop tyOK rfl (so_box (by simp only [lk] <;> rfl)) rfl <| OSuf.aop tyOK rfl za rfl <| OSuf.nil <| SQ.normal ?_
  refine W.seq <| W.reg <| OSuf.aop tyOK rfl (so_makeFunc rfl (by simp only [aopnds, lk] <;> rfl) (by simp only [aopnds, lk] <;> rfl)) rfl <| OSuf.aop tyOK rfl za rfl <| OSuf.nil <| SQ.normal ?_
  refine CWp.ret <| FQ.ret (by simp only [aRet, Tryz.f162, aResults, aResult, lk, Nat.reduceEqDiff, reduceIte] <;> first | rfl | (simp only [tyall] <;> rfl) | (simp [tyall] <;> rfl)) ?_
  -- leaf: end
  exact ⟨rfl, rfl⟩
inductive OutAt (h : AHeap) (lo : Nat) (ks : List El) : Value → Prop
  | none (e : ks = []) : OutAt h lo ks (.slice none 0 0)
  | some {x n : Nat} (hne : ks ≠ []) (e : n = ks.length) (hlo : lo ≤ x) (hx : x < h.next) (hg : h.get x = .some (.cells (ks.map enc) 1)) : OutAt h lo ks (.slice (.some ⟨x, 0, .none⟩) n 0)
structure KSt (h0 h : AHeap) (LP : ALoop) (m clock : Nat) (ys : List (El × Value × Nat)) (seen : Array Nat) : Prop where
  next : h0.next + 3 ≤ h.next
  out : ∃ o, h.get h0.next = some (.cells [o] 1) ∧ OutAt h (h0.next + 3) (ys.map (·.1)) o
  loop : h.get (h0.next + 1) = some (.loop LP)
  iter : h.get (h0.next + 2) = some (.mapIter (some m) clock seen clock)
  old : ∀ z, z < h0.next → h.get z = h0.get z
theorem iter_step {h g : AHeap} {LP : ALoop} {m clock : Nat} {ys : List (El × Value × Nat)} {seen seen' : Array Nat} (hK : KSt h g LP m clock ys seen) : KSt h (g.set (h.next + 2) (.mapIter (some m) clock seen' clock)) LP m clock ys seen' := by
  obtain ⟨h1, ⟨o, h2, h3⟩, h4, h5, h6⟩ := hK
  refine ⟨h1, ⟨o, ?_, ?_⟩, ?_, AHeap.get_set_same _ _ _, ?_⟩
  · rw [AHeap.get_set_ne (by omega)]; exact h2
  · cases h3 with
    | none e => exact .none e
    | some ne e a b c => exact .some ne e a b (by rw [AHeap.get_set_ne (by omega)]; exact c)
  · rw [AHeap.get_set_ne (by omega)]; exact h4
  · intro z hz; rw [AHeap.get_set_ne (by omega)]; exact h6 z hz
theorem find_born {l : List (El × Value × Nat)} {clock : Nat} (hok : MapOK l clock) {x : El × Value × Nat} (hx : x ∈ l) : (mkK enc l).find? (fun e => e.born == x.2.2) = some ⟨enc x.1, x.2.1, x.2.2⟩ := by
  have key : ∀ l' : List (El × Value × Nat), (∀ y ∈ l', y ∈ l) → x ∈ l' → (mkK enc l').find? (fun e => e.born == x.2.2) = some ⟨enc x.1, x.2.1, x.2.2⟩ := by
    intro l'
    induction l' with
    | nil => intro _ h; cases h
    | cons y l' ih =>
      intro hs hm
      simp only [mkK, List.map_cons, List.find?_cons]
      by_cases hb : y.2.2 = x.2.2
      · have := hok.inj y (hs y List.mem_cons_self) x hx hb
        subst this; simp
      · have e1 : (y.2.2 == x.2.2) = false := by simpa using hb
        rw [e1]
        cases hm with
        | head => exact (hb rfl).elim
        | tail _ h9 => exact ih (fun z hz => hs z (List.mem_cons_of_mem _ hz)) h9
  exact key l (fun _ h => h) hx
theorem nat_le : ∀ (a b : List Nat), a.Nodup → (∀ x ∈ a, x ∈ b) → a.length ≤ b.length
  | [], b, _, _ => Nat.zero_le _
  | x :: a, b, hn, hs => by
    have hx := hs x List.mem_cons_self
    have hn' := List.nodup_cons.1 hn
    have := nat_le a (b.erase x) hn'.2 (fun y hy => (List.mem_erase_of_ne (fun e => hn'.1 (by rw [← e]; exact hy))).2 (hs y (List.mem_cons_of_mem _ hy)))
    rw [List.length_erase_of_mem hx] at this
    have : 0 < b.length := List.length_pos_of_mem hx
    simp; omega
theorem nodup_le {l ys : List (El × Value × Nat)} {clock : Nat} (hok : MapOK l clock) (hnd : ys.Nodup) (hsub : ∀ y ∈ ys, y ∈ l) : ys.length ≤ l.length := by
  have h1 : (ys.map (·.2.2)).Nodup := by
    have : ∀ zs : List (El × Value × Nat), zs.Nodup → (∀ y ∈ zs, y ∈ l) → (zs.map (·.2.2)).Nodup := by
      intro zs
      induction zs with
      | nil => intro _ _; simp
      | cons z zs ih =>
        intro hn hs
        have hn' := List.nodup_cons.1 hn
        simp only [List.map_cons, List.nodup_cons]
        refine ⟨fun hm => ?_, ih hn'.2 fun y hy => hs y (List.mem_cons_of_mem _ hy)⟩
        obtain ⟨y, hy, hb⟩ := List.mem_map.1 hm
        have := hok.inj y (hs y (List.mem_cons_of_mem _ hy)) z (hs z List.mem_cons_self) hb
        subst this; exact hn'.1 hy
    exact this ys hnd hsub
  have := nat_le (ys.map (·.2.2)) (l.map (·.2.2)) h1 (fun x hx => by
    obtain ⟨y, hy, rfl⟩ := List.mem_map.1 hx
    exact List.mem_map.2 ⟨y, hsub y hy, rfl⟩)
  simpa using this
theorem nodup_lt {l ys : List (El × Value × Nat)} {clock : Nat} (hok : MapOK l clock) {x : El × Value × Nat} (hnd : ys.Nodup) (hsub : ∀ y ∈ ys, y ∈ l) (hx : x ∈ l) (hn : x ∉ ys) : ys.length < l.length := by
  have h1 : (x :: ys).Nodup := List.nodup_cons.2 ⟨hn, hnd⟩
  have := nodup_le hok h1 (fun y hy => by cases hy with | head => exact hx | tail _ h9 => exact hsub y h9)
  simp at this; omega
theorem all_seen {l ys : List (El × Value × Nat)} {clock : Nat} {seen : Array Nat} (hok : MapOK l clock) (hnd : ys.Nodup) (hsub : ∀ y ∈ ys, y ∈ l) (hseen : seen.toList = ys.map (·.2.2)) (he : (left (mkK enc l) seen).filter (fun e => decide (e.born < clock)) = []) : ys.Perm l := by
  refine (List.perm_ext_iff_of_nodup hnd hok.nodup).2 fun x => ⟨hsub x, fun hx => ?_⟩
  have h1 : (⟨enc x.1, x.2.1, x.2.2⟩ : AEnt) ∈ mkK enc l := List.mem_map.2 ⟨x, hx, rfl⟩
  have h2 := List.filter_eq_nil_iff.1 he
  by_cases hc : x.2.2 ∈ seen.toList
  · rw [hseen] at hc
    obtain ⟨y, hy, hb⟩ := List.mem_map.1 hc
    have := hok.inj y (hsub y hy) x hx hb
    subst this; exact hy
  · exfalso
    refine h2 ⟨enc x.1, x.2.1, x.2.2⟩ ?_ (by simpa using hok.lt x hx)
    simp only [left, List.mem_filter]
    exact ⟨h1, by simpa using hc⟩
theorem append_c (h : AHeap) (q m clock : Nat) (l : List (El × Value × Nat)) (hok : MapOK l clock) (hq : q < h.next) (hm : m < h.next) (hgq : h.get q = some (.cells [.map (some m)] 1)) (hgm : h.get m = some (.map (mkK enc l) clock)) (hbig : l.length ≤ 1000000) :
    FWp Tryz.prog 258 [.slice none 0 0, .func (.func 221) #[] #[P0 q]] h fun u h' => ∃ ys : List (El × Value × Nat), ys.Perm l ∧ OutAt h' h.next (ys.map (·.1)) u ∧ (∀ z, z < h.next → h'.get z = h.get z) := by
  refine W.enter tyOK Tryz.func258 rfl rfl ?_
  simp only [entry]
  refine W.seq <| W.reg <| OSuf.aop tyOK rfl (so_box (by simp only [lk] <;> rfl)) rfl <| OSuf.aop tyOK rfl za rfl <| OSuf.nil <| SQ.normal ?_
  refine W.seq <| W.seq <| W.reg <| OSuf.aop tyOK rfl sm rfl <| OSuf.nil <| SQ.normal ?_
  -- leaf: loop
  refine W.block (CWp.rangeFunc (by simp only [aopnd, Tr.get_put, Nat.reduceEqDiff, reduceIte] <;> rfl) (fun l hl => by cases hl) (VWp.func en221 ?_))
  show FWp _ _ [_, _] _ _
  generalize hLP : (ALoop.mk _ _ _ _ _ _ _ _) = LP
  have yield : ∀ (g : AHeap) (ys : List (El × Value × Nat)) (sn : Array Nat) (x : El × Value × Nat), KSt h g LP m clock ys sn → ys.length ≤ 1000000 →
      VWp Tryz.prog (.func (.yield (h.next + 1)) #[] #[]) [enc x.1] g fun u h3 => u = .bool true ∧ KSt h h3 LP m clock (ys ++ [x]) sn := by
    intro g ys sn x hK hlen
    obtain ⟨k1, ⟨o, k2, k3⟩, k4, k5, k6⟩ := hK
    have hl := k4
    rw [← hLP] at hl
    refine VWp.yield hl rfl ?_
    refine W.reg <| OSuf.aop tyOK rfl za rfl <| OSuf.nil <| ?_
    -- leaf: stop
    refine ⟨rfl, _, hl, rfl, ?_⟩
    cases k3 with
    | none e =>
      refine W.block <| W.reg <| OSuf.aop tyOK rfl (zl (hv := by simp (disch := first | assumption | omega | (simp only [nx] <;> omega) | fail) only [aLoad, ty106, rowOf, hpl, k2, Value.cells] <;> rfl)) rfl <| OSuf.aop tyOK rfl sm rfl <| OSuf.aop tyOK rfl (so_buildSlice (by simp only [aparts, lk] <;> rfl) (by simp only [aBuildSlice, ty106, ty9, k2, Value.cells] <;> first | rfl | (simp only [tyall] <;> rfl) | (simp [tyall] <;> rfl))) rfl <| OSuf.aop tyOK rfl (so_append (by simp only [aopnds, lk] <;> rfl) (ap_0 (by simp only [appT, ty106, ty9] <;> rfl) rfl (by simp (disch := first | assumption | omega | (simp only [nx] <;> omega) | fail) only [aCells, rowOf, hpl, k2, Value.cells] <;> rfl) (by decide) rfl)) rfl <| OSuf.aop tyOK rfl (zs (hv := by simp (disch := first | assumption | omega | (simp only [nx] <;> omega) | fail) only [aStore, ty106, writeRow, hpl, k2, Value.cells] <;> rfl)) rfl <| OSuf.nil <| BQ.normal <| ?_
      -- leaf: stop
      refine ⟨_, by (simp (disch := first | assumption | omega | (simp only [nx] <;> omega) | fail) only [AHeap.get_set_ne, AHeap.get_set_same, AHeap.get_new_ne, AHeap.next_set, AHeap.next_new]; rfl), rfl, ?_, ⟨.slice (some ⟨g.next + 1, 0, none⟩) 1 0, ?_, .some (x := g.next + 1) (by simp) ?_ ?_ ?_ ?_⟩, ?_, ?_, ?_⟩
      · simp only [AHeap.next_set, AHeap.next_new]; omega
      · simp (disch := first | assumption | omega | (simp only [nx] <;> omega) | fail) only [AHeap.get_set_ne, AHeap.get_set_same]; rfl
      · simp [e]
      · omega
      · simp only [AHeap.next_set, AHeap.next_new]; omega
      · simp (disch := first | assumption | omega | (simp only [nx] <;> omega) | fail) only [AHeap.get_set_ne, AHeap.get_new_at, AHeap.next_set, AHeap.next_new]; simp [e]; rfl
      · rw [AHeap.get_set_same, ← hLP]; rfl
      · simp (disch := first | assumption | omega | (simp only [nx] <;> omega) | fail) only [AHeap.get_set_ne, AHeap.get_new_ne, AHeap.next_set, AHeap.next_new]; exact k5
      · intro z hz; simp (disch := first | assumption | omega | (simp only [nx] <;> omega) | fail) only [AHeap.get_set_ne, AHeap.get_new_ne, AHeap.next_set, AHeap.next_new]; exact k6 z hz
    | @some x1 n1 ne e e1 e2 e3 =>
      have hc : cellsOf ((ys.map (·.1)).map enc) 0 (n1 * 1) = some ((ys.map (·.1)).map enc) := cellsOf_all (by rw [e]; simp)
      have hn1 : n1 ≤ 1000000 := by rw [e]; simpa using hlen
      refine W.block <| W.reg <| OSuf.aop tyOK rfl (zl (hv := by simp (disch := first | assumption | omega | (simp only [nx] <;> omega) | fail) only [aLoad, ty106, rowOf, hpl, k2, e3, Value.cells] <;> rfl)) rfl <| OSuf.aop tyOK rfl sm rfl <| OSuf.aop tyOK rfl (so_buildSlice (by simp only [aparts, lk] <;> rfl) (by simp only [aBuildSlice, ty106, ty9, k2, e3, Value.cells] <;> first | rfl | (simp only [tyall] <;> rfl) | (simp [tyall] <;> rfl))) rfl <| OSuf.aop tyOK rfl (so_append (by simp only [aopnds, lk] <;> rfl) (ap_u (by simp only [appT, ty106, ty9] <;> rfl) rfl (by simp (disch := first | assumption | omega | (simp only [nx] <;> omega) | fail) only [aCells, rowOf, hpl, k2, e3, Value.cells] <;> rfl) (by show (2 * (n1 + 1) + 256) * 16 ≤ _; omega) rfl (by simp (disch := first | assumption | omega | (simp only [nx] <;> omega) | fail) only [aCells, rowOf, hpl, k2, e3, Value.cells] <;> rfl) rfl hc)) rfl <| OSuf.aop tyOK rfl (zs (hv := by simp (disch := first | assumption | omega | (simp only [nx] <;> omega) | fail) only [aStore, ty106, writeRow, hpl, k2, e3, Value.cells] <;> rfl)) rfl <| OSuf.nil <| BQ.normal <| ?_
      -- leaf: stop
      refine ⟨_, by (simp (disch := first | assumption | omega | (simp only [nx] <;> omega) | fail) only [AHeap.get_set_ne, AHeap.get_set_same, AHeap.get_new_ne, AHeap.get_kill_ne, AHeap.next_set, AHeap.next_new, AHeap.next_kill]; rfl), rfl, ?_, ⟨.slice (some ⟨g.next + 1, 0, none⟩) (n1 + 1) 0, ?_, .some (x := g.next + 1) (by simp) ?_ ?_ ?_ ?_⟩, ?_, ?_, ?_⟩
      · simp only [AHeap.next_set, AHeap.next_new, AHeap.next_kill]; omega
      · simp (disch := first | assumption | omega | (simp only [nx] <;> omega) | fail) only [AHeap.get_set_ne, AHeap.get_set_same]; rfl
      · simp [e]
      · omega
      · simp only [AHeap.next_set, AHeap.next_new, AHeap.next_kill]; omega
      · simp (disch := first | assumption | omega | (simp only [nx] <;> omega) | fail) only [AHeap.get_set_ne, AHeap.get_new_at, AHeap.next_set, AHeap.next_new, AHeap.next_kill, List.map_append]; rfl
      · rw [AHeap.get_set_same, ← hLP]; rfl
      · simp (disch := first | assumption | omega | (simp only [nx] <;> omega) | fail) only [AHeap.get_set_ne, AHeap.get_new_ne, AHeap.get_kill_ne, AHeap.next_set, AHeap.next_new, AHeap.next_kill]; exact k5
      · intro z hz; simp (disch := first | assumption | omega | (simp only [nx] <;> omega) | fail) only [AHeap.get_set_ne, AHeap.get_new_ne, AHeap.get_kill_ne, AHeap.next_set, AHeap.next_new, AHeap.next_kill]; exact k6 z hz
  refine W.enter tyOK Tryz.func221 rfl rfl ?_
  simp only [entry]
  refine W.seq <| W.reg <| OSuf.aop tyOK rfl (zl (hv := by simp (disch := first | assumption | omega | (simp only [nx] <;> omega) | fail) only [aLoad, ty215, rowOf, hpl, hgq, hgm, Value.cells] <;> rfl)) rfl <| OSuf.aop tyOK rfl (so_range (by simp only [lk] <;> rfl) (by simp (disch := first | assumption | omega | (simp only [nx] <;> omega) | fail) only [aRange, ty215, hpl, hgq, hgm, Value.cells] <;> rfl)) rfl <| OSuf.nil <| SQ.normal ?_
  -- leaf: loop
  refine W.cut (fun L h2 => ∃ ys seen, ys.Perm l ∧ KSt h h2 LP m clock ys seen) (W.block (W.loop (fun n L h2 => ∃ ys seen, n + ys.length = l.length ∧ ys.Nodup ∧ (∀ y ∈ ys, y ∈ l) ∧ seen.toList = ys.map (·.2.2) ∧ KSt h h2 LP m clock ys seen ∧
      L = [(0, .func (.yield (h.next + 1)) #[] #[]), (5, P0 (h.next + 2))]) (n := l.length) ⟨[], #[], by simp, by simp, by simp, rfl, ⟨?_, ⟨_, ?_, .none rfl⟩, ?_, ?_, ?_⟩, rfl⟩ ?_ ?_)) ?_
  · simp only [AHeap.next_new]; omega
  · simp (disch := first | assumption | omega | (simp only [nx] <;> omega) | fail) only [AHeap.get_new_at, AHeap.get_new_ne, AHeap.next_new]
  · simp (disch := first | assumption | omega | (simp only [nx] <;> omega) | fail) only [AHeap.get_new_at, AHeap.get_new_ne, AHeap.next_new]
  · simp (disch := first | assumption | omega | (simp only [nx] <;> omega) | fail) only [AHeap.get_new_at, AHeap.get_new_ne, AHeap.next_new]
  · intro z hz; simp (disch := first | assumption | omega | (simp only [nx] <;> omega) | fail) only [AHeap.get_new_at, AHeap.get_new_ne, AHeap.next_new]
  · simp [HasA, Tr.get_put]
  · rintro n L h2 ⟨ys, seen, hn, hnd, hsub, hseen, hK, rfl⟩
    simp only [mkA]
    have hgm2 : h2.get m = some (.map (mkK enc l) clock) := by rw [hK.old m hm]; exact hgm
    have hc : (!seen.isEmpty && !(mkK enc l).isEmpty && (mkK enc l).all (fun e => decide (e.born ≥ clock))) = false := by
      cases l with
      | nil => simp [mkK]
      | cons x l =>
        have := hok.lt x List.mem_cons_self
        have e1 : decide (x.2.2 ≥ clock) = false := by simp; omega
        simp [mkK, e1]
    refine W.seq <| W.reg <| OSuf.next rfl (by simp only [lk] <;> rfl) hK.iter hgm2 hc (fun he => ⟨_, rfl, ?_⟩) (fun e he => ⟨_, rfl, ?_⟩)
    · skip
      refine OSuf.aopF tyOK rfl (ze (hv := by simp (disch := first | assumption | omega | (simp only [nx] <;> omega) | fail) only [aExtract, hpl] <;> rfl)) (fun _ => rfl) (by first | rfl | assumption | ((simp only [bl]) <;> first | done | assumption | omega) | (simp; done) | (simp; omega)) <| OSuf.nil <| SQ.normal ?_
      refine W.seq <| W.no (by simp only [lk] <;> rfl) <| CWp.exit <| SQ.exit <| LQ.exit <| BQ.exit <| ?_
      refine NQ.normal (L := []) trivial ⟨ys, seen, ?_, hK⟩
      exact all_seen hok hnd hsub hseen he
    · skip
      obtain ⟨x, hxl, hxs, rfl⟩ : ∃ x ∈ l, x.2.2 ∉ ys.map (·.2.2) ∧ e = ⟨enc x.1, x.2.1, x.2.2⟩ := by (simp only [left, mkK, List.mem_filter, List.mem_map] at he; obtain ⟨⟨x, hx, rfl⟩, h9⟩ := he; refine ⟨x, hx, ?_, rfl⟩; rw [← hseen]; simpa using h9)
      have hK2 : KSt h (h2.set (h.next + 2) (.mapIter (some m) clock (seen.push x.2.2) clock)) LP m clock ys (seen.push x.2.2) := iter_step hK
      have hfind : (mkK enc l).find? (fun e => e.born == x.2.2) = some ⟨enc x.1, x.2.1, x.2.2⟩ := find_born hok hxl
      have hy := yield _ ys _ x hK2 (by have := nodup_le hok hnd hsub; omega)
      refine OSuf.aopT tyOK rfl (ze (hv := by simp (disch := first | assumption | omega | (simp only [nx] <;> omega) | fail) only [aExtract, hpl] <;> rfl)) (fun _ => rfl) (by first | rfl | assumption | ((simp only [bl]) <;> first | done | assumption | omega) | (simp; done) | (simp; omega)) <| OSuf.nil <| SQ.normal ?_
      refine W.seq <| W.yes (by simp only [lk] <;> rfl) <| CWp.skip <| SQ.normal ?_
      refine W.block <| W.seq <| W.reg <| OSuf.aop tyOK rfl (so_entry (by simp only [lk] <;> rfl) (en_ok (AHeap.get_set_same _ _ _) (by simp (disch := first | assumption | omega | (simp only [nx] <;> omega) | fail) only [aCells, rowOf, hpl] <;> exact hgm2) hfind)) rfl <| OSuf.aop tyOK rfl (ze (hv := by simp (disch := first | assumption | omega | (simp only [nx] <;> omega) | fail) only [aExtract, hpl] <;> rfl)) rfl <| OSuf.aop tyOK rfl za rfl <| OSuf.nil <| SQ.normal ?_
      refine W.seq <| W.reg <| OSuf.aop tyOK rfl sm rfl <| OSuf.aop tyOK rfl sm rfl <| OSuf.vcall rfl (by simp only [lk] <;> rfl) (by simp only [aopnds, lk] <;> rfl) (hy) ?_
      rintro _ h3 ⟨rfl, hK3⟩
      refine ⟨_, rfl, ?_⟩
      refine OSuf.aopF tyOK rfl (so_not (by simp only [lk] <;> rfl)) (fun _ => rfl) rfl <| OSuf.nil <| SQ.normal ?_
      refine W.no (by simp only [lk] <;> rfl) <| CWp.skip <| BQ.normal <| ?_
      refine LQ.normal (m := n - 1) (L := [(0, .func (.yield (h.next + 1)) #[] #[]), (5, P0 (h.next + 2))]) ?_ ?_ ⟨ys ++ [x], seen.push x.2.2, ?_, ?_, ?_, ?_, hK3, rfl⟩
      · have := nodup_lt hok hnd hsub hxl (fun hx => hxs (List.mem_map.2 ⟨x, hx, rfl⟩)); omega
      · simp only [HasA, Tr.get_put, Nat.reduceEqDiff, reduceIte, and_self]
      · have := nodup_lt hok hnd hsub hxl (fun hx => hxs (List.mem_map.2 ⟨x, hx, rfl⟩)); simp; omega
      · exact List.nodup_append.2 ⟨hnd, by simp, fun a ha b hb => by simp at hb; subst hb; rintro rfl; exact hxs (List.mem_map.2 ⟨_, ha, rfl⟩)⟩
      · intro y hy; rcases List.mem_append.1 hy with h9 | h9
        · exact hsub y h9
        · simp at h9; subst h9; exact hxl
      · simp [hseen]
  rintro L a' h2 ha ⟨ys, seen, hperm, hK⟩
  refine FQ.normal (by simp only [aRet, Tryz.f221, aResults] <;> first | rfl | (simp only [tyall] <;> rfl) | (simp [tyall] <;> rfl)) ?_
  refine ⟨LP, .normal, hK.loop, by rw [← hLP]; rfl, by rw [← hLP]; rfl, ?_⟩
  obtain ⟨o, ho1, ho2⟩ := hK.out
  have hnx : h.next + 3 ≤ h2.next := hK.next
  refine BQ.normal <| SQ.normal ?_
  refine W.seq <| W.reg <| OSuf.aop tyOK rfl (zl (hv := by simp (disch := first | assumption | omega | (simp only [nx] <;> omega) | fail) only [aLoad, ty106, rowOf, hpl, ho1] <;> rfl)) rfl <| OSuf.aop tyOK rfl za rfl <| OSuf.nil <| SQ.normal ?_
  refine CWp.ret <| FQ.ret (by simp only [aRet, Tryz.f258, aResults, aResult, lk, Nat.reduceEqDiff, reduceIte] <;> first | rfl | (simp only [tyall] <;> rfl) | (simp [tyall] <;> rfl)) ?_
  -- leaf: end
  refine ⟨ys, hperm, ?_, fun z hz => ?_⟩
  · cases ho2 with
    | none e => exact .none e
    | some ne e h5 h6 h7 => exact .some ne e (by omega) h6 (by rw [AHeap.get_kill_ne (by simp only [AHeap.next_new]; omega)]; exact h7)
  · rw [AHeap.get_kill_ne (by simp only [AHeap.next_new]; omega)]; exact hK.old z hz
theorem collect_c (h : AHeap) (q m clock : Nat) (l : List (El × Value × Nat)) (hok : MapOK l clock) (hq : q < h.next) (hm : m < h.next) (hgq : h.get q = some (.cells [.map (some m)] 1)) (hgm : h.get m = some (.map (mkK enc l) clock)) (hbig : l.length ≤ 1000000) :
    FWp Tryz.prog 209 [.func (.func 221) #[] #[P0 q]] h fun u h' => ∃ ys : List (El × Value × Nat), ys.Perm l ∧ OutAt h' h.next (ys.map (·.1)) u ∧ (∀ z, z < h.next → h'.get z = h.get z) := by
  refine W.enter tyOK Tryz.func209 rfl rfl ?_
  simp only [entry]
  refine W.seq <| W.reg <| OSuf.aop tyOK rfl za rfl <| OSuf.nil <| SQ.normal ?_
  refine W.seq <| W.reg <| OSuf.aop tyOK rfl sm rfl <| OSuf.call rfl (by simp only [aopnds, lk] <;> rfl) en258 (append_c h q m clock l hok hq hm hgq hgm hbig) ?_
  rintro u h1 hK
  refine ⟨_, rfl, ?_⟩
  refine OSuf.aop tyOK rfl za rfl <| OSuf.nil <| SQ.normal ?_
  refine CWp.ret <| FQ.ret (by simp only [aRet, Tryz.f209, aResults, aResult, lk, Nat.reduceEqDiff, reduceIte] <;> first | rfl | (simp only [tyall] <;> rfl) | (simp [tyall] <;> rfl)) ?_
  -- leaf: end
  exact hK
theorem insertion_nil (h : AHeap) : FWp Tryz.prog 285 [.slice none 0 0, I64 0, I64 0] h fun u h' => u = .tuple #[] ∧ h' = h := by
  refine W.enter tyOK Tryz.func285 rfl rfl ?_
  simp only [entry]
  have w0 : IntKind.i64.wrap ((0 : Int) + 1) = 1 := by decide
  refine W.seq <| W.reg <| OSuf.aop tyOK rfl sm rfl <| OSuf.aop tyOK rfl (zb (hv := bi_w bi_add (by first | (simp only [w0] <;> rfl) | rfl))) rfl <| OSuf.aop tyOK rfl za rfl <| OSuf.nil <| SQ.normal ?_
  -- leaf: loop
  refine W.block (W.loop (fun n L h' => h' = h ∧ L = [(2, I64 0), (6, I64 1)]) (n := 0) ⟨rfl, rfl⟩ ?_ ?_)
  · simp [HasA, Tr.get_put]
  · rintro n L h1 ⟨rfl, rfl⟩
    simp only [mkA]
    refine W.seq <| W.seq <| W.reg <| OSuf.aop tyOK rfl sm rfl <| OSuf.aop tyOK rfl sm rfl <| OSuf.aopF tyOK rfl (zb (hv := bi_lss)) (fun _ => rfl) (by first | rfl | assumption | ((simp only [bl]) <;> first | done | assumption | omega) | (simp; done) | (simp; omega)) <| OSuf.nil <| SQ.normal ?_
    refine W.no (by simp only [lk] <;> rfl) <| CWp.exit <| SQ.exit <| LQ.exit <| BQ.exit <| FQ.normal (by simp only [aRet, Tryz.f285, aResults, aResult, lk, Nat.reduceEqDiff, reduceIte] <;> first | rfl | (simp only [tyall] <;> rfl) | (simp [tyall] <;> rfl)) ?_
    -- leaf: end
    exact ⟨rfl, rfl⟩
theorem pdq_nil (h : AHeap) (lim : Int) : FWp Tryz.prog 259 [.slice none 0 0, I64 0, I64 0, I64 lim] h fun u h' => u = .tuple #[] ∧ h' = h := by
  refine W.enter tyOK Tryz.func259 rfl rfl ?_
  simp only [entry]
  have w0 : IntKind.i64.wrap ((0 : Int) - 0) = 0 := by decide
  refine W.seq <| W.reg <| OSuf.aopT tyOK rfl za (fun _ => rfl) rfl <| OSuf.nil <| SQ.normal ?_
  refine W.seq <| W.reg <| OSuf.aopT tyOK rfl za (fun _ => rfl) rfl <| OSuf.nil <| SQ.normal ?_
  -- leaf: loop
  refine W.block (W.loop (fun n L h' => h' = h ∧ L = [(0, .slice none 0 0), (1, I64 0), (2, I64 0)]) (n := 0) ⟨rfl, rfl⟩ ?_ ?_)
  · simp [HasA, Tr.get_put]
  · rintro n L h1 ⟨rfl, rfl⟩
    simp only [mkA]
    refine W.block <| W.seq <| W.reg <| OSuf.aop tyOK rfl sm rfl <| OSuf.aop tyOK rfl sm rfl <| OSuf.aop tyOK rfl (zb (hv := bi_w bi_sub (by first | (simp only [w0] <;> rfl) | rfl))) rfl <| OSuf.aop tyOK rfl za rfl <| OSuf.nil <| SQ.normal ?_
    refine W.seq <| W.seq <| W.reg <| OSuf.aop tyOK rfl sm rfl <| OSuf.aopT tyOK rfl (zb (hv := bi_leq)) (fun _ => rfl) (by first | rfl | assumption | ((simp only [bl]) <;> first | done | assumption | omega) | (simp; done) | (simp; omega)) <| OSuf.nil <| SQ.normal ?_
    refine W.yes (by simp only [lk] <;> rfl) <| W.seq <| W.reg <| OSuf.aop tyOK rfl sm rfl <| OSuf.aop tyOK rfl sm rfl <| OSuf.aop tyOK rfl sm rfl <| OSuf.callD rfl (by simp only [aopnds, lk] <;> rfl) en285 (insertion_nil _) rfl <| OSuf.nil <| SQ.normal ?_
    refine CWp.ret <| SQ.ret <| BQ.ret <| LQ.ret <| BQ.ret <| FQ.ret (by simp only [aRet, Tryz.f259, aResults, aResult, lk, Nat.reduceEqDiff, reduceIte] <;> first | rfl | (simp only [tyall] <;> rfl) | (simp [tyall] <;> rfl)) ?_
    -- leaf: end
    exact ⟨rfl, rfl⟩
theorem sort_nil (h : AHeap) : FWp Tryz.prog 210 [.slice none 0 0] h fun u h' => u = .tuple #[] ∧ h' = h := by
  have w1 : IntKind.u64.wrap ((0 : Nat) : Int) = ((0 : Nat) : Int) := by decide
  refine W.enter tyOK Tryz.func210 rfl rfl ?_
  simp only [entry]
  refine W.seq <| W.reg <| OSuf.aop tyOK rfl sm rfl <| OSuf.aop tyOK rfl (so_len (by simp only [aopnds, lk] <;> rfl) (by simp (disch := first | assumption | omega | (simp only [nx] <;> omega) | fail) only [aLenOf, ty106, hpl] <;> rfl)) rfl <| OSuf.aop tyOK rfl za rfl <| OSuf.nil <| SQ.normal ?_
  refine W.reg <| OSuf.aop tyOK rfl sm rfl <| OSuf.aop tyOK rfl sm rfl <| OSuf.aop tyOK rfl sm rfl <| OSuf.aop tyOK rfl (so_conw (so_conv tyOK (by simp only [lk] <;> rfl) ty3 ⟨_, rfl⟩ ty153 rfl) (by first | (simp only [w1] <;> rfl) | rfl)) rfl <| OSuf.callD rfl (by simp only [aopnds, lk] <;> rfl) en131 (len_c _ 0 (by omega)) rfl <| OSuf.callD rfl (by simp only [aopnds, lk] <;> rfl) en259 (pdq_nil _ _) rfl <| OSuf.nil <| FQ.normal (by simp only [aRet, Tryz.f210, aResults, aResult, lk, Nat.reduceEqDiff, reduceIte] <;> first | rfl | (simp only [tyall] <;> rfl) | (simp [tyall] <;> rfl)) ?_
  -- leaf: end
  exact ⟨rfl, rfl⟩
theorem sorted_eq {d d' : Array El} {ks : List El} (hp : PermIn 0 d.size d d') (hs : SortedIn lt 0 d.size d') (hk : ks.Perm d.toList) (hks : ks.Pairwise (fun x y => lt y x = false)) : d'.toList = ks := by
  have hu : ∀ x y : El, lt x y = false → lt y x = false → x = y := fun x y h1 h2 => by simp only [lt, ltStr, decide_eq_false_iff_not, List.not_lt] at h1 h2; exact List.le_antisymm h2 h1
  have e1 := sorted_unique_holds (lt := lt) swo hu d d' hp hs
  have hsz : ks.length = d.size := by rw [hk.length_eq]; simp
  have e2 := sorted_unique_holds (lt := lt) swo hu d ks.toArray ⟨by simp [hsz], fun i hi => by
      rcases hi with hi | hi
      · omega
      · rw [getElem!_neg _ i (by simp; omega), getElem!_neg _ i (by omega)], by
      have e3 : (d.extract 0 d.size).toList = d.toList := by simp
      have e4 : (ks.toArray.extract 0 d.size).toList = ks := by simp [← hsz]
      rw [e3, e4]; exact hk⟩ (fun i j _ hij hj => by
      have := List.pairwise_iff_getElem.1 hks i j (by omega) (by omega) hij
      rw [getElem!_pos _ j (by simp; omega), getElem!_pos _ i (by simp; omega)]
      simpa using this)
  rw [e1, ← e2]
theorem sorted_c (h : AHeap) (q m clock : Nat) (l : List (El × Value × Nat)) (ks : List El) (hok : MapOK l clock) (hq : q < h.next) (hm : m < h.next) (hgq : h.get q = some (.cells [.map (some m)] 1)) (hgm : h.get m = some (.map (mkK enc l) clock)) (hbig : l.length ≤ 12)
    (hk : ks.Perm (l.map (·.1))) (hks : ks.Pairwise (fun x y => lt y x = false)) :
    FWp Tryz.prog 150 [.func (.func 221) #[] #[P0 q]] h fun u h' => (ks = [] ∧ u = .slice none 0 0 ∧ h' = h) ∨ (ks ≠ [] ∧ u = .slice (some ⟨h.next, 0, none⟩) ks.length 0 ∧ h' = h.new (.cells (ks.map enc) 1)) := by
  by_cases hnil : ks = []
  · have hl : l = [] := by
      subst hnil
      have := hk.length_eq
      simpa using this.symm
    have : FWp Tryz.prog 150 [.func (.func 221) #[] #[P0 q]] h fun u h' => u = .slice none 0 0 ∧ h' = h := by
      refine FWp.gcs (.flat rfl) ?_
      refine W.enter tyOK Tryz.func150 rfl rfl ?_
      simp only [entry]
      refine W.seq <| W.reg <| OSuf.aop tyOK rfl za rfl <| OSuf.nil <| SQ.normal ?_
      refine W.seq <| W.reg <| OSuf.aop tyOK rfl sm rfl <| OSuf.call rfl (by simp only [aopnds, lk] <;> rfl) en209 (collect_c h q m clock l hok hq hm hgq hgm (by omega)) ?_
      rintro u h1 ⟨ys, hp, ho, hf⟩
      obtain rfl : ys = [] := by (subst hl; exact hp.eq_nil)
      obtain rfl : u = .slice none 0 0 := by (cases ho with | none => rfl | some ne _ _ _ _ => exact (ne rfl).elim)
      refine ⟨_, rfl, ?_⟩
      refine OSuf.aop tyOK rfl za rfl <| OSuf.nil <| SQ.normal ?_
      refine W.seq <| W.reg <| OSuf.aop tyOK rfl sm rfl <| OSuf.callD rfl (by simp only [aopnds, lk] <;> rfl) en210 (sort_nil _) rfl <| OSuf.nil <| SQ.normal ?_
      refine W.seq <| W.reg <| OSuf.aop tyOK rfl sm rfl <| OSuf.aop tyOK rfl za rfl <| OSuf.nil <| SQ.normal ?_
      refine CWp.ret <| FQ.ret (by simp only [aRet, Tryz.f150, aResults, aResult, lk, Nat.reduceEqDiff, reduceIte] <;> first | rfl | (simp only [tyall] <;> rfl) | (simp [tyall] <;> rfl)) ?_
      -- leaf: end
      exact ⟨rfl, fun r o hr ho => by rw [hf r hr]; exact ho⟩
    exact this.mono fun u h' hK => .inl ⟨hnil, hK⟩
  · have : FWp Tryz.prog 150 [.func (.func 221) #[] #[P0 q]] h fun u h' => u = .slice (some ⟨h.next, 0, none⟩) ks.length 0 ∧ h' = h.new (.cells (ks.map enc) 1) := by
      refine FWp.gcNew (fun v hv => ?_) ?_
      · obtain ⟨y, _, rfl⟩ := List.mem_map.1 hv
        exact .flat rfl
      refine W.enter tyOK Tryz.func150 rfl rfl ?_
      simp only [entry]
      refine W.seq <| W.reg <| OSuf.aop tyOK rfl za rfl <| OSuf.nil <| SQ.normal ?_
      refine W.seq <| W.reg <| OSuf.aop tyOK rfl sm rfl <| OSuf.call rfl (by simp only [aopnds, lk] <;> rfl) en209 (collect_c h q m clock l hok hq hm hgq hgm (by omega)) ?_
      rintro u h1 ⟨ys, hp, ho, hf⟩
      have hys : ¬ ys.map (·.1) = [] := fun e => hnil (by (have e2 : ys = [] := by simpa using e); subst e2; have := hk.length_eq; have := hp.length_eq; simp_all)
      obtain ⟨x, n, rfl, hn, hx1, hx2, hx3⟩ : ∃ x n, u = .slice (some ⟨x, 0, none⟩) n 0 ∧ n = (ys.map (·.1)).length ∧ h.next ≤ x ∧ x < h1.next ∧ h1.get x = some (row (ys.map (·.1)).toArray) := by (cases ho with | none e => exact (hys e).elim | some ne e a b c => exact ⟨_, _, rfl, e, a, b, c⟩)
      have hsz : n ≤ 12 := by (rw [hn, List.length_map, hp.length_eq]; omega)
      have hcall := sort_c h1 x n hsz (ys.map (·.1)).toArray (by simp [hn])
      rw [AHeap.set_self hx3] at hcall
      refine ⟨_, rfl, ?_⟩
      refine OSuf.aop tyOK rfl za rfl <| OSuf.nil <| SQ.normal ?_
      refine W.seq <| W.reg <| OSuf.aop tyOK rfl sm rfl <| OSuf.call rfl (by simp only [aopnds, lk] <;> rfl) en210 (hcall) ?_
      rintro _ _ ⟨rfl, d', rfl, hpi, hsi⟩
      refine ⟨_, rfl, ?_⟩
      refine OSuf.nil <| SQ.normal ?_
      refine W.seq <| W.reg <| OSuf.aop tyOK rfl sm rfl <| OSuf.aop tyOK rfl za rfl <| OSuf.nil <| SQ.normal ?_
      refine CWp.ret <| FQ.ret (by simp only [aRet, Tryz.f150, aResults, aResult, lk, Nat.reduceEqDiff, reduceIte] <;> first | rfl | (simp only [tyall] <;> rfl) | (simp [tyall] <;> rfl)) ?_
      -- leaf: end
      have hd : d'.toList = ks := by
        have hn' : n = (ys.map (·.1)).toArray.size := by simp [hn]
        rw [hn'] at hpi hsi
        exact sorted_eq hpi hsi (hk.trans (hp.map _).symm) hks
      have hlen : ks.length = n := by rw [hk.length_eq, hn, List.length_map, List.length_map, hp.length_eq]
      refine ⟨x, by rw [hlen], hx1, by rw [AHeap.get_set_same, ← hd], fun r p hr hg => ?_⟩
      rw [AHeap.get_set_ne (by omega), hf r hr]; exact hg
    exact this.mono fun u h' hK => .inr ⟨hnil, hK⟩
end Go.Proofs.YtimbhgkiohbkdaaGreat.SortS.KR
namespace Go.Proofs.YtimbhgkiohbkdaaGreat.SortU
open Go.Ab Go.Sort
set_option linter.unusedSimpArgs false
set_option linter.unusedVariables false
set_option maxRecDepth 10000
set_option maxHeartbeats 8000000
noncomputable abbrev El : Type := Int
noncomputable abbrev enc : El → Value := Value.int .u64
noncomputable abbrev lt : El → El → Bool := ltInt
noncomputable abbrev I64 (n : Int) : Value := .int .i64 n
noncomputable abbrev row (d : Array El) : AObj := .cells (d.toList.map enc) 1
noncomputable abbrev sl (r n : Nat) : Value := .slice (some ⟨r, 0, none⟩) n 0
theorem rg {d : Array El} {i : Nat} (hi : i < d.size) : (d.toList.map enc)[i]? = some (enc d[i]!) := arr_get enc hi
theorem rs {d : Array El} {i : Nat} {x : El} (hi : i < d.size) : splice (d.toList.map enc) i [enc x] = (d.setIfInBounds i x).toList.map enc := arr_set enc x hi
theorem rb {d : Array El} {i : Nat} (hi : i < d.size) : Nat.ble (i + 1) (d.toList.map enc).length = true := arr_ble enc hi
theorem nan_c (x : El) (h : AHeap) : FWp Tryz.prog 249 [enc x] h fun u h' => u = .bool false ∧ h' = h := by
  refine W.enter tyOK Tryz.func249 rfl rfl ?_
  simp only [entry]
  refine W.seq <| W.reg <| OSuf.aopF tyOK rfl za (fun _ => rfl) rfl <| OSuf.nil <| SQ.normal ?_
  refine W.seq <| W.reg <| OSuf.aop tyOK rfl sm rfl <| OSuf.aop tyOK rfl sm rfl <| OSuf.aop tyOK rfl (zb (hv := bi_neq)) rfl <| OSuf.aop tyOK rfl za rfl <| OSuf.nil <| SQ.normal ?_
  refine CWp.ret <| FQ.ret (by simp only [aRet, Tryz.f249, aResults, aResult, lk, Nat.reduceEqDiff, reduceIte] <;> first | rfl | (simp only [tyall] <;> rfl) | (simp [tyall] <;> rfl)) ?_
  -- leaf: end
  exact ⟨by simp, rfl⟩
theorem less_c (x y : El) (h : AHeap) (b : Bool) (hb : lt x y = b) : FWp Tryz.prog 197 [enc x, enc y] h fun u h' => u = .bool b ∧ h' = h := by
  refine W.enter tyOK Tryz.func197 rfl rfl ?_
  simp only [entry]
  refine W.seq <| W.reg <| OSuf.aopF tyOK rfl za (fun _ => rfl) rfl <| OSuf.nil <| SQ.normal ?_
  refine W.seq <| W.reg <| OSuf.aop tyOK rfl sm rfl <| OSuf.callD rfl (by simp only [aopnds, lk] <;> rfl) en249 (nan_c x _) rfl <| OSuf.aopF tyOK rfl sm (fun _ => rfl) rfl <| OSuf.pass ag rfl <| OSuf.pass ag rfl <| OSuf.pass ag rfl <| OSuf.aopF tyOK rfl (so_pick (by simp only [lk] <;> rfl) (by simp only [lk, cond_true, cond_false] <;> rfl)) (fun _ => rfl) rfl <| OSuf.aopF tyOK rfl sm (fun _ => rfl) rfl <| OSuf.aop tyOK ag sm rfl <| OSuf.aop tyOK ag sm rfl <| OSuf.aop tyOK ag (zb (hv := bi_lss)) rfl <| OSuf.aop tyOK rfl (so_pick (by simp only [lk] <;> rfl) (by simp only [lk, cond_true, cond_false] <;> rfl)) rfl <| OSuf.aop tyOK rfl za rfl <| OSuf.nil <| SQ.normal ?_
  refine CWp.ret <| FQ.ret (by simp only [aRet, Tryz.f197, aResults, aResult, lk, Nat.reduceEqDiff, reduceIte] <;> first | rfl | (simp only [tyall] <;> rfl) | (simp [tyall] <;> rfl)) ?_
  -- leaf: end
  exact ⟨congrArg Value.bool hb, rfl⟩
theorem insertion_c (h : AHeap) (r N : Nat) (d : Array El) (hN : d.size = N) (a b : Nat) (hab : a ≤ b) (hb : b ≤ N) (hsz : N < 1000000000) :
    FWp Tryz.prog 191 [sl r N, I64 a, I64 b] (h.set r (row d)) fun u h' => u = .tuple #[] ∧ h' = h.set r (row (insertionSort lt d a b)) := by
  refine W.enter tyOK Tryz.func191 rfl rfl ?_
  simp only [entry]
  have w0 : IntKind.i64.wrap ((a : Int) + 1) = ((a + 1 : Nat) : Int) := by rw [wrap_i64 (by omega) (by omega)]; omega
  refine W.seq <| W.reg <| OSuf.aop tyOK rfl sm rfl <| OSuf.aop tyOK rfl (zb (hv := bi_w bi_add (by first | (simp only [w0] <;> rfl) | rfl))) rfl <| OSuf.aop tyOK rfl za rfl <| OSuf.nil <| SQ.normal ?_
  -- leaf: loop
  refine W.block (W.loop (fun n L h' => ∃ (i : Nat) (dk : Array El), n = b - i ∧ a + 1 ≤ i ∧ (i ≤ b ∨ i = a + 1) ∧ dk.size = N ∧ insOuter lt a b i dk = insertionSort lt d a b ∧ h' = h.set r (row dk) ∧
      L = [(0, sl r N), (1, I64 a), (2, I64 b), (6, I64 i)]) (n := b - (a + 1)) ⟨a + 1, d, rfl, by omega, by omega, hN, rfl, rfl, rfl⟩ ?_ ?_)
  · simp [HasA, Tr.get_put]
  · rintro n L h1 ⟨i, dk, rfl, hi1, hi2, hds, heq, rfl, rfl⟩
    simp only [mkA]
    by_cases hib : (i : Int) < (b : Int)
    · refine W.seq <| W.seq <| W.reg <| OSuf.aop tyOK rfl sm rfl <| OSuf.aop tyOK rfl sm rfl <| OSuf.aopT tyOK rfl (zb (hv := bi_lss)) (fun _ => rfl) (by first | rfl | assumption | ((simp only [bl]) <;> first | done | assumption | omega) | (simp; done) | (simp; omega)) <| OSuf.nil <| SQ.normal ?_
      refine W.yes (by simp only [lk] <;> rfl) <| CWp.skip <| SQ.normal ?_
      refine W.seq <| W.block <| W.seq <| W.reg <| OSuf.aop tyOK rfl sm rfl <| OSuf.aop tyOK rfl za rfl <| OSuf.nil <| SQ.normal ?_
      -- leaf: loop
      refine W.cut (fun L h' => ∃ (dj : Array El), dj.size = N ∧ dj = insInner lt a i dk ∧ h' = h.set r (row dj) ∧ L = [(0, sl r N), (1, I64 a), (2, I64 b), (6, I64 i)]) (W.block (W.loop (fun n L h' => ∃ (j : Nat) (dj : Array El), n = j ∧ j ≤ i ∧ dj.size = N ∧ insInner lt a j dj = insInner lt a i dk ∧ h' = h.set r (row dj) ∧
          L = [(0, sl r N), (1, I64 a), (2, I64 b), (6, I64 i), (7, I64 j)]) (n := i) ⟨i, dk, rfl, by omega, hds, rfl, rfl, rfl⟩ ?_ ?_)) ?_
      · simp [HasA, Tr.get_put]
      · rintro j L h1 ⟨_, dj, rfl, hji, hdj, hq, rfl, rfl⟩
        simp only [mkA]
        by_cases hja : (j : Int) > (a : Int)
        · obtain ⟨m, rfl⟩ : ∃ m, j = m + 1 := ⟨j - 1, by omega⟩
          have w1 : IntKind.i64.wrap (((m + 1 : Nat) : Int) - 1) = (m : Int) := by rw [wrap_i64 (by omega) (by omega)]; omega
          cases hl : lt dj[m + 1]! dj[m]!
          · refine W.seq <| W.seq <| W.regD tyOK mixed (by kernel_rfl) <| SqW.aop rfl sm rfl <| SqW.aop rfl sm rfl <| SqW.aopT rfl (zb (hv := bi_gtr)) (fun _ => rfl) (by first | rfl | assumption | ((simp only [bl, if_pos, Int.toNat_natCast, Nat.mul_one, Nat.zero_add, rg]) <;> first | done | assumption | omega) | (simp; done) | (simp; omega)) <| SqW.aopT rfl sm (fun _ => rfl) rfl <| SqW.aop ag sm rfl <| SqW.aop ag sm rfl <| SqW.aop ag (zi (hv := by simp (disch := first | assumption | omega | (simp only [nx] <;> omega) | fail) only [aIndexAddr, ty56, ty27, hpl, if_pos, Int.toNat_natCast, Nat.mul_one, Nat.zero_add, rg] <;> rfl)) rfl <| SqW.aop ag (zl (hv := by simp (disch := first | assumption | omega | (simp only [nx] <;> omega) | fail) only [aLoad, ty27, rowOf, hpl, if_pos, Int.toNat_natCast, Nat.mul_one, Nat.zero_add, rg] <;> rfl)) rfl <| SqW.aop ag sm rfl <| SqW.aop ag sm rfl <| SqW.aop ag (zb (hv := bi_w bi_sub (by first | (simp only [w1] <;> rfl) | rfl))) rfl <| SqW.aop ag (zi (hv := by simp (disch := first | assumption | omega | (simp only [nx] <;> omega) | fail) only [aIndexAddr, ty56, ty27, hpl, if_pos, Int.toNat_natCast, Nat.mul_one, Nat.zero_add, rg] <;> rfl)) rfl <| SqW.aop ag (zl (hv := by simp (disch := first | assumption | omega | (simp only [nx] <;> omega) | fail) only [aLoad, ty27, rowOf, hpl, if_pos, Int.toNat_natCast, Nat.mul_one, Nat.zero_add, rg] <;> rfl)) rfl <| SqW.callD ag (by simp only [aopnds, lk] <;> rfl) en197 (less_c _ _ _ _ hl) rfl <| SqW.aopF rfl (so_pick (by simp only [lk] <;> rfl) (by simp only [lk, cond_true, cond_false] <;> rfl)) (fun _ => rfl) rfl <| SqW.nil <| SQ.normal ?_
            refine W.no (by simp only [lk] <;> rfl) <| CWp.exit <| SQ.exit <| LQ.exit <| BQ.exit <| ?_
            -- leaf: cut
            refine NQ.normal (L := [(0, sl r N), (1, I64 a), (2, I64 b), (6, I64 i)]) ?_ ⟨dj, hdj, ?_, rfl, rfl⟩
            · simp only [HasA, Tr.get_put, Nat.reduceEqDiff, reduceIte, and_self]
            · rw [← hq, insInner]; simp [hl]
          · refine W.seq <| W.seq <| W.regD tyOK mixed (by kernel_rfl) <| SqW.aop rfl sm rfl <| SqW.aop rfl sm rfl <| SqW.aopT rfl (zb (hv := bi_gtr)) (fun _ => rfl) (by first | rfl | assumption | ((simp only [bl, if_pos, Int.toNat_natCast, Nat.mul_one, Nat.zero_add, rg, rs, rb, Value.cells, List.length_cons, List.length_nil, oneCells, List.all_cons, List.all_nil, Value.oneCell', Bool.and_self, cond_true, AHeap.set_set, Array.size_setIfInBounds]) <;> first | done | assumption | omega) | (simp; done) | (simp; omega)) <| SqW.aopT rfl sm (fun _ => rfl) rfl <| SqW.aop ag sm rfl <| SqW.aop ag sm rfl <| SqW.aop ag (zi (hv := by simp (disch := first | assumption | omega | (simp only [nx] <;> omega) | fail) only [aIndexAddr, ty56, ty27, hpl, if_pos, Int.toNat_natCast, Nat.mul_one, Nat.zero_add, rg, rs, rb, Value.cells, List.length_cons, List.length_nil, oneCells, List.all_cons, List.all_nil, Value.oneCell', Bool.and_self, cond_true, AHeap.set_set, Array.size_setIfInBounds] <;> rfl)) rfl <| SqW.aop ag (zl (hv := by simp (disch := first | assumption | omega | (simp only [nx] <;> omega) | fail) only [aLoad, ty27, rowOf, hpl, if_pos, Int.toNat_natCast, Nat.mul_one, Nat.zero_add, rg, rs, rb, Value.cells, List.length_cons, List.length_nil, oneCells, List.all_cons, List.all_nil, Value.oneCell', Bool.and_self, cond_true, AHeap.set_set, Array.size_setIfInBounds] <;> rfl)) rfl <| SqW.aop ag sm rfl <| SqW.aop ag sm rfl <| SqW.aop ag (zb (hv := bi_w bi_sub (by first | (simp only [w1] <;> rfl) | rfl))) rfl <| SqW.aop ag (zi (hv := by simp (disch := first | assumption | omega | (simp only [nx] <;> omega) | fail) only [aIndexAddr, ty56, ty27, hpl, if_pos, Int.toNat_natCast, Nat.mul_one, Nat.zero_add, rg, rs, rb, Value.cells, List.length_cons, List.length_nil, oneCells, List.all_cons, List.all_nil, Value.oneCell', Bool.and_self, cond_true, AHeap.set_set, Array.size_setIfInBounds] <;> rfl)) rfl <| SqW.aop ag (zl (hv := by simp (disch := first | assumption | omega | (simp only [nx] <;> omega) | fail) only [aLoad, ty27, rowOf, hpl, if_pos, Int.toNat_natCast, Nat.mul_one, Nat.zero_add, rg, rs, rb, Value.cells, List.length_cons, List.length_nil, oneCells, List.all_cons, List.all_nil, Value.oneCell', Bool.and_self, cond_true, AHeap.set_set, Array.size_setIfInBounds] <;> rfl)) rfl <| SqW.callD ag (by simp only [aopnds, lk] <;> rfl) en197 (less_c _ _ _ _ hl) rfl <| SqW.aopT rfl (so_pick (by simp only [lk] <;> rfl) (by simp only [lk, cond_true, cond_false] <;> rfl)) (fun _ => rfl) rfl <| SqW.nil <| SQ.normal ?_
            refine W.yes (by simp only [lk] <;> rfl) <| CWp.skip <| SQ.normal ?_
            refine W.seq <| W.block <| W.regD tyOK mixed (by kernel_rfl) <| SqW.aop rfl sm rfl <| SqW.aop rfl sm rfl <| SqW.aop rfl sm rfl <| SqW.aop rfl sm rfl <| SqW.aop rfl (zb (hv := bi_w bi_sub (by first | (simp only [w1] <;> rfl) | rfl))) rfl <| SqW.aop rfl sm rfl <| SqW.aop rfl sm rfl <| SqW.aop rfl (zb (hv := bi_w bi_sub (by first | (simp only [w1] <;> rfl) | rfl))) rfl <| SqW.aop rfl (zi (hv := by simp (disch := first | assumption | omega | (simp only [nx] <;> omega) | fail) only [aIndexAddr, ty56, ty27, hpl, if_pos, Int.toNat_natCast, Nat.mul_one, Nat.zero_add, rg, rs, rb, Value.cells, List.length_cons, List.length_nil, oneCells, List.all_cons, List.all_nil, Value.oneCell', Bool.and_self, cond_true, AHeap.set_set, Array.size_setIfInBounds] <;> rfl)) rfl <| SqW.aop rfl (zl (hv := by simp (disch := first | assumption | omega | (simp only [nx] <;> omega) | fail) only [aLoad, ty27, rowOf, hpl, if_pos, Int.toNat_natCast, Nat.mul_one, Nat.zero_add, rg, rs, rb, Value.cells, List.length_cons, List.length_nil, oneCells, List.all_cons, List.all_nil, Value.oneCell', Bool.and_self, cond_true, AHeap.set_set, Array.size_setIfInBounds] <;> rfl)) rfl <| SqW.aop rfl sm rfl <| SqW.aop rfl sm rfl <| SqW.aop rfl (zi (hv := by simp (disch := first | assumption | omega | (simp only [nx] <;> omega) | fail) only [aIndexAddr, ty56, ty27, hpl, if_pos, Int.toNat_natCast, Nat.mul_one, Nat.zero_add, rg, rs, rb, Value.cells, List.length_cons, List.length_nil, oneCells, List.all_cons, List.all_nil, Value.oneCell', Bool.and_self, cond_true, AHeap.set_set, Array.size_setIfInBounds] <;> rfl)) rfl <| SqW.aop rfl (zl (hv := by simp (disch := first | assumption | omega | (simp only [nx] <;> omega) | fail) only [aLoad, ty27, rowOf, hpl, if_pos, Int.toNat_natCast, Nat.mul_one, Nat.zero_add, rg, rs, rb, Value.cells, List.length_cons, List.length_nil, oneCells, List.all_cons, List.all_nil, Value.oneCell', Bool.and_self, cond_true, AHeap.set_set, Array.size_setIfInBounds] <;> rfl)) rfl <| SqW.aop rfl (zi (hv := by simp (disch := first | assumption | omega | (simp only [nx] <;> omega) | fail) only [aIndexAddr, ty56, ty27, hpl, if_pos, Int.toNat_natCast, Nat.mul_one, Nat.zero_add, rg, rs, rb, Value.cells, List.length_cons, List.length_nil, oneCells, List.all_cons, List.all_nil, Value.oneCell', Bool.and_self, cond_true, AHeap.set_set, Array.size_setIfInBounds] <;> rfl)) rfl <| SqW.aop rfl (zs (hv := by simp (disch := first | assumption | omega | (simp only [nx] <;> omega) | fail) only [aStore, ty27, writeRow, hpl, if_pos, Int.toNat_natCast, Nat.mul_one, Nat.zero_add, rg, rs, rb, Value.cells, List.length_cons, List.length_nil, oneCells, List.all_cons, List.all_nil, Value.oneCell', Bool.and_self, cond_true, AHeap.set_set, Array.size_setIfInBounds] <;> rfl)) rfl <| SqW.aop rfl (zi (hv := by simp (disch := first | assumption | omega | (simp only [nx] <;> omega) | fail) only [aIndexAddr, ty56, ty27, hpl, if_pos, Int.toNat_natCast, Nat.mul_one, Nat.zero_add, rg, rs, rb, Value.cells, List.length_cons, List.length_nil, oneCells, List.all_cons, List.all_nil, Value.oneCell', Bool.and_self, cond_true, AHeap.set_set, Array.size_setIfInBounds] <;> rfl)) rfl <| SqW.aop rfl (zs (hv := by simp (disch := first | assumption | omega | (simp only [nx] <;> omega) | fail) only [aStore, ty27, writeRow, hpl, if_pos, Int.toNat_natCast, Nat.mul_one, Nat.zero_add, rg, rs, rb, Value.cells, List.length_cons, List.length_nil, oneCells, List.all_cons, List.all_nil, Value.oneCell', Bool.and_self, cond_true, AHeap.set_set, Array.size_setIfInBounds] <;> rfl)) rfl <| SqW.nil <| BQ.normal <| SQ.normal ?_
            refine W.reg <| OSuf.aop tyOK rfl sm rfl <| OSuf.aop tyOK rfl (zb (hv := bi_w bi_sub (by first | (simp only [w1] <;> rfl) | rfl))) rfl <| OSuf.aop tyOK rfl za rfl <| OSuf.nil <| ?_
            -- leaf: round
            refine LQ.normal (m := m) (L := [(0, sl r N), (1, I64 a), (2, I64 b), (6, I64 i), (7, I64 m)]) (by omega) ?_ ⟨m, swp dj (m + 1) m, rfl, by omega, by rw [size_swp]; exact hdj, ?_, rfl, rfl⟩
            · simp only [HasA, Tr.get_put, Nat.reduceEqDiff, reduceIte, w1, and_self]
            · rw [← hq, insInner]; simp [hl]; omega
        · refine W.seq <| W.seq <| W.regD tyOK mixed (by kernel_rfl) <| SqW.aop rfl sm rfl <| SqW.aop rfl sm rfl <| SqW.aopF rfl (zb (hv := bi_gtr)) (fun _ => rfl) (by first | rfl | assumption | ((simp only [bl]) <;> first | done | assumption | omega) | (simp; done) | (simp; omega)) <| SqW.aopF rfl sm (fun _ => rfl) rfl <| SqW.pass ag rfl <| SqW.pass ag rfl <| SqW.pass ag rfl <| SqW.pass ag rfl <| SqW.pass ag rfl <| SqW.pass ag rfl <| SqW.pass ag rfl <| SqW.pass ag rfl <| SqW.pass ag rfl <| SqW.pass ag rfl <| SqW.aopF rfl (so_pick (by simp only [lk] <;> rfl) (by simp only [lk, cond_true, cond_false] <;> rfl)) (fun _ => rfl) rfl <| SqW.nil <| SQ.normal ?_
          refine W.no (by simp only [lk] <;> rfl) <| CWp.exit <| SQ.exit <| LQ.exit <| BQ.exit <| ?_
          -- leaf: cut
          refine NQ.normal (L := [(0, sl r N), (1, I64 a), (2, I64 b), (6, I64 i)]) ?_ ⟨dj, hdj, ?_, rfl, rfl⟩
          · simp only [HasA, Tr.get_put, Nat.reduceEqDiff, reduceIte, and_self]
          · rw [← hq]
            cases j with
            | zero => rfl
            | succ m => rw [insInner]; simp; omega
      · rintro L a' h1 ha ⟨dj, hdj, rfl, rfl, rfl⟩
        have w1 : IntKind.i64.wrap ((i : Int) + 1) = ((i + 1 : Nat) : Int) := by rw [wrap_i64 (by omega) (by omega)]; omega
        refine BQ.normal <| SQ.normal <| CWp.known ha ?_
        simp only [mkA]
        refine W.reg <| OSuf.aop tyOK rfl sm rfl <| OSuf.aop tyOK rfl (zb (hv := bi_w bi_add (by first | (simp only [w1] <;> rfl) | rfl))) rfl <| OSuf.aop tyOK rfl za rfl <| OSuf.nil <| ?_
        -- leaf: round
        refine LQ.normal (m := b - (i + 1)) (L := [(0, sl r N), (1, I64 a), (2, I64 b), (6, I64 (i + 1 : Nat))]) (by omega) ?_ ⟨i + 1, insInner lt a i dk, rfl, by omega, by omega, hdj, ?_, rfl, rfl⟩
        · simp only [HasA, Tr.get_put, Nat.reduceEqDiff, reduceIte, w1, and_self]
        · rw [← heq]
          conv => rhs; rw [insOuter]
          rw [if_pos (by omega)]
    · refine W.seq <| W.seq <| W.reg <| OSuf.aop tyOK rfl sm rfl <| OSuf.aop tyOK rfl sm rfl <| OSuf.aopF tyOK rfl (zb (hv := bi_lss)) (fun _ => rfl) (by first | rfl | assumption | ((simp only [bl]) <;> first | done | assumption | omega) | (simp; done) | (simp; omega)) <| OSuf.nil <| SQ.normal ?_
      refine W.no (by simp only [lk] <;> rfl) <| CWp.exit <| SQ.exit <| LQ.exit <| BQ.exit <| FQ.normal (by simp only [aRet, Tryz.f191, aResults, aResult, lk, Nat.reduceEqDiff, reduceIte] <;> first | rfl | (simp only [tyall] <;> rfl) | (simp [tyall] <;> rfl)) ?_
      -- leaf: end
      refine ⟨rfl, ?_⟩
      rw [← heq, insOuter, if_neg (by omega)]
theorem swo : SWO lt := swo_ltInt
theorem pdq_x (h : AHeap) (r N : Nat) (d : Array El) (hN : d.size = N) (h12 : N ≤ 12) (lim : Int) :
    FWp Tryz.prog 130 [sl r N, I64 0, I64 N, I64 lim] (h.set r (row d)) fun u h' => u = .tuple #[] ∧ h' = h.set r (row (insertionSort lt d 0 N)) := by
  have w1 : IntKind.i64.wrap ((N : Int) - 0) = (N : Int) := by rw [wrap_i64 (by omega) (by omega)]; omega
  have hle : (N : Int) ≤ 12 := by omega
  refine W.enter tyOK Tryz.func130 rfl rfl ?_
  simp only [entry]
  refine W.seq <| W.reg <| OSuf.aopT tyOK rfl za (fun _ => rfl) rfl <| OSuf.nil <| SQ.normal ?_
  refine W.seq <| W.reg <| OSuf.aopT tyOK rfl za (fun _ => rfl) rfl <| OSuf.nil <| SQ.normal ?_
  -- leaf: loop
  refine W.block (W.loop (fun m L h' => h' = h.set r (row d) ∧ L = [(0, sl r N), (1, I64 0), (2, I64 N)]) (n := 0) ⟨rfl, rfl⟩ ?_ ?_)
  · simp [HasA, Tr.get_put]
  rintro m L g ⟨rfl, rfl⟩
  simp only [mkA]
  refine W.block <| W.seq <| W.reg <| OSuf.aop tyOK rfl sm rfl <| OSuf.aop tyOK rfl sm rfl <| OSuf.aop tyOK rfl (zb (hv := bi_w bi_sub (by first | (simp only [w1] <;> rfl) | rfl))) rfl <| OSuf.aop tyOK rfl za rfl <| OSuf.nil <| SQ.normal ?_
  refine W.seq <| W.seq <| W.reg <| OSuf.aop tyOK rfl sm rfl <| OSuf.aopT tyOK rfl (zb (hv := bi_leq)) (fun _ => rfl) (decide_eq_true hle) <| OSuf.nil <| SQ.normal ?_
  refine W.yes (by simp only [lk] <;> rfl) <| W.seq <| W.reg <| OSuf.aop tyOK rfl sm rfl <| OSuf.aop tyOK rfl sm rfl <| OSuf.aop tyOK rfl sm rfl <| OSuf.callD rfl (by simp only [aopnds, lk] <;> rfl) en191 (insertion_c h r N d hN 0 N (by omega) (by omega) (by omega)) rfl <| OSuf.nil <| SQ.normal ?_
  refine CWp.ret <| SQ.ret <| BQ.ret <| LQ.ret <| BQ.ret <| FQ.ret (by simp only [aRet, Tryz.f130, aResults, aResult, lk, Nat.reduceEqDiff, reduceIte] <;> first | rfl | (simp only [tyall] <;> rfl) | (simp [tyall] <;> rfl)) ?_
  -- leaf: end
  exact ⟨rfl, rfl⟩
theorem sort_x (h : AHeap) (r N : Nat) (h12 : N ≤ 12) (d : Array El) (hN : d.size = N) :
    FWp Tryz.prog 62 [sl r N] (h.set r (row d)) fun u h' => u = .tuple #[] ∧ h' = h.set r (row (insertionSort lt d 0 N)) := by
  have w1 : IntKind.u64.wrap (N : Int) = (N : Int) := wrap_u64 (by omega) (by omega)
  refine W.enter tyOK Tryz.func62 rfl rfl ?_
  simp only [entry]
  refine W.seq <| W.reg <| OSuf.aop tyOK rfl sm rfl <| OSuf.aop tyOK rfl (so_len (by simp only [aopnds, lk] <;> rfl) (by simp (disch := first | assumption | omega | (simp only [nx] <;> omega) | fail) only [aLenOf, ty56, hpl] <;> rfl)) rfl <| OSuf.aop tyOK rfl za rfl <| OSuf.nil <| SQ.normal ?_
  refine W.reg <| OSuf.aop tyOK rfl sm rfl <| OSuf.aop tyOK rfl sm rfl <| OSuf.aop tyOK rfl sm rfl <| OSuf.aop tyOK rfl (so_conw (so_conv tyOK (by simp only [lk] <;> rfl) ty3 ⟨_, rfl⟩ ty153 rfl) (by first | (simp only [w1] <;> rfl) | rfl)) rfl <| OSuf.callD rfl (by simp only [aopnds, lk] <;> rfl) en131 (SortS.len_c _ N (by omega)) rfl <| OSuf.callD rfl (by simp only [aopnds, lk] <;> rfl) en130 (pdq_x h r N d hN h12 _) rfl <| OSuf.nil <| FQ.normal (by simp only [aRet, Tryz.f62, aResults, aResult, lk, Nat.reduceEqDiff, reduceIte] <;> first | rfl | (simp only [tyall] <;> rfl) | (simp [tyall] <;> rfl)) ?_
  -- leaf: end
  exact ⟨rfl, rfl⟩
theorem sort_c (h : AHeap) (r N : Nat) (h12 : N ≤ 12) (d : Array El) (hN : d.size = N) :
    FWp Tryz.prog 62 [sl r N] (h.set r (row d)) fun u h' => u = .tuple #[] ∧ ∃ d' : Array El, h' = h.set r (row d') ∧ PermIn 0 N d d' ∧ SortedIn lt 0 N d' := by
  refine (sort_x h r N h12 d hN).mono ?_
  rintro u h' ⟨rfl, rfl⟩
  obtain ⟨p1, p2⟩ := insertionSort_holds swo d 0 N (by omega) (by omega)
  exact ⟨rfl, _, rfl, p1, p2⟩
theorem insertion_nil (h : AHeap) : FWp Tryz.prog 191 [.slice none 0 0, I64 0, I64 0] h fun u h' => u = .tuple #[] ∧ h' = h := by
  refine W.enter tyOK Tryz.func191 rfl rfl ?_
  simp only [entry]
  have w0 : IntKind.i64.wrap ((0 : Int) + 1) = 1 := by decide
  refine W.seq <| W.reg <| OSuf.aop tyOK rfl sm rfl <| OSuf.aop tyOK rfl (zb (hv := bi_w bi_add (by first | (simp only [w0] <;> rfl) | rfl))) rfl <| OSuf.aop tyOK rfl za rfl <| OSuf.nil <| SQ.normal ?_
  -- leaf: loop
  refine W.block (W.loop (fun n L h' => h' = h ∧ L = [(2, I64 0), (6, I64 1)]) (n := 0) ⟨rfl, rfl⟩ ?_ ?_)
  · simp [HasA, Tr.get_put]
  · rintro n L h1 ⟨rfl, rfl⟩
    simp only [mkA]
    refine W.seq <| W.seq <| W.reg <| OSuf.aop tyOK rfl sm rfl <| OSuf.aop tyOK rfl sm rfl <| OSuf.aopF tyOK rfl (zb (hv := bi_lss)) (fun _ => rfl) (by first | rfl | assumption | ((simp only [bl]) <;> first | done | assumption | omega) | (simp; done) | (simp; omega)) <| OSuf.nil <| SQ.normal ?_
    refine W.no (by simp only [lk] <;> rfl) <| CWp.exit <| SQ.exit <| LQ.exit <| BQ.exit <| FQ.normal (by simp only [aRet, Tryz.f191, aResults, aResult, lk, Nat.reduceEqDiff, reduceIte] <;> first | rfl | (simp only [tyall] <;> rfl) | (simp [tyall] <;> rfl)) ?_
    -- leaf: end
    exact ⟨rfl, rfl⟩
theorem pdq_nil (h : AHeap) (lim : Int) : FWp Tryz.prog 130 [.slice none 0 0, I64 0, I64 0, I64 lim] h fun u h' => u = .tuple #[] ∧ h' = h := by
  refine W.enter tyOK Tryz.func130 rfl rfl ?_
  simp only [entry]
  have w0 : IntKind.i64.wrap ((0 : Int) - 0) = 0 := by decide
  refine W.seq <| W.reg <| OSuf.aopT tyOK rfl za (fun _ => rfl) rfl <| OSuf.nil <| SQ.normal ?_
  refine W.seq <| W.reg <| OSuf.aopT tyOK rfl za (fun _ => rfl) rfl <| OSuf.nil <| SQ.normal ?_
  -- leaf: loop
  refine W.block (W.loop (fun n L h' => h' = h ∧ L = [(0, .slice none 0 0), (1, I64 0), (2, I64 0)]) (n := 0) ⟨rfl, rfl⟩ ?_ ?_)
  · simp [HasA, Tr.get_put]
  · rintro n L h1 ⟨rfl, rfl⟩
    simp only [mkA]
    refine W.block <| W.seq <| W.reg <| OSuf.aop tyOK rfl sm rfl <| OSuf.aop tyOK rfl sm rfl <| OSuf.aop tyOK rfl (zb (hv := bi_w bi_sub (by first | (simp only [w0] <;> rfl) | rfl))) rfl <| OSuf.aop tyOK rfl za rfl <| OSuf.nil <| SQ.normal ?_
    refine W.seq <| W.seq <| W.reg <| OSuf.aop tyOK rfl sm rfl <| OSuf.aopT tyOK rfl (zb (hv := bi_leq)) (fun _ => rfl) (by first | rfl | assumption | ((simp only [bl]) <;> first | done | assumption | omega) | (simp; done) | (simp; omega)) <| OSuf.nil <| SQ.normal ?_
    refine W.yes (by simp only [lk] <;> rfl) <| W.seq <| W.reg <| OSuf.aop tyOK rfl sm rfl <| OSuf.aop tyOK rfl sm rfl <| OSuf.aop tyOK rfl sm rfl <| OSuf.callD rfl (by simp only [aopnds, lk] <;> rfl) en191 (insertion_nil _) rfl <| OSuf.nil <| SQ.normal ?_
    refine CWp.ret <| SQ.ret <| BQ.ret <| LQ.ret <| BQ.ret <| FQ.ret (by simp only [aRet, Tryz.f130, aResults, aResult, lk, Nat.reduceEqDiff, reduceIte] <;> first | rfl | (simp only [tyall] <;> rfl) | (simp [tyall] <;> rfl)) ?_
    -- leaf: end
    exact ⟨rfl, rfl⟩
theorem sort_nil (h : AHeap) : FWp Tryz.prog 62 [.slice none 0 0] h fun u h' => u = .tuple #[] ∧ h' = h := by
  have w1 : IntKind.u64.wrap ((0 : Nat) : Int) = ((0 : Nat) : Int) := by decide
  refine W.enter tyOK Tryz.func62 rfl rfl ?_
  simp only [entry]
  refine W.seq <| W.reg <| OSuf.aop tyOK rfl sm rfl <| OSuf.aop tyOK rfl (so_len (by simp only [aopnds, lk] <;> rfl) (by simp (disch := first | assumption | omega | (simp only [nx] <;> omega) | fail) only [aLenOf, ty56, hpl] <;> rfl)) rfl <| OSuf.aop tyOK rfl za rfl <| OSuf.nil <| SQ.normal ?_
  refine W.reg <| OSuf.aop tyOK rfl sm rfl <| OSuf.aop tyOK rfl sm rfl <| OSuf.aop tyOK rfl sm rfl <| OSuf.aop tyOK rfl (so_conw (so_conv tyOK (by simp only [lk] <;> rfl) ty3 ⟨_, rfl⟩ ty153 rfl) (by first | (simp only [w1] <;> rfl) | rfl)) rfl <| OSuf.callD rfl (by simp only [aopnds, lk] <;> rfl) en131 (SortS.len_c _ 0 (by omega)) rfl <| OSuf.callD rfl (by simp only [aopnds, lk] <;> rfl) en130 (pdq_nil _ _) rfl <| OSuf.nil <| FQ.normal (by simp only [aRet, Tryz.f62, aResults, aResult, lk, Nat.reduceEqDiff, reduceIte] <;> first | rfl | (simp only [tyall] <;> rfl) | (simp [tyall] <;> rfl)) ?_
  -- leaf: end
  exact ⟨rfl, rfl⟩
end Go.Proofs.YtimbhgkiohbkdaaGreat.SortU
namespace Go.Proofs.YtimbhgkiohbkdaaGreat.SortU
open Go.Ab Go.Sort
set_option linter.unusedSimpArgs false
set_option linter.unusedVariables false
set_option maxRecDepth 10000
noncomputable abbrev P0 (p : Nat) : Value := .pointer (some ⟨p, 0, none⟩)
structure MapOK (l : List (El × Value × Nat)) (clock : Nat) : Prop where
  lt : ∀ x ∈ l, x.2.2 < clock
  inj : ∀ x ∈ l, ∀ y ∈ l, x.2.2 = y.2.2 → x = y
  nodup : l.Nodup
noncomputable def unE : List AEnt → Option (List (El × Value × Nat))
  | [] => some []
  | e :: es => match e.key, unE es with
    | .int .u64 s, some l => some ((s, e.val, e.born) :: l)
    | _, _ => none
theorem unE_mk : ∀ {es : List AEnt} {l : List (El × Value × Nat)}, unE es = some l → es = mkK enc l
  | [], l, h => by simp only [unE, Option.some.injEq] at h; subst h; rfl
  | e :: es, l, h => by
    simp only [unE] at h
    split at h
    · rename_i s l0 h1 h2
      cases h
      rw [unE_mk h2]
      cases e
      simp only at h1
      subst h1
      rfl
    · cases h
noncomputable def noB (b : Nat) : List (El × Value × Nat) → Bool
  | [] => true
  | x :: l => !Nat.beq x.2.2 b && noB b l
noncomputable def okB (clock : Nat) : List (El × Value × Nat) → Bool
  | [] => true
  | x :: l => Nat.ble (x.2.2 + 1) clock && (noB x.2.2 l && okB clock l)
theorem noB_ne {b : Nat} : ∀ {l : List (El × Value × Nat)}, noB b l = true → ∀ x ∈ l, x.2.2 ≠ b
  | y :: l, h, x, hx => by
    simp only [noB, Bool.and_eq_true, Bool.not_eq_true'] at h
    cases hx with
    | head => intro e; rw [e, Nat.beq_refl] at h; cases h.1
    | tail _ hm => exact noB_ne h.2 x hm
theorem okB_ok {clock : Nat} : ∀ {l : List (El × Value × Nat)}, okB clock l = true → MapOK l clock
  | [], _ => ⟨fun _ h => (List.not_mem_nil h).elim, fun _ h => (List.not_mem_nil h).elim, List.nodup_nil⟩
  | x :: l, h => by
    simp only [okB, Bool.and_eq_true] at h
    obtain ⟨h1, h2, h3⟩ := h
    have r := okB_ok h3
    have hx := noB_ne h2
    refine ⟨fun y hy => ?_, fun y hy z hz e => ?_, List.nodup_cons.2 ⟨fun hm => hx x hm rfl, r.nodup⟩⟩
    · cases hy with
      | head => exact Nat.le_of_ble_eq_true h1
      | tail _ hm => exact r.lt y hm
    · cases hy with
      | head => cases hz with
        | head => rfl
        | tail _ hm => exact (hx z hm e.symm).elim
      | tail _ hm => cases hz with
        | head => exact (hx y hm e).elim
        | tail _ hn => exact r.inj y hm z hn e
noncomputable def insS (x : El) : List El → List El
  | [] => [x]
  | y :: l => bif decide (y < x) then y :: insS x l else x :: y :: l
noncomputable def isS : List El → List El
  | [] => []
  | x :: l => insS x (isS l)
theorem insS_perm (x : El) : ∀ l, (insS x l).Perm (x :: l)
  | [] => .refl _
  | y :: l => by
    simp only [insS]
    cases decide (y < x)
    · exact .refl _
    · exact ((insS_perm x l).cons y).trans (.swap x y l)
theorem isS_perm : ∀ l, (isS l).Perm l
  | [] => .refl _
  | x :: l => (insS_perm x _).trans ((isS_perm l).cons x)
theorem insS_sorted (x : El) : ∀ {l : List El}, l.Pairwise (fun a b => lt b a = false) → (insS x l).Pairwise (fun a b => lt b a = false)
  | [], _ => by simp [insS]
  | y :: l, h => by
    simp only [insS]
    have h' := List.pairwise_cons.1 h
    cases hd : decide (y < x)
    · simp only [cond_false]
      have hyx : ¬ y < x := by simpa using hd
      refine List.pairwise_cons.2 ⟨fun z hz => ?_, h⟩
      cases hz with
      | head => simpa [lt, ltInt] using hyx
      | tail _ hm =>
        have hzy := h'.1 z hm
        simp only [lt, ltInt, decide_eq_false_iff_not] at hzy ⊢
        exact Int.not_lt.2 (Int.le_trans (Int.not_lt.1 hyx) (Int.not_lt.1 hzy))
    · simp only [cond_true]
      have hyx : y < x := by simpa using hd
      refine List.pairwise_cons.2 ⟨fun z hz => ?_, insS_sorted x h'.2⟩
      have := (insS_perm x l).mem_iff.1 hz
      cases this with
      | head =>
        simp only [lt, ltInt, decide_eq_false_iff_not]
        exact Int.not_lt.2 (Int.le_of_lt hyx)
      | tail _ hm => exact h'.1 z hm
theorem isS_sorted : ∀ l : List El, (isS l).Pairwise (fun a b => lt b a = false)
  | [] => .nil
  | x :: l => insS_sorted x (isS_sorted l)
noncomputable def keysRes (h : AHeap) (ks : List El) : Value × AHeap :=
  match ks with
  | [] => (.slice none 0 0, h)
  | _ => (.slice (some ⟨h.next, 0, none⟩) ks.length 0, h.new (.cells (ks.map enc) 1))
noncomputable def keysAt (h : AHeap) (q : Nat) : Option (Value × AHeap) :=
  match h.get q with
  | some (.cells [.map (some m)] 1) => match h.get m with
    | some (.map es clock) => match unE es with
      | some l => bif (okB clock l && Nat.ble l.length 12) && (Nat.ble (q + 1) h.next && Nat.ble (m + 1) h.next) then some (keysRes h (isS (l.map (·.1)))) else none
      | none => none
    | _ => none
  | _ => none
noncomputable def SortedC (f k : FuncId) : Prop := ∀ (h : AHeap) (q m clock : Nat) (l : List (El × Value × Nat)) (ks : List El), MapOK l clock → q < h.next → m < h.next → h.get q = some (.cells [.map (some m)] 1) → h.get m = some (.map (mkK enc l) clock) → l.length ≤ 12 →
    ks.Perm (l.map (·.1)) → ks.Pairwise (fun x y => lt y x = false) →
    FWp Tryz.prog f [.func (.func k) #[] #[P0 q]] h fun u h' => (ks = [] ∧ u = .slice none 0 0 ∧ h' = h) ∨ (ks ≠ [] ∧ u = .slice (some ⟨h.next, 0, none⟩) ks.length 0 ∧ h' = h.new (.cells (ks.map enc) 1))
theorem keysAt_ok {f k : FuncId} (sc : SortedC f k) {h h' : AHeap} {q : Nat} {v : Value} (hk : keysAt h q = some (v, h')) : FWp Tryz.prog f [.func (.func k) #[] #[P0 q]] h fun x y => x = v ∧ y = h' := by
  unfold keysAt at hk
  split at hk
  · rename_i m hq
    split at hk
    · rename_i es clock hm
      split at hk
      · rename_i l hl
        cases hb : (okB clock l && Nat.ble l.length 12) && (Nat.ble (q + 1) h.next && Nat.ble (m + 1) h.next)
        · rw [hb, cond_false] at hk; cases hk
        · rw [hb, cond_true] at hk
          simp only [Bool.and_eq_true] at hb
          obtain ⟨⟨b1, b2⟩, b3, b4⟩ := hb
          rw [unE_mk hl] at hm
          have := sc h q m clock l (isS (l.map (·.1))) (okB_ok b1) (Nat.le_of_ble_eq_true b3) (Nat.le_of_ble_eq_true b4) hq hm (Nat.le_of_ble_eq_true b2) (isS_perm _) (isS_sorted _)
          refine this.mono ?_
          rintro x y (⟨e1, rfl, rfl⟩ | ⟨e1, rfl, rfl⟩)
          · rw [e1] at hk
            simp only [keysRes, Option.some.injEq, Prod.mk.injEq] at hk
            exact hk
          · unfold keysRes at hk
            split at hk
            · rename_i e2; exact (e1 e2).elim
            · simp only [Option.some.injEq, Prod.mk.injEq] at hk; exact hk
      · cases hk
    · cases hk
  · cases hk
noncomputable def keysS (f : FuncId) (ks : List FuncId) (f' : FuncId) (args : List Value) (h : AHeap) : Option (Value × AHeap) :=
  bif Nat.beq f' f then match args with
    | [.func (.func k) first cap] => bif ks.any (Nat.beq k) && first.isEmpty then match cap.toList with
      | [.pointer (some ⟨q, 0, none⟩)] => keysAt h q
      | _ => none
      else none
    | _ => none
  else none
theorem keysS_ok {f : FuncId} {fn : Func} {ks : List FuncId} (he : Entered Tryz.prog f fn) (sc : ∀ k ∈ ks, SortedC f k) (f' : FuncId) (args : List Value) (h : AHeap) (v : Value) (h' : AHeap) (hk : keysS f ks f' args h = some (v, h')) : (∃ fn, Entered Tryz.prog f' fn) ∧ FWp Tryz.prog f' args h fun x y => x = v ∧ y = h' := by
  unfold keysS at hk
  cases hf : Nat.beq f' f
  · rw [hf, cond_false] at hk; cases hk
  · rw [hf, cond_true] at hk
    obtain rfl := Nat.eq_of_beq_eq_true hf
    refine ⟨⟨_, he⟩, ?_⟩
    split at hk
    · rename_i k first cap
      cases hb : ks.any (Nat.beq k) && first.isEmpty
      · rw [hb, cond_false] at hk; cases hk
      · rw [hb, cond_true] at hk
        simp only [Bool.and_eq_true, Array.isEmpty_iff] at hb
        obtain ⟨b1, rfl⟩ := hb
        obtain ⟨k', hk', b1⟩ := List.any_eq_true.1 b1
        obtain rfl := Nat.eq_of_beq_eq_true b1
        split at hk
        · rename_i q hc
          have : cap = #[.pointer (some ⟨q, 0, none⟩)] := Array.toList_inj.1 hc
          subst this
          exact keysAt_ok (sc _ hk') hk
        · cases hk
    · cases hk
end Go.Proofs.YtimbhgkiohbkdaaGreat.SortU
namespace Go.Proofs.YtimbhgkiohbkdaaGreat.SortU.KL
open Go.Ab Go.Sort
set_option linter.unusedSimpArgs false
set_option linter.unusedVariables false
set_option maxRecDepth 10000
set_option maxHeartbeats 8000000
noncomputable abbrev P0 (p : Nat) : Value := .pointer (some ⟨p, 0, none⟩)
structure MapOK (l : List (El × Value × Nat)) (clock : Nat) : Prop where
  lt : ∀ x ∈ l, x.2.2 < clock
  inj : ∀ x ∈ l, ∀ y ∈ l, x.2.2 = y.2.2 → x = y
  nodup : l.Nodup
theorem keys_c (h : AHeap) (m : Nat) : FWp Tryz.prog 166 [.map (some m)] h fun u h' => u = .func (.func 226) #[] #[P0 h.next] ∧ h' = h.new (.cells [.map (some m)] 1) := by
  refine W.enter tyOK Tryz.func166 rfl rfl ?_
  simp only [entry]
  refine W.seq <| W.reg <| OSuf.aop tyOK rfl (so_box (by simp only [lk] <;> rfl)) rfl <| OSuf.aop tyOK rfl za rfl <| OSuf.nil <| SQ.normal ?_
  refine W.seq <| W.reg <| OSuf.aop tyOK rfl (so_makeFunc rfl (by simp only [aopnds, lk] <;> rfl) (by simp only [aopnds, lk] <;> rfl)) rfl <| OSuf.aop tyOK rfl za rfl <| OSuf.nil <| SQ.normal ?_
  refine CWp.ret <| FQ.ret (by simp only [aRet, Tryz.f166, aResults, aResult, lk, Nat.reduceEqDiff, reduceIte] <;> first | rfl | (simp only [tyall] <;> rfl) | (simp [tyall] <;> rfl)) ?_
  -- leaf: end
  exact ⟨rfl, rfl⟩
inductive OutAt (h : AHeap) (lo : Nat) (ks : List El) : Value → Prop
  | none (e : ks = []) : OutAt h lo ks (.slice none 0 0)
  | some {x n : Nat} (hne : ks ≠ []) (e : n = ks.length) (hlo : lo ≤ x) (hx : x < h.next) (hg : h.get x = .some (.cells (ks.map enc) 1)) : OutAt h lo ks (.slice (.some ⟨x, 0, .none⟩) n 0)
structure KSt (h0 h : AHeap) (LP : ALoop) (m clock : Nat) (ys : List (El × Value × Nat)) (seen : Array Nat) : Prop where
  next : h0.next + 3 ≤ h.next
  out : ∃ o, h.get h0.next = some (.cells [o] 1) ∧ OutAt h (h0.next + 3) (ys.map (·.1)) o
  loop : h.get (h0.next + 1) = some (.loop LP)
  iter : h.get (h0.next + 2) = some (.mapIter (some m) clock seen clock)
  old : ∀ z, z < h0.next → h.get z = h0.get z
theorem iter_step {h g : AHeap} {LP : ALoop} {m clock : Nat} {ys : List (El × Value × Nat)} {seen seen' : Array Nat} (hK : KSt h g LP m clock ys seen) : KSt h (g.set (h.next + 2) (.mapIter (some m) clock seen' clock)) LP m clock ys seen' := by
  obtain ⟨h1, ⟨o, h2, h3⟩, h4, h5, h6⟩ := hK
  refine ⟨h1, ⟨o, ?_, ?_⟩, ?_, AHeap.get_set_same _ _ _, ?_⟩
  · rw [AHeap.get_set_ne (by omega)]; exact h2
  · cases h3 with
    | none e => exact .none e
    | some ne e a b c => exact .some ne e a b (by rw [AHeap.get_set_ne (by omega)]; exact c)
  · rw [AHeap.get_set_ne (by omega)]; exact h4
  · intro z hz; rw [AHeap.get_set_ne (by omega)]; exact h6 z hz
theorem find_born {l : List (El × Value × Nat)} {clock : Nat} (hok : MapOK l clock) {x : El × Value × Nat} (hx : x ∈ l) : (mkK enc l).find? (fun e => e.born == x.2.2) = some ⟨enc x.1, x.2.1, x.2.2⟩ := by
  have key : ∀ l' : List (El × Value × Nat), (∀ y ∈ l', y ∈ l) → x ∈ l' → (mkK enc l').find? (fun e => e.born == x.2.2) = some ⟨enc x.1, x.2.1, x.2.2⟩ := by
    intro l'
    induction l' with
    | nil => intro _ h; cases h
    | cons y l' ih =>
      intro hs hm
      simp only [mkK, List.map_cons, List.find?_cons]
      by_cases hb : y.2.2 = x.2.2
      · have := hok.inj y (hs y List.mem_cons_self) x hx hb
        subst this; simp
      · have e1 : (y.2.2 == x.2.2) = false := by simpa using hb
        rw [e1]
        cases hm with
        | head => exact (hb rfl).elim
        | tail _ h9 => exact ih (fun z hz => hs z (List.mem_cons_of_mem _ hz)) h9
  exact key l (fun _ h => h) hx
theorem nat_le : ∀ (a b : List Nat), a.Nodup → (∀ x ∈ a, x ∈ b) → a.length ≤ b.length
  | [], b, _, _ => Nat.zero_le _
  | x :: a, b, hn, hs => by
    have hx := hs x List.mem_cons_self
    have hn' := List.nodup_cons.1 hn
    have := nat_le a (b.erase x) hn'.2 (fun y hy => (List.mem_erase_of_ne (fun e => hn'.1 (by rw [← e]; exact hy))).2 (hs y (List.mem_cons_of_mem _ hy)))
    rw [List.length_erase_of_mem hx] at this
    have : 0 < b.length := List.length_pos_of_mem hx
    simp; omega
theorem nodup_le {l ys : List (El × Value × Nat)} {clock : Nat} (hok : MapOK l clock) (hnd : ys.Nodup) (hsub : ∀ y ∈ ys, y ∈ l) : ys.length ≤ l.length := by
  have h1 : (ys.map (·.2.2)).Nodup := by
    have : ∀ zs : List (El × Value × Nat), zs.Nodup → (∀ y ∈ zs, y ∈ l) → (zs.map (·.2.2)).Nodup := by
      intro zs
      induction zs with
      | nil => intro _ _; simp
      | cons z zs ih =>
        intro hn hs
        have hn' := List.nodup_cons.1 hn
        simp only [List.map_cons, List.nodup_cons]
        refine ⟨fun hm => ?_, ih hn'.2 fun y hy => hs y (List.mem_cons_of_mem _ hy)⟩
        obtain ⟨y, hy, hb⟩ := List.mem_map.1 hm
        have := hok.inj y (hs y (List.mem_cons_of_mem _ hy)) z (hs z List.mem_cons_self) hb
        subst this; exact hn'.1 hy
    exact this ys hnd hsub
  have := nat_le (ys.map (·.2.2)) (l.map (·.2.2)) h1 (fun x hx => by
    obtain ⟨y, hy, rfl⟩ := List.mem_map.1 hx
    exact List.mem_map.2 ⟨y, hsub y hy, rfl⟩)
  simpa using this
theorem nodup_lt {l ys : List (El × Value × Nat)} {clock : Nat} (hok : MapOK l clock) {x : El × Value × Nat} (hnd : ys.Nodup) (hsub : ∀ y ∈ ys, y ∈ l) (hx : x ∈ l) (hn : x ∉ ys) : ys.length < l.length := by
  have h1 : (x :: ys).Nodup := List.nodup_cons.2 ⟨hn, hnd⟩
  have := nodup_le hok h1 (fun y hy => by cases hy with | head => exact hx | tail _ h9 => exact hsub y h9)
  simp at this; omega
theorem all_seen {l ys : List (El × Value × Nat)} {clock : Nat} {seen : Array Nat} (hok : MapOK l clock) (hnd : ys.Nodup) (hsub : ∀ y ∈ ys, y ∈ l) (hseen : seen.toList = ys.map (·.2.2)) (he : (left (mkK enc l) seen).filter (fun e => decide (e.born < clock)) = []) : ys.Perm l := by
  refine (List.perm_ext_iff_of_nodup hnd hok.nodup).2 fun x => ⟨hsub x, fun hx => ?_⟩
  have h1 : (⟨enc x.1, x.2.1, x.2.2⟩ : AEnt) ∈ mkK enc l := List.mem_map.2 ⟨x, hx, rfl⟩
  have h2 := List.filter_eq_nil_iff.1 he
  by_cases hc : x.2.2 ∈ seen.toList
  · rw [hseen] at hc
    obtain ⟨y, hy, hb⟩ := List.mem_map.1 hc
    have := hok.inj y (hsub y hy) x hx hb
    subst this; exact hy
  · exfalso
    refine h2 ⟨enc x.1, x.2.1, x.2.2⟩ ?_ (by simpa using hok.lt x hx)
    simp only [left, List.mem_filter]
    exact ⟨h1, by simpa using hc⟩
theorem append_c (h : AHeap) (q m clock : Nat) (l : List (El × Value × Nat)) (hok : MapOK l clock) (hq : q < h.next) (hm : m < h.next) (hgq : h.get q = some (.cells [.map (some m)] 1)) (hgm : h.get m = some (.map (mkK enc l) clock)) (hbig : l.length ≤ 1000000) :
    FWp Tryz.prog 227 [.slice none 0 0, .func (.func 226) #[] #[P0 q]] h fun u h' => ∃ ys : List (El × Value × Nat), ys.Perm l ∧ OutAt h' h.next (ys.map (·.1)) u ∧ (∀ z, z < h.next → h'.get z = h.get z) := by
  refine W.enter tyOK Tryz.func227 rfl rfl ?_
  simp only [entry]
  refine W.seq <| W.reg <| OSuf.aop tyOK rfl (so_box (by simp only [lk] <;> rfl)) rfl <| OSuf.aop tyOK rfl za rfl <| OSuf.nil <| SQ.normal ?_
  refine W.seq <| W.seq <| W.reg <| OSuf.aop tyOK rfl sm rfl <| OSuf.nil <| SQ.normal ?_
  -- leaf: loop
  refine W.block (CWp.rangeFunc (by simp only [aopnd, Tr.get_put, Nat.reduceEqDiff, reduceIte] <;> rfl) (fun l hl => by cases hl) (VWp.func en226 ?_))
  show FWp _ _ [_, _] _ _
  generalize hLP : (ALoop.mk _ _ _ _ _ _ _ _) = LP
  have yield : ∀ (g : AHeap) (ys : List (El × Value × Nat)) (sn : Array Nat) (x : El × Value × Nat), KSt h g LP m clock ys sn → ys.length ≤ 1000000 →
      VWp Tryz.prog (.func (.yield (h.next + 1)) #[] #[]) [enc x.1] g fun u h3 => u = .bool true ∧ KSt h h3 LP m clock (ys ++ [x]) sn := by
    intro g ys sn x hK hlen
    obtain ⟨k1, ⟨o, k2, k3⟩, k4, k5, k6⟩ := hK
    have hl := k4
    rw [← hLP] at hl
    refine VWp.yield hl rfl ?_
    refine W.reg <| OSuf.aop tyOK rfl za rfl <| OSuf.nil <| ?_
    -- leaf: stop
    refine ⟨rfl, _, hl, rfl, ?_⟩
    cases k3 with
    | none e =>
      refine W.block <| W.reg <| OSuf.aop tyOK rfl (zl (hv := by simp (disch := first | assumption | omega | (simp only [nx] <;> omega) | fail) only [aLoad, ty56, rowOf, hpl, k2, Value.cells] <;> rfl)) rfl <| OSuf.aop tyOK rfl sm rfl <| OSuf.aop tyOK rfl (so_buildSlice (by simp only [aparts, lk] <;> rfl) (by simp only [aBuildSlice, ty56, ty27, k2, Value.cells] <;> first | rfl | (simp only [tyall] <;> rfl) | (simp [tyall] <;> rfl))) rfl <| OSuf.aop tyOK rfl (so_append (by simp only [aopnds, lk] <;> rfl) (ap_0 (by simp only [appT, ty56, ty27] <;> rfl) rfl (by simp (disch := first | assumption | omega | (simp only [nx] <;> omega) | fail) only [aCells, rowOf, hpl, k2, Value.cells] <;> rfl) (by decide) rfl)) rfl <| OSuf.aop tyOK rfl (zs (hv := by simp (disch := first | assumption | omega | (simp only [nx] <;> omega) | fail) only [aStore, ty56, writeRow, hpl, k2, Value.cells] <;> rfl)) rfl <| OSuf.nil <| BQ.normal <| ?_
      -- leaf: stop
      refine ⟨_, by (simp (disch := first | assumption | omega | (simp only [nx] <;> omega) | fail) only [AHeap.get_set_ne, AHeap.get_set_same, AHeap.get_new_ne, AHeap.next_set, AHeap.next_new]; rfl), rfl, ?_, ⟨.slice (some ⟨g.next + 1, 0, none⟩) 1 0, ?_, .some (x := g.next + 1) (by simp) ?_ ?_ ?_ ?_⟩, ?_, ?_, ?_⟩
      · simp only [AHeap.next_set, AHeap.next_new]; omega
      · simp (disch := first | assumption | omega | (simp only [nx] <;> omega) | fail) only [AHeap.get_set_ne, AHeap.get_set_same]; rfl
      · simp [e]
      · omega
      · simp only [AHeap.next_set, AHeap.next_new]; omega
      · simp (disch := first | assumption | omega | (simp only [nx] <;> omega) | fail) only [AHeap.get_set_ne, AHeap.get_new_at, AHeap.next_set, AHeap.next_new]; simp [e]; rfl
      · rw [AHeap.get_set_same, ← hLP]; rfl
      · simp (disch := first | assumption | omega | (simp only [nx] <;> omega) | fail) only [AHeap.get_set_ne, AHeap.get_new_ne, AHeap.next_set, AHeap.next_new]; exact k5
      · intro z hz; simp (disch := first | assumption | omega | (simp only [nx] <;> omega) | fail) only [AHeap.get_set_ne, AHeap.get_new_ne, AHeap.next_set, AHeap.next_new]; exact k6 z hz
    | @some x1 n1 ne e e1 e2 e3 =>
      have hc : cellsOf ((ys.map (·.1)).map enc) 0 (n1 * 1) = some ((ys.map (·.1)).map enc) := cellsOf_all (by rw [e]; simp)
      have hn1 : n1 ≤ 1000000 := by rw [e]; simpa using hlen
      refine W.block <| W.reg <| OSuf.aop tyOK rfl (zl (hv := by simp (disch := first | assumption | omega | (simp only [nx] <;> omega) | fail) only [aLoad, ty56, rowOf, hpl, k2, e3, Value.cells] <;> rfl)) rfl <| OSuf.aop tyOK rfl sm rfl <| OSuf.aop tyOK rfl (so_buildSlice (by simp only [aparts, lk] <;> rfl) (by simp only [aBuildSlice, ty56, ty27, k2, e3, Value.cells] <;> first | rfl | (simp only [tyall] <;> rfl) | (simp [tyall] <;> rfl))) rfl <| OSuf.aop tyOK rfl (so_append (by simp only [aopnds, lk] <;> rfl) (ap_u (by simp only [appT, ty56, ty27] <;> rfl) rfl (by simp (disch := first | assumption | omega | (simp only [nx] <;> omega) | fail) only [aCells, rowOf, hpl, k2, e3, Value.cells] <;> rfl) (by show (2 * (n1 + 1) + 256) * 8 ≤ _; omega) rfl (by simp (disch := first | assumption | omega | (simp only [nx] <;> omega) | fail) only [aCells, rowOf, hpl, k2, e3, Value.cells] <;> rfl) rfl hc)) rfl <| OSuf.aop tyOK rfl (zs (hv := by simp (disch := first | assumption | omega | (simp only [nx] <;> omega) | fail) only [aStore, ty56, writeRow, hpl, k2, e3, Value.cells] <;> rfl)) rfl <| OSuf.nil <| BQ.normal <| ?_
      -- leaf: stop
      refine ⟨_, by (simp (disch := first | assumption | omega | (simp only [nx] <;> omega) | fail) only [AHeap.get_set_ne, AHeap.get_set_same, AHeap.get_new_ne, AHeap.get_kill_ne, AHeap.next_set, AHeap.next_new, AHeap.next_kill]; rfl), rfl, ?_, ⟨.slice (some ⟨g.next + 1, 0, none⟩) (n1 + 1) 0, ?_, .some (x := g.next + 1) (by simp) ?_ ?_ ?_ ?_⟩, ?_, ?_, ?_⟩
      · simp only [AHeap.next_set, AHeap.next_new, AHeap.next_kill]; omega
      · simp (disch := first | assumption | omega | (simp only [nx] <;> omega) | fail) only [AHeap.get_set_ne, AHeap.get_set_same]; rfl
      · simp [e]
      · omega
      · simp only [AHeap.next_set, AHeap.next_new, AHeap.next_kill]; omega
      · simp (disch := first | assumption | omega | (simp only [nx] <;> omega) | fail) only [AHeap.get_set_ne, AHeap.get_new_at, AHeap.next_set, AHeap.next_new, AHeap.next_kill, List.map_append]; rfl
      · rw [AHeap.get_set_same, ← hLP]; rfl
      · simp (disch := first | assumption | omega | (simp only [nx] <;> omega) | fail) only [AHeap.get_set_ne, AHeap.get_new_ne, AHeap.get_kill_ne, AHeap.next_set, AHeap.next_new, AHeap.next_kill]; exact k5
      · intro z hz; simp (disch := first | assumption | omega | (simp only [nx] <;> omega) | fail) only [AHeap.get_set_ne, AHeap.get_new_ne, AHeap.get_kill_ne, AHeap.next_set, AHeap.next_new, AHeap.next_kill]; exact k6 z hz
  refine W.enter tyOK Tryz.func226 rfl rfl ?_
  simp only [entry]
  refine W.seq <| W.reg <| OSuf.aop tyOK rfl (zl (hv := by simp (disch := first | assumption | omega | (simp only [nx] <;> omega) | fail) only [aLoad, ty113, rowOf, hpl, hgq, hgm, Value.cells] <;> rfl)) rfl <| OSuf.aop tyOK rfl (so_range (by simp only [lk] <;> rfl) (by simp (disch := first | assumption | omega | (simp only [nx] <;> omega) | fail) only [aRange, ty113, hpl, hgq, hgm, Value.cells] <;> rfl)) rfl <| OSuf.nil <| SQ.normal ?_
  -- leaf: loop
  refine W.cut (fun L h2 => ∃ ys seen, ys.Perm l ∧ KSt h h2 LP m clock ys seen) (W.block (W.loop (fun n L h2 => ∃ ys seen, n + ys.length = l.length ∧ ys.Nodup ∧ (∀ y ∈ ys, y ∈ l) ∧ seen.toList = ys.map (·.2.2) ∧ KSt h h2 LP m clock ys seen ∧
      L = [(0, .func (.yield (h.next + 1)) #[] #[]), (5, P0 (h.next + 2))]) (n := l.length) ⟨[], #[], by simp, by simp, by simp, rfl, ⟨?_, ⟨_, ?_, .none rfl⟩, ?_, ?_, ?_⟩, rfl⟩ ?_ ?_)) ?_
  · simp only [AHeap.next_new]; omega
  · simp (disch := first | assumption | omega | (simp only [nx] <;> omega) | fail) only [AHeap.get_new_at, AHeap.get_new_ne, AHeap.next_new]
  · simp (disch := first | assumption | omega | (simp only [nx] <;> omega) | fail) only [AHeap.get_new_at, AHeap.get_new_ne, AHeap.next_new]
  · simp (disch := first | assumption | omega | (simp only [nx] <;> omega) | fail) only [AHeap.get_new_at, AHeap.get_new_ne, AHeap.next_new]
  · intro z hz; simp (disch := first | assumption | omega | (simp only [nx] <;> omega) | fail) only [AHeap.get_new_at, AHeap.get_new_ne, AHeap.next_new]
  · simp [HasA, Tr.get_put]
  · rintro n L h2 ⟨ys, seen, hn, hnd, hsub, hseen, hK, rfl⟩
    simp only [mkA]
    have hgm2 : h2.get m = some (.map (mkK enc l) clock) := by rw [hK.old m hm]; exact hgm
    have hc : (!seen.isEmpty && !(mkK enc l).isEmpty && (mkK enc l).all (fun e => decide (e.born ≥ clock))) = false := by
      cases l with
      | nil => simp [mkK]
      | cons x l =>
        have := hok.lt x List.mem_cons_self
        have e1 : decide (x.2.2 ≥ clock) = false := by simp; omega
        simp [mkK, e1]
    refine W.seq <| W.reg <| OSuf.next rfl (by simp only [lk] <;> rfl) hK.iter hgm2 hc (fun he => ⟨_, rfl, ?_⟩) (fun e he => ⟨_, rfl, ?_⟩)
    · skip
      refine OSuf.aopF tyOK rfl (ze (hv := by simp (disch := first | assumption | omega | (simp only [nx] <;> omega) | fail) only [aExtract, hpl] <;> rfl)) (fun _ => rfl) (by first | rfl | assumption | ((simp only [bl]) <;> first | done | assumption | omega) | (simp; done) | (simp; omega)) <| OSuf.nil <| SQ.normal ?_
      refine W.seq <| W.no (by simp only [lk] <;> rfl) <| CWp.exit <| SQ.exit <| LQ.exit <| BQ.exit <| ?_
      refine NQ.normal (L := []) trivial ⟨ys, seen, ?_, hK⟩
      exact all_seen hok hnd hsub hseen he
    · skip
      obtain ⟨x, hxl, hxs, rfl⟩ : ∃ x ∈ l, x.2.2 ∉ ys.map (·.2.2) ∧ e = ⟨enc x.1, x.2.1, x.2.2⟩ := by (simp only [left, mkK, List.mem_filter, List.mem_map] at he; obtain ⟨⟨x, hx, rfl⟩, h9⟩ := he; refine ⟨x, hx, ?_, rfl⟩; rw [← hseen]; simpa using h9)
      have hK2 : KSt h (h2.set (h.next + 2) (.mapIter (some m) clock (seen.push x.2.2) clock)) LP m clock ys (seen.push x.2.2) := iter_step hK
      have hfind : (mkK enc l).find? (fun e => e.born == x.2.2) = some ⟨enc x.1, x.2.1, x.2.2⟩ := find_born hok hxl
      have hy := yield _ ys _ x hK2 (by have := nodup_le hok hnd hsub; omega)
      refine OSuf.aopT tyOK rfl (ze (hv := by simp (disch := first | assumption | omega | (simp only [nx] <;> omega) | fail) only [aExtract, hpl] <;> rfl)) (fun _ => rfl) (by first | rfl | assumption | ((simp only [bl]) <;> first | done | assumption | omega) | (simp; done) | (simp; omega)) <| OSuf.nil <| SQ.normal ?_
      refine W.seq <| W.yes (by simp only [lk] <;> rfl) <| CWp.skip <| SQ.normal ?_
      refine W.block <| W.seq <| W.reg <| OSuf.aop tyOK rfl (so_entry (by simp only [lk] <;> rfl) (en_ok (AHeap.get_set_same _ _ _) (by simp (disch := first | assumption | omega | (simp only [nx] <;> omega) | fail) only [aCells, rowOf, hpl] <;> exact hgm2) hfind)) rfl <| OSuf.aop tyOK rfl (ze (hv := by simp (disch := first | assumption | omega | (simp only [nx] <;> omega) | fail) only [aExtract, hpl] <;> rfl)) rfl <| OSuf.aop tyOK rfl za rfl <| OSuf.nil <| SQ.normal ?_
      refine W.seq <| W.reg <| OSuf.aop tyOK rfl sm rfl <| OSuf.aop tyOK rfl sm rfl <| OSuf.vcall rfl (by simp only [lk] <;> rfl) (by simp only [aopnds, lk] <;> rfl) (hy) ?_
      rintro _ h3 ⟨rfl, hK3⟩
      refine ⟨_, rfl, ?_⟩
      refine OSuf.aopF tyOK rfl (so_not (by simp only [lk] <;> rfl)) (fun _ => rfl) rfl <| OSuf.nil <| SQ.normal ?_
      refine W.no (by simp only [lk] <;> rfl) <| CWp.skip <| BQ.normal <| ?_
      refine LQ.normal (m := n - 1) (L := [(0, .func (.yield (h.next + 1)) #[] #[]), (5, P0 (h.next + 2))]) ?_ ?_ ⟨ys ++ [x], seen.push x.2.2, ?_, ?_, ?_, ?_, hK3, rfl⟩
      · have := nodup_lt hok hnd hsub hxl (fun hx => hxs (List.mem_map.2 ⟨x, hx, rfl⟩)); omega
      · simp only [HasA, Tr.get_put, Nat.reduceEqDiff, reduceIte, and_self]
      · have := nodup_lt hok hnd hsub hxl (fun hx => hxs (List.mem_map.2 ⟨x, hx, rfl⟩)); simp; omega
      · exact List.nodup_append.2 ⟨hnd, by simp, fun a ha b hb => by simp at hb; subst hb; rintro rfl; exact hxs (List.mem_map.2 ⟨_, ha, rfl⟩)⟩
      · intro y hy; rcases List.mem_append.1 hy with h9 | h9
        · exact hsub y h9
        · simp at h9; subst h9; exact hxl
      · simp [hseen]
  rintro L a' h2 ha ⟨ys, seen, hperm, hK⟩
  refine FQ.normal (by simp only [aRet, Tryz.f226, aResults] <;> first | rfl | (simp only [tyall] <;> rfl) | (simp [tyall] <;> rfl)) ?_
  refine ⟨LP, .normal, hK.loop, by rw [← hLP]; rfl, by rw [← hLP]; rfl, ?_⟩
  obtain ⟨o, ho1, ho2⟩ := hK.out
  have hnx : h.next + 3 ≤ h2.next := hK.next
  refine BQ.normal <| SQ.normal ?_
  refine W.seq <| W.reg <| OSuf.aop tyOK rfl (zl (hv := by simp (disch := first | assumption | omega | (simp only [nx] <;> omega) | fail) only [aLoad, ty56, rowOf, hpl, ho1] <;> rfl)) rfl <| OSuf.aop tyOK rfl za rfl <| OSuf.nil <| SQ.normal ?_
  refine CWp.ret <| FQ.ret (by simp only [aRet, Tryz.f227, aResults, aResult, lk, Nat.reduceEqDiff, reduceIte] <;> first | rfl | (simp only [tyall] <;> rfl) | (simp [tyall] <;> rfl)) ?_
  -- leaf: end
  refine ⟨ys, hperm, ?_, fun z hz => ?_⟩
  · cases ho2 with
    | none e => exact .none e
    | some ne e h5 h6 h7 => exact .some ne e (by omega) h6 (by rw [AHeap.get_kill_ne (by simp only [AHeap.next_new]; omega)]; exact h7)
  · rw [AHeap.get_kill_ne (by simp only [AHeap.next_new]; omega)]; exact hK.old z hz
theorem collect_c (h : AHeap) (q m clock : Nat) (l : List (El × Value × Nat)) (hok : MapOK l clock) (hq : q < h.next) (hm : m < h.next) (hgq : h.get q = some (.cells [.map (some m)] 1)) (hgm : h.get m = some (.map (mkK enc l) clock)) (hbig : l.length ≤ 1000000) :
    FWp Tryz.prog 167 [.func (.func 226) #[] #[P0 q]] h fun u h' => ∃ ys : List (El × Value × Nat), ys.Perm l ∧ OutAt h' h.next (ys.map (·.1)) u ∧ (∀ z, z < h.next → h'.get z = h.get z) := by
  refine W.enter tyOK Tryz.func167 rfl rfl ?_
  simp only [entry]
  refine W.seq <| W.reg <| OSuf.aop tyOK rfl za rfl <| OSuf.nil <| SQ.normal ?_
  refine W.seq <| W.reg <| OSuf.aop tyOK rfl sm rfl <| OSuf.call rfl (by simp only [aopnds, lk] <;> rfl) en227 (append_c h q m clock l hok hq hm hgq hgm hbig) ?_
  rintro u h1 hK
  refine ⟨_, rfl, ?_⟩
  refine OSuf.aop tyOK rfl za rfl <| OSuf.nil <| SQ.normal ?_
  refine CWp.ret <| FQ.ret (by simp only [aRet, Tryz.f167, aResults, aResult, lk, Nat.reduceEqDiff, reduceIte] <;> first | rfl | (simp only [tyall] <;> rfl) | (simp [tyall] <;> rfl)) ?_
  -- leaf: end
  exact hK
theorem sorted_eq {d d' : Array El} {ks : List El} (hp : PermIn 0 d.size d d') (hs : SortedIn lt 0 d.size d') (hk : ks.Perm d.toList) (hks : ks.Pairwise (fun x y => lt y x = false)) : d'.toList = ks := by
  have hu : ∀ x y : El, lt x y = false → lt y x = false → x = y := fun x y h1 h2 => by simp only [lt, ltInt, decide_eq_false_iff_not] at h1 h2; exact Int.le_antisymm (Int.not_lt.1 h2) (Int.not_lt.1 h1)
  have e1 := sorted_unique_holds (lt := lt) swo hu d d' hp hs
  have hsz : ks.length = d.size := by rw [hk.length_eq]; simp
  have e2 := sorted_unique_holds (lt := lt) swo hu d ks.toArray ⟨by simp [hsz], fun i hi => by
      rcases hi with hi | hi
      · omega
      · rw [getElem!_neg _ i (by simp; omega), getElem!_neg _ i (by omega)], by
      have e3 : (d.extract 0 d.size).toList = d.toList := by simp
      have e4 : (ks.toArray.extract 0 d.size).toList = ks := by simp [← hsz]
      rw [e3, e4]; exact hk⟩ (fun i j _ hij hj => by
      have := List.pairwise_iff_getElem.1 hks i j (by omega) (by omega) hij
      rw [getElem!_pos _ j (by simp; omega), getElem!_pos _ i (by simp; omega)]
      simpa using this)
  rw [e1, ← e2]
theorem sorted_c (h : AHeap) (q m clock : Nat) (l : List (El × Value × Nat)) (ks : List El) (hok : MapOK l clock) (hq : q < h.next) (hm : m < h.next) (hgq : h.get q = some (.cells [.map (some m)] 1)) (hgm : h.get m = some (.map (mkK enc l) clock)) (hbig : l.length ≤ 12)
    (hk : ks.Perm (l.map (·.1))) (hks : ks.Pairwise (fun x y => lt y x = false)) :
    FWp Tryz.prog 88 [.func (.func 226) #[] #[P0 q]] h fun u h' => (ks = [] ∧ u = .slice none 0 0 ∧ h' = h) ∨ (ks ≠ [] ∧ u = .slice (some ⟨h.next, 0, none⟩) ks.length 0 ∧ h' = h.new (.cells (ks.map enc) 1)) := by
  by_cases hnil : ks = []
  · have hl : l = [] := by
      subst hnil
      have := hk.length_eq
      simpa using this.symm
    have : FWp Tryz.prog 88 [.func (.func 226) #[] #[P0 q]] h fun u h' => u = .slice none 0 0 ∧ h' = h := by
      refine FWp.gcs (.flat rfl) ?_
      refine W.enter tyOK Tryz.func88 rfl rfl ?_
      simp only [entry]
      refine W.seq <| W.reg <| OSuf.aop tyOK rfl za rfl <| OSuf.nil <| SQ.normal ?_
      refine W.seq <| W.reg <| OSuf.aop tyOK rfl sm rfl <| OSuf.call rfl (by simp only [aopnds, lk] <;> rfl) en167 (collect_c h q m clock l hok hq hm hgq hgm (by omega)) ?_
      rintro u h1 ⟨ys, hp, ho, hf⟩
      obtain rfl : ys = [] := by (subst hl; exact hp.eq_nil)
      obtain rfl : u = .slice none 0 0 := by (cases ho with | none => rfl | some ne _ _ _ _ => exact (ne rfl).elim)
      refine ⟨_, rfl, ?_⟩
      refine OSuf.aop tyOK rfl za rfl <| OSuf.nil <| SQ.normal ?_
      refine W.seq <| W.reg <| OSuf.aop tyOK rfl sm rfl <| OSuf.callD rfl (by simp only [aopnds, lk] <;> rfl) en62 (sort_nil _) rfl <| OSuf.nil <| SQ.normal ?_
      refine W.seq <| W.reg <| OSuf.aop tyOK rfl sm rfl <| OSuf.aop tyOK rfl za rfl <| OSuf.nil <| SQ.normal ?_
      refine CWp.ret <| FQ.ret (by simp only [aRet, Tryz.f88, aResults, aResult, lk, Nat.reduceEqDiff, reduceIte] <;> first | rfl | (simp only [tyall] <;> rfl) | (simp [tyall] <;> rfl)) ?_
      -- leaf: end
      exact ⟨rfl, fun r o hr ho => by rw [hf r hr]; exact ho⟩
    exact this.mono fun u h' hK => .inl ⟨hnil, hK⟩
  · have : FWp Tryz.prog 88 [.func (.func 226) #[] #[P0 q]] h fun u h' => u = .slice (some ⟨h.next, 0, none⟩) ks.length 0 ∧ h' = h.new (.cells (ks.map enc) 1) := by
      refine FWp.gcNew (fun v hv => ?_) ?_
      · obtain ⟨y, _, rfl⟩ := List.mem_map.1 hv
        exact .flat rfl
      refine W.enter tyOK Tryz.func88 rfl rfl ?_
      simp only [entry]
      refine W.seq <| W.reg <| OSuf.aop tyOK rfl za rfl <| OSuf.nil <| SQ.normal ?_
      refine W.seq <| W.reg <| OSuf.aop tyOK rfl sm rfl <| OSuf.call rfl (by simp only [aopnds, lk] <;> rfl) en167 (collect_c h q m clock l hok hq hm hgq hgm (by omega)) ?_
      rintro u h1 ⟨ys, hp, ho, hf⟩
      have hys : ¬ ys.map (·.1) = [] := fun e => hnil (by (have e2 : ys = [] := by simpa using e); subst e2; have := hk.length_eq; have := hp.length_eq; simp_all)
      obtain ⟨x, n, rfl, hn, hx1, hx2, hx3⟩ : ∃ x n, u = .slice (some ⟨x, 0, none⟩) n 0 ∧ n = (ys.map (·.1)).length ∧ h.next ≤ x ∧ x < h1.next ∧ h1.get x = some (row (ys.map (·.1)).toArray) := by (cases ho with | none e => exact (hys e).elim | some ne e a b c => exact ⟨_, _, rfl, e, a, b, c⟩)
      have hsz : n ≤ 12 := by (rw [hn, List.length_map, hp.length_eq]; omega)
      have hcall := sort_c h1 x n hsz (ys.map (·.1)).toArray (by simp [hn])
      rw [AHeap.set_self hx3] at hcall
      refine ⟨_, rfl, ?_⟩
      refine OSuf.aop tyOK rfl za rfl <| OSuf.nil <| SQ.normal ?_
      refine W.seq <| W.reg <| OSuf.aop tyOK rfl sm rfl <| OSuf.call rfl (by simp only [aopnds, lk] <;> rfl) en62 (hcall) ?_
      rintro _ _ ⟨rfl, d', rfl, hpi, hsi⟩
      refine ⟨_, rfl, ?_⟩
      refine OSuf.nil <| SQ.normal ?_
      refine W.seq <| W.reg <| OSuf.aop tyOK rfl sm rfl <| OSuf.aop tyOK rfl za rfl <| OSuf.nil <| SQ.normal ?_
      refine CWp.ret <| FQ.ret (by simp only [aRet, Tryz.f88, aResults, aResult, lk, Nat.reduceEqDiff, reduceIte] <;> first | rfl | (simp only [tyall] <;> rfl) | (simp [tyall] <;> rfl)) ?_
      -- leaf: end
      have hd : d'.toList = ks := by
        have hn' : n = (ys.map (·.1)).toArray.size := by simp [hn]
        rw [hn'] at hpi hsi
        exact sorted_eq hpi hsi (hk.trans (hp.map _).symm) hks
      have hlen : ks.length = n := by rw [hk.length_eq, hn, List.length_map, List.length_map, hp.length_eq]
      refine ⟨x, by rw [hlen], hx1, by rw [AHeap.get_set_same, ← hd], fun r p hr hg => ?_⟩
      rw [AHeap.get_set_ne (by omega), hf r hr]; exact hg
    exact this.mono fun u h' hK => .inr ⟨hnil, hK⟩
end Go.Proofs.YtimbhgkiohbkdaaGreat.SortU.KL
namespace Go.Proofs.YtimbhgkiohbkdaaGreat.SortU.KI
open Go.Ab Go.Sort
set_option linter.unusedSimpArgs false
set_option linter.unusedVariables false
set_option maxRecDepth 10000
set_option maxHeartbeats 8000000
noncomputable abbrev P0 (p : Nat) : Value := .pointer (some ⟨p, 0, none⟩)
structure MapOK (l : List (El × Value × Nat)) (clock : Nat) : Prop where
  lt : ∀ x ∈ l, x.2.2 < clock
  inj : ∀ x ∈ l, ∀ y ∈ l, x.2.2 = y.2.2 → x = y
  nodup : l.Nodup
theorem keys_c (h : AHeap) (m : Nat) : FWp Tryz.prog 123 [.map (some m)] h fun u h' => u = .func (.func 187) #[] #[P0 h.next] ∧ h' = h.new (.cells [.map (some m)] 1) := by
  refine W.enter tyOK Tryz.func123 rfl rfl ?_
  simp only [entry]
  refine W.seq <| W.reg <| OSuf.aop tyOK rfl (so_box (by simp only [lk] <;> rfl)) rfl <| OSuf.aop tyOK rfl za rfl <| OSuf.nil <| SQ.normal ?_
  refine W.seq <| W.reg <| OSuf.aop tyOK rfl (so_makeFunc rfl (by simp only [aopnds, lk] <;> rfl) (by simp only [aopnds, lk] <;> rfl)) rfl <| OSuf.aop tyOK rfl za rfl <| OSuf.nil <| SQ.normal ?_
  refine CWp.ret <| FQ.ret (by simp only [aRet, Tryz.f123, aResults, aResult, lk, Nat.reduceEqDiff, reduceIte] <;> first | rfl | (simp only [tyall] <;> rfl) | (simp [tyall] <;> rfl)) ?_
  -- leaf: end
  exact ⟨rfl, rfl⟩
inductive OutAt (h : AHeap) (lo : Nat) (ks : List El) : Value → Prop
  | none (e : ks = []) : OutAt h lo ks (.slice none 0 0)
  | some {x n : Nat} (hne : ks ≠ []) (e : n = ks.length) (hlo : lo ≤ x) (hx : x < h.next) (hg : h.get x = .some (.cells (ks.map enc) 1)) : OutAt h lo ks (.slice (.some ⟨x, 0, .none⟩) n 0)
structure KSt (h0 h : AHeap) (LP : ALoop) (m clock : Nat) (ys : List (El × Value × Nat)) (seen : Array Nat) : Prop where
  next : h0.next + 3 ≤ h.next
  out : ∃ o, h.get h0.next = some (.cells [o] 1) ∧ OutAt h (h0.next + 3) (ys.map (·.1)) o
  loop : h.get (h0.next + 1) = some (.loop LP)
  iter : h.get (h0.next + 2) = some (.mapIter (some m) clock seen clock)
  old : ∀ z, z < h0.next → h.get z = h0.get z
theorem iter_step {h g : AHeap} {LP : ALoop} {m clock : Nat} {ys : List (El × Value × Nat)} {seen seen' : Array Nat} (hK : KSt h g LP m clock ys seen) : KSt h (g.set (h.next + 2) (.mapIter (some m) clock seen' clock)) LP m clock ys seen' := by
  obtain ⟨h1, ⟨o, h2, h3⟩, h4, h5, h6⟩ := hK
  refine ⟨h1, ⟨o, ?_, ?_⟩, ?_, AHeap.get_set_same _ _ _, ?_⟩
  · rw [AHeap.get_set_ne (by omega)]; exact h2
  · cases h3 with
    | none e => exact .none e
    | some ne e a b c => exact .some ne e a b (by rw [AHeap.get_set_ne (by omega)]; exact c)
  · rw [AHeap.get_set_ne (by omega)]; exact h4
  · intro z hz; rw [AHeap.get_set_ne (by omega)]; exact h6 z hz
theorem find_born {l : List (El × Value × Nat)} {clock : Nat} (hok : MapOK l clock) {x : El × Value × Nat} (hx : x ∈ l) : (mkK enc l).find? (fun e => e.born == x.2.2) = some ⟨enc x.1, x.2.1, x.2.2⟩ := by
  have key : ∀ l' : List (El × Value × Nat), (∀ y ∈ l', y ∈ l) → x ∈ l' → (mkK enc l').find? (fun e => e.born == x.2.2) = some ⟨enc x.1, x.2.1, x.2.2⟩ := by
    intro l'
    induction l' with
    | nil => intro _ h; cases h
    | cons y l' ih =>
      intro hs hm
      simp only [mkK, List.map_cons, List.find?_cons]
      by_cases hb : y.2.2 = x.2.2
      · have := hok.inj y (hs y List.mem_cons_self) x hx hb
        subst this; simp
      · have e1 : (y.2.2 == x.2.2) = false := by simpa using hb
        rw [e1]
        cases hm with
        | head => exact (hb rfl).elim
        | tail _ h9 => exact ih (fun z hz => hs z (List.mem_cons_of_mem _ hz)) h9
  exact key l (fun _ h => h) hx
theorem nat_le : ∀ (a b : List Nat), a.Nodup → (∀ x ∈ a, x ∈ b) → a.length ≤ b.length
  | [], b, _, _ => Nat.zero_le _
  | x :: a, b, hn, hs => by
    have hx := hs x List.mem_cons_self
    have hn' := List.nodup_cons.1 hn
    have := nat_le a (b.erase x) hn'.2 (fun y hy => (List.mem_erase_of_ne (fun e => hn'.1 (by rw [← e]; exact hy))).2 (hs y (List.mem_cons_of_mem _ hy)))
    rw [List.length_erase_of_mem hx] at this
    have : 0 < b.length := List.length_pos_of_mem hx
    simp; omega
theorem nodup_le {l ys : List (El × Value × Nat)} {clock : Nat} (hok : MapOK l clock) (hnd : ys.Nodup) (hsub : ∀ y ∈ ys, y ∈ l) : ys.length ≤ l.length := by
  have h1 : (ys.map (·.2.2)).Nodup := by
    have : ∀ zs : List (El × Value × Nat), zs.Nodup → (∀ y ∈ zs, y ∈ l) → (zs.map (·.2.2)).Nodup := by
      intro zs
      induction zs with
      | nil => intro _ _; simp
      | cons z zs ih =>
        intro hn hs
        have hn' := List.nodup_cons.1 hn
        simp only [List.map_cons, List.nodup_cons]
        refine ⟨fun hm => ?_, ih hn'.2 fun y hy => hs y (List.mem_cons_of_mem _ hy)⟩
        obtain ⟨y, hy, hb⟩ := List.mem_map.1 hm
        have := hok.inj y (hs y (List.mem_cons_of_mem _ hy)) z (hs z List.mem_cons_self) hb
        subst this; exact hn'.1 hy
    exact this ys hnd hsub
  have := nat_le (ys.map (·.2.2)) (l.map (·.2.2)) h1 (fun x hx => by
    obtain ⟨y, hy, rfl⟩ := List.mem_map.1 hx
    exact List.mem_map.2 ⟨y, hsub y hy, rfl⟩)
  simpa using this
theorem nodup_lt {l ys : List (El × Value × Nat)} {clock : Nat} (hok : MapOK l clock) {x : El × Value × Nat} (hnd : ys.Nodup) (hsub : ∀ y ∈ ys, y ∈ l) (hx : x ∈ l) (hn : x ∉ ys) : ys.length < l.length := by
  have h1 : (x :: ys).Nodup := List.nodup_cons.2 ⟨hn, hnd⟩
  have := nodup_le hok h1 (fun y hy => by cases hy with | head => exact hx | tail _ h9 => exact hsub y h9)
  simp at this; omega
theorem all_seen {l ys : List (El × Value × Nat)} {clock : Nat} {seen : Array Nat} (hok : MapOK l clock) (hnd : ys.Nodup) (hsub : ∀ y ∈ ys, y ∈ l) (hseen : seen.toList = ys.map (·.2.2)) (he : (left (mkK enc l) seen).filter (fun e => decide (e.born < clock)) = []) : ys.Perm l := by
  refine (List.perm_ext_iff_of_nodup hnd hok.nodup).2 fun x => ⟨hsub x, fun hx => ?_⟩
  have h1 : (⟨enc x.1, x.2.1, x.2.2⟩ : AEnt) ∈ mkK enc l := List.mem_map.2 ⟨x, hx, rfl⟩
  have h2 := List.filter_eq_nil_iff.1 he
  by_cases hc : x.2.2 ∈ seen.toList
  · rw [hseen] at hc
    obtain ⟨y, hy, hb⟩ := List.mem_map.1 hc
    have := hok.inj y (hsub y hy) x hx hb
    subst this; exact hy
  · exfalso
    refine h2 ⟨enc x.1, x.2.1, x.2.2⟩ ?_ (by simpa using hok.lt x hx)
    simp only [left, List.mem_filter]
    exact ⟨h1, by simpa using hc⟩
theorem append_c (h : AHeap) (q m clock : Nat) (l : List (El × Value × Nat)) (hok : MapOK l clock) (hq : q < h.next) (hm : m < h.next) (hgq : h.get q = some (.cells [.map (some m)] 1)) (hgm : h.get m = some (.map (mkK enc l) clock)) (hbig : l.length ≤ 1000000) :
    FWp Tryz.prog 227 [.slice none 0 0, .func (.func 187) #[] #[P0 q]] h fun u h' => ∃ ys : List (El × Value × Nat), ys.Perm l ∧ OutAt h' h.next (ys.map (·.1)) u ∧ (∀ z, z < h.next → h'.get z = h.get z) := by
  refine W.enter tyOK Tryz.func227 rfl rfl ?_
  simp only [entry]
  refine W.seq <| W.reg <| OSuf.aop tyOK rfl (so_box (by simp only [lk] <;> rfl)) rfl <| OSuf.aop tyOK rfl za rfl <| OSuf.nil <| SQ.normal ?_
  refine W.seq <| W.seq <| W.reg <| OSuf.aop tyOK rfl sm rfl <| OSuf.nil <| SQ.normal ?_
  -- leaf: loop
  refine W.block (CWp.rangeFunc (by simp only [aopnd, Tr.get_put, Nat.reduceEqDiff, reduceIte] <;> rfl) (fun l hl => by cases hl) (VWp.func en187 ?_))
  show FWp _ _ [_, _] _ _
  generalize hLP : (ALoop.mk _ _ _ _ _ _ _ _) = LP
  have yield : ∀ (g : AHeap) (ys : List (El × Value × Nat)) (sn : Array Nat) (x : El × Value × Nat), KSt h g LP m clock ys sn → ys.length ≤ 1000000 →
      VWp Tryz.prog (.func (.yield (h.next + 1)) #[] #[]) [enc x.1] g fun u h3 => u = .bool true ∧ KSt h h3 LP m clock (ys ++ [x]) sn := by
    intro g ys sn x hK hlen
    obtain ⟨k1, ⟨o, k2, k3⟩, k4, k5, k6⟩ := hK
    have hl := k4
    rw [← hLP] at hl
    refine VWp.yield hl rfl ?_
    refine W.reg <| OSuf.aop tyOK rfl za rfl <| OSuf.nil <| ?_
    -- leaf: stop
    refine ⟨rfl, _, hl, rfl, ?_⟩
    cases k3 with
    | none e =>
      refine W.block <| W.reg <| OSuf.aop tyOK rfl (zl (hv := by simp (disch := first | assumption | omega | (simp only [nx] <;> omega) | fail) only [aLoad, ty56, rowOf, hpl, k2, Value.cells] <;> rfl)) rfl <| OSuf.aop tyOK rfl sm rfl <| OSuf.aop tyOK rfl (so_buildSlice (by simp only [aparts, lk] <;> rfl) (by simp only [aBuildSlice, ty56, ty27, k2, Value.cells] <;> first | rfl | (simp only [tyall] <;> rfl) | (simp [tyall] <;> rfl))) rfl <| OSuf.aop tyOK rfl (so_append (by simp only [aopnds, lk] <;> rfl) (ap_0 (by simp only [appT, ty56, ty27] <;> rfl) rfl (by simp (disch := first | assumption | omega | (simp only [nx] <;> omega) | fail) only [aCells, rowOf, hpl, k2, Value.cells] <;> rfl) (by decide) rfl)) rfl <| OSuf.aop tyOK rfl (zs (hv := by simp (disch := first | assumption | omega | (simp only [nx] <;> omega) | fail) only [aStore, ty56, writeRow, hpl, k2, Value.cells] <;> rfl)) rfl <| OSuf.nil <| BQ.normal <| ?_
      -- leaf: stop
      refine ⟨_, by (simp (disch := first | assumption | omega | (simp only [nx] <;> omega) | fail) only [AHeap.get_set_ne, AHeap.get_set_same, AHeap.get_new_ne, AHeap.next_set, AHeap.next_new]; rfl), rfl, ?_, ⟨.slice (some ⟨g.next + 1, 0, none⟩) 1 0, ?_, .some (x := g.next + 1) (by simp) ?_ ?_ ?_ ?_⟩, ?_, ?_, ?_⟩
      · simp only [AHeap.next_set, AHeap.next_new]; omega
      · simp (disch := first | assumption | omega | (simp only [nx] <;> omega) | fail) only [AHeap.get_set_ne, AHeap.get_set_same]; rfl
      · simp [e]
      · omega
      · simp only [AHeap.next_set, AHeap.next_new]; omega
      · simp (disch := first | assumption | omega | (simp only [nx] <;> omega) | fail) only [AHeap.get_set_ne, AHeap.get_new_at, AHeap.next_set, AHeap.next_new]; simp [e]; rfl
      · rw [AHeap.get_set_same, ← hLP]; rfl
      · simp (disch := first | assumption | omega | (simp only [nx] <;> omega) | fail) only [AHeap.get_set_ne, AHeap.get_new_ne, AHeap.next_set, AHeap.next_new]; exact k5
      · intro z hz; simp (disch := first | assumption | omega | (simp only [nx] <;> omega) | fail) only [AHeap.get_set_ne, AHeap.get_new_ne, AHeap.next_set, AHeap.next_new]; exact k6 z hz
    | @some x1 n1 ne e e1 e2 e3 =>
      have hc : cellsOf ((ys.map (·.1)).map enc) 0 (n1 * 1) = some ((ys.map (·.1)).map enc) := cellsOf_all (by rw [e]; simp)
      have hn1 : n1 ≤ 1000000 := by rw [e]; simpa using hlen
      refine W.block <| W.reg <| OSuf.aop tyOK rfl (zl (hv := by simp (disch := first | assumption | omega | (simp only [nx] <;> omega) | fail) only [aLoad, ty56, rowOf, hpl, k2, e3, Value.cells] <;> rfl)) rfl <| OSuf.aop tyOK rfl sm rfl <| OSuf.aop tyOK rfl (so_buildSlice (by simp only [aparts, lk] <;> rfl) (by simp only [aBuildSlice, ty56, ty27, k2, e3, Value.cells] <;> first | rfl | (simp only [tyall] <;> rfl) | (simp [tyall] <;> rfl))) rfl <| OSuf.aop tyOK rfl (so_append (by simp only [aopnds, lk] <;> rfl) (ap_u (by simp only [appT, ty56, ty27] <;> rfl) rfl (by simp (disch := first | assumption | omega | (simp only [nx] <;> omega) | fail) only [aCells, rowOf, hpl, k2, e3, Value.cells] <;> rfl) (by show (2 * (n1 + 1) + 256) * 8 ≤ _; omega) rfl (by simp (disch := first | assumption | omega | (simp only [nx] <;> omega) | fail) only [aCells, rowOf, hpl, k2, e3, Value.cells] <;> rfl) rfl hc)) rfl <| OSuf.aop tyOK rfl (zs (hv := by simp (disch := first | assumption | omega | (simp only [nx] <;> omega) | fail) only [aStore, ty56, writeRow, hpl, k2, e3, Value.cells] <;> rfl)) rfl <| OSuf.nil <| BQ.normal <| ?_
      -- leaf: stop
      refine ⟨_, by (simp (disch := first | assumption | omega | (simp only [nx] <;> omega) | fail) only [AHeap.get_set_ne, AHeap.get_set_same, AHeap.get_new_ne, AHeap.get_kill_ne, AHeap.next_set, AHeap.next_new, AHeap.next_kill]; rfl), rfl, ?_, ⟨.slice (some ⟨g.next + 1, 0, none⟩) (n1 + 1) 0, ?_, .some (x := g.next + 1) (by simp) ?_ ?_ ?_ ?_⟩, ?_, ?_, ?_⟩
      · simp only [AHeap.next_set, AHeap.next_new, AHeap.next_kill]; omega
      · simp (disch := first | assumption | omega | (simp only [nx] <;> omega) | fail) only [AHeap.get_set_ne, AHeap.get_set_same]; rfl
      · simp [e]
      · omega
      · simp only [AHeap.next_set, AHeap.next_new, AHeap.next_kill]; omega
      · simp (disch := first | assumption | omega | (simp only [nx] <;> omega) | fail) only [AHeap.get_set_ne, AHeap.get_new_at, AHeap.next_set, AHeap.next_new, AHeap.next_kill, List.map_append]; rfl
      · rw [AHeap.get_set_same, ← hLP]; rfl
      · simp (disch := first | assumption | omega | (simp only [nx] <;> omega) | fail) only [AHeap.get_set_ne, AHeap.get_new_ne, AHeap.get_kill_ne, AHeap.next_set, AHeap.next_new, AHeap.next_kill]; exact k5
      · intro z hz; simp (disch := first | assumption | omega | (simp only [nx] <;> omega) | fail) only [AHeap.get_set_ne, AHeap.get_new_ne, AHeap.get_kill_ne, AHeap.next_set, AHeap.next_new, AHeap.next_kill]; exact k6 z hz
  refine W.enter tyOK Tryz.func187 rfl rfl ?_
  simp only [entry]
  refine W.seq <| W.reg <| OSuf.aop tyOK rfl (zl (hv := by simp (disch := first | assumption | omega | (simp only [nx] <;> omega) | fail) only [aLoad, ty83, rowOf, hpl, hgq, hgm, Value.cells] <;> rfl)) rfl <| OSuf.aop tyOK rfl (so_range (by simp only [lk] <;> rfl) (by simp (disch := first | assumption | omega | (simp only [nx] <;> omega) | fail) only [aRange, ty83, hpl, hgq, hgm, Value.cells] <;> rfl)) rfl <| OSuf.nil <| SQ.normal ?_
  -- leaf: loop
  refine W.cut (fun L h2 => ∃ ys seen, ys.Perm l ∧ KSt h h2 LP m clock ys seen) (W.block (W.loop (fun n L h2 => ∃ ys seen, n + ys.length = l.length ∧ ys.Nodup ∧ (∀ y ∈ ys, y ∈ l) ∧ seen.toList = ys.map (·.2.2) ∧ KSt h h2 LP m clock ys seen ∧
      L = [(0, .func (.yield (h.next + 1)) #[] #[]), (5, P0 (h.next + 2))]) (n := l.length) ⟨[], #[], by simp, by simp, by simp, rfl, ⟨?_, ⟨_, ?_, .none rfl⟩, ?_, ?_, ?_⟩, rfl⟩ ?_ ?_)) ?_
  · simp only [AHeap.next_new]; omega
  · simp (disch := first | assumption | omega | (simp only [nx] <;> omega) | fail) only [AHeap.get_new_at, AHeap.get_new_ne, AHeap.next_new]
  · simp (disch := first | assumption | omega | (simp only [nx] <;> omega) | fail) only [AHeap.get_new_at, AHeap.get_new_ne, AHeap.next_new]
  · simp (disch := first | assumption | omega | (simp only [nx] <;> omega) | fail) only [AHeap.get_new_at, AHeap.get_new_ne, AHeap.next_new]
  · intro z hz; simp (disch := first | assumption | omega | (simp only [nx] <;> omega) | fail) only [AHeap.get_new_at, AHeap.get_new_ne, AHeap.next_new]
  · simp [HasA, Tr.get_put]
  · rintro n L h2 ⟨ys, seen, hn, hnd, hsub, hseen, hK, rfl⟩
    simp only [mkA]
    have hgm2 : h2.get m = some (.map (mkK enc l) clock) := by rw [hK.old m hm]; exact hgm
    have hc : (!seen.isEmpty && !(mkK enc l).isEmpty && (mkK enc l).all (fun e => decide (e.born ≥ clock))) = false := by
      cases l with
      | nil => simp [mkK]
      | cons x l =>
        have := hok.lt x List.mem_cons_self
        have e1 : decide (x.2.2 ≥ clock) = false := by simp; omega
        simp [mkK, e1]
    refine W.seq <| W.reg <| OSuf.next rfl (by simp only [lk] <;> rfl) hK.iter hgm2 hc (fun he => ⟨_, rfl, ?_⟩) (fun e he => ⟨_, rfl, ?_⟩)
    · skip
      refine OSuf.aopF tyOK rfl (ze (hv := by simp (disch := first | assumption | omega | (simp only [nx] <;> omega) | fail) only [aExtract, hpl] <;> rfl)) (fun _ => rfl) (by first | rfl | assumption | ((simp only [bl]) <;> first | done | assumption | omega) | (simp; done) | (simp; omega)) <| OSuf.nil <| SQ.normal ?_
      refine W.seq <| W.no (by simp only [lk] <;> rfl) <| CWp.exit <| SQ.exit <| LQ.exit <| BQ.exit <| ?_
      refine NQ.normal (L := []) trivial ⟨ys, seen, ?_, hK⟩
      exact all_seen hok hnd hsub hseen he
    · skip
      obtain ⟨x, hxl, hxs, rfl⟩ : ∃ x ∈ l, x.2.2 ∉ ys.map (·.2.2) ∧ e = ⟨enc x.1, x.2.1, x.2.2⟩ := by (simp only [left, mkK, List.mem_filter, List.mem_map] at he; obtain ⟨⟨x, hx, rfl⟩, h9⟩ := he; refine ⟨x, hx, ?_, rfl⟩; rw [← hseen]; simpa using h9)
      have hK2 : KSt h (h2.set (h.next + 2) (.mapIter (some m) clock (seen.push x.2.2) clock)) LP m clock ys (seen.push x.2.2) := iter_step hK
      have hfind : (mkK enc l).find? (fun e => e.born == x.2.2) = some ⟨enc x.1, x.2.1, x.2.2⟩ := find_born hok hxl
      have hy := yield _ ys _ x hK2 (by have := nodup_le hok hnd hsub; omega)
      refine OSuf.aopT tyOK rfl (ze (hv := by simp (disch := first | assumption | omega | (simp only [nx] <;> omega) | fail) only [aExtract, hpl] <;> rfl)) (fun _ => rfl) (by first | rfl | assumption | ((simp only [bl]) <;> first | done | assumption | omega) | (simp; done) | (simp; omega)) <| OSuf.nil <| SQ.normal ?_
      refine W.seq <| W.yes (by simp only [lk] <;> rfl) <| CWp.skip <| SQ.normal ?_
      refine W.block <| W.seq <| W.reg <| OSuf.aop tyOK rfl (so_entry (by simp only [lk] <;> rfl) (en_ok (AHeap.get_set_same _ _ _) (by simp (disch := first | assumption | omega | (simp only [nx] <;> omega) | fail) only [aCells, rowOf, hpl] <;> exact hgm2) hfind)) rfl <| OSuf.aop tyOK rfl (ze (hv := by simp (disch := first | assumption | omega | (simp only [nx] <;> omega) | fail) only [aExtract, hpl] <;> rfl)) rfl <| OSuf.aop tyOK rfl za rfl <| OSuf.nil <| SQ.normal ?_
      refine W.seq <| W.reg <| OSuf.aop tyOK rfl sm rfl <| OSuf.aop tyOK rfl sm rfl <| OSuf.vcall rfl (by simp only [lk] <;> rfl) (by simp only [aopnds, lk] <;> rfl) (hy) ?_
      rintro _ h3 ⟨rfl, hK3⟩
      refine ⟨_, rfl, ?_⟩
      refine OSuf.aopF tyOK rfl (so_not (by simp only [lk] <;> rfl)) (fun _ => rfl) rfl <| OSuf.nil <| SQ.normal ?_
      refine W.no (by simp only [lk] <;> rfl) <| CWp.skip <| BQ.normal <| ?_
      refine LQ.normal (m := n - 1) (L := [(0, .func (.yield (h.next + 1)) #[] #[]), (5, P0 (h.next + 2))]) ?_ ?_ ⟨ys ++ [x], seen.push x.2.2, ?_, ?_, ?_, ?_, hK3, rfl⟩
      · have := nodup_lt hok hnd hsub hxl (fun hx => hxs (List.mem_map.2 ⟨x, hx, rfl⟩)); omega
      · simp only [HasA, Tr.get_put, Nat.reduceEqDiff, reduceIte, and_self]
      · have := nodup_lt hok hnd hsub hxl (fun hx => hxs (List.mem_map.2 ⟨x, hx, rfl⟩)); simp; omega
      · exact List.nodup_append.2 ⟨hnd, by simp, fun a ha b hb => by simp at hb; subst hb; rintro rfl; exact hxs (List.mem_map.2 ⟨_, ha, rfl⟩)⟩
      · intro y hy; rcases List.mem_append.1 hy with h9 | h9
        · exact hsub y h9
        · simp at h9; subst h9; exact hxl
      · simp [hseen]
  rintro L a' h2 ha ⟨ys, seen, hperm, hK⟩
  refine FQ.normal (by simp only [aRet, Tryz.f187, aResults] <;> first | rfl | (simp only [tyall] <;> rfl) | (simp [tyall] <;> rfl)) ?_
  refine ⟨LP, .normal, hK.loop, by rw [← hLP]; rfl, by rw [← hLP]; rfl, ?_⟩
  obtain ⟨o, ho1, ho2⟩ := hK.out
  have hnx : h.next + 3 ≤ h2.next := hK.next
  refine BQ.normal <| SQ.normal ?_
  refine W.seq <| W.reg <| OSuf.aop tyOK rfl (zl (hv := by simp (disch := first | assumption | omega | (simp only [nx] <;> omega) | fail) only [aLoad, ty56, rowOf, hpl, ho1] <;> rfl)) rfl <| OSuf.aop tyOK rfl za rfl <| OSuf.nil <| SQ.normal ?_
  refine CWp.ret <| FQ.ret (by simp only [aRet, Tryz.f227, aResults, aResult, lk, Nat.reduceEqDiff, reduceIte] <;> first | rfl | (simp only [tyall] <;> rfl) | (simp [tyall] <;> rfl)) ?_
  -- leaf: end
  refine ⟨ys, hperm, ?_, fun z hz => ?_⟩
  · cases ho2 with
    | none e => exact .none e
    | some ne e h5 h6 h7 => exact .some ne e (by omega) h6 (by rw [AHeap.get_kill_ne (by simp only [AHeap.next_new]; omega)]; exact h7)
  · rw [AHeap.get_kill_ne (by simp only [AHeap.next_new]; omega)]; exact hK.old z hz
theorem collect_c (h : AHeap) (q m clock : Nat) (l : List (El × Value × Nat)) (hok : MapOK l clock) (hq : q < h.next) (hm : m < h.next) (hgq : h.get q = some (.cells [.map (some m)] 1)) (hgm : h.get m = some (.map (mkK enc l) clock)) (hbig : l.length ≤ 1000000) :
    FWp Tryz.prog 167 [.func (.func 187) #[] #[P0 q]] h fun u h' => ∃ ys : List (El × Value × Nat), ys.Perm l ∧ OutAt h' h.next (ys.map (·.1)) u ∧ (∀ z, z < h.next → h'.get z = h.get z) := by
  refine W.enter tyOK Tryz.func167 rfl rfl ?_
  simp only [entry]
  refine W.seq <| W.reg <| OSuf.aop tyOK rfl za rfl <| OSuf.nil <| SQ.normal ?_
  refine W.seq <| W.reg <| OSuf.aop tyOK rfl sm rfl <| OSuf.call rfl (by simp only [aopnds, lk] <;> rfl) en227 (append_c h q m clock l hok hq hm hgq hgm hbig) ?_
  rintro u h1 hK
  refine ⟨_, rfl, ?_⟩
  refine OSuf.aop tyOK rfl za rfl <| OSuf.nil <| SQ.normal ?_
  refine CWp.ret <| FQ.ret (by simp only [aRet, Tryz.f167, aResults, aResult, lk, Nat.reduceEqDiff, reduceIte] <;> first | rfl | (simp only [tyall] <;> rfl) | (simp [tyall] <;> rfl)) ?_
  -- leaf: end
  exact hK
theorem sorted_eq {d d' : Array El} {ks : List El} (hp : PermIn 0 d.size d d') (hs : SortedIn lt 0 d.size d') (hk : ks.Perm d.toList) (hks : ks.Pairwise (fun x y => lt y x = false)) : d'.toList = ks := by
  have hu : ∀ x y : El, lt x y = false → lt y x = false → x = y := fun x y h1 h2 => by simp only [lt, ltInt, decide_eq_false_iff_not] at h1 h2; exact Int.le_antisymm (Int.not_lt.1 h2) (Int.not_lt.1 h1)
  have e1 := sorted_unique_holds (lt := lt) swo hu d d' hp hs
  have hsz : ks.length = d.size := by rw [hk.length_eq]; simp
  have e2 := sorted_unique_holds (lt := lt) swo hu d ks.toArray ⟨by simp [hsz], fun i hi => by
      rcases hi with hi | hi
      · omega
      · rw [getElem!_neg _ i (by simp; omega), getElem!_neg _ i (by omega)], by
      have e3 : (d.extract 0 d.size).toList = d.toList := by simp
      have e4 : (ks.toArray.extract 0 d.size).toList = ks := by simp [← hsz]
      rw [e3, e4]; exact hk⟩ (fun i j _ hij hj => by
      have := List.pairwise_iff_getElem.1 hks i j (by omega) (by omega) hij
      rw [getElem!_pos _ j (by simp; omega), getElem!_pos _ i (by simp; omega)]
      simpa using this)
  rw [e1, ← e2]
theorem sorted_c (h : AHeap) (q m clock : Nat) (l : List (El × Value × Nat)) (ks : List El) (hok : MapOK l clock) (hq : q < h.next) (hm : m < h.next) (hgq : h.get q = some (.cells [.map (some m)] 1)) (hgm : h.get m = some (.map (mkK enc l) clock)) (hbig : l.length ≤ 12)
    (hk : ks.Perm (l.map (·.1))) (hks : ks.Pairwise (fun x y => lt y x = false)) :
    FWp Tryz.prog 88 [.func (.func 187) #[] #[P0 q]] h fun u h' => (ks = [] ∧ u = .slice none 0 0 ∧ h' = h) ∨ (ks ≠ [] ∧ u = .slice (some ⟨h.next, 0, none⟩) ks.length 0 ∧ h' = h.new (.cells (ks.map enc) 1)) := by
  by_cases hnil : ks = []
  · have hl : l = [] := by
      subst hnil
      have := hk.length_eq
      simpa using this.symm
    have : FWp Tryz.prog 88 [.func (.func 187) #[] #[P0 q]] h fun u h' => u = .slice none 0 0 ∧ h' = h := by
      refine FWp.gcs (.flat rfl) ?_
      refine W.enter tyOK Tryz.func88 rfl rfl ?_
      simp only [entry]
      refine W.seq <| W.reg <| OSuf.aop tyOK rfl za rfl <| OSuf.nil <| SQ.normal ?_
      refine W.seq <| W.reg <| OSuf.aop tyOK rfl sm rfl <| OSuf.call rfl (by simp only [aopnds, lk] <;> rfl) en167 (collect_c h q m clock l hok hq hm hgq hgm (by omega)) ?_
      rintro u h1 ⟨ys, hp, ho, hf⟩
      obtain rfl : ys = [] := by (subst hl; exact hp.eq_nil)
      obtain rfl : u = .slice none 0 0 := by (cases ho with | none => rfl | some ne _ _ _ _ => exact (ne rfl).elim)
      refine ⟨_, rfl, ?_⟩
      refine OSuf.aop tyOK rfl za rfl <| OSuf.nil <| SQ.normal ?_
      refine W.seq <| W.reg <| OSuf.aop tyOK rfl sm rfl <| OSuf.callD rfl (by simp only [aopnds, lk] <;> rfl) en62 (sort_nil _) rfl <| OSuf.nil <| SQ.normal ?_
      refine W.seq <| W.reg <| OSuf.aop tyOK rfl sm rfl <| OSuf.aop tyOK rfl za rfl <| OSuf.nil <| SQ.normal ?_
      refine CWp.ret <| FQ.ret (by simp only [aRet, Tryz.f88, aResults, aResult, lk, Nat.reduceEqDiff, reduceIte] <;> first | rfl | (simp only [tyall] <;> rfl) | (simp [tyall] <;> rfl)) ?_
      -- leaf: end
      exact ⟨rfl, fun r o hr ho => by rw [hf r hr]; exact ho⟩
    exact this.mono fun u h' hK => .inl ⟨hnil, hK⟩
  · have : FWp Tryz.prog 88 [.func (.func 187) #[] #[P0 q]] h fun u h' => u = .slice (some ⟨h.next, 0, none⟩) ks.length 0 ∧ h' = h.new (.cells (ks.map enc) 1) := by
      refine FWp.gcNew (fun v hv => ?_) ?_
      · obtain ⟨y, _, rfl⟩ := List.mem_map.1 hv
        exact .flat rfl
      refine W.enter tyOK Tryz.func88 rfl rfl ?_
      simp only [entry]
      refine W.seq <| W.reg <| OSuf.aop tyOK rfl za rfl <| OSuf.nil <| SQ.normal ?_
      refine W.seq <| W.reg <| OSuf.aop tyOK rfl sm rfl <| OSuf.call rfl (by simp only [aopnds, lk] <;> rfl) en167 (collect_c h q m clock l hok hq hm hgq hgm (by omega)) ?_
      rintro u h1 ⟨ys, hp, ho, hf⟩
      have hys : ¬ ys.map (·.1) = [] := fun e => hnil (by (have e2 : ys = [] := by simpa using e); subst e2; have := hk.length_eq; have := hp.length_eq; simp_all)
      obtain ⟨x, n, rfl, hn, hx1, hx2, hx3⟩ : ∃ x n, u = .slice (some ⟨x, 0, none⟩) n 0 ∧ n = (ys.map (·.1)).length ∧ h.next ≤ x ∧ x < h1.next ∧ h1.get x = some (row (ys.map (·.1)).toArray) := by (cases ho with | none e => exact (hys e).elim | some ne e a b c => exact ⟨_, _, rfl, e, a, b, c⟩)
      have hsz : n ≤ 12 := by (rw [hn, List.length_map, hp.length_eq]; omega)
      have hcall := sort_c h1 x n hsz (ys.map (·.1)).toArray (by simp [hn])
      rw [AHeap.set_self hx3] at hcall
      refine ⟨_, rfl, ?_⟩
      refine OSuf.aop tyOK rfl za rfl <| OSuf.nil <| SQ.normal ?_
      refine W.seq <| W.reg <| OSuf.aop tyOK rfl sm rfl <| OSuf.call rfl (by simp only [aopnds, lk] <;> rfl) en62 (hcall) ?_
      rintro _ _ ⟨rfl, d', rfl, hpi, hsi⟩
      refine ⟨_, rfl, ?_⟩
      refine OSuf.nil <| SQ.normal ?_
      refine W.seq <| W.reg <| OSuf.aop tyOK rfl sm rfl <| OSuf.aop tyOK rfl za rfl <| OSuf.nil <| SQ.normal ?_
      refine CWp.ret <| FQ.ret (by simp only [aRet, Tryz.f88, aResults, aResult, lk, Nat.reduceEqDiff, reduceIte] <;> first | rfl | (simp only [tyall] <;> rfl) | (simp [tyall] <;> rfl)) ?_
      -- leaf: end
      have hd : d'.toList = ks := by
        have hn' : n = (ys.map (·.1)).toArray.size := by simp [hn]
        rw [hn'] at hpi hsi
        exact sorted_eq hpi hsi (hk.trans (hp.map _).symm) hks
      have hlen : ks.length = n := by rw [hk.length_eq, hn, List.length_map, List.length_map, hp.length_eq]
      refine ⟨x, by rw [hlen], hx1, by rw [AHeap.get_set_same, ← hd], fun r p hr hg => ?_⟩
      rw [AHeap.get_set_ne (by omega), hf r hr]; exact hg
    exact this.mono fun u h' hK => .inr ⟨hnil, hK⟩
end Go.Proofs.YtimbhgkiohbkdaaGreat.SortU.KI
namespace Go.Proofs.YtimbhgkiohbkdaaGreat.SortU.KG
open Go.Ab Go.Sort
set_option linter.unusedSimpArgs false
set_option linter.unusedVariables false
set_option maxRecDepth 10000
set_option maxHeartbeats 8000000
noncomputable abbrev P0 (p : Nat) : Value := .pointer (some ⟨p, 0, none⟩)
structure MapOK (l : List (El × Value × Nat)) (clock : Nat) : Prop where
  lt : ∀ x ∈ l, x.2.2 < clock
  inj : ∀ x ∈ l, ∀ y ∈ l, x.2.2 = y.2.2 → x = y
  nodup : l.Nodup
theorem keys_c (h : AHeap) (m : Nat) : FWp Tryz.prog 89 [.map (some m)] h fun u h' => u = .func (.func 168) #[] #[P0 h.next] ∧ h' = h.new (.cells [.map (some m)] 1) := by
  refine W.enter tyOK Tryz.func89 rfl rfl ?_
  simp only [entry]
  refine W.seq <| W.reg <| OSuf.aop tyOK rfl (so_box (by simp only [lk] <;> rfl)) rfl <| OSuf.aop tyOK rfl za rfl <| OSuf.nil <| SQ.normal ?_
  refine W.seq <| W.reg <| OSuf.aop tyOK rfl (so_makeFunc rfl (by simp only [aopnds, lk] <;> rfl) (by simp only [aopnds, lk] <;> rfl)) rfl <| OSuf.aop tyOK rfl za rfl <| OSuf.nil <| SQ.normal ?_
  refine CWp.ret <| FQ.ret (by simp only [aRet, Tryz.f89, aResults, aResult, lk, Nat.reduceEqDiff, reduceIte] <;> first | rfl | (simp only [tyall] <;> rfl) | (simp [tyall] <;> rfl)) ?_
  -- leaf: end
  exact ⟨rfl, rfl⟩
inductive OutAt (h : AHeap) (lo : Nat) (ks : List El) : Value → Prop
  | none (e : ks = []) : OutAt h lo ks (.slice none 0 0)
  | some {x n : Nat} (hne : ks ≠ []) (e : n = ks.length) (hlo : lo ≤ x) (hx : x < h.next) (hg : h.get x = .some (.cells (ks.map enc) 1)) : OutAt h lo ks (.slice (.some ⟨x, 0, .none⟩) n 0)
structure KSt (h0 h : AHeap) (LP : ALoop) (m clock : Nat) (ys : List (El × Value × Nat)) (seen : Array Nat) : Prop where
  next : h0.next + 3 ≤ h.next
  out : ∃ o, h.get h0.next = some (.cells [o] 1) ∧ OutAt h (h0.next + 3) (ys.map (·.1)) o
  loop : h.get (h0.next + 1) = some (.loop LP)
  iter : h.get (h0.next + 2) = some (.mapIter (some m) clock seen clock)
  old : ∀ z, z < h0.next → h.get z = h0.get z
theorem iter_step {h g : AHeap} {LP : ALoop} {m clock : Nat} {ys : List (El × Value × Nat)} {seen seen' : Array Nat} (hK : KSt h g LP m clock ys seen) : KSt h (g.set (h.next + 2) (.mapIter (some m) clock seen' clock)) LP m clock ys seen' := by
  obtain ⟨h1, ⟨o, h2, h3⟩, h4, h5, h6⟩ := hK
  refine ⟨h1, ⟨o, ?_, ?_⟩, ?_, AHeap.get_set_same _ _ _, ?_⟩
  · rw [AHeap.get_set_ne (by omega)]; exact h2
  · cases h3 with
    | none e => exact .none e
    | some ne e a b c => exact .some ne e a b (by rw [AHeap.get_set_ne (by omega)]; exact c)
  · rw [AHeap.get_set_ne (by omega)]; exact h4
  · intro z hz; rw [AHeap.get_set_ne (by omega)]; exact h6 z hz
theorem find_born {l : List (El × Value × Nat)} {clock : Nat} (hok : MapOK l clock) {x : El × Value × Nat} (hx : x ∈ l) : (mkK enc l).find? (fun e => e.born == x.2.2) = some ⟨enc x.1, x.2.1, x.2.2⟩ := by
  have key : ∀ l' : List (El × Value × Nat), (∀ y ∈ l', y ∈ l) → x ∈ l' → (mkK enc l').find? (fun e => e.born == x.2.2) = some ⟨enc x.1, x.2.1, x.2.2⟩ := by
    intro l'
    induction l' with
    | nil => intro _ h; cases h
    | cons y l' ih =>
      intro hs hm
      simp only [mkK, List.map_cons, List.find?_cons]
      by_cases hb : y.2.2 = x.2.2
      · have := hok.inj y (hs y List.mem_cons_self) x hx hb
        subst this; simp
      · have e1 : (y.2.2 == x.2.2) = false := by simpa using hb
        rw [e1]
        cases hm with
        | head => exact (hb rfl).elim
        | tail _ h9 => exact ih (fun z hz => hs z (List.mem_cons_of_mem _ hz)) h9
  exact key l (fun _ h => h) hx
theorem nat_le : ∀ (a b : List Nat), a.Nodup → (∀ x ∈ a, x ∈ b) → a.length ≤ b.length
  | [], b, _, _ => Nat.zero_le _
  | x :: a, b, hn, hs => by
    have hx := hs x List.mem_cons_self
    have hn' := List.nodup_cons.1 hn
    have := nat_le a (b.erase x) hn'.2 (fun y hy => (List.mem_erase_of_ne (fun e => hn'.1 (by rw [← e]; exact hy))).2 (hs y (List.mem_cons_of_mem _ hy)))
    rw [List.length_erase_of_mem hx] at this
    have : 0 < b.length := List.length_pos_of_mem hx
    simp; omega
theorem nodup_le {l ys : List (El × Value × Nat)} {clock : Nat} (hok : MapOK l clock) (hnd : ys.Nodup) (hsub : ∀ y ∈ ys, y ∈ l) : ys.length ≤ l.length := by
  have h1 : (ys.map (·.2.2)).Nodup := by
    have : ∀ zs : List (El × Value × Nat), zs.Nodup → (∀ y ∈ zs, y ∈ l) → (zs.map (·.2.2)).Nodup := by
      intro zs
      induction zs with
      | nil => intro _ _; simp
      | cons z zs ih =>
        intro hn hs
        have hn' := List.nodup_cons.1 hn
        simp only [List.map_cons, List.nodup_cons]
        refine ⟨fun hm => ?_, ih hn'.2 fun y hy => hs y (List.mem_cons_of_mem _ hy)⟩
        obtain ⟨y, hy, hb⟩ := List.mem_map.1 hm
        have := hok.inj y (hs y (List.mem_cons_of_mem _ hy)) z (hs z List.mem_cons_self) hb
        subst this; exact hn'.1 hy
    exact this ys hnd hsub
  have := nat_le (ys.map (·.2.2)) (l.map (·.2.2)) h1 (fun x hx => by
    obtain ⟨y, hy, rfl⟩ := List.mem_map.1 hx
    exact List.mem_map.2 ⟨y, hsub y hy, rfl⟩)
  simpa using this
theorem nodup_lt {l ys : List (El × Value × Nat)} {clock : Nat} (hok : MapOK l clock) {x : El × Value × Nat} (hnd : ys.Nodup) (hsub : ∀ y ∈ ys, y ∈ l) (hx : x ∈ l) (hn : x ∉ ys) : ys.length < l.length := by
  have h1 : (x :: ys).Nodup := List.nodup_cons.2 ⟨hn, hnd⟩
  have := nodup_le hok h1 (fun y hy => by cases hy with | head => exact hx | tail _ h9 => exact hsub y h9)
  simp at this; omega
theorem all_seen {l ys : List (El × Value × Nat)} {clock : Nat} {seen : Array Nat} (hok : MapOK l clock) (hnd : ys.Nodup) (hsub : ∀ y ∈ ys, y ∈ l) (hseen : seen.toList = ys.map (·.2.2)) (he : (left (mkK enc l) seen).filter (fun e => decide (e.born < clock)) = []) : ys.Perm l := by
  refine (List.perm_ext_iff_of_nodup hnd hok.nodup).2 fun x => ⟨hsub x, fun hx => ?_⟩
  have h1 : (⟨enc x.1, x.2.1, x.2.2⟩ : AEnt) ∈ mkK enc l := List.mem_map.2 ⟨x, hx, rfl⟩
  have h2 := List.filter_eq_nil_iff.1 he
  by_cases hc : x.2.2 ∈ seen.toList
  · rw [hseen] at hc
    obtain ⟨y, hy, hb⟩ := List.mem_map.1 hc
    have := hok.inj y (hsub y hy) x hx hb
    subst this; exact hy
  · exfalso
    refine h2 ⟨enc x.1, x.2.1, x.2.2⟩ ?_ (by simpa using hok.lt x hx)
    simp only [left, List.mem_filter]
    exact ⟨h1, by simpa using hc⟩
theorem append_c (h : AHeap) (q m clock : Nat) (l : List (El × Value × Nat)) (hok : MapOK l clock) (hq : q < h.next) (hm : m < h.next) (hgq : h.get q = some (.cells [.map (some m)] 1)) (hgm : h.get m = some (.map (mkK enc l) clock)) (hbig : l.length ≤ 1000000) :
    FWp Tryz.prog 227 [.slice none 0 0, .func (.func 168) #[] #[P0 q]] h fun u h' => ∃ ys : List (El × Value × Nat), ys.Perm l ∧ OutAt h' h.next (ys.map (·.1)) u ∧ (∀ z, z < h.next → h'.get z = h.get z) := by
  refine W.enter tyOK Tryz.func227 rfl rfl ?_
  simp only [entry]
  refine W.seq <| W.reg <| OSuf.aop tyOK rfl (so_box (by simp only [lk] <;> rfl)) rfl <| OSuf.aop tyOK rfl za rfl <| OSuf.nil <| SQ.normal ?_
  refine W.seq <| W.seq <| W.reg <| OSuf.aop tyOK rfl sm rfl <| OSuf.nil <| SQ.normal ?_
  -- leaf: loop
  refine W.block (CWp.rangeFunc (by simp only [aopnd, Tr.get_put, Nat.reduceEqDiff, reduceIte] <;> rfl) (fun l hl => by cases hl) (VWp.func en168 ?_))
  show FWp _ _ [_, _] _ _
  generalize hLP : (ALoop.mk _ _ _ _ _ _ _ _) = LP
  have yield : ∀ (g : AHeap) (ys : List (El × Value × Nat)) (sn : Array Nat) (x : El × Value × Nat), KSt h g LP m clock ys sn → ys.length ≤ 1000000 →
      VWp Tryz.prog (.func (.yield (h.next + 1)) #[] #[]) [enc x.1] g fun u h3 => u = .bool true ∧ KSt h h3 LP m clock (ys ++ [x]) sn := by
    intro g ys sn x hK hlen
    obtain ⟨k1, ⟨o, k2, k3⟩, k4, k5, k6⟩ := hK
    have hl := k4
    rw [← hLP] at hl
    refine VWp.yield hl rfl ?_
    refine W.reg <| OSuf.aop tyOK rfl za rfl <| OSuf.nil <| ?_
    -- leaf: stop
    refine ⟨rfl, _, hl, rfl, ?_⟩
    cases k3 with
    | none e =>
      refine W.block <| W.reg <| OSuf.aop tyOK rfl (zl (hv := by simp (disch := first | assumption | omega | (simp only [nx] <;> omega) | fail) only [aLoad, ty56, rowOf, hpl, k2, Value.cells] <;> rfl)) rfl <| OSuf.aop tyOK rfl sm rfl <| OSuf.aop tyOK rfl (so_buildSlice (by simp only [aparts, lk] <;> rfl) (by simp only [aBuildSlice, ty56, ty27, k2, Value.cells] <;> first | rfl | (simp only [tyall] <;> rfl) | (simp [tyall] <;> rfl))) rfl <| OSuf.aop tyOK rfl (so_append (by simp only [aopnds, lk] <;> rfl) (ap_0 (by simp only [appT, ty56, ty27] <;> rfl) rfl (by simp (disch := first | assumption | omega | (simp only [nx] <;> omega) | fail) only [aCells, rowOf, hpl, k2, Value.cells] <;> rfl) (by decide) rfl)) rfl <| OSuf.aop tyOK rfl (zs (hv := by simp (disch := first | assumption | omega | (simp only [nx] <;> omega) | fail) only [aStore, ty56, writeRow, hpl, k2, Value.cells] <;> rfl)) rfl <| OSuf.nil <| BQ.normal <| ?_
      -- leaf: stop
      refine ⟨_, by (simp (disch := first | assumption | omega | (simp only [nx] <;> omega) | fail) only [AHeap.get_set_ne, AHeap.get_set_same, AHeap.get_new_ne, AHeap.next_set, AHeap.next_new]; rfl), rfl, ?_, ⟨.slice (some ⟨g.next + 1, 0, none⟩) 1 0, ?_, .some (x := g.next + 1) (by simp) ?_ ?_ ?_ ?_⟩, ?_, ?_, ?_⟩
      · simp only [AHeap.next_set, AHeap.next_new]; omega
      · simp (disch := first | assumption | omega | (simp only [nx] <;> omega) | fail) only [AHeap.get_set_ne, AHeap.get_set_same]; rfl
      · simp [e]
      · omega
      · simp only [AHeap.next_set, AHeap.next_new]; omega
      · simp (disch := first | assumption | omega | (simp only [nx] <;> omega) | fail) only [AHeap.get_set_ne, AHeap.get_new_at, AHeap.next_set, AHeap.next_new]; simp [e]; rfl
      · rw [AHeap.get_set_same, ← hLP]; rfl
      · simp (disch := first | assumption | omega | (simp only [nx] <;> omega) | fail) only [AHeap.get_set_ne, AHeap.get_new_ne, AHeap.next_set, AHeap.next_new]; exact k5
      · intro z hz; simp (disch := first | assumption | omega | (simp only [nx] <;> omega) | fail) only [AHeap.get_set_ne, AHeap.get_new_ne, AHeap.next_set, AHeap.next_new]; exact k6 z hz
    | @some x1 n1 ne e e1 e2 e3 =>
      have hc : cellsOf ((ys.map (·.1)).map enc) 0 (n1 * 1) = some ((ys.map (·.1)).map enc) := cellsOf_all (by rw [e]; simp)
      have hn1 : n1 ≤ 1000000 := by rw [e]; simpa using hlen
      refine W.block <| W.reg <| OSuf.aop tyOK rfl (zl (hv := by simp (disch := first | assumption | omega | (simp only [nx] <;> omega) | fail) only [aLoad, ty56, rowOf, hpl, k2, e3, Value.cells] <;> rfl)) rfl <| OSuf.aop tyOK rfl sm rfl <| OSuf.aop tyOK rfl (so_buildSlice (by simp only [aparts, lk] <;> rfl) (by simp only [aBuildSlice, ty56, ty27, k2, e3, Value.cells] <;> first | rfl | (simp only [tyall] <;> rfl) | (simp [tyall] <;> rfl))) rfl <| OSuf.aop tyOK rfl (so_append (by simp only [aopnds, lk] <;> rfl) (ap_u (by simp only [appT, ty56, ty27] <;> rfl) rfl (by simp (disch := first | assumption | omega | (simp only [nx] <;> omega) | fail) only [aCells, rowOf, hpl, k2, e3, Value.cells] <;> rfl) (by show (2 * (n1 + 1) + 256) * 8 ≤ _; omega) rfl (by simp (disch := first | assumption | omega | (simp only [nx] <;> omega) | fail) only [aCells, rowOf, hpl, k2, e3, Value.cells] <;> rfl) rfl hc)) rfl <| OSuf.aop tyOK rfl (zs (hv := by simp (disch := first | assumption | omega | (simp only [nx] <;> omega) | fail) only [aStore, ty56, writeRow, hpl, k2, e3, Value.cells] <;> rfl)) rfl <| OSuf.nil <| BQ.normal <| ?_
      -- leaf: stop
      refine ⟨_, by (simp (disch := first | assumption | omega | (simp only [nx] <;> omega) | fail) only [AHeap.get_set_ne, AHeap.get_set_same, AHeap.get_new_ne, AHeap.get_kill_ne, AHeap.next_set, AHeap.next_new, AHeap.next_kill]; rfl), rfl, ?_, ⟨.slice (some ⟨g.next + 1, 0, none⟩) (n1 + 1) 0, ?_, .some (x := g.next + 1) (by simp) ?_ ?_ ?_ ?_⟩, ?_, ?_, ?_⟩
      · simp only [AHeap.next_set, AHeap.next_new, AHeap.next_kill]; omega
      · simp (disch := first | assumption | omega | (simp only [nx] <;> omega) | fail) only [AHeap.get_set_ne, AHeap.get_set_same]; rfl
      · simp [e]
      · omega
      · simp only [AHeap.next_set, AHeap.next_new, AHeap.next_kill]; omega
      · simp (disch := first | assumption | omega | (simp only [nx] <;> omega) | fail) only [AHeap.get_set_ne, AHeap.get_new_at, AHeap.next_set, AHeap.next_new, AHeap.next_kill, List.map_append]; rfl
      · rw [AHeap.get_set_same, ← hLP]; rfl
      · simp (disch := first | assumption | omega | (simp only [nx] <;> omega) | fail) only [AHeap.get_set_ne, AHeap.get_new_ne, AHeap.get_kill_ne, AHeap.next_set, AHeap.next_new, AHeap.next_kill]; exact k5
      · intro z hz; simp (disch := first | assumption | omega | (simp only [nx] <;> omega) | fail) only [AHeap.get_set_ne, AHeap.get_new_ne, AHeap.get_kill_ne, AHeap.next_set, AHeap.next_new, AHeap.next_kill]; exact k6 z hz
  refine W.enter tyOK Tryz.func168 rfl rfl ?_
  simp only [entry]
  refine W.seq <| W.reg <| OSuf.aop tyOK rfl (zl (hv := by simp (disch := first | assumption | omega | (simp only [nx] <;> omega) | fail) only [aLoad, ty114, rowOf, hpl, hgq, hgm, Value.cells] <;> rfl)) rfl <| OSuf.aop tyOK rfl (so_range (by simp only [lk] <;> rfl) (by simp (disch := first | assumption | omega | (simp only [nx] <;> omega) | fail) only [aRange, ty114, hpl, hgq, hgm, Value.cells] <;> rfl)) rfl <| OSuf.nil <| SQ.normal ?_
  -- leaf: loop
  refine W.cut (fun L h2 => ∃ ys seen, ys.Perm l ∧ KSt h h2 LP m clock ys seen) (W.block (W.loop (fun n L h2 => ∃ ys seen, n + ys.length = l.length ∧ ys.Nodup ∧ (∀ y ∈ ys, y ∈ l) ∧ seen.toList = ys.map (·.2.2) ∧ KSt h h2 LP m clock ys seen ∧
      L = [(0, .func (.yield (h.next + 1)) #[] #[]), (5, P0 (h.next + 2))]) (n := l.length) ⟨[], #[], by simp, by simp, by simp, rfl, ⟨?_, ⟨_, ?_, .none rfl⟩, ?_, ?_, ?_⟩, rfl⟩ ?_ ?_)) ?_
  · simp only [AHeap.next_new]; omega
  · simp (disch := first | assumption | omega | (simp only [nx] <;> omega) | fail) only [AHeap.get_new_at, AHeap.get_new_ne, AHeap.next_new]
  · simp (disch := first | assumption | omega | (simp only [nx] <;> omega) | fail) only [AHeap.get_new_at, AHeap.get_new_ne, AHeap.next_new]
  · simp (disch := first | assumption | omega | (simp only [nx] <;> omega) | fail) only [AHeap.get_new_at, AHeap.get_new_ne, AHeap.next_new]
  · intro z hz; simp (disch := first | assumption | omega | (simp only [nx] <;> omega) | fail) only [AHeap.get_new_at, AHeap.get_new_ne, AHeap.next_new]
  · simp [HasA, Tr.get_put]
  · rintro n L h2 ⟨ys, seen, hn, hnd, hsub, hseen, hK, rfl⟩
    simp only [mkA]
    have hgm2 : h2.get m = some (.map (mkK enc l) clock) := by rw [hK.old m hm]; exact hgm
    have hc : (!seen.isEmpty && !(mkK enc l).isEmpty && (mkK enc l).all (fun e => decide (e.born ≥ clock))) = false := by
      cases l with
      | nil => simp [mkK]
      | cons x l =>
        have := hok.lt x List.mem_cons_self
        have e1 : decide (x.2.2 ≥ clock) = false := by simp; omega
        simp [mkK, e1]
    refine W.seq <| W.reg <| OSuf.next rfl (by simp only [lk] <;> rfl) hK.iter hgm2 hc (fun he => ⟨_, rfl, ?_⟩) (fun e he => ⟨_, rfl, ?_⟩)
    · skip
      refine OSuf.aopF tyOK rfl (ze (hv := by simp (disch := first | assumption | omega | (simp only [nx] <;> omega) | fail) only [aExtract, hpl] <;> rfl)) (fun _ => rfl) (by first | rfl | assumption | ((simp only [bl]) <;> first | done | assumption | omega) | (simp; done) | (simp; omega)) <| OSuf.nil <| SQ.normal ?_
      refine W.seq <| W.no (by simp only [lk] <;> rfl) <| CWp.exit <| SQ.exit <| LQ.exit <| BQ.exit <| ?_
      refine NQ.normal (L := []) trivial ⟨ys, seen, ?_, hK⟩
      exact all_seen hok hnd hsub hseen he
    · skip
      obtain ⟨x, hxl, hxs, rfl⟩ : ∃ x ∈ l, x.2.2 ∉ ys.map (·.2.2) ∧ e = ⟨enc x.1, x.2.1, x.2.2⟩ := by (simp only [left, mkK, List.mem_filter, List.mem_map] at he; obtain ⟨⟨x, hx, rfl⟩, h9⟩ := he; refine ⟨x, hx, ?_, rfl⟩; rw [← hseen]; simpa using h9)
      have hK2 : KSt h (h2.set (h.next + 2) (.mapIter (some m) clock (seen.push x.2.2) clock)) LP m clock ys (seen.push x.2.2) := iter_step hK
      have hfind : (mkK enc l).find? (fun e => e.born == x.2.2) = some ⟨enc x.1, x.2.1, x.2.2⟩ := find_born hok hxl
      have hy := yield _ ys _ x hK2 (by have := nodup_le hok hnd hsub; omega)
      refine OSuf.aopT tyOK rfl (ze (hv := by simp (disch := first | assumption | omega | (simp only [nx] <;> omega) | fail) only [aExtract, hpl] <;> rfl)) (fun _ => rfl) (by first | rfl | assumption | ((simp only [bl]) <;> first | done | assumption | omega) | (simp; done) | (simp; omega)) <| OSuf.nil <| SQ.normal ?_
      refine W.seq <| W.yes (by simp only [lk] <;> rfl) <| CWp.skip <| SQ.normal ?_
      refine W.block <| W.seq <| W.reg <| OSuf.aop tyOK rfl (so_entry (by simp only [lk] <;> rfl) (en_ok (AHeap.get_set_same _ _ _) (by simp (disch := first | assumption | omega | (simp only [nx] <;> omega) | fail) only [aCells, rowOf, hpl] <;> exact hgm2) hfind)) rfl <| OSuf.aop tyOK rfl (ze (hv := by simp (disch := first | assumption | omega | (simp only [nx] <;> omega) | fail) only [aExtract, hpl] <;> rfl)) rfl <| OSuf.aop tyOK rfl za rfl <| OSuf.nil <| SQ.normal ?_
      refine W.seq <| W.reg <| OSuf.aop tyOK rfl sm rfl <| OSuf.aop tyOK rfl sm rfl <| OSuf.vcall rfl (by simp only [lk] <;> rfl) (by simp only [aopnds, lk] <;> rfl) (hy) ?_
      rintro _ h3 ⟨rfl, hK3⟩
      refine ⟨_, rfl, ?_⟩
      refine OSuf.aopF tyOK rfl (so_not (by simp only [lk] <;> rfl)) (fun _ => rfl) rfl <| OSuf.nil <| SQ.normal ?_
      refine W.no (by simp only [lk] <;> rfl) <| CWp.skip <| BQ.normal <| ?_
      refine LQ.normal (m := n - 1) (L := [(0, .func (.yield (h.next + 1)) #[] #[]), (5, P0 (h.next + 2))]) ?_ ?_ ⟨ys ++ [x], seen.push x.2.2, ?_, ?_, ?_, ?_, hK3, rfl⟩
      · have := nodup_lt hok hnd hsub hxl (fun hx => hxs (List.mem_map.2 ⟨x, hx, rfl⟩)); omega
      · simp only [HasA, Tr.get_put, Nat.reduceEqDiff, reduceIte, and_self]
      · have := nodup_lt hok hnd hsub hxl (fun hx => hxs (List.mem_map.2 ⟨x, hx, rfl⟩)); simp; omega
      · exact List.nodup_append.2 ⟨hnd, by simp, fun a ha b hb => by simp at hb; subst hb; rintro rfl; exact hxs (List.mem_map.2 ⟨_, ha, rfl⟩)⟩
      · intro y hy; rcases List.mem_append.1 hy with h9 | h9
        · exact hsub y h9
        · simp at h9; subst h9; exact hxl
      · simp [hseen]
  rintro L a' h2 ha ⟨ys, seen, hperm, hK⟩
  refine FQ.normal (by simp only [aRet, Tryz.f168, aResults] <;> first | rfl | (simp only [tyall] <;> rfl) | (simp [tyall] <;> rfl)) ?_
  refine ⟨LP, .normal, hK.loop, by rw [← hLP]; rfl, by rw [← hLP]; rfl, ?_⟩
  obtain ⟨o, ho1, ho2⟩ := hK.out
  have hnx : h.next + 3 ≤ h2.next := hK.next
  refine BQ.normal <| SQ.normal ?_
  refine W.seq <| W.reg <| OSuf.aop tyOK rfl (zl (hv := by simp (disch := first | assumption | omega | (simp only [nx] <;> omega) | fail) only [aLoad, ty56, rowOf, hpl, ho1] <;> rfl)) rfl <| OSuf.aop tyOK rfl za rfl <| OSuf.nil <| SQ.normal ?_
  refine CWp.ret <| FQ.ret (by simp only [aRet, Tryz.f227, aResults, aResult, lk, Nat.reduceEqDiff, reduceIte] <;> first | rfl | (simp only [tyall] <;> rfl) | (simp [tyall] <;> rfl)) ?_
  -- leaf: end
  refine ⟨ys, hperm, ?_, fun z hz => ?_⟩
  · cases ho2 with
    | none e => exact .none e
    | some ne e h5 h6 h7 => exact .some ne e (by omega) h6 (by rw [AHeap.get_kill_ne (by simp only [AHeap.next_new]; omega)]; exact h7)
  · rw [AHeap.get_kill_ne (by simp only [AHeap.next_new]; omega)]; exact hK.old z hz
theorem collect_c (h : AHeap) (q m clock : Nat) (l : List (El × Value × Nat)) (hok : MapOK l clock) (hq : q < h.next) (hm : m < h.next) (hgq : h.get q = some (.cells [.map (some m)] 1)) (hgm : h.get m = some (.map (mkK enc l) clock)) (hbig : l.length ≤ 1000000) :
    FWp Tryz.prog 167 [.func (.func 168) #[] #[P0 q]] h fun u h' => ∃ ys : List (El × Value × Nat), ys.Perm l ∧ OutAt h' h.next (ys.map (·.1)) u ∧ (∀ z, z < h.next → h'.get z = h.get z) := by
  refine W.enter tyOK Tryz.func167 rfl rfl ?_
  simp only [entry]
  refine W.seq <| W.reg <| OSuf.aop tyOK rfl za rfl <| OSuf.nil <| SQ.normal ?_
  refine W.seq <| W.reg <| OSuf.aop tyOK rfl sm rfl <| OSuf.call rfl (by simp only [aopnds, lk] <;> rfl) en227 (append_c h q m clock l hok hq hm hgq hgm hbig) ?_
  rintro u h1 hK
  refine ⟨_, rfl, ?_⟩
  refine OSuf.aop tyOK rfl za rfl <| OSuf.nil <| SQ.normal ?_
  refine CWp.ret <| FQ.ret (by simp only [aRet, Tryz.f167, aResults, aResult, lk, Nat.reduceEqDiff, reduceIte] <;> first | rfl | (simp only [tyall] <;> rfl) | (simp [tyall] <;> rfl)) ?_
  -- leaf: end
  exact hK
theorem sorted_eq {d d' : Array El} {ks : List El} (hp : PermIn 0 d.size d d') (hs : SortedIn lt 0 d.size d') (hk : ks.Perm d.toList) (hks : ks.Pairwise (fun x y => lt y x = false)) : d'.toList = ks := by
  have hu : ∀ x y : El, lt x y = false → lt y x = false → x = y := fun x y h1 h2 => by simp only [lt, ltInt, decide_eq_false_iff_not] at h1 h2; exact Int.le_antisymm (Int.not_lt.1 h2) (Int.not_lt.1 h1)
  have e1 := sorted_unique_holds (lt := lt) swo hu d d' hp hs
  have hsz : ks.length = d.size := by rw [hk.length_eq]; simp
  have e2 := sorted_unique_holds (lt := lt) swo hu d ks.toArray ⟨by simp [hsz], fun i hi => by
      rcases hi with hi | hi
      · omega
      · rw [getElem!_neg _ i (by simp; omega), getElem!_neg _ i (by omega)], by
      have e3 : (d.extract 0 d.size).toList = d.toList := by simp
      have e4 : (ks.toArray.extract 0 d.size).toList = ks := by simp [← hsz]
      rw [e3, e4]; exact hk⟩ (fun i j _ hij hj => by
      have := List.pairwise_iff_getElem.1 hks i j (by omega) (by omega) hij
      rw [getElem!_pos _ j (by simp; omega), getElem!_pos _ i (by simp; omega)]
      simpa using this)
  rw [e1, ← e2]
theorem sorted_c (h : AHeap) (q m clock : Nat) (l : List (El × Value × Nat)) (ks : List El) (hok : MapOK l clock) (hq : q < h.next) (hm : m < h.next) (hgq : h.get q = some (.cells [.map (some m)] 1)) (hgm : h.get m = some (.map (mkK enc l) clock)) (hbig : l.length ≤ 12)
    (hk : ks.Perm (l.map (·.1))) (hks : ks.Pairwise (fun x y => lt y x = false)) :
    FWp Tryz.prog 88 [.func (.func 168) #[] #[P0 q]] h fun u h' => (ks = [] ∧ u = .slice none 0 0 ∧ h' = h) ∨ (ks ≠ [] ∧ u = .slice (some ⟨h.next, 0, none⟩) ks.length 0 ∧ h' = h.new (.cells (ks.map enc) 1)) := by
  by_cases hnil : ks = []
  · have hl : l = [] := by
      subst hnil
      have := hk.length_eq
      simpa using this.symm
    have : FWp Tryz.prog 88 [.func (.func 168) #[] #[P0 q]] h fun u h' => u = .slice none 0 0 ∧ h' = h := by
      refine FWp.gcs (.flat rfl) ?_
      refine W.enter tyOK Tryz.func88 rfl rfl ?_
      simp only [entry]
      refine W.seq <| W.reg <| OSuf.aop tyOK rfl za rfl <| OSuf.nil <| SQ.normal ?_
      refine W.seq <| W.reg <| OSuf.aop tyOK rfl sm rfl <| OSuf.call rfl (by simp only [aopnds, lk] <;> rfl) en167 (collect_c h q m clock l hok hq hm hgq hgm (by omega)) ?_
      rintro u h1 ⟨ys, hp, ho, hf⟩
      obtain rfl : ys = [] := by (subst hl; exact hp.eq_nil)
      obtain rfl : u = .slice none 0 0 := by (cases ho with | none => rfl | some ne _ _ _ _ => exact (ne rfl).elim)
      refine ⟨_, rfl, ?_⟩
      refine OSuf.aop tyOK rfl za rfl <| OSuf.nil <| SQ.normal ?_
      refine W.seq <| W.reg <| OSuf.aop tyOK rfl sm rfl <| OSuf.callD rfl (by simp only [aopnds, lk] <;> rfl) en62 (sort_nil _) rfl <| OSuf.nil <| SQ.normal ?_
      refine W.seq <| W.reg <| OSuf.aop tyOK rfl sm rfl <| OSuf.aop tyOK rfl za rfl <| OSuf.nil <| SQ.normal ?_
      refine CWp.ret <| FQ.ret (by simp only [aRet, Tryz.f88, aResults, aResult, lk, Nat.reduceEqDiff, reduceIte] <;> first | rfl | (simp only [tyall] <;> rfl) | (simp [tyall] <;> rfl)) ?_
      -- leaf: end
      exact ⟨rfl, fun r o hr ho => by rw [hf r hr]; exact ho⟩
    exact this.mono fun u h' hK => .inl ⟨hnil, hK⟩
  · have : FWp Tryz.prog 88 [.func (.func 168) #[] #[P0 q]] h fun u h' => u = .slice (some ⟨h.next, 0, none⟩) ks.length 0 ∧ h' = h.new (.cells (ks.map enc) 1) := by
      refine FWp.gcNew (fun v hv => ?_) ?_
      · obtain ⟨y, _, rfl⟩ := List.mem_map.1 hv
        exact .flat rfl
      refine W.enter tyOK Tryz.func88 rfl rfl ?_
      simp only [entry]
      refine W.seq <| W.reg <| OSuf.aop tyOK rfl za rfl <| OSuf.nil <| SQ.normal ?_
      refine W.seq <| W.reg <| OSuf.aop tyOK rfl sm rfl <| OSuf.call rfl (by simp only [aopnds, lk] <;> rfl) en167 (collect_c h q m clock l hok hq hm hgq hgm (by omega)) ?_
      rintro u h1 ⟨ys, hp, ho, hf⟩
      have hys : ¬ ys.map (·.1) = [] := fun e => hnil (by (have e2 : ys = [] := by simpa using e); subst e2; have := hk.length_eq; have := hp.length_eq; simp_all)
      obtain ⟨x, n, rfl, hn, hx1, hx2, hx3⟩ : ∃ x n, u = .slice (some ⟨x, 0, none⟩) n 0 ∧ n = (ys.map (·.1)).length ∧ h.next ≤ x ∧ x < h1.next ∧ h1.get x = some (row (ys.map (·.1)).toArray) := by (cases ho with | none e => exact (hys e).elim | some ne e a b c => exact ⟨_, _, rfl, e, a, b, c⟩)
      have hsz : n ≤ 12 := by (rw [hn, List.length_map, hp.length_eq]; omega)
      have hcall := sort_c h1 x n hsz (ys.map (·.1)).toArray (by simp [hn])
      rw [AHeap.set_self hx3] at hcall
      refine ⟨_, rfl, ?_⟩
      refine OSuf.aop tyOK rfl za rfl <| OSuf.nil <| SQ.normal ?_
      refine W.seq <| W.reg <| OSuf.aop tyOK rfl sm rfl <| OSuf.call rfl (by simp only [aopnds, lk] <;> rfl) en62 (hcall) ?_
      rintro _ _ ⟨rfl, d', rfl, hpi, hsi⟩
      refine ⟨_, rfl, ?_⟩
      refine OSuf.nil <| SQ.normal ?_
      refine W.seq <| W.reg <| OSuf.aop tyOK rfl sm rfl <| OSuf.aop tyOK rfl za rfl <| OSuf.nil <| SQ.normal ?_
      refine CWp.ret <| FQ.ret (by simp only [aRet, Tryz.f88, aResults, aResult, lk, Nat.reduceEqDiff, reduceIte] <;> first | rfl | (simp only [tyall] <;> rfl) | (simp [tyall] <;> rfl)) ?_
      -- leaf: end
      have hd : d'.toList = ks := by
        have hn' : n = (ys.map (·.1)).toArray.size := by simp [hn]
        rw [hn'] at hpi hsi
        exact sorted_eq hpi hsi (hk.trans (hp.map _).symm) hks
      have hlen : ks.length = n := by rw [hk.length_eq, hn, List.length_map, List.length_map, hp.length_eq]
      refine ⟨x, by rw [hlen], hx1, by rw [AHeap.get_set_same, ← hd], fun r p hr hg => ?_⟩
      rw [AHeap.get_set_ne (by omega), hf r hr]; exact hg
    exact this.mono fun u h' hK => .inr ⟨hnil, hK⟩
end Go.Proofs.YtimbhgkiohbkdaaGreat.SortU.KG
