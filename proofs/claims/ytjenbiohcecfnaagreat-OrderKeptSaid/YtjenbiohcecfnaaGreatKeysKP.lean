/-
  The keys of a map, collected and sorted, at string, for the maps of order.
-/
import Derived.Test.YtjenbiohcecfnaaGreatSortN
namespace Go.Proofs.YtjenbiohcecfnaaGreat.SortS.KP
open Go.Ab Go.Sort
set_option linter.unusedSimpArgs false
set_option linter.unusedVariables false
set_option maxRecDepth 10000
set_option maxHeartbeats 8000000
abbrev P0 (p : Nat) : Value := .pointer (some ⟨p, 0, none⟩)
structure MapOK (l : List (El × Value × Nat)) (clock : Nat) : Prop where
  lt : ∀ x ∈ l, x.2.2 < clock
  inj : ∀ x ∈ l, ∀ y ∈ l, x.2.2 = y.2.2 → x = y
  nodup : l.Nodup
theorem keys_c (h : AHeap) (m : Nat) : FWp Tryz.prog 35 [.map (some m)] h fun u h' => u = .func (.func 62) #[] #[P0 h.next] ∧ h' = h.new (.cells [.map (some m)] 1) := by
  refine W.enter tyOK Tryz.func35 rfl rfl ?_
  simp only [entry]
  refine W.seq <| W.reg <| OSuf.aop tyOK rfl (so_box (by simp only [lk] <;> rfl)) rfl <| OSuf.aop tyOK rfl za rfl <| OSuf.nil <| SQ.normal ?_
  refine W.seq <| W.reg <| OSuf.aop tyOK rfl (so_makeFunc rfl (by simp only [aopnds, lk] <;> rfl) (by simp only [aopnds, lk] <;> rfl)) rfl <| OSuf.aop tyOK rfl za rfl <| OSuf.nil <| SQ.normal ?_
  refine CWp.ret <| FQ.ret (by simp only [aRet, Tryz.f35, aResults, aResult, lk, Nat.reduceEqDiff, reduceIte] <;> rfl) ?_
  -- leaf: end
  exact ⟨rfl, rfl⟩
inductive OutAt (h : AHeap) (lo : Nat) (ks : List El) : Value → Prop
  | none (e : ks = []) : OutAt h lo ks (.slice none 0 0)
  | some {x n : Nat} (hne : ks ≠ []) (e : n = ks.length) (hlo : lo ≤ x) (hx : x < h.next) (hg : h.get x = .some (.cells (ks.map enc) 1)) : OutAt h lo ks (.slice (.some ⟨x, 0, .none⟩) n 0)
structure KSt (h0 h : AHeap) (LP : ALoop) (m clock : Nat) (ys : List (El × Value × Nat)) (seen : Array Nat) : Prop where
  next : h0.next + 3 ≤ h.next
  out : ∃ o, h.get h0.next = some (.cells [o] 1) ∧ OutAt h (h0.next + 3) (ys.map (·.1)) o
  loop : h.get (h0.next + 1) = some (.loop LP)
  iter : h.get (h0.next + 2) = some (.mapIter (some m) clock seen clock)
  old : ∀ z, z < h0.next → h.get z = h0.get z
theorem iter_step {h g : AHeap} {LP : ALoop} {m clock : Nat} {ys : List (El × Value × Nat)} {seen seen' : Array Nat} (hK : KSt h g LP m clock ys seen) : KSt h (g.set (h.next + 2) (.mapIter (some m) clock seen' clock)) LP m clock ys seen' := by
  obtain ⟨h1, ⟨o, h2, h3⟩, h4, h5, h6⟩ := hK
  refine ⟨h1, ⟨o, ?_, ?_⟩, ?_, AHeap.get_set_same _ _ _, ?_⟩
  · rw [AHeap.get_set_ne (by omega)]; exact h2
  · cases h3 with
    | none e => exact .none e
    | some ne e a b c => exact .some ne e a b (by rw [AHeap.get_set_ne (by omega)]; exact c)
  · rw [AHeap.get_set_ne (by omega)]; exact h4
  · intro z hz; rw [AHeap.get_set_ne (by omega)]; exact h6 z hz
theorem find_born {l : List (El × Value × Nat)} {clock : Nat} (hok : MapOK l clock) {x : El × Value × Nat} (hx : x ∈ l) : (mkK enc l).find? (fun e => e.born == x.2.2) = some ⟨enc x.1, x.2.1, x.2.2⟩ := by
  have key : ∀ l' : List (El × Value × Nat), (∀ y ∈ l', y ∈ l) → x ∈ l' → (mkK enc l').find? (fun e => e.born == x.2.2) = some ⟨enc x.1, x.2.1, x.2.2⟩ := by
    intro l'
    induction l' with
    | nil => intro _ h; cases h
    | cons y l' ih =>
      intro hs hm
      simp only [mkK, List.map_cons, List.find?_cons]
      by_cases hb : y.2.2 = x.2.2
      · have := hok.inj y (hs y List.mem_cons_self) x hx hb
        subst this; simp
      · have e1 : (y.2.2 == x.2.2) = false := by simpa using hb
        rw [e1]
        cases hm with
        | head => exact (hb rfl).elim
        | tail _ h9 => exact ih (fun z hz => hs z (List.mem_cons_of_mem _ hz)) h9
  exact key l (fun _ h => h) hx
theorem nat_le : ∀ (a b : List Nat), a.Nodup → (∀ x ∈ a, x ∈ b) → a.length ≤ b.length
  | [], b, _, _ => Nat.zero_le _
  | x :: a, b, hn, hs => by
    have hx := hs x List.mem_cons_self
    have hn' := List.nodup_cons.1 hn
    have := nat_le a (b.erase x) hn'.2 (fun y hy => (List.mem_erase_of_ne (fun e => hn'.1 (by rw [← e]; exact hy))).2 (hs y (List.mem_cons_of_mem _ hy)))
    rw [List.length_erase_of_mem hx] at this
    have : 0 < b.length := List.length_pos_of_mem hx
    simp; omega
theorem nodup_le {l ys : List (El × Value × Nat)} {clock : Nat} (hok : MapOK l clock) (hnd : ys.Nodup) (hsub : ∀ y ∈ ys, y ∈ l) : ys.length ≤ l.length := by
  have h1 : (ys.map (·.2.2)).Nodup := by
    have : ∀ zs : List (El × Value × Nat), zs.Nodup → (∀ y ∈ zs, y ∈ l) → (zs.map (·.2.2)).Nodup := by
      intro zs
      induction zs with
      | nil => intro _ _; simp
      | cons z zs ih =>
        intro hn hs
        have hn' := List.nodup_cons.1 hn
        simp only [List.map_cons, List.nodup_cons]
        refine ⟨fun hm => ?_, ih hn'.2 fun y hy => hs y (List.mem_cons_of_mem _ hy)⟩
        obtain ⟨y, hy, hb⟩ := List.mem_map.1 hm
        have := hok.inj y (hs y (List.mem_cons_of_mem _ hy)) z (hs z List.mem_cons_self) hb
        subst this; exact hn'.1 hy
    exact this ys hnd hsub
  have := nat_le (ys.map (·.2.2)) (l.map (·.2.2)) h1 (fun x hx => by
    obtain ⟨y, hy, rfl⟩ := List.mem_map.1 hx
    exact List.mem_map.2 ⟨y, hsub y hy, rfl⟩)
  simpa using this
theorem nodup_lt {l ys : List (El × Value × Nat)} {clock : Nat} (hok : MapOK l clock) {x : El × Value × Nat} (hnd : ys.Nodup) (hsub : ∀ y ∈ ys, y ∈ l) (hx : x ∈ l) (hn : x ∉ ys) : ys.length < l.length := by
  have h1 : (x :: ys).Nodup := List.nodup_cons.2 ⟨hn, hnd⟩
  have := nodup_le hok h1 (fun y hy => by cases hy with | head => exact hx | tail _ h9 => exact hsub y h9)
  simp at this; omega
theorem all_seen {l ys : List (El × Value × Nat)} {clock : Nat} {seen : Array Nat} (hok : MapOK l clock) (hnd : ys.Nodup) (hsub : ∀ y ∈ ys, y ∈ l) (hseen : seen.toList = ys.map (·.2.2)) (he : (left (mkK enc l) seen).filter (fun e => decide (e.born < clock)) = []) : ys.Perm l := by
  refine (List.perm_ext_iff_of_nodup hnd hok.nodup).2 fun x => ⟨hsub x, fun hx => ?_⟩
  have h1 : (⟨enc x.1, x.2.1, x.2.2⟩ : AEnt) ∈ mkK enc l := List.mem_map.2 ⟨x, hx, rfl⟩
  have h2 := List.filter_eq_nil_iff.1 he
  by_cases hc : x.2.2 ∈ seen.toList
  · rw [hseen] at hc
    obtain ⟨y, hy, hb⟩ := List.mem_map.1 hc
    have := hok.inj y (hsub y hy) x hx hb
    subst this; exact hy
  · exfalso
    refine h2 ⟨enc x.1, x.2.1, x.2.2⟩ ?_ (by simpa using hok.lt x hx)
    simp only [left, List.mem_filter]
    exact ⟨h1, by simpa using hc⟩
theorem append_c (h : AHeap) (q m clock : Nat) (l : List (El × Value × Nat)) (hok : MapOK l clock) (hq : q < h.next) (hm : m < h.next) (hgq : h.get q = some (.cells [.map (some m)] 1)) (hgm : h.get m = some (.map (mkK enc l) clock)) (hbig : l.length ≤ 1000000) :
    FWp Tryz.prog 75 [.slice none 0 0, .func (.func 62) #[] #[P0 q]] h fun u h' => ∃ ys : List (El × Value × Nat), ys.Perm l ∧ OutAt h' h.next (ys.map (·.1)) u ∧ (∀ z, z < h.next → h'.get z = h.get z) := by
  refine W.enter tyOK Tryz.func75 rfl rfl ?_
  simp only [entry]
  refine W.seq <| W.reg <| OSuf.aop tyOK rfl (so_box (by simp only [lk] <;> rfl)) rfl <| OSuf.aop tyOK rfl za rfl <| OSuf.nil <| SQ.normal ?_
  refine W.seq <| W.seq <| W.reg <| OSuf.aop tyOK rfl sm rfl <| OSuf.nil <| SQ.normal ?_
  -- leaf: loop
  refine W.block (CWp.rangeFunc (by simp only [aopnd, Tr.get_put, Nat.reduceEqDiff, reduceIte] <;> rfl) (fun l hl => by cases hl) (VWp.func en62 ?_))
  show FWp _ _ [_, _] _ _
  generalize hLP : (ALoop.mk _ _ _ _ _ _ _ _) = LP
  have yield : ∀ (g : AHeap) (ys : List (El × Value × Nat)) (sn : Array Nat) (x : El × Value × Nat), KSt h g LP m clock ys sn → ys.length ≤ 1000000 →
      VWp Tryz.prog (.func (.yield (h.next + 1)) #[] #[]) [enc x.1] g fun u h3 => u = .bool true ∧ KSt h h3 LP m clock (ys ++ [x]) sn := by
    intro g ys sn x hK hlen
    obtain ⟨k1, ⟨o, k2, k3⟩, k4, k5, k6⟩ := hK
    have hl := k4
    rw [← hLP] at hl
    refine VWp.yield hl rfl ?_
    refine W.reg <| OSuf.aop tyOK rfl za rfl <| OSuf.nil <| ?_
    -- leaf: stop
    refine ⟨rfl, _, hl, rfl, ?_⟩
    cases k3 with
    | none e =>
      refine W.block <| W.reg <| OSuf.aop tyOK rfl (zl (hv := by simp (disch := first | assumption | omega | (simp only [nx] <;> omega) | fail) only [aLoad, ty85, rowOf, hpl, k2, Value.cells] <;> rfl)) rfl <| OSuf.aop tyOK rfl sm rfl <| OSuf.aop tyOK rfl (so_buildSlice (by simp only [aparts, lk] <;> rfl) (by simp only [aBuildSlice, ty85, ty9, k2, Value.cells] <;> rfl)) rfl <| OSuf.aop tyOK rfl (so_append (by simp only [aopnds, lk] <;> rfl) (ap_0 (by simp only [appT, ty85, ty9] <;> rfl) rfl (by simp (disch := first | assumption | omega | (simp only [nx] <;> omega) | fail) only [aCells, rowOf, hpl, k2, Value.cells] <;> rfl) (by decide) rfl)) rfl <| OSuf.aop tyOK rfl (zs (hv := by simp (disch := first | assumption | omega | (simp only [nx] <;> omega) | fail) only [aStore, ty85, writeRow, hpl, k2, Value.cells] <;> rfl)) rfl <| OSuf.nil <| BQ.normal <| ?_
      -- leaf: stop
      refine ⟨_, by (simp (disch := first | assumption | omega | (simp only [nx] <;> omega) | fail) only [AHeap.get_set_ne, AHeap.get_set_same, AHeap.get_new_ne, AHeap.next_set, AHeap.next_new]; rfl), rfl, ?_, ⟨.slice (some ⟨g.next + 1, 0, none⟩) 1 0, ?_, .some (x := g.next + 1) (by simp) ?_ ?_ ?_ ?_⟩, ?_, ?_, ?_⟩
      · simp only [AHeap.next_set, AHeap.next_new]; omega
      · simp (disch := first | assumption | omega | (simp only [nx] <;> omega) | fail) only [AHeap.get_set_ne, AHeap.get_set_same]; rfl
      · simp [e]
      · omega
      · simp only [AHeap.next_set, AHeap.next_new]; omega
      · simp (disch := first | assumption | omega | (simp only [nx] <;> omega) | fail) only [AHeap.get_set_ne, AHeap.get_new_at, AHeap.next_set, AHeap.next_new]; simp [e]; rfl
      · rw [AHeap.get_set_same, ← hLP]; rfl
      · simp (disch := first | assumption | omega | (simp only [nx] <;> omega) | fail) only [AHeap.get_set_ne, AHeap.get_new_ne, AHeap.next_set, AHeap.next_new]; exact k5
      · intro z hz; simp (disch := first | assumption | omega | (simp only [nx] <;> omega) | fail) only [AHeap.get_set_ne, AHeap.get_new_ne, AHeap.next_set, AHeap.next_new]; exact k6 z hz
    | @some x1 n1 ne e e1 e2 e3 =>
      have hc : cellsOf ((ys.map (·.1)).map enc) 0 (n1 * 1) = some ((ys.map (·.1)).map enc) := cellsOf_all (by rw [e]; simp)
      have hn1 : n1 ≤ 1000000 := by rw [e]; simpa using hlen
      refine W.block <| W.reg <| OSuf.aop tyOK rfl (zl (hv := by simp (disch := first | assumption | omega | (simp only [nx] <;> omega) | fail) only [aLoad, ty85, rowOf, hpl, k2, e3, Value.cells] <;> rfl)) rfl <| OSuf.aop tyOK rfl sm rfl <| OSuf.aop tyOK rfl (so_buildSlice (by simp only [aparts, lk] <;> rfl) (by simp only [aBuildSlice, ty85, ty9, k2, e3, Value.cells] <;> rfl)) rfl <| OSuf.aop tyOK rfl (so_append (by simp only [aopnds, lk] <;> rfl) (ap_u (by simp only [appT, ty85, ty9] <;> rfl) rfl (by simp (disch := first | assumption | omega | (simp only [nx] <;> omega) | fail) only [aCells, rowOf, hpl, k2, e3, Value.cells] <;> rfl) (by show (2 * (n1 + 1) + 256) * 16 ≤ _; omega) rfl (by simp (disch := first | assumption | omega | (simp only [nx] <;> omega) | fail) only [aCells, rowOf, hpl, k2, e3, Value.cells] <;> rfl) rfl hc)) rfl <| OSuf.aop tyOK rfl (zs (hv := by simp (disch := first | assumption | omega | (simp only [nx] <;> omega) | fail) only [aStore, ty85, writeRow, hpl, k2, e3, Value.cells] <;> rfl)) rfl <| OSuf.nil <| BQ.normal <| ?_
      -- leaf: stop
      refine ⟨_, by (simp (disch := first | assumption | omega | (simp only [nx] <;> omega) | fail) only [AHeap.get_set_ne, AHeap.get_set_same, AHeap.get_new_ne, AHeap.get_kill_ne, AHeap.next_set, AHeap.next_new, AHeap.next_kill]; rfl), rfl, ?_, ⟨.slice (some ⟨g.next + 1, 0, none⟩) (n1 + 1) 0, ?_, .some (x := g.next + 1) (by simp) ?_ ?_ ?_ ?_⟩, ?_, ?_, ?_⟩
      · simp only [AHeap.next_set, AHeap.next_new, AHeap.next_kill]; omega
      · simp (disch := first | assumption | omega | (simp only [nx] <;> omega) | fail) only [AHeap.get_set_ne, AHeap.get_set_same]; rfl
      · simp [e]
      · omega
      · simp only [AHeap.next_set, AHeap.next_new, AHeap.next_kill]; omega
      · simp (disch := first | assumption | omega | (simp only [nx] <;> omega) | fail) only [AHeap.get_set_ne, AHeap.get_new_at, AHeap.next_set, AHeap.next_new, AHeap.next_kill, List.map_append]; rfl
      · rw [AHeap.get_set_same, ← hLP]; rfl
      · simp (disch := first | assumption | omega | (simp only [nx] <;> omega) | fail) only [AHeap.get_set_ne, AHeap.get_new_ne, AHeap.get_kill_ne, AHeap.next_set, AHeap.next_new, AHeap.next_kill]; exact k5
      · intro z hz; simp (disch := first | assumption | omega | (simp only [nx] <;> omega) | fail) only [AHeap.get_set_ne, AHeap.get_new_ne, AHeap.get_kill_ne, AHeap.next_set, AHeap.next_new, AHeap.next_kill]; exact k6 z hz
  refine W.enter tyOK Tryz.func62 rfl rfl ?_
  simp only [entry]
  refine W.seq <| W.reg <| OSuf.aop tyOK rfl (zl (hv := by simp (disch := first | assumption | omega | (simp only [nx] <;> omega) | fail) only [aLoad, ty81, rowOf, hpl, hgq, hgm, Value.cells] <;> rfl)) rfl <| OSuf.aop tyOK rfl (so_range (by simp only [lk] <;> rfl) (by simp (disch := first | assumption | omega | (simp only [nx] <;> omega) | fail) only [aRange, ty81, hpl, hgq, hgm, Value.cells] <;> rfl)) rfl <| OSuf.nil <| SQ.normal ?_
  -- leaf: loop
  refine W.cut (fun L h2 => ∃ ys seen, ys.Perm l ∧ KSt h h2 LP m clock ys seen) (W.block (W.loop (fun n L h2 => ∃ ys seen, n + ys.length = l.length ∧ ys.Nodup ∧ (∀ y ∈ ys, y ∈ l) ∧ seen.toList = ys.map (·.2.2) ∧ KSt h h2 LP m clock ys seen ∧
      L = [(0, .func (.yield (h.next + 1)) #[] #[]), (5, P0 (h.next + 2))]) (n := l.length) ⟨[], #[], by simp, by simp, by simp, rfl, ⟨?_, ⟨_, ?_, .none rfl⟩, ?_, ?_, ?_⟩, rfl⟩ ?_ ?_)) ?_
  · simp only [AHeap.next_new]; omega
  · simp (disch := first | assumption | omega | (simp only [nx] <;> omega) | fail) only [AHeap.get_new_at, AHeap.get_new_ne, AHeap.next_new]
  · simp (disch := first | assumption | omega | (simp only [nx] <;> omega) | fail) only [AHeap.get_new_at, AHeap.get_new_ne, AHeap.next_new]
  · simp (disch := first | assumption | omega | (simp only [nx] <;> omega) | fail) only [AHeap.get_new_at, AHeap.get_new_ne, AHeap.next_new]
  · intro z hz; simp (disch := first | assumption | omega | (simp only [nx] <;> omega) | fail) only [AHeap.get_new_at, AHeap.get_new_ne, AHeap.next_new]
  · simp [HasA, Tr.get_put]
  · rintro n L h2 ⟨ys, seen, hn, hnd, hsub, hseen, hK, rfl⟩
    simp only [mkA]
    have hgm2 : h2.get m = some (.map (mkK enc l) clock) := by rw [hK.old m hm]; exact hgm
    have hc : (!seen.isEmpty && !(mkK enc l).isEmpty && (mkK enc l).all (fun e => decide (e.born ≥ clock))) = false := by
      cases l with
      | nil => simp [mkK]
      | cons x l =>
        have := hok.lt x List.mem_cons_self
        have e1 : decide (x.2.2 ≥ clock) = false := by simp; omega
        simp [mkK, e1]
    refine W.seq <| W.reg <| OSuf.next rfl (by simp only [lk] <;> rfl) hK.iter hgm2 hc (fun he => ⟨_, rfl, ?_⟩) (fun e he => ⟨_, rfl, ?_⟩)
    · skip
      refine OSuf.aopF tyOK rfl (ze (hv := by simp (disch := first | assumption | omega | (simp only [nx] <;> omega) | fail) only [aExtract, hpl] <;> rfl)) (fun _ => rfl) (by first | rfl | assumption | ((simp only [bl]) <;> first | done | assumption | omega) | (simp; done) | (simp; omega)) <| OSuf.nil <| SQ.normal ?_
      refine W.seq <| W.no (by simp only [lk] <;> rfl) <| CWp.exit <| SQ.exit <| LQ.exit <| BQ.exit <| ?_
      refine NQ.normal (L := []) trivial ⟨ys, seen, ?_, hK⟩
      exact all_seen hok hnd hsub hseen he
    · skip
      obtain ⟨x, hxl, hxs, rfl⟩ : ∃ x ∈ l, x.2.2 ∉ ys.map (·.2.2) ∧ e = ⟨enc x.1, x.2.1, x.2.2⟩ := by (simp only [left, mkK, List.mem_filter, List.mem_map] at he; obtain ⟨⟨x, hx, rfl⟩, h9⟩ := he; refine ⟨x, hx, ?_, rfl⟩; rw [← hseen]; simpa using h9)
      have hK2 : KSt h (h2.set (h.next + 2) (.mapIter (some m) clock (seen.push x.2.2) clock)) LP m clock ys (seen.push x.2.2) := iter_step hK
      have hfind : (mkK enc l).find? (fun e => e.born == x.2.2) = some ⟨enc x.1, x.2.1, x.2.2⟩ := find_born hok hxl
      have hy := yield _ ys _ x hK2 (by have := nodup_le hok hnd hsub; omega)
      refine OSuf.aopT tyOK rfl (ze (hv := by simp (disch := first | assumption | omega | (simp only [nx] <;> omega) | fail) only [aExtract, hpl] <;> rfl)) (fun _ => rfl) (by first | rfl | assumption | ((simp only [bl]) <;> first | done | assumption | omega) | (simp; done) | (simp; omega)) <| OSuf.nil <| SQ.normal ?_
      refine W.seq <| W.yes (by simp only [lk] <;> rfl) <| CWp.skip <| SQ.normal ?_
      refine W.block <| W.seq <| W.reg <| OSuf.aop tyOK rfl (so_entry (by simp only [lk] <;> rfl) (en_ok (AHeap.get_set_same _ _ _) (by simp (disch := first | assumption | omega | (simp only [nx] <;> omega) | fail) only [aCells, rowOf, hpl] <;> exact hgm2) hfind)) rfl <| OSuf.aop tyOK rfl (ze (hv := by simp (disch := first | assumption | omega | (simp only [nx] <;> omega) | fail) only [aExtract, hpl] <;> rfl)) rfl <| OSuf.aop tyOK rfl za rfl <| OSuf.nil <| SQ.normal ?_
      refine W.seq <| W.reg <| OSuf.aop tyOK rfl sm rfl <| OSuf.aop tyOK rfl sm rfl <| OSuf.vcall rfl (by simp only [lk] <;> rfl) (by simp only [aopnds, lk] <;> rfl) (hy) ?_
      rintro _ h3 ⟨rfl, hK3⟩
      refine ⟨_, rfl, ?_⟩
      refine OSuf.aopF tyOK rfl (so_not (by simp only [lk] <;> rfl)) (fun _ => rfl) rfl <| OSuf.nil <| SQ.normal ?_
      refine W.no (by simp only [lk] <;> rfl) <| CWp.skip <| BQ.normal <| ?_
      refine LQ.normal (m := n - 1) (L := [(0, .func (.yield (h.next + 1)) #[] #[]), (5, P0 (h.next + 2))]) ?_ ?_ ⟨ys ++ [x], seen.push x.2.2, ?_, ?_, ?_, ?_, hK3, rfl⟩
      · have := nodup_lt hok hnd hsub hxl (fun hx => hxs (List.mem_map.2 ⟨x, hx, rfl⟩)); omega
      · simp only [HasA, Tr.get_put, Nat.reduceEqDiff, reduceIte, and_self]
      · have := nodup_lt hok hnd hsub hxl (fun hx => hxs (List.mem_map.2 ⟨x, hx, rfl⟩)); simp; omega
      · exact List.nodup_append.2 ⟨hnd, by simp, fun a ha b hb => by simp at hb; subst hb; rintro rfl; exact hxs (List.mem_map.2 ⟨_, ha, rfl⟩)⟩
      · intro y hy; rcases List.mem_append.1 hy with h9 | h9
        · exact hsub y h9
        · simp at h9; subst h9; exact hxl
      · simp [hseen]
  rintro L a' h2 ha ⟨ys, seen, hperm, hK⟩
  refine FQ.normal (by simp only [aRet, Tryz.f62, aResults] <;> rfl) ?_
  refine ⟨LP, .normal, hK.loop, by rw [← hLP]; rfl, by rw [← hLP]; rfl, ?_⟩
  obtain ⟨o, ho1, ho2⟩ := hK.out
  have hnx : h.next + 3 ≤ h2.next := hK.next
  refine BQ.normal <| SQ.normal ?_
  refine W.seq <| W.reg <| OSuf.aop tyOK rfl (zl (hv := by simp (disch := first | assumption | omega | (simp only [nx] <;> omega) | fail) only [aLoad, ty85, rowOf, hpl, ho1] <;> rfl)) rfl <| OSuf.aop tyOK rfl za rfl <| OSuf.nil <| SQ.normal ?_
  refine CWp.ret <| FQ.ret (by simp only [aRet, Tryz.f75, aResults, aResult, lk, Nat.reduceEqDiff, reduceIte] <;> rfl) ?_
  -- leaf: end
  refine ⟨ys, hperm, ?_, fun z hz => ?_⟩
  · cases ho2 with
    | none e => exact .none e
    | some ne e h5 h6 h7 => exact .some ne e (by omega) h6 (by rw [AHeap.get_kill_ne (by simp only [AHeap.next_new]; omega)]; exact h7)
  · rw [AHeap.get_kill_ne (by simp only [AHeap.next_new]; omega)]; exact hK.old z hz
theorem collect_c (h : AHeap) (q m clock : Nat) (l : List (El × Value × Nat)) (hok : MapOK l clock) (hq : q < h.next) (hm : m < h.next) (hgq : h.get q = some (.cells [.map (some m)] 1)) (hgm : h.get m = some (.map (mkK enc l) clock)) (hbig : l.length ≤ 1000000) :
    FWp Tryz.prog 61 [.func (.func 62) #[] #[P0 q]] h fun u h' => ∃ ys : List (El × Value × Nat), ys.Perm l ∧ OutAt h' h.next (ys.map (·.1)) u ∧ (∀ z, z < h.next → h'.get z = h.get z) := by
  refine W.enter tyOK Tryz.func61 rfl rfl ?_
  simp only [entry]
  refine W.seq <| W.reg <| OSuf.aop tyOK rfl za rfl <| OSuf.nil <| SQ.normal ?_
  refine W.seq <| W.reg <| OSuf.aop tyOK rfl sm rfl <| OSuf.call rfl (by simp only [aopnds, lk] <;> rfl) en75 (append_c h q m clock l hok hq hm hgq hgm hbig) ?_
  rintro u h1 hK
  refine ⟨_, rfl, ?_⟩
  refine OSuf.aop tyOK rfl za rfl <| OSuf.nil <| SQ.normal ?_
  refine CWp.ret <| FQ.ret (by simp only [aRet, Tryz.f61, aResults, aResult, lk, Nat.reduceEqDiff, reduceIte] <;> rfl) ?_
  -- leaf: end
  exact hK
theorem insertion_nil (h : AHeap) : FWp Tryz.prog 93 [.slice none 0 0, I64 0, I64 0] h fun u h' => u = .tuple #[] ∧ h' = h := by
  refine W.enter tyOK Tryz.func93 rfl rfl ?_
  simp only [entry]
  have w0 : IntKind.i64.wrap ((0 : Int) + 1) = 1 := by decide
  refine W.seq <| W.reg <| OSuf.aop tyOK rfl sm rfl <| OSuf.aop tyOK rfl (zb (hv := bi_w bi_add (by first | (simp only [w0] <;> rfl) | rfl))) rfl <| OSuf.aop tyOK rfl za rfl <| OSuf.nil <| SQ.normal ?_
  -- leaf: loop
  refine W.block (W.loop (fun n L h' => h' = h ∧ L = [(2, I64 0), (6, I64 1)]) (n := 0) ⟨rfl, rfl⟩ ?_ ?_)
  · simp [HasA, Tr.get_put]
  · rintro n L h1 ⟨rfl, rfl⟩
    simp only [mkA]
    refine W.seq <| W.seq <| W.reg <| OSuf.aop tyOK rfl sm rfl <| OSuf.aop tyOK rfl sm rfl <| OSuf.aopF tyOK rfl (zb (hv := bi_lss)) (fun _ => rfl) (by first | rfl | assumption | ((simp only [bl]) <;> first | done | assumption | omega) | (simp; done) | (simp; omega)) <| OSuf.nil <| SQ.normal ?_
    refine W.no (by simp only [lk] <;> rfl) <| CWp.exit <| SQ.exit <| LQ.exit <| BQ.exit <| FQ.normal (by simp only [aRet, Tryz.f93, aResults, aResult, lk, Nat.reduceEqDiff, reduceIte] <;> rfl) ?_
    -- leaf: end
    exact ⟨rfl, rfl⟩
theorem pdq_nil (h : AHeap) (lim : Int) : FWp Tryz.prog 74 [.slice none 0 0, I64 0, I64 0, I64 lim] h fun u h' => u = .tuple #[] ∧ h' = h := by
  refine W.enter tyOK Tryz.func74 rfl rfl ?_
  simp only [entry]
  have w0 : IntKind.i64.wrap ((0 : Int) - 0) = 0 := by decide
  refine W.seq <| W.reg <| OSuf.aopT tyOK rfl za (fun _ => rfl) rfl <| OSuf.nil <| SQ.normal ?_
  refine W.seq <| W.reg <| OSuf.aopT tyOK rfl za (fun _ => rfl) rfl <| OSuf.nil <| SQ.normal ?_
  -- leaf: loop
  refine W.block (W.loop (fun n L h' => h' = h ∧ L = [(0, .slice none 0 0), (1, I64 0), (2, I64 0)]) (n := 0) ⟨rfl, rfl⟩ ?_ ?_)
  · simp [HasA, Tr.get_put]
  · rintro n L h1 ⟨rfl, rfl⟩
    simp only [mkA]
    refine W.block <| W.seq <| W.reg <| OSuf.aop tyOK rfl sm rfl <| OSuf.aop tyOK rfl sm rfl <| OSuf.aop tyOK rfl (zb (hv := bi_w bi_sub (by first | (simp only [w0] <;> rfl) | rfl))) rfl <| OSuf.aop tyOK rfl za rfl <| OSuf.nil <| SQ.normal ?_
    refine W.seq <| W.seq <| W.reg <| OSuf.aop tyOK rfl sm rfl <| OSuf.aopT tyOK rfl (zb (hv := bi_leq)) (fun _ => rfl) (by first | rfl | assumption | ((simp only [bl]) <;> first | done | assumption | omega) | (simp; done) | (simp; omega)) <| OSuf.nil <| SQ.normal ?_
    refine W.yes (by simp only [lk] <;> rfl) <| W.seq <| W.reg <| OSuf.aop tyOK rfl sm rfl <| OSuf.aop tyOK rfl sm rfl <| OSuf.aop tyOK rfl sm rfl <| OSuf.callD rfl (by simp only [aopnds, lk] <;> rfl) en93 (insertion_nil _) rfl <| OSuf.nil <| SQ.normal ?_
    refine CWp.ret <| SQ.ret <| BQ.ret <| LQ.ret <| BQ.ret <| FQ.ret (by simp only [aRet, Tryz.f74, aResults, aResult, lk, Nat.reduceEqDiff, reduceIte] <;> rfl) ?_
    -- leaf: end
    exact ⟨rfl, rfl⟩
theorem sort_nil (h : AHeap) : FWp Tryz.prog 60 [.slice none 0 0] h fun u h' => u = .tuple #[] ∧ h' = h := by
  have w1 : IntKind.u64.wrap ((0 : Nat) : Int) = ((0 : Nat) : Int) := by decide
  refine W.enter tyOK Tryz.func60 rfl rfl ?_
  simp only [entry]
  refine W.seq <| W.reg <| OSuf.aop tyOK rfl sm rfl <| OSuf.aop tyOK rfl (so_len (by simp only [aopnds, lk] <;> rfl) (by simp (disch := first | assumption | omega | (simp only [nx] <;> omega) | fail) only [aLenOf, ty85, hpl] <;> rfl)) rfl <| OSuf.aop tyOK rfl za rfl <| OSuf.nil <| SQ.normal ?_
  refine W.reg <| OSuf.aop tyOK rfl sm rfl <| OSuf.aop tyOK rfl sm rfl <| OSuf.aop tyOK rfl sm rfl <| OSuf.aop tyOK rfl (so_conw (so_conv tyOK (by simp only [lk] <;> rfl) ty3 ⟨_, rfl⟩ ty134 rfl) (by first | (simp only [w1] <;> rfl) | rfl)) rfl <| OSuf.callD rfl (by simp only [aopnds, lk] <;> rfl) en64 (len_c _ 0 (by omega)) rfl <| OSuf.callD rfl (by simp only [aopnds, lk] <;> rfl) en74 (pdq_nil _ _) rfl <| OSuf.nil <| FQ.normal (by simp only [aRet, Tryz.f60, aResults, aResult, lk, Nat.reduceEqDiff, reduceIte] <;> rfl) ?_
  -- leaf: end
  exact ⟨rfl, rfl⟩
theorem sorted_eq {d d' : Array El} {ks : List El} (hp : PermIn 0 d.size d d') (hs : SortedIn lt 0 d.size d') (hk : ks.Perm d.toList) (hks : ks.Pairwise (fun x y => lt y x = false)) : d'.toList = ks := by
  have hu : ∀ x y : El, lt x y = false → lt y x = false → x = y := fun x y h1 h2 => by simp only [lt, ltStr, decide_eq_false_iff_not, List.not_lt] at h1 h2; exact List.le_antisymm h2 h1
  have e1 := sorted_unique_holds (lt := lt) swo hu d d' hp hs
  have hsz : ks.length = d.size := by rw [hk.length_eq]; simp
  have e2 := sorted_unique_holds (lt := lt) swo hu d ks.toArray ⟨by simp [hsz], fun i hi => by
      rcases hi with hi | hi
      · omega
      · rw [getElem!_neg _ i (by simp; omega), getElem!_neg _ i (by omega)], by
      have e3 : (d.extract 0 d.size).toList = d.toList := by simp
      have e4 : (ks.toArray.extract 0 d.size).toList = ks := by simp [← hsz]
      rw [e3, e4]; exact hk⟩ (fun i j _ hij hj => by
      have := List.pairwise_iff_getElem.1 hks i j (by omega) (by omega) hij
      rw [getElem!_pos _ j (by simp; omega), getElem!_pos _ i (by simp; omega)]
      simpa using this)
  rw [e1, ← e2]
theorem sorted_c (h : AHeap) (q m clock : Nat) (l : List (El × Value × Nat)) (ks : List El) (hok : MapOK l clock) (hq : q < h.next) (hm : m < h.next) (hgq : h.get q = some (.cells [.map (some m)] 1)) (hgm : h.get m = some (.map (mkK enc l) clock)) (hbig : l.length ≤ 12)
    (hk : ks.Perm (l.map (·.1))) (hks : ks.Pairwise (fun x y => lt y x = false)) :
    FWp Tryz.prog 34 [.func (.func 62) #[] #[P0 q]] h fun u h' => (ks = [] ∧ u = .slice none 0 0 ∧ h' = h) ∨ (ks ≠ [] ∧ u = .slice (some ⟨h.next, 0, none⟩) ks.length 0 ∧ h' = h.new (.cells (ks.map enc) 1)) := by
  by_cases hnil : ks = []
  · have hl : l = [] := by
      subst hnil
      have := hk.length_eq
      simpa using this.symm
    have : FWp Tryz.prog 34 [.func (.func 62) #[] #[P0 q]] h fun u h' => u = .slice none 0 0 ∧ h' = h := by
      refine FWp.gcs (.flat rfl) ?_
      refine W.enter tyOK Tryz.func34 rfl rfl ?_
      simp only [entry]
      refine W.seq <| W.reg <| OSuf.aop tyOK rfl za rfl <| OSuf.nil <| SQ.normal ?_
      refine W.seq <| W.reg <| OSuf.aop tyOK rfl sm rfl <| OSuf.call rfl (by simp only [aopnds, lk] <;> rfl) en61 (collect_c h q m clock l hok hq hm hgq hgm (by omega)) ?_
      rintro u h1 ⟨ys, hp, ho, hf⟩
      obtain rfl : ys = [] := by (subst hl; exact hp.eq_nil)
      obtain rfl : u = .slice none 0 0 := by (cases ho with | none => rfl | some ne _ _ _ _ => exact (ne rfl).elim)
      refine ⟨_, rfl, ?_⟩
      refine OSuf.aop tyOK rfl za rfl <| OSuf.nil <| SQ.normal ?_
      refine W.seq <| W.reg <| OSuf.aop tyOK rfl sm rfl <| OSuf.callD rfl (by simp only [aopnds, lk] <;> rfl) en60 (sort_nil _) rfl <| OSuf.nil <| SQ.normal ?_
      refine W.seq <| W.reg <| OSuf.aop tyOK rfl sm rfl <| OSuf.aop tyOK rfl za rfl <| OSuf.nil <| SQ.normal ?_
      refine CWp.ret <| FQ.ret (by simp only [aRet, Tryz.f34, aResults, aResult, lk, Nat.reduceEqDiff, reduceIte] <;> rfl) ?_
      -- leaf: end
      exact ⟨rfl, fun r o hr ho => by rw [hf r hr]; exact ho⟩
    exact this.mono fun u h' hK => .inl ⟨hnil, hK⟩
  · have : FWp Tryz.prog 34 [.func (.func 62) #[] #[P0 q]] h fun u h' => u = .slice (some ⟨h.next, 0, none⟩) ks.length 0 ∧ h' = h.new (.cells (ks.map enc) 1) := by
      refine FWp.gcNew (fun v hv => ?_) ?_
      · obtain ⟨y, _, rfl⟩ := List.mem_map.1 hv
        exact .flat rfl
      refine W.enter tyOK Tryz.func34 rfl rfl ?_
      simp only [entry]
      refine W.seq <| W.reg <| OSuf.aop tyOK rfl za rfl <| OSuf.nil <| SQ.normal ?_
      refine W.seq <| W.reg <| OSuf.aop tyOK rfl sm rfl <| OSuf.call rfl (by simp only [aopnds, lk] <;> rfl) en61 (collect_c h q m clock l hok hq hm hgq hgm (by omega)) ?_
      rintro u h1 ⟨ys, hp, ho, hf⟩
      have hys : ¬ ys.map (·.1) = [] := fun e => hnil (by (have e2 : ys = [] := by simpa using e); subst e2; have := hk.length_eq; have := hp.length_eq; simp_all)
      obtain ⟨x, n, rfl, hn, hx1, hx2, hx3⟩ : ∃ x n, u = .slice (some ⟨x, 0, none⟩) n 0 ∧ n = (ys.map (·.1)).length ∧ h.next ≤ x ∧ x < h1.next ∧ h1.get x = some (row (ys.map (·.1)).toArray) := by (cases ho with | none e => exact (hys e).elim | some ne e a b c => exact ⟨_, _, rfl, e, a, b, c⟩)
      have hsz : n ≤ 12 := by (rw [hn, List.length_map, hp.length_eq]; omega)
      have hcall := sort_c h1 x n hsz (ys.map (·.1)).toArray (by simp [hn])
      rw [AHeap.set_self hx3] at hcall
      refine ⟨_, rfl, ?_⟩
      refine OSuf.aop tyOK rfl za rfl <| OSuf.nil <| SQ.normal ?_
      refine W.seq <| W.reg <| OSuf.aop tyOK rfl sm rfl <| OSuf.call rfl (by simp only [aopnds, lk] <;> rfl) en60 (hcall) ?_
      rintro _ _ ⟨rfl, d', rfl, hpi, hsi⟩
      refine ⟨_, rfl, ?_⟩
      refine OSuf.nil <| SQ.normal ?_
      refine W.seq <| W.reg <| OSuf.aop tyOK rfl sm rfl <| OSuf.aop tyOK rfl za rfl <| OSuf.nil <| SQ.normal ?_
      refine CWp.ret <| FQ.ret (by simp only [aRet, Tryz.f34, aResults, aResult, lk, Nat.reduceEqDiff, reduceIte] <;> rfl) ?_
      -- leaf: end
      have hd : d'.toList = ks := by
        have hn' : n = (ys.map (·.1)).toArray.size := by simp [hn]
        rw [hn'] at hpi hsi
        exact sorted_eq hpi hsi (hk.trans (hp.map _).symm) hks
      have hlen : ks.length = n := by rw [hk.length_eq, hn, List.length_map, List.length_map, hp.length_eq]
      refine ⟨x, by rw [hlen], hx1, by rw [AHeap.get_set_same, ← hd], fun r p hr hg => ?_⟩
      rw [AHeap.get_set_ne (by omega), hf r hr]; exact hg
    exact this.mono fun u h' hK => .inr ⟨hnil, hK⟩
end Go.Proofs.YtjenbiohcecfnaaGreat.SortS.KP
