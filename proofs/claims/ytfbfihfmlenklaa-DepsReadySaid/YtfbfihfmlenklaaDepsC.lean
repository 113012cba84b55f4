/-
  Contracts of the package deps: Gone.
-/
import Derived.Test.YtfbfihfmlenklaaDepsB
namespace Go.Proofs.Ytfbfihfmlenklaa
open Go.Ab
set_option linter.unusedSimpArgs false
set_option linter.unusedVariables false
set_option maxRecDepth 10000
set_option maxHeartbeats 4000000

/-- Who hangs on one, by whatever way. -/
inductive Reach (ps : List Pr) (x : Int) : Int → Prop
  | refl : Reach ps x x
  | step {y : Int} {p : Pr} (hr : Reach ps x y) (hp : p ∈ ps) (hh : p.hangs = true) (ho : p.key.2 = y) : Reach ps x p.key.1
theorem Reach.trans {ps : List Pr} {x y z : Int} (a : Reach ps x y) (b : Reach ps y z) : Reach ps x z := by
  induction b with
  | refl => exact a
  | step _ hp hh ho ih => exact ih.step hp hh ho
abbrev GL := List (Int × Value × Nat)
def gk (l : GL) : List Int := l.map (·.1)
def cntG (x : Int) (l : GL) : Int := if x ∈ gk l then 1 else 0
theorem gk_append (l m : GL) : gk (l ++ m) = gk l ++ gk m := List.map_append
theorem idx_not {x : Int} {l : GL} (h : x ∉ gk l) : idxI x l 0 = none := idxI_none fun y hy e => h (e ▸ List.mem_map.2 ⟨y, hy, rfl⟩)
theorem idx_mem {x : Int} {l : GL} (h : x ∈ gk l) : ∃ j v, idxI x l 0 = some (j, v) ∧ ∃ y ∈ l, y.2.1 = v := by
  cases hi : idxI x l 0 with
  | none =>
    obtain ⟨y, hy, e⟩ := List.mem_map.1 h
    exact (idxI_none' hi y hy e.symm).elim
  | some jv =>
    obtain ⟨j, v⟩ := jv
    obtain ⟨m, b, h1, h2⟩ := idxI_some hi
    exact ⟨j, v, rfl, _, List.mem_of_getElem? h2, rfl⟩
theorem lk_cnt {t kt et : TypeId} {ti ki ei : TI} {x : Int} {g clk : Nat} {l : GL} {h : AHeap} (ht : T.get t = some ti) (hu : ti.und = .map kt et) (hk : T.get kt = some ki) (hku : ki.und = .int .u64) (he : T.get et = some ei) (hz : ei.zero = some (I64 0))
    (hr : h.get g = some (.map (mkE .u64 l) clk)) (ho : ∀ y ∈ l, y.2.1 = I64 1) : aLookup Try.prog T t (.map (some g)) (U64 x) false h = some (I64 (cntG x l)) := by
  by_cases hm : x ∈ gk l
  · obtain ⟨j, v, hi, y, hy, e⟩ := idx_mem hm
    rw [lk_some tyOK ht hu hk hku hr hi, cntG, if_pos hm, ← e, ho y hy]; rfl
  · rw [lk_none tyOK ht hu hk hku he hz rfl hr (idx_not hm), cntG, if_neg hm]; rfl

/-- What is told while those that hang are gone through. -/
structure TS (h : AHeap) (bd bg bt r g : Nat) (S : DS) (l : GL) (clk : Nat) : Prop where
  da : DA h r S
  lts : bd < h.next ∧ bg < h.next ∧ bt < h.next ∧ g < h.next
  gne : ¬ g = bd ∧ ¬ g = bg ∧ ¬ g = bt ∧ ¬ g = r ∧ ¬ g = S.m
  rbd : h.get bd = some (.cells [P0 r] 1)
  rbg : h.get bg = some (.cells [.map (some g)] 1)
  rbt : h.get bt = some (.cells [.func (.func 27) #[] #[P0 bd, P0 bg, P0 bt]] 1)
  map : h.get g = some (.map (mkE .u64 l) clk)
  lt : ∀ x ∈ l, x.2.2 < clk
  bn : (l.map (·.2.2)).Nodup
  keys : (gk l).Nodup
  ones : ∀ x ∈ l, x.2.1 = I64 1
theorem TS.mono {h h' : AHeap} {bd bg bt r g : Nat} {S : DS} {l : GL} {clk : Nat} (t : TS h bd bg bt r g S l clk) (hn : h.next ≤ h'.next) (hk : ∀ z, z < h.next → h'.get z = h.get z) : TS h' bd bg bt r g S l clk := by
  obtain ⟨l1, l2, l3, l4⟩ := t.lts
  exact ⟨t.da.mono hn (hk r t.da.lt) (hk S.m t.da.mlt), ⟨by omega, by omega, by omega, by omega⟩, t.gne, by rw [hk bd l1]; exact t.rbd, by rw [hk bg l2]; exact t.rbg, by rw [hk bt l3]; exact t.rbt, by rw [hk g l4]; exact t.map, t.lt, t.bn, t.keys, t.ones⟩
theorem TS.add {h h' : AHeap} {bd bg bt r g : Nat} {S : DS} {l : GL} {clk : Nat} (t : TS h bd bg bt r g S l clk) {x : Int} (hx : x ∉ gk l) (hn : h.next ≤ h'.next) (k1 : h'.get bd = h.get bd) (k2 : h'.get bg = h.get bg) (k3 : h'.get bt = h.get bt) (k4 : h'.get r = h.get r) (k5 : h'.get S.m = h.get S.m) (hm : h'.get g = some (.map (mkE .u64 (l ++ [(x, I64 1, clk)])) (clk + 1))) :
    TS h' bd bg bt r g S (l ++ [(x, I64 1, clk)]) (clk + 1) := by
  obtain ⟨l1, l2, l3, l4⟩ := t.lts
  refine ⟨t.da.mono hn k4 k5, ⟨by omega, by omega, by omega, by omega⟩, t.gne, by rw [k1]; exact t.rbd, by rw [k2]; exact t.rbg, by rw [k3]; exact t.rbt, hm, fun y hy => ?_, ?_, ?_, fun y hy => ?_⟩
  · rcases List.mem_append.1 hy with h9 | h9
    · have := t.lt y h9; omega
    · simp at h9; subst h9; simp
  · rw [List.map_append]
    refine List.nodup_append.2 ⟨t.bn, by simp, fun a ha b hb => ?_⟩
    obtain ⟨y, hy, rfl⟩ := List.mem_map.1 ha
    have := t.lt y hy
    simp at hb; subst hb; omega
  · rw [gk_append]
    refine List.nodup_append.2 ⟨t.keys, by simp [gk], fun a ha b hb => ?_⟩
    simp [gk] at hb; subst hb; rintro rfl; exact hx ha
  · rcases List.mem_append.1 hy with h9 | h9
    · exact t.ones y h9
    · simp at h9; subst h9; rfl
theorem filter_len {α : Type} {f g : α → Bool} (h : ∀ x, f x = true → g x = true) : ∀ l : List α, (l.filter f).length ≤ (l.filter g).length
  | [] => Nat.le_refl _
  | x :: l => by
    have ih := filter_len h l
    rw [List.filter_cons, List.filter_cons]
    by_cases hf : f x = true
    · rw [if_pos hf, if_pos (h x hf)]; simp; exact ih
    · rw [if_neg hf]
      split
      · simp; omega
      · exact ih
/-- How many could still be added. -/
def more (S : DS) (l : GL) : Nat := (S.ps.filter fun p => !decide (p.key.1 ∈ gk l)).length
theorem more_le (S : DS) (l m : GL) : more S (l ++ m) ≤ more S l := by
  unfold more
  refine filter_len (fun p hp => ?_) _
  simp [gk_append] at hp ⊢; exact hp.1
theorem more_lt {S : DS} {l : GL} {p : Pr} (hp : p ∈ S.ps) (hn : p.key.1 ∉ gk l) (b : Nat) : more S (l ++ [(p.key.1, I64 1, b)]) < more S l := by
  unfold more
  have : ∀ ps : List Pr, p ∈ ps → (ps.filter fun q => !decide (q.key.1 ∈ gk (l ++ [(p.key.1, I64 1, b)]))).length < (ps.filter fun q => !decide (q.key.1 ∈ gk l)).length := by
    intro ps
    have le : ∀ ps : List Pr, (ps.filter fun q => !decide (q.key.1 ∈ gk (l ++ [(p.key.1, I64 1, b)]))).length ≤ (ps.filter fun q => !decide (q.key.1 ∈ gk l)).length := fun ps => by
      refine filter_len (fun q hq => ?_) _
      simp [gk_append] at hq ⊢; exact hq.1
    induction ps with
    | nil => intro h; cases h
    | cons q ps ih =>
      intro h
      rw [List.filter_cons, List.filter_cons]
      cases h with
      | head =>
        rw [if_neg (by simp [gk]), if_pos (by simpa using hn)]
        have := le ps
        simp; omega
      | tail _ h =>
        have := ih h
        by_cases h1 : q.key.1 ∈ gk l
        · rw [if_neg (by simp [gk_append, h1]), if_neg (by simpa using h1)]; exact this
        · rw [if_pos (c := (!decide (q.key.1 ∈ gk l)) = true) (by simpa using h1)]
          split <;> simp <;> omega
  exact this _ hp

structure TI (h h' : AHeap) (bd bg bt r g : Nat) (x : Int) (S : DS) (l N : GL) (clk : Nat) (seen : Array Nat) (n : Nat) : Prop where
  n : n + seen.size = S.ps.length
  nd : seen.toList.Nodup
  sub : ∀ b ∈ seen.toList, b ∈ S.ps.map Pr.born
  lt : h.next < h'.next
  it : h'.get h.next = some (.mapIter (some S.m) S.clock seen S.clock)
  ts : TS h' bd bg bt r g S (l ++ N) clk
  fr : ∀ z, z < h.next → ¬ g = z → h'.get z = h.get z
  re : ∀ y ∈ N, Reach S.ps x y.1 ∧ ∃ p ∈ S.ps, p.key.1 = y.1
  cl : ∀ p ∈ S.ps, p.hangs = true → p.key.2 ∈ gk N → p.key.1 ∈ gk (l ++ N)
  dn : ∀ p ∈ S.ps, p.born ∈ seen.toList → p.hangs = true → p.key.2 = x → p.key.1 ∈ gk (l ++ N)
theorem TI.lt_of {h h' : AHeap} {bd bg bt r g : Nat} {x : Int} {S : DS} {l N : GL} {clk : Nat} {seen : Array Nat} {n : Nat} (i : TI h h' bd bg bt r g x S l N clk seen n) {p : Pr} (hp : p ∈ S.ps) (hs : p.born ∉ seen.toList) : 0 < n := by
  have := seen_lt i.nd i.sub (List.mem_map.2 ⟨p, hp, rfl⟩) hs
  have h1 := i.n
  simp at this; omega
theorem TI.skip {h h' h'' : AHeap} {bd bg bt r g : Nat} {x : Int} {S : DS} {l N : GL} {clk : Nat} {seen : Array Nat} {n : Nat} (i : TI h h' bd bg bt r g x S l N clk seen n) {p : Pr} (hp : p ∈ S.ps) (hs : p.born ∉ seen.toList) (hb : (S.ps.map Pr.born).Nodup)
    (hd : p.hangs = true → p.key.2 = x → p.key.1 ∈ gk (l ++ N)) (hn : h'.next ≤ h''.next) (hI : h''.get h.next = some (.mapIter (some S.m) S.clock (seen.push p.born) S.clock)) (hk : ∀ z, z < h'.next → ¬ z = h.next → h''.get z = h'.get z)
    (hlo : bd < h.next ∧ bg < h.next ∧ bt < h.next ∧ r < h.next ∧ g < h.next ∧ S.m < h.next) : TI h h'' bd bg bt r g x S l N clk (seen.push p.born) (n - 1) := by
  have h0n := i.lt_of hp hs
  have hn1 := i.n
  have hlt := i.lt
  obtain ⟨o1, o2, o3, o4, o5, o6⟩ := hlo
  have t := i.ts
  obtain ⟨l1, l2, l3, l4⟩ := t.lts
  refine ⟨by simp; omega, seen_push i.nd hs, fun b hb => ?_, by omega, hI, ?_, fun z hz hg => ?_, i.re, i.cl, fun q hq hs' hh ho => ?_⟩
  · rcases mem_push.1 hb with h9 | h9
    · exact i.sub b h9
    · exact h9 ▸ List.mem_map.2 ⟨p, hp, rfl⟩
  · exact ⟨t.da.mono hn (hk r t.da.lt (by omega)) (hk S.m t.da.mlt (by omega)), ⟨by omega, by omega, by omega, by omega⟩, t.gne, by rw [hk bd l1 (by omega)]; exact t.rbd, by rw [hk bg l2 (by omega)]; exact t.rbg, by rw [hk bt l3 (by omega)]; exact t.rbt, by rw [hk g l4 (by omega)]; exact t.map, t.lt, t.bn, t.keys, t.ones⟩
  · rw [hk z (by omega) (by omega)]; exact i.fr z hz hg
  · rcases mem_push.1 hs' with h9 | h9
    · exact i.dn q hq h9 hh ho
    · have := inj_nodup Pr.born hb hq hp h9
      subst this; exact hd hh ho

def TakeC (bd bg bt r g : Nat) (S : DS) (n : Nat) : Prop := ∀ (h : AHeap) (l : GL) (clk : Nat) (x : Int), TS h bd bg bt r g S l clk → more S l ≤ n →
    FWp Try.prog 27 [U64 x, P0 bd, P0 bg, P0 bt] h fun u h' => ∃ N clk', TS h' bd bg bt r g S (l ++ N) clk' ∧ h.next ≤ h'.next ∧ (∀ z, z < h.next → ¬ g = z → h'.get z = h.get z) ∧
      (∀ y ∈ N, Reach S.ps x y.1 ∧ ∃ p ∈ S.ps, p.key.1 = y.1) ∧ ∀ p ∈ S.ps, p.hangs = true → (p.key.2 = x ∨ p.key.2 ∈ gk N) → p.key.1 ∈ gk (l ++ N)

theorem take_v {bd bg bt r g : Nat} {S : DS} {n : Nat} (t : TakeC bd bg bt r g S n) {h : AHeap} {l : GL} {clk : Nat} {x : Int} (hT : TS h bd bg bt r g S l clk) (hm : more S l ≤ n) :
    VWp Try.prog (.func (.func 27) #[] #[P0 bd, P0 bg, P0 bt]) [U64 x] h fun u h' => ∃ N clk', TS h' bd bg bt r g S (l ++ N) clk' ∧ h.next ≤ h'.next ∧ (∀ z, z < h.next → ¬ g = z → h'.get z = h.get z) ∧
      (∀ y ∈ N, Reach S.ps x y.1 ∧ ∃ p ∈ S.ps, p.key.1 = y.1) ∧ ∀ p ∈ S.ps, p.hangs = true → (p.key.2 = x ∨ p.key.2 ∈ gk N) → p.key.1 ∈ gk (l ++ N) :=
  VWp.func en27 (t h l clk x hT hm)
theorem take_step (bd bg bt r g : Nat) (S : DS) (n0 : Nat) (ih : ∀ n, n < n0 → TakeC bd bg bt r g S n) : TakeC bd bg bt r g S n0 := by
  intro h l clk x hT hmore
  have hA := hT.da
  have hrow := hA.row
  have hmap := hA.map
  have hl := hA.lt
  have hml := hA.mlt
  obtain ⟨l1, l2, l3, l4⟩ := hT.lts
  obtain ⟨g1, g2, g3, g4, g5⟩ := hT.gne
  have r1 := hT.rbd
  refine W.enter tyOK Try.func27 rfl rfl ?_
  simp only [entry]
  refine W.seq <| W.reg <| 
      OSuf.aop tyOK rfl (so_load (by simp only [lk] <;> rfl) (by simp (disch := first | assumption | omega | (simp only [nx] <;> omega) | fail) only [aLoad, ty23, rowOf, hpl, hrow, hmap, r1] <;> rfl)) rfl <|
      OSuf.aop tyOK rfl (so_nilCheck (by simp only [lk] <;> rfl)) rfl <|
      OSuf.aop tyOK rfl (so_fieldAddr (by simp only [lk] <;> rfl) (fa_ok (k := 0) ty57 rfl rfl ty55 rfl rfl)) rfl <|
      OSuf.aop tyOK rfl (so_load (by simp only [lk] <;> rfl) (by simp (disch := first | assumption | omega | (simp only [nx] <;> omega) | fail) only [aLoad, ty55, rowOf, hpl, hrow, hmap, r1] <;> rfl)) rfl <|
      OSuf.aop tyOK rfl (so_range (by simp only [lk] <;> rfl) (by simp (disch := first | assumption | omega | (simp only [nx] <;> omega) | fail) only [aRange, ty55, hpl, hrow, hmap, r1] <;> rfl)) rfl <|
      OSuf.nil <| SQ.normal ?_
  -- leaf: loop
  refine W.cut (fun L h' => ∃ N clk', TS h' bd bg bt r g S (l ++ N) clk' ∧ h.next ≤ h'.next ∧ (∀ z, z < h.next → ¬ g = z → h'.get z = h.get z) ∧
      (∀ y ∈ N, Reach S.ps x y.1 ∧ ∃ p ∈ S.ps, p.key.1 = y.1) ∧ ∀ p ∈ S.ps, p.hangs = true → (p.key.2 = x ∨ p.key.2 ∈ gk N) → p.key.1 ∈ gk (l ++ N)) (W.block (W.loop (fun n L h' => ∃ seen N clk', TI h h' bd bg bt r g x S l N clk' seen n ∧ L = [(0, U64 x), (1, P0 bd), (2, P0 bg), (3, P0 bt), (11, P0 h.next)]) (n := S.ps.length)
    ⟨#[], [], clk, ⟨by simp, by simp, by simp, by simp, AHeap.get_new_same _ _, by rw [List.append_nil]; exact hT.mono (by simp) (fun z hz => AHeap.get_new_ne (by omega)), fun z hz _ => AHeap.get_new_ne (by omega), by simp, by simp [gk], by simp⟩, rfl⟩ ?_ ?_)) ?_
  · simp [HasA, Tr.get_put]
  · rintro n L h2 ⟨seen, N, clk', hI, rfl⟩
    simp only [mkA]
    have hT2 := hI.ts
    have hda := hT2.da
    have hmap2 := hda.map
    have hlt2 := hda.lt
    have hmlt2 := hda.mlt
    have hIlt := hI.lt
    have r2 := hT2.rbg
    have r3 := hT2.rbt
    have hgm := hT2.map
    have hones := hT2.ones
    have n1 : ¬ h.next = bd := by omega
    have n2 : ¬ h.next = bg := by omega
    have n3 : ¬ h.next = bt := by omega
    have n4 : ¬ h.next = g := by omega
    have n5 : ¬ h.next = S.m := by omega
    have n6 : ¬ S.m = h.next := by omega
    have n7 : ¬ g = h.next := by omega
    have n8 : ¬ h.next = r := by omega
    have hlo : bd < h.next ∧ bg < h.next ∧ bt < h.next ∧ r < h.next ∧ g < h.next ∧ S.m < h.next := ⟨l1, l2, l3, hl, l4, hml⟩
    refine W.seq <| W.reg <| 
        OSuf.next rfl (by simp only [lk] <;> rfl) hI.it hmap2 (it_condP hda.born) (fun he => ⟨_, rfl, ?_⟩) (fun e he => ⟨_, rfl, ?_⟩)
    · skip
      refine 
          OSuf.aopF tyOK rfl (so_extract (by simp only [lk] <;> rfl) (by simp (disch := first | assumption | omega | (simp only [nx] <;> omega) | fail) only [aExtract, hpl, hmap2, Value.cells, places, ty23, ty29, ty3, ty34, ty4, ty55, ty57, ty60, ty64, r2, r3, hgm] <;> rfl)) (fun _ => rfl) (by first | rfl | assumption | ((simp only [bl, hmap2, Value.cells, places, ty23, ty29, ty3, ty34, ty4, ty55, ty57, ty60, ty64, r2, r3, hgm]) <;> first | done | assumption | omega) | (simp [hmap2, Value.cells, places, ty23, ty29, ty3, ty34, ty4, ty55, ty57, ty60, ty64, r2, r3, hgm]; done) | (simp [hmap2, Value.cells, places, ty23, ty29, ty3, ty34, ty4, ty55, ty57, ty60, ty64, r2, r3, hgm]; omega)) <|
          OSuf.nil <| SQ.normal ?_
      refine W.seq <| W.no (by simp only [lk] <;> rfl) <| CWp.exit <| SQ.exit <| LQ.exit <| BQ.exit <| ?_
      refine NQ.normal (L := []) trivial ⟨N, clk', hT2, by omega, hI.fr, hI.re, fun p hp hh ho => ?_⟩
      rcases ho with h9 | h9
      · exact hI.dn p hp (it_doneP he hda.born p hp) hh h9
      · exact hI.cl p hp hh h9
    · skip
      obtain ⟨p, hp, hns, rfl⟩ := it_leftP he
      have hfind := it_findP hda.borns hp
      have hn0 := hI.lt_of hp hns
      refine 
          OSuf.aopT tyOK rfl (so_extract (by simp only [lk] <;> rfl) (by simp (disch := first | assumption | omega | (simp only [nx] <;> omega) | fail) only [aExtract, hpl, hmap2, Value.cells, places, ty23, ty29, ty3, ty34, ty4, ty55, ty57, ty60, ty64, r2, r3, hgm] <;> rfl)) (fun _ => rfl) (by first | rfl | assumption | ((simp only [bl, hmap2, Value.cells, places, ty23, ty29, ty3, ty34, ty4, ty55, ty57, ty60, ty64, r2, r3, hgm]) <;> first | done | assumption | omega) | (simp [hmap2, Value.cells, places, ty23, ty29, ty3, ty34, ty4, ty55, ty57, ty60, ty64, r2, r3, hgm]; done) | (simp [hmap2, Value.cells, places, ty23, ty29, ty3, ty34, ty4, ty55, ty57, ty60, ty64, r2, r3, hgm]; omega)) <|
          OSuf.nil <| SQ.normal ?_
      refine W.seq <| W.yes (by simp only [lk] <;> rfl) <| CWp.skip <| SQ.normal ?_
      refine W.block <| W.seq <| W.reg <| 
          OSuf.aop tyOK rfl (so_entry (by simp only [lk] <;> rfl) (en_ok (AHeap.get_set_same _ _ _) (by simp (disch := first | assumption | omega | (simp only [nx] <;> omega) | fail) only [aCells, rowOf, hpl, hmap2, Value.cells, places, ty23, ty29, ty3, ty34, ty4, ty55, ty57, ty60, ty64, r2, r3, hgm] <;> first | rfl | exact hmap2) hfind)) rfl <|
          OSuf.aop tyOK rfl (so_extract (by simp only [lk] <;> rfl) (by simp (disch := first | assumption | omega | (simp only [nx] <;> omega) | fail) only [aExtract, hpl, hmap2, Value.cells, places, ty23, ty29, ty3, ty34, ty4, ty55, ty57, ty60, ty64, r2, r3, hgm] <;> rfl)) rfl <|
          OSuf.aopB tyOK rfl (so_extract (by simp only [lk] <;> rfl) (by simp (disch := first | assumption | omega | (simp only [nx] <;> omega) | fail) only [aExtract, hpl, hmap2, Value.cells, places, ty23, ty29, ty3, ty34, ty4, ty55, ty57, ty60, ty64, r2, r3, hgm] <;> rfl)) (fun _ => rfl) (fun hh => ?_) (fun hh => ?_)
      · try simp only [bl] at hh
        refine 
            OSuf.aop tyOK rfl (so_alloc (by simp only [aAlloc, ty60] <;> rfl)) rfl <|
            OSuf.aop tyOK rfl (so_store (by simp only [lk] <;> rfl) (by simp only [lk] <;> rfl) (by simp (disch := first | assumption | omega | (simp only [nx] <;> omega) | fail) only [aStore, ty60, writeRow, hpl, hmap2, Value.cells, places, ty23, ty29, ty3, ty34, ty4, ty55, ty57, ty60, ty64, r2, r3, hgm] <;> rfl)) rfl <|
            OSuf.aopT tyOK rfl (so_assign (by simp only [lk] <;> rfl)) (fun _ => rfl) rfl <|
            OSuf.nil <| SQ.normal ?_
        refine W.seq <| W.reg <| 
            OSuf.aopT tyOK rfl (so_move (by simp only [lk] <;> rfl)) (fun _ => rfl) rfl <|
            OSuf.aopT tyOK rfl (so_move (by simp only [lk] <;> rfl)) (fun _ => rfl) rfl <|
            OSuf.aop tyOK (aguard_of rfl rfl (by simp only [lk] <;> rfl) rfl) (so_fieldAddr (by simp only [lk] <;> rfl) (fa_ok (k := 1) ty60 rfl rfl ty29 rfl rfl)) rfl <|
            OSuf.aop tyOK (aguard_of rfl rfl (by simp only [lk] <;> rfl) rfl) (so_load (by simp only [lk] <;> rfl) (by simp (disch := first | assumption | omega | (simp only [nx] <;> omega) | fail) only [aLoad, ty29, rowOf, hpl, hmap2, Value.cells, places, ty23, ty29, ty3, ty34, ty4, ty55, ty57, ty60, ty64, r2, r3, hgm] <;> rfl)) rfl <|
            OSuf.aop tyOK (aguard_of rfl rfl (by simp only [lk] <;> rfl) rfl) (so_move (by simp only [lk] <;> rfl)) rfl <|
            OSuf.aopB tyOK (aguard_of rfl rfl (by simp only [lk] <;> rfl) rfl) (so_bin (by simp only [lk] <;> rfl) (by simp only [lk] <;> rfl) bi_eql) (fun _ => rfl) (fun hon => ?_) (fun hon => ?_)
        · try simp only [bl] at hon
          refine 
              OSuf.aopT tyOK rfl (so_pick (by simp only [lk] <;> rfl) (by simp only [lk, cond_true, cond_false] <;> rfl)) (fun _ => rfl) rfl <|
              OSuf.aopT tyOK rfl (so_move (by simp only [lk] <;> rfl)) (fun _ => rfl) rfl <|
              OSuf.aop tyOK (aguard_of rfl rfl (by simp only [lk] <;> rfl) rfl) (so_load (by simp only [lk] <;> rfl) (by simp (disch := first | assumption | omega | (simp only [nx] <;> omega) | fail) only [aLoad, ty64, rowOf, hpl, hmap2, Value.cells, places, ty23, ty29, ty3, ty34, ty4, ty55, ty57, ty60, ty64, r2, r3, hgm] <;> rfl)) rfl <|
              OSuf.aop tyOK (aguard_of rfl rfl (by simp only [lk] <;> rfl) rfl) (so_fieldAddr (by simp only [lk] <;> rfl) (fa_ok (k := 0) ty60 rfl rfl ty29 rfl rfl)) rfl <|
              OSuf.aop tyOK (aguard_of rfl rfl (by simp only [lk] <;> rfl) rfl) (so_load (by simp only [lk] <;> rfl) (by simp (disch := first | assumption | omega | (simp only [nx] <;> omega) | fail) only [aLoad, ty29, rowOf, hpl, hmap2, Value.cells, places, ty23, ty29, ty3, ty34, ty4, ty55, ty57, ty60, ty64, r2, r3, hgm] <;> rfl)) rfl <|
              OSuf.aop tyOK (aguard_of rfl rfl (by simp only [lk] <;> rfl) rfl) (so_lookup (by simp only [lk] <;> rfl) (by simp only [lk] <;> rfl) (lk_cnt ty64 rfl ty29 rfl ty3 rfl (by simp (disch := first | assumption | omega | (simp only [nx] <;> omega) | fail) only [aCells, rowOf, hpl, hmap2, Value.cells, places, ty23, ty29, ty3, ty34, ty4, ty55, ty57, ty60, ty64, r2, r3, hgm] <;> first | rfl | exact hgm) hones)) rfl <|
              OSuf.aopB tyOK (aguard_of rfl rfl (by simp only [lk] <;> rfl) rfl) (so_bin (by simp only [lk] <;> rfl) (by simp only [lk] <;> rfl) bi_eql) (fun _ => rfl) (fun hz => ?_) (fun hz => ?_)
          · try simp only [bl] at hz
            refine 
                OSuf.aopT tyOK rfl (so_pick (by simp only [lk] <;> rfl) (by simp only [lk, cond_true, cond_false] <;> rfl)) (fun _ => rfl) rfl <|
                OSuf.nil <| SQ.normal ?_
            refine W.yes (by simp only [lk] <;> rfl) <| W.seq <| W.reg <| 
                OSuf.aop tyOK rfl (so_load (by simp only [lk] <;> rfl) (by simp (disch := first | assumption | omega | (simp only [nx] <;> omega) | fail) only [aLoad, ty64, rowOf, hpl, hmap2, Value.cells, places, ty23, ty29, ty3, ty34, ty4, ty55, ty57, ty60, ty64, r2, r3, hgm] <;> rfl)) rfl <|
                OSuf.aop tyOK rfl (so_fieldAddr (by simp only [lk] <;> rfl) (fa_ok (k := 0) ty60 rfl rfl ty29 rfl rfl)) rfl <|
                OSuf.aop tyOK rfl (so_load (by simp only [lk] <;> rfl) (by simp (disch := first | assumption | omega | (simp only [nx] <;> omega) | fail) only [aLoad, ty29, rowOf, hpl, hmap2, Value.cells, places, ty23, ty29, ty3, ty34, ty4, ty55, ty57, ty60, ty64, r2, r3, hgm] <;> rfl)) rfl <|
                OSuf.aop tyOK rfl (so_mapUpdate (by simp only [lk] <;> rfl) (by simp only [lk] <;> rfl) (by simp only [lk] <;> rfl) (mu_new tyOK ty64 rfl ty29 rfl (by simp (disch := first | assumption | omega | (simp only [nx] <;> omega) | fail) only [aCells, rowOf, hpl, hmap2, Value.cells, places, ty23, ty29, ty3, ty34, ty4, ty55, ty57, ty60, ty64, r2, r3, hgm] <;> first | rfl | exact hgm) (idx_not (l := l ++ N) (x := p.key.1) (by intro hm; simp [cntG, hm] at hz)))) rfl <|
                OSuf.nil <| SQ.normal ?_
            refine W.reg <| 
                OSuf.aop tyOK rfl (so_load (by simp only [lk] <;> rfl) (by simp (disch := first | assumption | omega | (simp only [nx] <;> omega) | fail) only [aLoad, ty34, rowOf, hpl, hmap2, Value.cells, places, ty23, ty29, ty3, ty34, ty4, ty55, ty57, ty60, ty64, r2, r3, hgm] <;> rfl)) rfl <|
                OSuf.aop tyOK rfl (so_fieldAddr (by simp only [lk] <;> rfl) (fa_ok (k := 0) ty60 rfl rfl ty29 rfl rfl)) rfl <|
                OSuf.aop tyOK rfl (so_load (by simp only [lk] <;> rfl) (by simp (disch := first | assumption | omega | (simp only [nx] <;> omega) | fail) only [aLoad, ty29, rowOf, hpl, hmap2, Value.cells, places, ty23, ty29, ty3, ty34, ty4, ty55, ty57, ty60, ty64, r2, r3, hgm] <;> rfl)) rfl <|
                OSuf.vcall rfl (by simp only [lk] <;> rfl) (by simp only [aopnds, lk] <;> rfl) (take_v (ih (more S (l ++ N ++ [(p.key.1, I64 1, clk')])) (by have a1 := more_lt (l := l ++ N) hp (by intro hm; simp [cntG, hm] at hz) clk'; have a2 := more_le S l N; omega)) (x := p.key.1) (TS.add hT2 (by intro hm; simp [cntG, hm] at hz) (by simp only [nx]; omega) (by simp (disch := first | assumption | omega | (simp only [nx] <;> omega) | fail) only [hpl]) (by simp (disch := first | assumption | omega | (simp only [nx] <;> omega) | fail) only [hpl]) (by simp (disch := first | assumption | omega | (simp only [nx] <;> omega) | fail) only [hpl]) (by simp (disch := first | assumption | omega | (simp only [nx] <;> omega) | fail) only [hpl]) (by simp (disch := first | assumption | omega | (simp only [nx] <;> omega) | fail) only [hpl]) (by simp (disch := first | assumption | omega | (simp only [nx] <;> omega) | fail) only [hpl])) (Nat.le_refl _)) ?_
            rintro _ h3 ⟨N2, clk2, hT3, hn3, hf3, hre3, hcl3⟩
            refine ⟨_, rfl, ?_⟩
            refine 
                OSuf.nil <| BQ.normal <| ?_
            have hon' : p.key.2 = x := by simpa using hon
            have hh' : p.hangs = true := by simpa using hh
            have hst : Reach S.ps x p.key.1 := Reach.refl.step hp hh' hon'
            have eN : l ++ N ++ [(p.key.1, I64 1, clk')] ++ N2 = l ++ (N ++ [(p.key.1, I64 1, clk')] ++ N2) := by simp
            rw [eN] at hT3 hcl3
            simp only [nx] at hn3 hf3
            have hn1 := hI.n
            have inN : ∀ z, z ∈ gk (l ++ N) → z ∈ gk (l ++ (N ++ [(p.key.1, I64 1, clk')] ++ N2)) := fun z hz => by rw [← eN]; simp only [gk_append, List.mem_append] at hz ⊢; exact .inl (.inl hz)
            have inP : p.key.1 ∈ gk (l ++ (N ++ [(p.key.1, I64 1, clk')] ++ N2)) := by simp [gk]
            refine LQ.normal (m := n - 1) (L := [(0, U64 x), (1, P0 bd), (2, P0 bg), (3, P0 bt), (11, P0 h.next)]) (by omega) ?_ ⟨seen.push p.born, N ++ [(p.key.1, I64 1, clk')] ++ N2, clk2, ⟨by simp; omega, seen_push hI.nd hns, fun b hb => ?_, by omega, ?_, hT3, fun z hz hg => ?_, fun y hy => ?_, fun q hq h1 h2 => ?_, fun q hq h1 h2 h3 => ?_⟩, rfl⟩
            · simp only [HasA, Tr.get_put, Nat.reduceEqDiff, reduceIte, and_self]
            · rcases mem_push.1 hb with h9 | h9
              · exact hI.sub b h9
              · exact h9 ▸ List.mem_map.2 ⟨p, hp, rfl⟩
            · rw [hf3 h.next (by omega) n7]; simp (disch := first | assumption | omega | (simp only [nx] <;> omega) | fail) only [hpl]
            · have a' : ¬ h.next = z := by omega
              rw [hf3 z (by omega) hg]; simp (disch := first | assumption | omega | (simp only [nx] <;> omega) | fail) only [hpl]; exact hI.fr z hz hg
            · rcases List.mem_append.1 hy with h9 | h9
              · rcases List.mem_append.1 h9 with h9 | h9
                · exact hI.re y h9
                · simp at h9; subst h9; exact ⟨hst, p, hp, rfl⟩
              · exact ⟨hst.trans (hre3 y h9).1, (hre3 y h9).2⟩
            · simp only [gk_append, List.mem_append] at h2
              rcases h2 with (h9 | h9) | h9
              · exact inN _ (hI.cl q hq h1 h9)
              · simp [gk] at h9; exact hcl3 q hq h1 (.inl h9)
              · exact hcl3 q hq h1 (.inr h9)
            · rcases mem_push.1 h1 with h9 | h9
              · exact inN _ (hI.dn q hq h9 h2 h3)
              · have := inj_nodup Pr.born hA.borns hq hp h9
                subst this; exact inP
          · try simp only [bl] at hz
            refine 
                OSuf.aopF tyOK rfl (so_pick (by simp only [lk] <;> rfl) (by simp only [lk, cond_true, cond_false] <;> rfl)) (fun _ => rfl) rfl <|
                OSuf.nil <| SQ.normal ?_
            refine W.no (by simp only [lk] <;> rfl) <| CWp.skip <| BQ.normal <| ?_
            refine LQ.normal (m := n - 1) (L := [(0, U64 x), (1, P0 bd), (2, P0 bg), (3, P0 bt), (11, P0 h.next)]) (by omega) ?_ ⟨_, N, clk', hI.skip hp hns hA.borns (fun _ _ => ?_) (by simp only [nx]; omega) (by simp (disch := first | assumption | omega | (simp only [nx] <;> omega) | fail) only [hpl]) (fun z hz a => ?_) hlo, rfl⟩
            · simp only [HasA, Tr.get_put, Nat.reduceEqDiff, reduceIte, and_self]
            · refine Classical.byContradiction fun hm => ?_
              simp [cntG, hm] at hz
            · have a' : ¬ h.next = z := fun e => a e.symm
              simp (disch := first | assumption | omega | (simp only [nx] <;> omega) | fail) only [hpl]
        · try simp only [bl] at hon
          refine 
              OSuf.aopF tyOK rfl (so_pick (by simp only [lk] <;> rfl) (by simp only [lk, cond_true, cond_false] <;> rfl)) (fun _ => rfl) rfl <|
              OSuf.aopF tyOK rfl (so_move (by simp only [lk] <;> rfl)) (fun _ => rfl) rfl <|
              OSuf.pass (aguard_of rfl rfl (by simp only [lk] <;> rfl) rfl) rfl <|
              OSuf.pass (aguard_of rfl rfl (by simp only [lk] <;> rfl) rfl) rfl <|
              OSuf.pass (aguard_of rfl rfl (by simp only [lk] <;> rfl) rfl) rfl <|
              OSuf.pass (aguard_of rfl rfl (by simp only [lk] <;> rfl) rfl) rfl <|
              OSuf.pass (aguard_of rfl rfl (by simp only [lk] <;> rfl) rfl) rfl <|
              OSuf.aopF tyOK rfl (so_pick (by simp only [lk] <;> rfl) (by simp only [lk, cond_true, cond_false] <;> rfl)) (fun _ => rfl) rfl <|
              OSuf.nil <| SQ.normal ?_
          refine W.no (by simp only [lk] <;> rfl) <| CWp.skip <| BQ.normal <| ?_
          refine LQ.normal (m := n - 1) (L := [(0, U64 x), (1, P0 bd), (2, P0 bg), (3, P0 bt), (11, P0 h.next)]) (by omega) ?_ ⟨_, N, clk', hI.skip hp hns hA.borns (fun _ e => by simp [e] at hon) (by simp only [nx]; omega) (by simp (disch := first | assumption | omega | (simp only [nx] <;> omega) | fail) only [hpl]) (fun z hz a => ?_) hlo, rfl⟩
          · simp only [HasA, Tr.get_put, Nat.reduceEqDiff, reduceIte, and_self]
          · have a' : ¬ h.next = z := fun e => a e.symm
            simp (disch := first | assumption | omega | (simp only [nx] <;> omega) | fail) only [hpl]
      · try simp only [bl] at hh
        refine 
            OSuf.aop tyOK rfl (so_alloc (by simp only [aAlloc, ty60] <;> rfl)) rfl <|
            OSuf.aop tyOK rfl (so_store (by simp only [lk] <;> rfl) (by simp only [lk] <;> rfl) (by simp (disch := first | assumption | omega | (simp only [nx] <;> omega) | fail) only [aStore, ty60, writeRow, hpl, hmap2, Value.cells, places, ty23, ty29, ty3, ty34, ty4, ty55, ty57, ty60, ty64, r2, r3, hgm] <;> rfl)) rfl <|
            OSuf.aopF tyOK rfl (so_assign (by simp only [lk] <;> rfl)) (fun _ => rfl) rfl <|
            OSuf.nil <| SQ.normal ?_
        refine W.seq <| W.reg <| 
            OSuf.aopF tyOK rfl (so_move (by simp only [lk] <;> rfl)) (fun _ => rfl) rfl <|
            OSuf.aopF tyOK rfl (so_move (by simp only [lk] <;> rfl)) (fun _ => rfl) rfl <|
            OSuf.pass (aguard_of rfl rfl (by simp only [lk] <;> rfl) rfl) rfl <|
            OSuf.pass (aguard_of rfl rfl (by simp only [lk] <;> rfl) rfl) rfl <|
            OSuf.pass (aguard_of rfl rfl (by simp only [lk] <;> rfl) rfl) rfl <|
            OSuf.pass (aguard_of rfl rfl (by simp only [lk] <;> rfl) rfl) rfl <|
            OSuf.aopF tyOK rfl (so_pick (by simp only [lk] <;> rfl) (by simp only [lk, cond_true, cond_false] <;> rfl)) (fun _ => rfl) rfl <|
            OSuf.aopF tyOK rfl (so_move (by simp only [lk] <;> rfl)) (fun _ => rfl) rfl <|
            OSuf.pass (aguard_of rfl rfl (by simp only [lk] <;> rfl) rfl) rfl <|
            OSuf.pass (aguard_of rfl rfl (by simp only [lk] <;> rfl) rfl) rfl <|
            OSuf.pass (aguard_of rfl rfl (by simp only [lk] <;> rfl) rfl) rfl <|
            OSuf.pass (aguard_of rfl rfl (by simp only [lk] <;> rfl) rfl) rfl <|
            OSuf.pass (aguard_of rfl rfl (by simp only [lk] <;> rfl) rfl) rfl <|
            OSuf.aopF tyOK rfl (so_pick (by simp only [lk] <;> rfl) (by simp only [lk, cond_true, cond_false] <;> rfl)) (fun _ => rfl) rfl <|
            OSuf.nil <| SQ.normal ?_
        refine W.no (by simp only [lk] <;> rfl) <| CWp.skip <| BQ.normal <| ?_
        refine LQ.normal (m := n - 1) (L := [(0, U64 x), (1, P0 bd), (2, P0 bg), (3, P0 bt), (11, P0 h.next)]) (by omega) ?_ ⟨_, N, clk', hI.skip hp hns hA.borns (fun e _ => by simp [e] at hh) (by simp only [nx]; omega) (by simp (disch := first | assumption | omega | (simp only [nx] <;> omega) | fail) only [hpl]) (fun z hz a => ?_) hlo, rfl⟩
        · simp only [HasA, Tr.get_put, Nat.reduceEqDiff, reduceIte, and_self]
        · have a' : ¬ h.next = z := fun e => a e.symm
          simp (disch := first | assumption | omega | (simp only [nx] <;> omega) | fail) only [hpl]
  rintro L a' h2 ha hq
  refine FQ.normal (by simp only [aRet, Try.f27, aResults] <;> rfl) ?_
  exact hq
theorem take_c (bd bg bt r g : Nat) (S : DS) : ∀ n, TakeC bd bg bt r g S n := fun n => by
  induction n using Nat.strongRecOn with
  | _ n ih => exact take_step bd bg bt r g S n ih
end Go.Proofs.Ytfbfihfmlenklaa
