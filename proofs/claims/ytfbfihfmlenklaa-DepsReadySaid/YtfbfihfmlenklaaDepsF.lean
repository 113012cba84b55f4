/-
  The evaluator's table, with Ready, Logged and Gone as one step each; works.
-/
import Derived.Test.YtfbfihfmlenklaaDepsE
namespace Go.Proofs.Ytfbfihfmlenklaa
open Go.Ab
set_option linter.unusedSimpArgs false
set_option linter.unusedVariables false
set_option maxRecDepth 10000
set_option maxHeartbeats 4000000

theorem gcX {P : Program} {h H : AHeap} {f : FuncId} {args : List Value} {n : Nat} {o : AObj} (hn : H.next = h.next) (hb : BO h.next o)
    (hf : FWp P f args h fun u h' => ∃ x, u = .slice (some ⟨x, 0, none⟩) n 0 ∧ h.next ≤ x ∧ h'.get x = some o ∧ ∀ r p, H.get r = some p → (h.get r = some p ∧ (r < h.next → h'.get r = some p)) ∨ (r < h.next ∧ h'.get r = some p ∧ BO h.next p)) :
    FWp P f args h fun u h' => u = .slice (some ⟨h.next, 0, none⟩) n 0 ∧ h' = H.new o := by
  intro μ args' w hl st
  refine (hf μ args' w hl st).mono ?_
  rintro e w' ⟨u, v', h', μ', rfl, ⟨x, rfl, hx, hg, hk⟩, ex, hr⟩
  obtain ⟨en, h1, h2⟩ := Ext.newOne st ex hn (fun r o ho => by
    rcases hk r o ho with ⟨a, b⟩ | ⟨a, b, c⟩
    · have := (st.live r o a).1; exact ⟨this, b this, .inl a⟩
    · exact ⟨a, b, .inr c⟩) hg hx hb
  refine ⟨_, v', _, _, rfl, ⟨rfl, rfl⟩, h2, ?_⟩
  cases hr with
  | sliceU hlt hm hl hc => rw [h1] at hm; cases hm; exact .sliceU (by simp [hn]) (Emb.upd_same _ _ _) hl hc
  | sliceZ hlt hm => rw [h1] at hm; cases hm; exact .sliceZ (by simp [hn]) (Emb.upd_same _ _ _)

/-! What is told of pairs, read out of a heap. -/
def unP : List AEnt → Option (List Pr)
  | [] => some []
  | e :: es => match e.key, e.val, unP es with
    | .agg cs, .bool b, some l => match cs.toList with
      | [.int .u64 x, .int .u64 y] => some (⟨(x, y), b, e.born⟩ :: l)
      | _ => none
    | _, _, _ => none
theorem unP_mk : ∀ {es : List AEnt} {l : List Pr}, unP es = some l → es = mkK encP (l.map Pr.ent)
  | [], l, h => by simp only [unP, Option.some.injEq] at h; subst h; rfl
  | e :: es, l, h => by
    simp only [unP] at h
    split at h
    · rename_i cs b l0 h1 h2 h3
      split at h
      · rename_i x y hc
        cases h
        rw [unP_mk h3]
        cases e
        simp only at h1 h2
        subst h1 h2
        have : cs = #[.int .u64 x, .int .u64 y] := Array.toList_inj.1 hc
        subst this; rfl
      · cases h
    · cases h
def nodupB {α : Type} [DecidableEq α] : List α → Bool
  | [] => true
  | x :: l => !decide (x ∈ l) && nodupB l
theorem nodupB_ok {α : Type} [DecidableEq α] : ∀ {l : List α}, nodupB l = true → l.Nodup
  | [], _ => List.nodup_nil
  | x :: l, h => by
    simp only [nodupB, Bool.and_eq_true, Bool.not_eq_true', decide_eq_false_iff_not] at h
    exact List.nodup_cons.2 ⟨h.1, nodupB_ok h.2⟩
def depsAt (h : AHeap) (r : Nat) : Option DS :=
  match h.get r with
  | some (.cells [.map (some m)] 1) => match h.get m with
    | some (.map es clock) => match unP es with
      | some l => bif (Nat.ble (r + 1) h.next && Nat.ble (m + 1) h.next && !Nat.beq r m) && (l.all (fun p => Nat.ble (p.born + 1) clock) && (nodupB (l.map Pr.born) && nodupB (l.map Pr.key))) then some ⟨l, clock, m⟩ else none
      | none => none
    | _ => none
  | _ => none
theorem depsAt_ok {h : AHeap} {r : Nat} {S : DS} (hs : depsAt h r = some S) : DA h r S := by
  unfold depsAt at hs
  split at hs
  · rename_i m hr
    split at hs
    · rename_i es clock hm
      split at hs
      · rename_i l hl
        cases hb : (Nat.ble (r + 1) h.next && Nat.ble (m + 1) h.next && !Nat.beq r m) && (l.all (fun p => Nat.ble (p.born + 1) clock) && (nodupB (l.map Pr.born) && nodupB (l.map Pr.key)))
        · rw [hb, cond_false] at hs; cases hs
        · rw [hb, cond_true] at hs
          cases hs
          simp only [Bool.and_eq_true, Bool.not_eq_true'] at hb
          obtain ⟨⟨⟨b1, b2⟩, b3⟩, b4, b5, b6⟩ := hb
          have b3' : ¬ r = m := fun e => by rw [e, Nat.beq_refl] at b3; cases b3
          refine ⟨Nat.le_of_ble_eq_true b1, Nat.le_of_ble_eq_true b2, b3', hr, by rw [← unP_mk hl]; exact hm, fun p hp => Nat.le_of_ble_eq_true (List.all_eq_true.1 b4 p hp), nodupB_ok b5, nodupB_ok b6⟩
      · cases hs
    · cases hs
  · cases hs
theorem bo_map (n : Nat) (ps : List Pr) (clock : Nat) : BO n (.map (mkK encP (ps.map Pr.ent)) clock) := by
  intro e he
  obtain ⟨x, hx, rfl⟩ := List.mem_map.1 he
  obtain ⟨p, hp, rfl⟩ := List.mem_map.1 hx
  exact BV.flat rfl
theorem set_rows {h h' : AHeap} {r : Nat} {S S' : DS} (hm : S'.m = S.m) (hA : DA h r S) (hA' : DA h' r S') (hF : FrD h h' S) : ∀ z o, (h.set S.m (.map (mkK encP (S'.ps.map Pr.ent)) S'.clock)).get z = some o →
    (h.get z = some o ∧ (z < h.next → h'.get z = some o)) ∨ (z < h.next ∧ h'.get z = some o ∧ BO h.next o) := by
  intro z o hz
  rw [AHeap.get_set] at hz
  split at hz
  · rename_i e; subst e
    cases hz
    exact .inr ⟨hA.mlt, by rw [← hm]; exact hA'.map, bo_map _ _ _⟩
  · rename_i e
    exact .inl ⟨hz, fun hl => by rw [hF.2 z hl e]; exact hz⟩
theorem logged_e (h : AHeap) (r : Nat) (S : DS) (hA : DA h r S) (ts : Int) :
    FWp Try.prog 13 [P0 r, U64 ts] h fun u h' => u = .tuple #[] ∧ h' = h.set S.m (.map (mkK encP ((S.ps.filter (fun p => !decide (p.key.2 = ts))).map Pr.ent)) S.clock) :=
  FWp.gcE (logged_c h r S hA ts) fun u h' ⟨e, hA', hF⟩ => ⟨by rw [e]; exact BV.flat rfl, h.set S.m (.map (mkK encP ((S.ps.filter (fun p => !decide (p.key.2 = ts))).map Pr.ent)) S.clock), rfl, set_rows (S := S) (S' := ⟨S.ps.filter (fun p => !decide (p.key.2 = ts)), S.clock, S.m⟩) rfl hA hA' hF, e, rfl⟩

/-! Who goes along, by rounds. -/
def grow : List Pr → List Int → List Int
  | [], G => G
  | p :: ps, G => grow ps (bif p.hangs && (decide (p.key.2 ∈ G) && !decide (p.key.1 ∈ G)) then G ++ [p.key.1] else G)
def rounds (ps : List Pr) : Nat → List Int → List Int
  | 0, G => G
  | n + 1, G => rounds ps n (grow ps G)
theorem grow_re {all : List Pr} {ts : Int} : ∀ {ps : List Pr} {G : List Int}, (∀ p ∈ ps, p ∈ all) → (∀ y ∈ G, Reach all ts y) → G.Nodup → (∀ y ∈ grow ps G, Reach all ts y) ∧ (grow ps G).Nodup
  | [], G, _, h, hn => ⟨h, hn⟩
  | p :: ps, G, hs, h, hn => by
    simp only [grow]
    cases hb : p.hangs && (decide (p.key.2 ∈ G) && !decide (p.key.1 ∈ G))
    · rw [cond_false]; exact grow_re (fun q hq => hs q (List.mem_cons_of_mem _ hq)) h hn
    · rw [cond_true]
      simp only [Bool.and_eq_true, decide_eq_true_eq, Bool.not_eq_true', decide_eq_false_iff_not] at hb
      refine grow_re (fun q hq => hs q (List.mem_cons_of_mem _ hq)) (fun y hy => ?_) (List.nodup_append.2 ⟨hn, by simp, fun a ha b hb' => ?_⟩)
      · rcases List.mem_append.1 hy with h9 | h9
        · exact h y h9
        · simp at h9; subst h9; exact (h _ hb.2.1).step (hs p List.mem_cons_self) hb.1 rfl
      · simp at hb'; subst hb'; rintro rfl; exact hb.2.2 ha
theorem rounds_re {ps : List Pr} {ts : Int} : ∀ {n : Nat} {G : List Int}, (∀ y ∈ G, Reach ps ts y) → G.Nodup → (∀ y ∈ rounds ps n G, Reach ps ts y) ∧ (rounds ps n G).Nodup
  | 0, G, h, hn => ⟨h, hn⟩
  | n + 1, G, h, hn => by
    obtain ⟨a, b⟩ := grow_re (ps := ps) (fun _ h => h) h hn
    exact rounds_re (n := n) (G := grow ps G) a b
def closedB (ps : List Pr) (G : List Int) : Bool := ps.all fun p => !(p.hangs && decide (p.key.2 ∈ G)) || decide (p.key.1 ∈ G)
theorem closed_re {ps : List Pr} {ts : Int} {G : List Int} (h0 : ts ∈ G) (hc : closedB ps G = true) {y : Int} (hy : Reach ps ts y) : y ∈ G := by
  induction hy with
  | refl => exact h0
  | step hr hp hh ho ih =>
    have := List.all_eq_true.1 hc _ hp
    simp only [hh, Bool.true_and, Bool.or_eq_true, Bool.not_eq_true', decide_eq_false_iff_not, decide_eq_true_eq] at this
    rcases this with h9 | h9
    · exact (h9 (ho ▸ ih)).elim
    · exact h9
theorem sorted_eq : ∀ {a b : List Int}, a.Pairwise (· < ·) → b.Pairwise (· < ·) → (∀ y, y ∈ a ↔ y ∈ b) → a = b
  | [], [], _, _, _ => rfl
  | [], y :: b, _, _, h => by have := (h y).2 List.mem_cons_self; cases this
  | x :: a, [], _, _, h => by have := (h x).1 List.mem_cons_self; cases this
  | x :: a, y :: b, ha, hb, h => by
    have ha' := List.pairwise_cons.1 ha
    have hb' := List.pairwise_cons.1 hb
    have e : x = y := by
      have h1 := (h x).1 List.mem_cons_self
      have h2 := (h y).2 List.mem_cons_self
      cases h1 with
      | head => rfl
      | tail _ h1 =>
        cases h2 with
        | head => rfl
        | tail _ h2 => have a1 := ha'.1 y h2; have a2 := hb'.1 x h1; omega
    subst e
    congr 1
    refine sorted_eq ha'.2 hb'.2 fun z => ⟨fun hz => ?_, fun hz => ?_⟩
    · have := (h z).1 (List.mem_cons_of_mem _ hz)
      cases this with
      | head => have := ha'.1 _ hz; omega
      | tail _ h9 => exact h9
    · have := (h z).2 (List.mem_cons_of_mem _ hz)
      cases this with
      | head => have := hb'.1 _ hz; omega
      | tail _ h9 => exact h9
/-- Who goes along, rising. -/
def alongL (ps : List Pr) (ts : Int) : List Int := SortU.isI ((rounds ps (ps.length + 1) [ts]).filter fun y => !decide (y = ts))
theorem along_ok {h h' : AHeap} {r : Nat} {S : DS} {ts : Int} {u : Value} {G : List Int} (hg : GoneR h h' r S ts u G) (hc : closedB S.ps (rounds S.ps (S.ps.length + 1) [ts]) = true) (h0 : ts ∈ rounds S.ps (S.ps.length + 1) [ts]) : G = alongL S.ps ts := by
  obtain ⟨a, b⟩ := rounds_re (ps := S.ps) (ts := ts) (n := S.ps.length + 1) (G := [ts]) (fun y hy => by simp at hy; subst hy; exact .refl) (by simp)
  have hp := SortU.isI_perm ((rounds S.ps (S.ps.length + 1) [ts]).filter fun y => !decide (y = ts))
  refine sorted_eq hg.sorted (lt_of_sorted (SortU.isI_sorted _) (hp.nodup_iff.2 (b.filter _))) fun y => ?_
  unfold alongL
  rw [hp.mem_iff, List.mem_filter]
  have h1 := hg.reach y
  constructor
  · intro hy
    have hr := h1.1 (List.mem_cons_of_mem _ hy)
    refine ⟨closed_re h0 hc hr, ?_⟩
    simp; rintro rfl; exact hg.nts hy
  · rintro ⟨hy, hne⟩
    have := h1.2 (a y hy)
    cases this with
    | head => simp at hne
    | tail _ h9 => exact h9
def goneH (h : AHeap) (S : DS) (ts : Int) (G : List Int) : AHeap := h.set S.m (.map (mkK encP ((S.ps.filter (fun p => !inG ts G p)).map Pr.ent)) S.clock)
theorem gone_e (h : AHeap) (r : Nat) (S : DS) (hA : DA h r S) (ts : Int) (hbig : S.ps.length ≤ 1000000) (hc : closedB S.ps (rounds S.ps (S.ps.length + 1) [ts]) = true) (h0 : ts ∈ rounds S.ps (S.ps.length + 1) [ts]) :
    FWp Try.prog 16 [P0 r, U64 ts] h fun u h' => (alongL S.ps ts = [] ∧ u = .slice none 0 0 ∧ h' = goneH h S ts (alongL S.ps ts)) ∨ (alongL S.ps ts ≠ [] ∧ u = .slice (some ⟨h.next, 0, none⟩) (alongL S.ps ts).length 0 ∧ h' = (goneH h S ts (alongL S.ps ts)).new (.cells ((alongL S.ps ts).map (Value.int .u64)) 1)) := by
  have hg := gone_c h r S hA ts hbig
  by_cases hn : alongL S.ps ts = []
  · refine FWp.mono (FWp.gcE (K := fun u h' => u = .slice none 0 0 ∧ h' = goneH h S ts (alongL S.ps ts)) hg fun u h' ⟨G, hG⟩ => ?_) fun u h' hu => .inl ⟨hn, hu⟩
    have e := along_ok hG hc h0
    rw [hn] at e
    subst e
    rw [hn]
    have hu : u = .slice none 0 0 := by
      have := hG.out
      cases this with
      | none e => rfl
      | some ne _ _ _ _ => exact (ne rfl).elim
    exact ⟨by rw [hu]; exact BV.flat rfl, goneH h S ts [], rfl, set_rows (S := S) (S' := ⟨S.ps.filter (fun p => !inG ts [] p), S.clock, S.m⟩) rfl hA hG.da hG.fr, hu, rfl⟩
  · refine FWp.mono (gcX (H := goneH h S ts (alongL S.ps ts)) (n := (alongL S.ps ts).length) (o := .cells ((alongL S.ps ts).map (Value.int .u64)) 1) rfl (fun v hv => ?_) (hg.mono fun u h' ⟨G, hG⟩ => ?_)) fun u h' hu => .inr ⟨hn, hu⟩
    · obtain ⟨x, _, rfl⟩ := List.mem_map.1 hv; exact BV.flat rfl
    · have e := along_ok hG hc h0
      subst e
      have := hG.out
      cases this with
      | none e => exact (hn e).elim
      | some ne e hlo hx hg => subst e; exact ⟨_, rfl, hlo, hg, set_rows (S := S) (S' := ⟨S.ps.filter (fun p => !inG ts (alongL S.ps ts) p), S.clock, S.m⟩) rfl hA hG.da hG.fr⟩

def goneAt (h : AHeap) (S : DS) (ts : Int) : Option (Value × AHeap) :=
  bif (closedB S.ps (rounds S.ps (S.ps.length + 1) [ts]) && decide (ts ∈ rounds S.ps (S.ps.length + 1) [ts])) && Nat.ble S.ps.length 1000000 then
    match alongL S.ps ts with
    | [] => some (.slice none 0 0, goneH h S ts [])
    | x :: l => some (.slice (some ⟨h.next, 0, none⟩) (x :: l).length 0, (goneH h S ts (x :: l)).new (.cells ((x :: l).map (Value.int .u64)) 1))
  else none
def depsS (f : FuncId) (args : List Value) (h : AHeap) : Option (Value × AHeap) :=
  match args with
  | [.pointer (some ⟨r, 0, none⟩), .int .u64 ts] =>
    bif Nat.beq f 20 then match depsAt h r with
      | some S => some (.bool (!(S.ps.any fun p => decide (p.key.1 = ts))), h)
      | none => none
    else bif Nat.beq f 13 then match depsAt h r with
      | some S => some (.tuple #[], h.set S.m (.map (mkK encP ((S.ps.filter (fun p => !decide (p.key.2 = ts))).map Pr.ent)) S.clock))
      | none => none
    else bif Nat.beq f 16 then match depsAt h r with
      | some S => goneAt h S ts
      | none => none
    else none
  | _ => none
theorem depsS_ok (f : FuncId) (args : List Value) (h : AHeap) (v : Value) (h' : AHeap) (hk : depsS f args h = some (v, h')) : (∃ fn, Entered Try.prog f fn) ∧ FWp Try.prog f args h fun x y => x = v ∧ y = h' := by
  unfold depsS at hk
  split at hk
  · rename_i r ts
    cases h1 : Nat.beq f 20
    · rw [h1, cond_false] at hk
      cases h2 : Nat.beq f 13
      · rw [h2, cond_false] at hk
        cases h3 : Nat.beq f 16
        · rw [h3, cond_false] at hk; cases hk
        · rw [h3, cond_true] at hk
          obtain rfl := Nat.eq_of_beq_eq_true h3
          refine ⟨⟨_, en16⟩, ?_⟩
          split at hk
          · rename_i S hS
            unfold goneAt at hk
            cases hb : (closedB S.ps (rounds S.ps (S.ps.length + 1) [ts]) && decide (ts ∈ rounds S.ps (S.ps.length + 1) [ts])) && Nat.ble S.ps.length 1000000
            · rw [hb, cond_false] at hk; cases hk
            · rw [hb, cond_true] at hk
              simp only [Bool.and_eq_true, decide_eq_true_eq] at hb
              refine (gone_e h r S (depsAt_ok hS) ts (Nat.le_of_ble_eq_true hb.2) hb.1.1 hb.1.2).mono ?_
              split at hk
              · rename_i e
                simp only [Option.some.injEq, Prod.mk.injEq] at hk
                rintro x y (⟨_, rfl, rfl⟩ | ⟨hne, _⟩)
                · rw [e]; exact hk
                · exact (hne e).elim
              · rename_i z l e
                simp only [Option.some.injEq, Prod.mk.injEq] at hk
                rintro x y (⟨hne, _⟩ | ⟨_, rfl, rfl⟩)
                · rw [e] at hne; cases hne
                · rw [e]; exact hk
          · cases hk
      · rw [h2, cond_true] at hk
        obtain rfl := Nat.eq_of_beq_eq_true h2
        refine ⟨⟨_, en13⟩, ?_⟩
        split at hk
        · rename_i S hS
          simp only [Option.some.injEq, Prod.mk.injEq] at hk
          obtain ⟨rfl, rfl⟩ := hk
          exact logged_e h r S (depsAt_ok hS) ts
        · cases hk
    · rw [h1, cond_true] at hk
      obtain rfl := Nat.eq_of_beq_eq_true h1
      refine ⟨⟨_, en20⟩, ?_⟩
      split at hk
      · rename_i S hS
        simp only [Option.some.injEq, Prod.mk.injEq] at hk
        obtain ⟨rfl, rfl⟩ := hk
        exact ready_c h r S (depsAt_ok hS) ts
      · cases hk
  · cases hk
noncomputable def envD : Env := { envOf Try.prog 116 76 with S := depsS }
theorem envD_ok : EnvOK envD := ⟨tyOK_of Try.prog 116, (by kernel_rfl), fnOK_of Try.prog 76, depsS_ok⟩
set_option maxRecDepth 1000000 in
theorem worksRan : Ab.isTrue (Ab.evCall envD (Ab.ev envD 1000) 22 [] ⟨0, .leaf⟩) = true := by kernel_rfl
theorem works_c (h : AHeap) : FWp Try.prog 22 [] h fun u h' => u = .bool true ∧ h' = h :=
  FWp.ofClosed rfl (fun w => closed_true envD_ok 1000 worksRan w)
end Go.Proofs.Ytfbfihfmlenklaa
