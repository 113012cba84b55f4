/-
  The plain law of PostSure, with no program in sight.
-/
import Derived.Test.YthjeoohlknajpaaPostH
import Derived.Test.YthjeoohlknajpaaPostJ
namespace Go.Proofs.Ythjeoohlknajpaa
open Go.Ab
set_option linter.unusedSimpArgs false
set_option linter.unusedVariables false

/-- Behind Due, and behind some acknowledgements of what was due. -/
def pt (now : Int) : Nat → List Bool → List Op → List Op
  | _, _, [] => []
  | 0, _, o :: l => o :: l
  | w + 1, bs, o :: l => bif o.acked then o :: pt now (w + 1) bs l else bif dueb now o then
      (match bs with
      | [] => stamp now o :: pt now w [] l
      | b :: bs => { stamp now o with acked := b } :: pt now w bs l) else o :: pt now w bs l
/-- Behind Due, and behind the acknowledgements of all that was due. -/
def rnd (now : Int) : Nat → List Op → List Op
  | _, [] => []
  | 0, o :: l => o :: l
  | w + 1, o :: l => bif o.acked then o :: rnd now (w + 1) l else bif dueb now o then { stamp now o with acked := true } :: rnd now w l else o :: rnd now w l
theorem pt_zero (now : Int) (bs : List Bool) (l : List Op) : pt now 0 bs l = l := by cases l <;> rfl
theorem stamp_no {now : Int} {o : Op} (h : dueb now o = false) : stamp now o = o := by simp [stamp, h]
theorem pt_nil (now : Int) : ∀ (w : Nat) (l : List Op), pt now w [] l = sn now w l
  | 0, l => by rw [pt_zero, sn_zero]
  | w + 1, [] => rfl
  | w + 1, o :: l => by
    simp only [pt, sn]
    cases o.acked
    · cases hd : dueb now o
      · simp [pt_nil now w l, stamp_no hd]
      · simp [pt_nil now w l]
    · simp [pt_nil now (w + 1) l]
theorem pt_all (now : Int) : ∀ (w : Nat) (bs : List Bool) (l : List Op), (∀ b ∈ bs, b = true) → (dl now w l).length ≤ bs.length → pt now w bs l = rnd now w l
  | 0, bs, l, _, _ => by rw [pt_zero]; cases l <;> rfl
  | w + 1, bs, [], _, _ => rfl
  | w + 1, bs, o :: l, hb, hl => by
    simp only [pt, rnd]
    simp only [dl] at hl
    cases ha : o.acked
    · rw [ha] at hl
      cases hd : dueb now o
      · rw [hd] at hl
        simp at hl
        simp [pt_all now w bs l hb hl]
      · rw [hd] at hl
        simp at hl
        cases bs with
        | nil => simp at hl
        | cons b bs =>
          have : b = true := hb b List.mem_cons_self
          subst this
          simp at hl
          simp [pt_all now w bs l (fun b hm => hb b (List.mem_cons_of_mem _ hm)) (by omega)]
    · rw [ha] at hl
      simp at hl
      simp [pt_all now (w + 1) bs l hb hl]
theorem pt_len (now : Int) : ∀ (w : Nat) (bs : List Bool) (l : List Op), (pt now w bs l).length = l.length
  | 0, bs, l => by rw [pt_zero]
  | w + 1, bs, [] => rfl
  | w + 1, bs, o :: l => by
    simp only [pt]
    cases o.acked <;> cases dueb now o <;> cases bs <;> simp [pt_len now]
/-- One more of what was due is acknowledged, or not. -/
theorem pt_step (now : Int) : ∀ (w : Nat) (bs : List Bool) (l : List Op) (o : Op), (dl now w l)[bs.length]? = some o →
    ∃ i x, l[i]? = some o ∧ (pt now w bs l)[i]? = some x ∧ x.acked = false ∧ x.lsn = o.lsn ∧ (pt now w bs l).set i { x with acked := true } = pt now w (bs ++ [true]) l ∧ pt now w (bs ++ [false]) l = pt now w bs l
  | 0, bs, l, o, h => by rw [dl_zero] at h; simp at h
  | w + 1, bs, [], o, h => by simp [dl] at h
  | w + 1, bs, p :: l, o, h => by
    simp only [dl] at h
    simp only [pt]
    cases ha : p.acked
    · rw [ha] at h
      cases hd : dueb now p
      · rw [hd] at h
        simp at h
        obtain ⟨i, x, h1, h2, h3, h4, h5, h6⟩ := pt_step now w bs l o h
        exact ⟨i + 1, x, by simpa using h1, by simpa using h2, h3, h4, by simp [h5], by simp [h6]⟩
      · rw [hd] at h
        cases bs with
        | nil =>
          simp at h
          subst h
          refine ⟨0, stamp now p, by simp, by simp, by simp [stamp, hd, ha], by simp [stamp, hd], ?_, ?_⟩
          · simp
          · have e : { stamp now p with acked := false } = stamp now p := by
              have : (stamp now p).acked = false := by simp [stamp, hd, ha]
              rw [← this]
            simp [e]
        | cons b bs =>
          simp at h
          obtain ⟨i, x, h1, h2, h3, h4, h5, h6⟩ := pt_step now w bs l o h
          exact ⟨i + 1, x, by simpa using h1, by simpa using h2, h3, h4, by simp [h5], by simp [h6]⟩
    · rw [ha] at h
      simp at h
      obtain ⟨i, x, h1, h2, h3, h4, h5, h6⟩ := pt_step now (w + 1) bs l o h
      exact ⟨i + 1, x, by simpa using h1, by simpa using h2, h3, h4, by simp [h5], by simp [h6]⟩
theorem dl_len (now : Int) : ∀ (w : Nat) (l : List Op), (dl now w l).length ≤ w
  | 0, l => by rw [dl_zero]; simp
  | w + 1, [] => by simp [dl]
  | w + 1, o :: l => by
    simp only [dl]
    have h1 := dl_len now w l
    have h2 := dl_len now (w + 1) l
    cases o.acked <;> cases dueb now o <;> simp <;> omega
/-- The numbers stay. -/
theorem pt_lsn (now : Int) : ∀ (w : Nat) (bs : List Bool) (l : List Op), (pt now w bs l).map Op.lsn = l.map Op.lsn
  | 0, bs, l => by rw [pt_zero]
  | w + 1, bs, [] => rfl
  | w + 1, bs, o :: l => by
    simp only [pt]
    cases o.acked <;> cases hd : dueb now o <;> cases bs <;> simp [pt_lsn now, stamp, hd]
/-- Times are at most now. -/
def Ats (now : Int) (l : List Op) : Prop := ∀ o ∈ l, 0 ≤ o.at_ ∧ o.at_ ≤ now
theorem pt_ats {now : Int} (h0 : 0 ≤ now) : ∀ (w : Nat) (bs : List Bool) (l : List Op), Ats now l → Ats now (pt now w bs l)
  | 0, bs, l, h => by rw [pt_zero]; exact h
  | w + 1, bs, [], h => h
  | w + 1, bs, o :: l, h => by
    have h1 : Ats now l := fun x hx => h x (List.mem_cons_of_mem _ hx)
    have h2 := h o List.mem_cons_self
    have hs : 0 ≤ (stamp now o).at_ ∧ (stamp now o).at_ ≤ now := by
      unfold stamp; cases dueb now o <;> simp <;> omega
    simp only [pt]
    cases o.acked
    · cases dueb now o
      · intro x hx; simp at hx
        rcases hx with rfl | hx
        · exact h2
        · exact pt_ats h0 w bs l h1 x hx
      · cases bs with
        | nil =>
          intro x hx; simp at hx
          rcases hx with rfl | hx
          · exact hs
          · exact pt_ats h0 w [] l h1 x hx
        | cons b bs =>
          intro x hx; simp at hx
          rcases hx with rfl | hx
          · exact hs
          · exact pt_ats h0 w bs l h1 x hx
    · intro x hx; simp at hx
      rcases hx with rfl | hx
      · exact h2
      · exact pt_ats h0 (w + 1) bs l h1 x hx
theorem lead_lt : ∀ {l : List Op} {i : Nat} {x : Op}, l[i]? = some x → x.acked = false → lead l ≤ i
  | o :: l, 0, x, h, ha => by simp at h; subst h; simp [lead, ha]
  | o :: l, i + 1, x, h, ha => by
    simp at h
    have := lead_lt h ha
    simp only [lead]; cases o.acked <;> simp; omega

/-! Rounds. -/
/-- The first k that wait would be due at m. -/
def Dn (m : Int) : Nat → List Op → Prop
  | 0, _ => True
  | _ + 1, [] => True
  | k + 1, o :: l => if o.acked = true then Dn m (k + 1) l else dueb m o = true ∧ Dn m k l
theorem dn_zero (m : Int) (l : List Op) : Dn m 0 l := by cases l <;> trivial
theorem dn_any {now m : Int} (hm : now + 8 ≤ m) : ∀ (k : Nat) (l : List Op), Ats now l → Dn m k l
  | 0, l, _ => dn_zero m l
  | k + 1, [], _ => trivial
  | k + 1, o :: l, h => by
    have h1 : Ats now l := fun x hx => h x (List.mem_cons_of_mem _ hx)
    have h2 := h o List.mem_cons_self
    simp only [Dn]
    split
    · exact dn_any hm (k + 1) l h1
    · exact ⟨by simp [dueb]; right; omega, dn_any hm k l h1⟩
theorem dn_le {m : Int} : ∀ {k k' : Nat} {l : List Op}, k ≤ k' → Dn m k' l → Dn m k l
  | 0, _, l, _, _ => dn_zero m l
  | k + 1, 0, l, h, _ => by omega
  | k + 1, k' + 1, [], _, _ => trivial
  | k + 1, k' + 1, o :: l, h, hd => by
    simp only [Dn] at hd ⊢
    split
    · rename_i ha; rw [if_pos ha] at hd; exact dn_le h hd
    · rename_i ha; rw [if_neg ha] at hd; exact ⟨hd.1, dn_le (by omega) hd.2⟩
theorem rnd_cnt (now : Int) : ∀ (w : Nat) (l : List Op), cnt (rnd now w l) ≤ cnt l
  | 0, l => by cases l <;> simp [rnd]
  | w + 1, [] => by simp [rnd]
  | w + 1, o :: l => by
    have h1 := rnd_cnt now w l
    have h2 := rnd_cnt now (w + 1) l
    simp only [rnd]
    cases ha : o.acked <;> cases hd : dueb now o <;> simp [cnt, ha] <;> omega
theorem rnd_step (now m : Int) : ∀ (w k : Nat) (l : List Op), k ≤ w → Dn m k l → ∃ k', k' ≤ k ∧ Dn m k' (rnd now w l) ∧ cnt (rnd now w l) + (k - k') ≤ cnt l
  | w, 0, l, _, _ => ⟨0, Nat.le_refl _, dn_zero _ _, by simpa using rnd_cnt now w l⟩
  | 0, k + 1, l, h, _ => by omega
  | w + 1, k + 1, [], _, _ => ⟨k + 1, Nat.le_refl _, trivial, by simp [rnd]⟩
  | w + 1, k + 1, o :: l, hk, hd => by
    simp only [Dn] at hd
    simp only [rnd]
    cases ha : o.acked
    · rw [ha] at hd
      simp at hd
      obtain ⟨k', h1, h2, h3⟩ := rnd_step now m w k l (by omega) hd.2
      cases hb : dueb now o
      · refine ⟨k' + 1, by omega, ?_, ?_⟩
        · simp [Dn, ha, hd.1, h2]
        · simp [cnt, ha]; omega
      · refine ⟨k', by omega, ?_, ?_⟩
        · cases k' with
          | zero => exact dn_zero _ _
          | succ k' => simp [Dn, h2]
        · simp [cnt, ha]; omega
    · rw [ha] at hd
      simp at hd
      obtain ⟨k', h1, h2, h3⟩ := rnd_step now m (w + 1) (k + 1) l hk hd
      refine ⟨k', h1, ?_, ?_⟩
      · cases k' with
        | zero => exact dn_zero _ _
        | succ k' => simp [Dn, ha, h2]
      · simp [cnt, ha]; omega
theorem rnd_last (m : Int) : ∀ (w k : Nat) (l : List Op), k ≤ w → Dn m k l → k ≤ cnt l → cnt (rnd m w l) + k ≤ cnt l
  | w, 0, l, _, _, _ => by simpa using rnd_cnt m w l
  | 0, k + 1, l, h, _, _ => by omega
  | w + 1, k + 1, [], _, _, h => by simp [cnt] at h
  | w + 1, k + 1, o :: l, hk, hd, hc => by
    simp only [Dn] at hd
    simp only [rnd]
    simp only [cnt] at hc
    cases ha : o.acked
    · rw [ha] at hd hc
      simp at hd hc
      have := rnd_last m w k l (by omega) hd.2 (by omega)
      simp [cnt, ha, hd.1]; omega
    · rw [ha] at hd hc
      simp at hd hc
      have := rnd_last m (w + 1) (k + 1) l hk hd (by omega)
      simp [cnt, ha]; omega
/-- Within rem rounds all are acknowledged. -/
def Inv (now : Int) (l : List Op) (rem : Nat) : Prop := ∃ (d k C : Nat), Dn (now + d) k l ∧ k ≤ 8 ∧ (d = 0 → k = 0) ∧ k ≤ cnt l ∧ cnt l ≤ C + k ∧ d + 8 * ((C + 7) / 8) ≤ rem
theorem Inv.start (now : Int) (l : List Op) : Inv now l (8 * ((cnt l + 7) / 8)) := ⟨0, 0, cnt l, dn_zero _ _, by omega, fun _ => rfl, by omega, by omega, by omega⟩
theorem Inv.done {now : Int} {l : List Op} (h : Inv now l 0) : cnt l = 0 := by
  obtain ⟨d, k, C, h1, h2, h3, h4, h5, h6⟩ := h
  have : d = 0 := by omega
  have := h3 this
  omega
theorem Inv.round {now : Int} {l : List Op} {rem : Nat} (ha : Ats now l) (h : Inv now l rem) : Inv (now + 1) (rnd (now + 1) 8 l) (rem - 1) := by
  have core : ∀ d k C, Dn (now + (d + 1 : Nat)) k l → k ≤ 8 → k ≤ cnt l → cnt l ≤ C + k → d + 1 + 8 * ((C + 7) / 8) ≤ rem → Inv (now + 1) (rnd (now + 1) 8 l) (rem - 1) := by
    intro d k C h1 h2 h4 h5 h6
    cases d with
    | zero =>
      have := rnd_last (now + 1) 8 k l h2 (by simpa using h1) h4
      exact ⟨0, 0, C, dn_zero _ _, by omega, fun _ => rfl, by omega, by omega, by omega⟩
    | succ d =>
      obtain ⟨k', g1, g2, g3⟩ := rnd_step (now + 1) (now + (d + 1 + 1 : Nat)) 8 k l h2 h1
      by_cases hk : k' ≤ cnt (rnd (now + 1) 8 l)
      · refine ⟨d + 1, k', C, ?_, by omega, by omega, hk, by omega, by omega⟩
        have e : now + 1 + ((d + 1 : Nat) : Int) = now + (d + 1 + 1 : Nat) := by omega
        rw [e]; exact g2
      · refine ⟨d + 1, cnt (rnd (now + 1) 8 l), C, ?_, by omega, by omega, Nat.le_refl _, by omega, by omega⟩
        have e : now + 1 + ((d + 1 : Nat) : Int) = now + (d + 1 + 1 : Nat) := by omega
        rw [e]; exact dn_le (by omega) g2
  obtain ⟨d, k, C, h1, h2, h3, h4, h5, h6⟩ := h
  cases d with
  | succ d => exact core d k C h1 h2 h4 h5 h6
  | zero =>
    have k0 := h3 rfl
    subst k0
    by_cases hC : C = 0
    · have := rnd_cnt (now + 1) 8 l
      exact ⟨0, 0, 0, dn_zero _ _, by omega, fun _ => rfl, by omega, by omega, by omega⟩
    · refine core 7 (min 8 (cnt l)) (C - 8) (dn_any (by omega) _ l ha) (by omega) (by omega) (by omega) (by omega)
end Go.Proofs.Ythjeoohlknajpaa
