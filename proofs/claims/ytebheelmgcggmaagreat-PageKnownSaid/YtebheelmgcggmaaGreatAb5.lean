/-
  The operations of a program under the view: slices.
-/
import Derived.Test.YtebheelmgcggmaaGreatAb4
import Derived.Laws.BytesString
namespace Go.Ab
set_option linter.unusedSimpArgs false
set_option linter.unusedVariables false
section ops
variable {P : Program} {T : Tr TI} {μ : Emb} {h h' : AHeap} {w : World}
noncomputable def zeros (z : List Value) : Nat → List Value
  | 0 => []
  | n + 1 => z ++ zeros z n
theorem zeros_length (z : List Value) : ∀ n, (zeros z n).length = n * z.length
  | 0 => by simp [zeros]
  | n + 1 => by simp [zeros, zeros_length z n, Nat.add_mul]; omega
theorem zeros_get (z : List Value) : ∀ (n i : Nat), i < n * z.length → (zeros z n)[i]? = z[i % z.length]?
  | 0, i, h => by simp at h
  | n + 1, i, h => by
    simp only [zeros]
    by_cases hi : i < z.length
    · rw [List.getElem?_append_left hi, Nat.mod_eq_of_lt hi]
    · rw [List.getElem?_append_right (by omega), zeros_get z n (i - z.length) (by rw [Nat.add_mul] at h; omega)]
      congr 1
      exact (Nat.mod_eq_sub_mod (by omega)).symm
theorem zeros_flat {z : List Value} (hz : z.all flat1 = true) : ∀ n, (zeros z n).all flat1 = true
  | 0 => rfl
  | n + 1 => by simp only [zeros, List.all_append, hz, zeros_flat hz n, Bool.and_self]
theorem zeros_eq (z : Array Value) (n : Nat) : ((Array.range (n * z.size)).map fun i => z[i % z.size]!).toList = zeros z.toList n := by
  apply List.ext_getElem?
  intro i
  by_cases hi : i < n * z.size
  · rw [zeros_get _ _ _ (by simpa using hi)]
    have hpos : 0 < z.size := by
      rcases Nat.eq_zero_or_pos z.size with h | h
      · rw [h] at hi; simp at hi
      · exact h
    have hm : i % z.size < z.size := Nat.mod_lt _ hpos
    simp [hi, hm, getElem!_pos]
  · rw [List.getElem?_eq_none (l := zeros z.toList n) (by rw [zeros_length]; simpa using hi), List.getElem?_eq_none (by simpa using hi)]
theorem zeros_pick (z : Array Value) (n s : Nat) (hzs : z.size = s) : ∃ zz : Array Value, (n * s = 0 → zz = #[]) ∧ (¬ n * s = 0 → zz = z) ∧
    ((Array.range (n * s)).map (fun i => zz[i % zz.size]!)).toList = zeros z.toList n := by
  by_cases h0 : n * s = 0
  · refine ⟨#[], fun _ => rfl, fun h => (h h0).elim, ?_⟩
    have : (zeros z.toList n).length = 0 := by rw [zeros_length, Array.length_toList, hzs]; exact h0
    rw [List.length_eq_zero_iff.1 this]; simp [h0]
  · refine ⟨z, fun h => (h0 h).elim, fun _ => rfl, ?_⟩
    rw [← hzs]; exact zeros_eq _ _
noncomputable def aBuildSlice (T : Tr TI) (t : TypeId) (len : Nat) (parts : List (Nat × Value)) (h : AHeap) : Option (Value × AHeap) :=
  match T.get t with
  | some ti => match ti.und with
    | .slice elem => match T.get elem with
      | some ei => match ei.zero with
        | some z => bif z.cells.toList.all flat1 && (Nat.ble (len * ei.size) 16777216 && Nat.beq z.cells.size ei.size) then
            match fillL (fun i => some (i * ei.size, ei.size)) (zeros z.cells.toList len) parts with
            | some r => some (.slice (some ⟨h.next, 0, none⟩) len (len + 1), h.new (.cells r ei.size))
            | none => none
          else none
        | none => none
      | none => none
    | _ => none
  | none => none
theorem buildSlice_good (ok : TyOK P T) (st : StRel μ h w) {t : TypeId} {len : Nat} {ps : List (Nat × Value)} {ps' : Array (Nat × Value)} {v : Value} (hp : PRel μ h.next ps ps'.toList)
    (ha : aBuildSlice T t len ps h = some (v, h')) : GoodV P μ h w (Instr.buildSlice t len ps') v h' := by
  unfold aBuildSlice at ha
  split at ha
  · rename_i ti ht
    split at ha
    · rename_i elem hu
      split at ha
      · rename_i ei he
        split at ha
        · rename_i z hz
          cases hb : z.cells.toList.all flat1 && (Nat.ble (len * ei.size) 16777216 && Nat.beq z.cells.size ei.size)
          · rw [hb, cond_false] at ha; cases ha
          · rw [hb] at ha
            simp only [cond_true] at ha
            simp only [Bool.and_eq_true] at hb
            obtain ⟨hf, hble, hbeq⟩ := hb
            have hle : len * ei.size ≤ 16777216 := Nat.le_of_ble_eq_true hble
            have hzs : z.cells.size = ei.size := Nat.eq_of_beq_eq_true hbeq
            split at ha
            · rename_i r hr
              simp only [Option.some.injEq, Prod.mk.injEq] at ha
              obtain ⟨rfl, rfl⟩ := ha
              obtain ⟨zz, hz0, hz1, hz2⟩ := zeros_pick z.cells len ei.size hzs
              have hl0 : LRel μ h.next (zeros z.cells.toList len) ((Array.range (len * ei.size)).map (fun i => zz[i % zz.size]!)).toList := by
                rw [hz2]; exact LRel.of_flat1 _ _ (zeros_flat hf _)
              obtain ⟨r', h1, h2⟩ := fill_good (fun i => some (i * ei.size, ei.size)) hp hl0 hr
              obtain ⟨w', μ', b, h3, h4, h5⟩ := st.newRow (P := P) elem r r' ei.size h2
              refine ⟨.slice (some ⟨b, 0, none⟩) len len, w', μ', ?_, h4, ?_⟩
              · have hng : ¬ len * ei.size > 2 ^ 24 := by omega
                by_cases h0 : len * ei.size = 0
                · have e := hz0 h0; subst e
                  rw [h0] at h1
                  simp only [Instr.buildSlice, Sem.run_bind, run_underlying ok ht, hu, Result.andThen_ok, run_sizeOf ok he, h0, if_true, if_false, Nat.not_lt_zero, gt_iff_lt, Sem.run_pure, h1, h3]
                · have e := hz1 h0; subst e
                  simp only [Instr.buildSlice, Sem.run_bind, run_underlying ok ht, hu, Result.andThen_ok, run_sizeOf ok he, hng, h0, if_false, Sem.run_pure, run_zeroValue ok he w hz, h1, h3]
              · exact VRel.sliceK (off := 0) (by simp) h5
            · cases ha
        · cases ha
      · cases ha
    · cases ha
  · cases ha
noncomputable def aMakeSlice (T : Tr TI) (t : TypeId) (len cap : Value) (h : AHeap) : Option (Value × AHeap) :=
  match T.get t, len, cap with
  | some ti, .int _ l, .int _ c => match ti.und with
    | .slice elem => match T.get elem with
      | some ei => match ei.zero with
        | some z => if z.cells.toList.all flat1 = true ∧ z.cells.size = ei.size ∧ 0 ≤ l ∧ l ≤ c ∧ c ≤ 9223372036854775807 ∧ (ei.bytes : Int) * c ≤ 281474976710656 then
            some (.slice (some ⟨h.next, 0, none⟩) l.toNat (c.toNat + 1), h.new (.cells (zeros z.cells.toList c.toNat) ei.size))
          else none
        | none => none
      | none => none
    | _ => none
  | _, _, _ => none
theorem wrap_small {n : Int} (h0 : 0 ≤ n) (h1 : n ≤ 9223372036854775807) : IntKind.i64.wrap n = n := by
  simp only [IntKind.wrap, IntKind.bits, IntKind.signed]
  have e : (2 : Int) ^ 64 = 18446744073709551616 := by decide
  have e2 : (2 : Int) ^ (64 - 1) = 9223372036854775808 := by decide
  simp only [e, e2]
  rw [Int.emod_eq_of_lt h0 (by omega)]
  simp; omega
theorem makeSlice_good (ok : TyOK P T) (st : StRel μ h w) {t : TypeId} {l l' c c' v : Value} (hl : VRel μ h.next l l') (hc : VRel μ h.next c c') (ha : aMakeSlice T t l c h = some (v, h')) :
    GoodV P μ h w (Instr.makeSlice t l' c') v h' := by
  unfold aMakeSlice at ha
  split at ha
  · rename_i ti k l k' c ht
    cases hl; cases hc
    split at ha
    · rename_i elem hu
      split at ha
      · rename_i ei he
        split at ha
        · rename_i z hz
          split at ha
          · rename_i hcnd
            obtain ⟨hf, hzs, h0, hlc, hcm, hbm⟩ := hcnd
            simp only [Option.some.injEq, Prod.mk.injEq] at ha
            obtain ⟨rfl, rfl⟩ := ha
            have wl := wrap_small h0 (by omega)
            have wc := wrap_small (n := c) (by omega) hcm
            obtain ⟨i, hi1, hi2, hi3, hi4⟩ := run_typeInfo ok he w
            obtain ⟨zz, hz0, hz1, hz2⟩ := zeros_pick z.cells c.toNat ei.size hzs
            obtain ⟨w', μ', b, h3, h4, h5⟩ := st.newRow (P := P) elem (zeros z.cells.toList c.toNat) ((Array.range (c.toNat * ei.size)).map (fun i => zz[i % zz.size]!)) ei.size
              (by rw [hz2]; exact LRel.of_flat1 _ _ (zeros_flat hf _))
            refine ⟨.slice (some ⟨b, 0, none⟩) l.toNat c.toNat, w', μ', ?_, h4, VRel.sliceK (off := 0) (by simp) h5⟩
            have htl : (decide (c < 0) || decide ((ei.bytes : Int) * c > 2 ^ 48)) = false := by
              have e : (2 : Int) ^ 48 = 281474976710656 := by decide
              rw [e]; simp; omega
            have hnl : (decide (l < 0) || decide (l > c)) = false := by simp; omega
            by_cases h0 : c.toNat * ei.size = 0
            · have e := hz0 h0; subst e
              rw [h0] at h3
              simp only [Instr.makeSlice, Sem.run_bind, run_underlying ok ht, hu, Result.andThen_ok, asInt, asIntOf, Sem.run_pure, hi1, wl, wc, hi3, htl, Bool.false_or, hnl, Bool.or_false, Bool.false_eq_true, if_false, run_askRoom, run_sizeOf ok he, h0, if_true, h3]
            · have e := hz1 h0; subst e
              simp only [Instr.makeSlice, Sem.run_bind, run_underlying ok ht, hu, Result.andThen_ok, asInt, asIntOf, Sem.run_pure, hi1, wl, wc, hi3, htl, Bool.false_or, hnl, Bool.or_false, Bool.false_eq_true, if_false, run_askRoom, run_sizeOf ok he, h0, run_zeroValue ok he w hz, h3]
          · cases ha
        · cases ha
      · cases ha
    · cases ha
  · cases ha
noncomputable def bnd (v : Option Value) (d y : Nat) : Option Nat :=
  match v with
  | none => some d
  | some (.int _ i) => if 0 ≤ i ∧ i ≤ y then some i.toNat else none
  | _ => none
noncomputable def bounds (len cap : Nat) (lo hi mx : Option Value) : Option (Nat × Nat × Nat) :=
  match mx, hi with
  | some _, none => none
  | _, _ => match bnd mx cap cap with
    | none => none
    | some m => match bnd hi len m with
      | none => none
      | some h => match bnd lo 0 h with
        | none => none
        | some l => some (l, h, m)
noncomputable def OV (μ : Emb) (n : Nat) : Option Value → Option Value → Prop
  | none, none => True
  | some v, some v' => VRel μ n v v'
  | _, _ => False
theorem run_sliceBound {n : Nat} {v v' : Value} (hv : VRel μ n v v') {d y m : Nat} (hb : bnd (some v) d y = some m) {y' : Nat} (hy : y ≤ y') (code : BoundsCode) (w : World) :
    (Instr.sliceBound v' y' code).run P w = .ok m w ∧ m ≤ y := by
  unfold bnd at hb
  split at hb
  · rename_i hx; cases hx
  · rename_i k i hx
    cases hx
    cases hv
    split at hb
    · rename_i hc
      cases hb
      refine ⟨?_, by omega⟩
      simp only [Instr.sliceBound, Sem.run_bind, asIntOf, Sem.run_pure, Result.andThen_ok]
      rw [if_pos (by omega)]
      rfl
    · cases hb
  · cases hb
theorem bound_pick {n : Nat} {v v' : Option Value} (hv : OV μ n v v') {d y m : Nat} (hb : bnd v d y = some m) {y' : Nat} (hy : y ≤ y') (w : World) :
    (v = none ∧ v' = none ∧ m = d) ∨ ∃ x x', v = some x ∧ v' = some x' ∧ m ≤ y ∧ ∀ code, (Instr.sliceBound x' y' code).run P w = .ok m w := by
  cases v with
  | none => cases v' with
    | none => simp only [bnd, Option.some.injEq] at hb; exact .inl ⟨rfl, rfl, hb.symm⟩
    | some _ => exact hv.elim
  | some x => cases v' with
    | none => exact hv.elim
    | some x' => exact .inr ⟨x, x', rfl, rfl, (run_sliceBound (P := P) hv hb hy .index w).2, fun code => (run_sliceBound (P := P) hv hb hy code w).1⟩
theorem run_sliceBounds {n : Nat} {lo lo' hi hi' mx mx' : Option Value} (hlo : OV μ n lo lo') (hhi : OV μ n hi hi') (hmx : OV μ n mx mx') {len cap l hh m : Nat} (hb : bounds len cap lo hi mx = some (l, hh, m))
    (hlc : len ≤ cap) {cap' : Nat} (hc : cap ≤ cap') (isS : Bool) (w : World) :
    (Instr.sliceBounds isS len cap' lo' hi' mx').run P w = .ok (l, hh, if mx.isSome then m else cap') w ∧ l ≤ hh ∧ hh ≤ m ∧ m ≤ cap ∧ (mx = none → m = cap) := by
  unfold bounds at hb
  split at hb
  · cases hb
  · rename_i hno
    split at hb
    · cases hb
    · rename_i m0 hm0
      split at hb
      · cases hb
      · rename_i h0 hh0
        split at hb
        · cases hb
        · rename_i l0 hl0
          simp only [Option.some.injEq, Prod.mk.injEq] at hb
          obtain ⟨rfl, rfl, rfl⟩ := hb
          rcases bound_pick (P := P) hmx hm0 hc w with ⟨rfl, rfl, rfl⟩ | ⟨x, x', rfl, rfl, m1, m2⟩ <;>
          rcases bound_pick (P := P) hlo hl0 (Nat.le_refl _) w with ⟨rfl, rfl, rfl⟩ | ⟨z, z', rfl, rfl, l1, l2⟩ <;>
          first
            | (rcases bound_pick (P := P) hhi hh0 hc w with ⟨rfl, rfl, rfl⟩ | ⟨y, y', rfl, rfl, h1, h2⟩ <;>
                refine ⟨?_, by omega, by omega, by omega, by simp⟩ <;>
                simp only [Instr.sliceBounds, Sem.run_bind, Sem.run_pure, Result.andThen_ok, Option.isSome_none, Bool.false_eq_true, if_false, *])
            | (rcases bound_pick (P := P) hhi hh0 (Nat.le_refl _) w with ⟨rfl, rfl, rfl⟩ | ⟨y, y', rfl, rfl, h1, h2⟩ <;>
                first
                  | exact (hno _ rfl rfl).elim
                  | (refine ⟨?_, by omega, by omega, by omega, by simp⟩
                     simp only [Instr.sliceBounds, Sem.run_bind, Sem.run_pure, Result.andThen_ok, Option.isSome_some, if_true, *]))
noncomputable def rowSz (h : AHeap) (r : Nat) : Option Nat :=
  match h.get r with
  | some (.cells _ sz) => some sz
  | _ => none
noncomputable def aSlice (T : Tr TI) (t : TypeId) (x : Value) (lo hi mx : Option Value) (h : AHeap) : Option Value :=
  match T.get t with
  | some ti => match ti.und, x with
    | .slice elem, .slice none 0 0 => match T.get elem with
      | some _ => match bounds 0 0 lo hi mx with
        | some _ => some (.slice none 0 0)
        | none => none
      | none => none
    | .slice elem, .slice (some ⟨r, off, none⟩) len 0 => match T.get elem with
      | some ei => match bounds len len lo hi mx with
        | some (l, hh, m) => match mx with
          | none => bif Nat.beq l 0 then some (.slice (some ⟨r, off, none⟩) hh 0) else match rowSz h r with
            | some sz => bif Nat.beq sz ei.size then some (.slice (some ⟨r, off + l * ei.size, none⟩) (hh - l) 0) else none
            | none => none
          | some _ => bif Nat.beq m l then some (.slice (some ⟨r, off, none⟩) (hh - l) (m - l + 1)) else some (.slice (some ⟨r, off + l * ei.size, none⟩) (hh - l) (m - l + 1))
        | none => none
      | none => none
    | .slice elem, .slice (some ⟨r, off, none⟩) len (c + 1) => match T.get elem with
      | some ei => if len ≤ c then match bounds len c lo hi mx with
        | some (l, hh, m) => bif Nat.beq m l then some (.slice (some ⟨r, off, none⟩) (hh - l) (m - l + 1)) else some (.slice (some ⟨r, off + l * ei.size, none⟩) (hh - l) (m - l + 1))
        | none => none
        else none
      | none => none
    | .array n elem, .pointer (some ⟨r, off, none⟩) => match T.get elem with
      | some ei => match bounds n n lo hi mx with
        | some (l, hh, m) => bif Nat.beq m l then some (.slice (some ⟨r, off, none⟩) (hh - l) (m - l + 1)) else some (.slice (some ⟨r, off + l * ei.size, none⟩) (hh - l) (m - l + 1))
        | none => none
      | none => none
    | .string, .string s => match mx with
      | some _ => none
      | none => match bounds s.size s.size lo hi none with
        | some (l, hh, _) => some (.string (s.extract l hh))
        | none => none
    | _, _ => none
  | none => none
theorem slice_good (ok : TyOK P T) (st : StRel μ h w) {t : TypeId} {x x' v : Value} {lo lo' hi hi' mx mx' : Option Value} (hx : VRel μ h.next x x') (hlo : OV μ h.next lo lo') (hhi : OV μ h.next hi hi') (hmx : OV μ h.next mx mx')
    (ha : aSlice T t x lo hi mx h = some v) : ∃ v', (Instr.sliceAt t x' lo' hi' mx').run P w = .ok v' w ∧ VRel μ h.next v v' := by
  unfold aSlice at ha
  split at ha
  · rename_i ti ht
    split at ha
    · rename_i elem hu
      split at ha
      · rename_i ei he
        split at ha
        · rename_i b hb
          cases ha
          obtain ⟨l, hh, m⟩ := b
          cases hx
          obtain ⟨h1, h2, h3, h4, h5⟩ := run_sliceBounds (P := P) hlo hhi hmx hb (Nat.le_refl _) (Nat.le_refl _) true w
          have e1 : l = 0 := by omega
          have e2 : hh = 0 := by omega
          have e3 : (if mx.isSome then m else 0) = 0 := by split <;> omega
          rw [e1, e2, e3] at h1
          refine ⟨.slice none 0 0, ?_, .slice0⟩
          simp only [Instr.sliceAt, Sem.run_bind, run_underlying ok ht, hu, Result.andThen_ok, Instr.slice, h1, run_sizeOf ok he, if_true, Sem.run_pure, Nat.sub_self]
        · cases ha
      · cases ha
    · rename_i elem r off len hu
      split at ha
      · rename_i ei he
        split at ha
        · rename_i l hh m hb
          have key : ∀ (a : Addr) (cap : Nat), len ≤ cap → (Instr.sliceAt t (.slice (some a) len cap) lo' hi' mx').run P w =
              .ok (.slice (if (if mx.isSome then m else cap) = l then some a else some (a.add (l * ei.size))) (hh - l) ((if mx.isSome then m else cap) - l)) w ∧ l ≤ hh ∧ hh ≤ m ∧ m ≤ len ∧ (mx = none → m = len) := by
            intro a cap hcap
            obtain ⟨h1, h2, h3, h4, h5⟩ := run_sliceBounds (P := P) hlo hhi hmx hb (Nat.le_refl _) hcap true w
            refine ⟨?_, h2, h3, h4, h5⟩
            simp only [Instr.sliceAt, Sem.run_bind, run_underlying ok ht, hu, Result.andThen_ok, Instr.slice, h1, run_sizeOf ok he, Option.map_some, Sem.run_pure]
          cases mx with
          | none =>
            simp only at ha
            cases hbl : Nat.beq l 0
            rotate_left
            · rw [hbl, cond_true] at ha
              cases ha
              have el := Nat.eq_of_beq_eq_true hbl
              subst el
              cases hx with
              | sliceU hlt hm hl hcp =>
                rename_i cap e
                obtain ⟨k1, k2, k3, k4, k5⟩ := key ⟨e.b, e.d + off, none⟩ cap hl
                simp only [Option.isSome_none, Bool.false_eq_true, if_false, Nat.sub_zero, Nat.zero_mul] at k1
                refine ⟨_, k1, ?_⟩
                by_cases hcl : cap = 0
                · rw [if_pos hcl]
                  have e0 : hh = 0 := by omega
                  rw [e0, hcl]
                  exact .sliceZ hlt hm
                · rw [if_neg hcl, add_none, Nat.add_zero]
                  exact .sliceU hlt hm (by omega) hcp
              | sliceZ hlt hm =>
                rename_i xo sp e
                obtain ⟨k1, k2, k3, k4, k5⟩ := key ⟨e.b, xo, sp⟩ 0 (Nat.le_refl _)
                have e2 : hh = 0 := by omega
                subst e2
                simp only [Option.isSome_none, Bool.false_eq_true, if_false, if_true, Nat.sub_self] at k1
                exact ⟨_, k1, .sliceZ hlt hm⟩
            rw [hbl, cond_false] at ha
            split at ha
            · rename_i sz hsz
              cases hbq : Nat.beq sz ei.size
              · rw [hbq, cond_false] at ha; cases ha
              · rw [hbq, cond_true] at ha
                cases ha
                have esz : sz = ei.size := Nat.eq_of_beq_eq_true hbq
                cases hx with
                | sliceU hlt hm hl hcp =>
                  rename_i cap e
                  obtain ⟨k1, k2, k3, k4, k5⟩ := key ⟨e.b, e.d + off, none⟩ cap hl
                  have k6 := k5 rfl
                  simp only [Option.isSome_none, Bool.false_eq_true, if_false] at k1
                  refine ⟨_, k1, ?_⟩
                  have hes : e.sz = ei.size := by
                    unfold rowSz at hsz
                    split at hsz
                    · rename_i vs sz' hg
                      cases hsz
                      obtain ⟨_, e', c, a2, a3, a4, _⟩ := st.live r _ hg
                      rw [hm] at a2; cases a2; omega
                    · cases hsz
                  by_cases hcl : cap = l
                  · rw [if_pos hcl]
                    have e0 : hh - l = 0 := by omega
                    have e1 : cap - l = 0 := by omega
                    rw [e0, e1]
                    exact .sliceZ hlt hm
                  · rw [if_neg hcl, add_none, Nat.add_assoc]
                    refine .sliceU hlt hm (by omega) ?_
                    have : l * ei.size + (cap - l) * ei.size = cap * ei.size := by rw [← Nat.add_mul]; congr 1; omega
                    rw [hes] at hcp ⊢
                    omega
                | sliceZ hlt hm =>
                  rename_i xo sp e
                  obtain ⟨k1, k2, k3, k4, k5⟩ := key ⟨e.b, xo, sp⟩ 0 (Nat.le_refl _)
                  have e1 : l = 0 := by omega
                  have e2 : hh = 0 := by omega
                  subst e1 e2
                  simp only [Option.isSome_none, Bool.false_eq_true, if_false, if_true, Nat.sub_self] at k1
                  exact ⟨_, k1, .sliceZ hlt hm⟩
            · cases ha
          | some y =>
            simp only at ha
            cases hx with
            | sliceU hlt hm hl hcp =>
              rename_i cap e
              obtain ⟨k1, k2, k3, k4, k5⟩ := key ⟨e.b, e.d + off, none⟩ cap hl
              simp only [Option.isSome_some, if_true] at k1
              refine ⟨_, k1, ?_⟩
              cases hbq : Nat.beq m l
              · rw [hbq, cond_false] at ha; cases ha
                have : ¬ m = l := fun h => by rw [h, Nat.beq_refl] at hbq; cases hbq
                rw [if_neg this, add_none, Nat.add_assoc]
                exact .sliceK hlt hm
              · rw [hbq, cond_true] at ha; cases ha
                rw [if_pos (Nat.eq_of_beq_eq_true hbq)]
                exact .sliceK hlt hm
            | sliceZ hlt hm =>
              rename_i xo sp e
              obtain ⟨k1, k2, k3, k4, k5⟩ := key ⟨e.b, xo, sp⟩ 0 (Nat.le_refl _)
              have e1 : l = 0 := by omega
              have e2 : hh = 0 := by omega
              have e3 : m = 0 := by omega
              subst e1 e2 e3
              simp only [Option.isSome_some, if_true, Nat.sub_self] at k1
              refine ⟨_, k1, ?_⟩
              simp only [Nat.beq_refl, cond_true, Option.some.injEq] at ha
              subst ha
              exact .sliceKZ hlt hm
        · cases ha
      · cases ha
    · rename_i elem r off len c hu
      split at ha
      · rename_i ei he
        split at ha
        · rename_i hlen
          split at ha
          · rename_i l hh m hb
            have key : ∀ (a : Addr), (Instr.sliceAt t (.slice (some a) len c) lo' hi' mx').run P w =
                .ok (.slice (if m = l then some a else some (a.add (l * ei.size))) (hh - l) (m - l)) w ∧ l ≤ hh ∧ hh ≤ m ∧ m ≤ c := by
              intro a
              obtain ⟨h1, h2, h3, h4, h5⟩ := run_sliceBounds (P := P) hlo hhi hmx hb hlen (Nat.le_refl _) true w
              have e : (if mx.isSome then m else c) = m := by
                cases mx with
                | none => simp only [Option.isSome_none, Bool.false_eq_true, if_false]; exact (h5 rfl).symm
                | some _ => rfl
              rw [e] at h1
              refine ⟨?_, h2, h3, h4⟩
              simp only [Instr.sliceAt, Sem.run_bind, run_underlying ok ht, hu, Result.andThen_ok, Instr.slice, h1, run_sizeOf ok he, Option.map_some, Sem.run_pure]
            cases hx with
            | sliceK hlt hm =>
              obtain ⟨k1, k2, k3, k4⟩ := key _
              refine ⟨_, k1, ?_⟩
              cases hbq : Nat.beq m l
              · rw [hbq, cond_false] at ha; cases ha
                have : ¬ m = l := fun h => by rw [h, Nat.beq_refl] at hbq; cases hbq
                rw [if_neg this, add_none, Nat.add_assoc]
                exact .sliceK hlt hm
              · rw [hbq, cond_true] at ha; cases ha
                rw [if_pos (Nat.eq_of_beq_eq_true hbq)]
                exact .sliceK hlt hm
            | sliceKZ hlt hm =>
              rename_i xo sp e
              obtain ⟨k1, k2, k3, k4⟩ := key ⟨e.b, xo, sp⟩
              have e1 : l = 0 := by omega
              have e2 : hh = 0 := by omega
              have e3 : m = 0 := by omega
              subst e1 e2 e3
              simp only [if_true, Nat.sub_self] at k1
              refine ⟨_, k1, ?_⟩
              simp only [Nat.beq_refl, cond_true, Option.some.injEq] at ha
              subst ha
              exact .sliceKZ hlt hm
          · cases ha
        · cases ha
      · cases ha
    · rename_i n elem r off hu
      split at ha
      · rename_i ei he
        split at ha
        · rename_i l hh m hb
          cases hx with
          | ptr hlt hm =>
            rename_i e
            obtain ⟨h1, h2, h3, h4, h5⟩ := run_sliceBounds (P := P) hlo hhi hmx hb (Nat.le_refl _) (Nat.le_refl _) false w
            have e0 : (if mx.isSome then m else n) = m := by
              cases mx with
              | none => simp only [Option.isSome_none, Bool.false_eq_true, if_false]; exact (h5 rfl).symm
              | some _ => rfl
            rw [e0] at h1
            have k1 : (Instr.sliceAt t (.pointer (some ⟨e.b, e.d + off, none⟩)) lo' hi' mx').run P w =
                .ok (.slice (some (if m = l then ⟨e.b, e.d + off, none⟩ else (Addr.mk e.b (e.d + off) none).add (l * ei.size))) (hh - l) (m - l)) w := by
              simp only [Instr.sliceAt, Sem.run_bind, run_underlying ok ht, hu, Result.andThen_ok, Instr.sureAddr, h1, run_sizeOf ok he, Sem.run_pure]
            refine ⟨_, k1, ?_⟩
            cases hbq : Nat.beq m l
            · rw [hbq, cond_false] at ha; cases ha
              have : ¬ m = l := fun h => by rw [h, Nat.beq_refl] at hbq; cases hbq
              rw [if_neg this, add_none, Nat.add_assoc]
              exact .sliceK hlt hm
            · rw [hbq, cond_true] at ha; cases ha
              rw [if_pos (Nat.eq_of_beq_eq_true hbq)]
              exact .sliceK hlt hm
        · cases ha
      · cases ha
    · rename_i s hu
      cases mx with
      | some _ => cases ha
      | none =>
        cases mx' with
        | some _ => exact hmx.elim
        | none =>
          simp only at ha
          split at ha
          · rename_i l hh m hb
            cases ha
            cases hx
            obtain ⟨h1, h2, h3, h4, h5⟩ := run_sliceBounds (P := P) (mx' := none) hlo hhi hmx hb (Nat.le_refl _) (Nat.le_refl _) false w
            refine ⟨_, ?_, .string _⟩
            simp only [Instr.sliceAt, Sem.run_bind, run_underlying ok ht, hu, Result.andThen_ok, Instr.slice, h1, Option.isSome_none, Bool.false_eq_true, if_false, Sem.run_pure]
          · cases ha
    · cases ha
  · cases ha
end ops
end Go.Ab
