/-
  Operations that few functions need: what strings.Builder does (addresses of no type, bytes that become a string), entries of maps. Code that goes through maps of several entries: all outcomes, one by one. Calls of functions that are not named are left to the compiled evaluator. A long run in pieces: what is known between them is written out, the rest is forgotten. Functions that defer one closure: by the compiled evaluator (nothing panics). Functions that call what the model stands in for (maps.Clone), or go through maps of several entries to one outcome, as steps of the evaluator. A call looked at with the rows alone that it reaches; outcomes that differ in the numbers of their new rows are one.
-/
import Derived.Test.YtimbhgkiohbkdaaGreatAb48
import Derived.Lib.Builder
import Derived.Lib.UnsafeStr
import Derived.Test.YtimbhgkiohbkdaaGreatAb22
import Derived.Defers
import Derived.Recover
import Derived.Laws.Externs
namespace Go.Ab.Nx.Ux
open Go.Ab Go.Ab.Nx Go.Ab.Nx.Zx
set_option linter.unusedSimpArgs false
set_option linter.unusedVariables false
section
variable {P : Program} {T : Tr TI} {μ : Emb} {h h' : AHeap} {w : World}
theorem typed_shape (st : StRel μ h w) {r : Nat} {vs : List Value} {t : TypeId} (hr : h.get r = some (.tcells vs t)) {e : Ent} (hm : μ r = some e) : e.d = 0 ∧ ∃ cs fz, w.heap[e.b]? = some (.cells cs t fz) ∧ w.shape? e.b = some (t, cs.size) ∧ vs.length ≤ cs.size := by
  obtain ⟨_, e', c, h2, h3, ⟨hd, _⟩, ⟨cs0, fz0, hc0⟩, cs, t', fz, rfl, h5, h6, _⟩ := st.live r _ hr
  rw [hm] at h2; cases h2
  obtain rfl : t' = t := by cases hc0; rfl
  exact ⟨hd, cs, fz, h3, by simp [World.shape?, h3], by omega⟩
theorem lies_self {t : TypeId} {s : Nat} (hs : P.cellsOf t = s) (h0 : s ≠ 0) {count n : Nat} (hn : n ≤ count) : liesAt P P.depth t count 0 t n = true := by
  have hd : P.depth = (2 * (P.types.size + Made.depth) + 1) + 1 := rfl
  rw [hd]
  simp only [liesAt, Bool.or_eq_true]
  left
  rw [hd]
  simp [rowAt, hs, h0, hn, sameLayout]
noncomputable def uConv (T : Tr TI) (src dst : TypeId) (v : Value) (h : AHeap) : Option (Value × AHeap) :=
  match T.get src, T.get dst, v with
  | some si, some di, .pointer (some ⟨r, 0, none⟩) => match h.get r with
    | some (.tcells vs t) => match T.get t with
      | some ti => bif Nat.ble 1 ti.size && Nat.ble ti.size vs.length then (match si.und, di.und with
        | .pointer u, .unsafePointer => bif Nat.beq u t then some (v, h) else none
        | .unsafePointer, .pointer u => bif Nat.beq u t then some (v, h) else none
        | _, _ => none) else none
      | none => none
    | _ => none
  | _, _, _ => none
theorem und_of (ok : TyOK P T) {t : TypeId} {ti : TI} (ht : T.get t = some ti) : P.underlying t = some ti.und ∧ ∃ i, P.info? t = some i ∧ i.size = ti.size := by
  obtain ⟨i, h1, h2, h3, h4, h5⟩ := ok.ok t ti ht
  exact ⟨h5, i, h1, h2⟩
theorem uConv_good (ok : TyOK P T) (st : StRel μ h w) {src dst : TypeId} {x x' v : Value} (hx : VRel μ h.next x x') (ha : uConv T src dst x h = some (v, h')) : GoodV P μ h w (convert src dst x') v h' := by
  unfold uConv at ha
  split at ha
  · rename_i si di r hs hd
    split at ha
    · rename_i vs t hr
      split at ha
      · rename_i ti ht
        cases hb : Nat.ble 1 ti.size && Nat.ble ti.size vs.length
        · rw [hb, cond_false] at ha; cases ha
        · rw [hb, cond_true] at ha
          simp only [Bool.and_eq_true] at hb
          have b1 := Nat.le_of_ble_eq_true hb.1
          have b2 := Nat.le_of_ble_eq_true hb.2
          have hx0 := hx
          cases hx with
          | ptr hlt hm =>
            rename_i e
            obtain ⟨hd0, cs, fz, g1, g2, g3⟩ := typed_shape st hr hm
            obtain ⟨ut, i, hi1, hi2⟩ := und_of ok ht
            have hsz : P.cellsOf t = ti.size := by simp [Program.cellsOf, hi1, hi2]
            split at ha
            · rename_i u hsu hdu
              cases hu : Nat.beq u t
              · rw [hu, cond_false] at ha; cases ha
              · rw [hu, cond_true] at ha
                obtain rfl := Nat.eq_of_beq_eq_true hu
                cases ha
                have us := (und_of ok hs).1; rw [hsu] at us
                have ud := (und_of ok hd).1; rw [hdu] at ud
                exact ⟨_, w, μ, Lib.run_to_unsafe w ⟨e.b, e.d + 0, none⟩ us ud hi1 (by omega) g2 (by simp only; omega), Ext.refl st, hx0⟩
            · rename_i u hsu hdu
              cases hu : Nat.beq u t
              · rw [hu, cond_false] at ha; cases ha
              · rw [hu, cond_true] at ha
                obtain rfl := Nat.eq_of_beq_eq_true hu
                cases ha
                have us := (und_of ok hs).1; rw [hsu] at us
                have ud := (und_of ok hd).1; rw [hdu] at ud
                refine ⟨_, w, μ, Lib.run_from_unsafe w ⟨e.b, e.d + 0, none⟩ us ud hi1 g2 ?_, Ext.refl st, hx0⟩
                simp only [hd0, Nat.zero_add]
                refine lies_self hsz (by omega) ?_
                rw [hsz, Nat.le_div_iff_mul_le (by omega)]
                omega
            · cases ha
      · cases ha
    · cases ha
  · cases ha
noncomputable def uApp (T : Tr TI) (ats : Array TypeId) (s x : Value) (h : AHeap) : Option (Value × AHeap) :=
  match appT T ats, x with
  | some at_, .string b => bif Nat.beq at_.size 1 && Nat.ble ((2 * (vLen s + b.size) + 256) * at_.bytes) 281474976710656 then
      match s with
      | .slice none 0 0 => bif Nat.beq b.size 0 then none else some (.slice (some ⟨h.next, 0, none⟩) b.size 0, h.new (.tcells (byteVals b) at_.elem))
      | .slice (some ⟨r, 0, none⟩) len 0 => bif Nat.beq b.size 0 then none else match h.get r with
        | some (.tcells vs t) => bif Nat.beq t at_.elem && (Nat.beq vs.length len && Nat.ble 1 len) then some (.slice (some ⟨h.next, 0, none⟩) (len + b.size) 0, (h.kill r).new (.tcells (vs ++ byteVals b) at_.elem)) else none
        | _ => none
      | _ => none
      else none
  | _, _ => none
theorem append_newT (st : StRel μ h w) {e : TypeId} {cs : Array Value} {need ncap : Nat} {vs : List Value} (hv : LRel μ h.next vs (cs.toList.take vs.length)) (hlen : vs.length = need) (hcs : cs.size = ncap) (hge : need ≤ ncap) :
    ∃ μ', Ext μ h w μ' (h.new (.tcells vs e)) { w with drawn := w.drawn + 1, heap := w.heap.push (.cells cs e) } ∧
      VRel μ' (h.new (.tcells vs e)).next (.slice (some ⟨h.next, 0, none⟩) need 0) (.slice (some ⟨w.heap.size, 0, none⟩) need ncap) := by
  have e1 := Ext.new (w := { w with drawn := w.drawn + 1 }) (st.same rfl) (.cells cs e) ⟨w.heap.size, 0, cs.size, 1⟩ (.tcells vs e) rfl
    ⟨⟨rfl, rfl⟩, ⟨cs, (0, 0), rfl⟩, cs, e, (0, 0), rfl, by simp only; omega, by simp, fun i _ => by omega, fun i v hi => by
      have hlt := (List.getElem?_eq_some_iff.1 hi).1
      obtain ⟨v', h1, h2⟩ := hv.getElem? i hi
      rw [List.getElem?_take, if_pos hlt, Array.getElem?_toList] at h1
      exact ⟨v', by simpa using h1, h2.mono (Agree.upd μ _ (Nat.le_refl _)) (by omega)⟩⟩
  refine ⟨_, (Ext.same (w' := { w with drawn := w.drawn + 1 }) st rfl rfl rfl).trans e1, ?_⟩
  exact VRel.sliceU (off := 0) (by simp) (Emb.upd_same _ _ _) hge (by simp [hcs])
theorem byteVals_length (b : ByteArray) : (byteVals b).length = b.size := by simp only [byteVals, List.length_map, Array.length_toList]; rfl
theorem byteVals_one (b : ByteArray) : oneCells (byteVals b) = true := by
  unfold oneCells byteVals
  rw [List.all_map]
  exact List.all_eq_true.2 fun _ _ => rfl
theorem uApp_good (ok : TyOK P T) (st : StRel μ h w) {ats : Array TypeId} (ty : TypeId) {s s' x x' v : Value} (hs : VRel μ h.next s s') (hx : VRel μ h.next x x') (ha : uApp T ats s x h = some (v, h')) : GoodV P μ h w (Builtin.append_ ats ty #[s', x']) v h' := by
  unfold uApp at ha
  split at ha
  · rename_i at_ b hat
    cases hx
    cases hb : Nat.beq at_.size 1 && Nat.ble ((2 * (vLen s + b.size) + 256) * at_.bytes) 281474976710656
    · rw [hb, cond_false] at ha; cases ha
    · rw [hb, cond_true] at ha
      simp only [Bool.and_eq_true] at hb
      have hs1 := Nat.eq_of_beq_eq_true hb.1
      have hroom := Nat.le_of_ble_eq_true hb.2
      have hn : aLen (.string b) = some b.size := rfl
      have hnew : aCells h at_.size b.size (.string b) = some (byteVals b) := by
        simp only [aCells, hs1]
        show (bif Nat.beq 1 1 then some ((byteVals b).take b.size) else none) = _
        rw [show Nat.beq 1 1 = true from rfl, cond_true, List.take_of_length_le (by rw [byteVals_length]; exact Nat.le_refl _)]
      have st1 : StRel μ h { w with drawn := w.drawn + 1 } := st.same rfl
      have hxr : VRel μ h.next (.string b) (.string b) := .string b
      have hlx := lenOf_good (P := P) hxr hn w
      obtain ⟨l', hl1, hl2⟩ := firstCells_good (P := P) st hxr hnew
      obtain ⟨ld, hd1, hd2⟩ := firstCells_good (P := P) st1 hxr hnew
      have hl2l := hl2.length
      have hd2l := hd2.length
      simp only [Array.length_toList, byteVals_length] at hl2l hd2l
      split at ha
      · cases hb0 : Nat.beq b.size 0
        · rw [hb0, cond_false] at ha
          have hn0 : ¬ b.size = 0 := fun e => by rw [e] at hb0; cases hb0
          cases ha
          cases hs
          simp only [vLen] at hroom
          obtain ⟨ncap, cs, g1, g2, g3, rest, g4⟩ := append_grow (P := P) ok hat ty hlx (base' := none) (len := 0) (cap := 0) (o' := #[]) rfl hd1 (by omega) hroom (by simp) (by rw [hs1]; omega)
          rw [Nat.zero_add] at g1 g2
          obtain ⟨μ', e1, e2⟩ := append_newT (e := at_.elem) st (vs := byteVals b) (by rw [g4]; simp only [List.nil_append]; rw [hd2.length, List.take_left]; exact hd2) (byteVals_length b) (by rw [g3, hs1, Nat.mul_one]) g1
          exact ⟨_, _, μ', g2, e1, e2⟩
        · rw [hb0, cond_true] at ha; cases ha
      · rename_i r len
        cases hb0 : Nat.beq b.size 0
        · rw [hb0, cond_false] at ha
          have hn0 : ¬ b.size = 0 := fun e => by rw [e] at hb0; cases hb0
          split at ha
          · rename_i vs t hr
            cases hc : Nat.beq t at_.elem && (Nat.beq vs.length len && Nat.ble 1 len)
            · rw [hc, cond_false] at ha; cases ha
            · rw [hc, cond_true] at ha
              simp only [Bool.and_eq_true] at hc
              obtain ⟨c1, c2, c3⟩ := hc
              obtain rfl := Nat.eq_of_beq_eq_true c1
              have hvl := Nat.eq_of_beq_eq_true c2
              have hl1' := Nat.le_of_ble_eq_true c3
              cases ha
              simp only [vLen] at hroom
              have hrow : rowOf h r = some vs := by simp [rowOf, hr]
              have hold : cellsOf vs 0 (len * 1) = some vs := by
                unfold cellsOf
                rw [Nat.ble_eq_true_of_le (by omega : 0 + len * 1 ≤ vs.length), cond_true, List.drop_zero, List.take_of_length_le (by omega)]
              cases hs with
              | sliceZ hlt hm => omega
              | sliceU hlt hm hl hcp =>
                rename_i cap e
                obtain ⟨lo, k1, k2⟩ := st1.loadCells (P := P) hrow hm hold
                have k2l := k2.length
                by_cases hfit : len + b.size ≤ cap
                · obtain ⟨hrn, e', c, a2, a3, ⟨hd0, asz⟩, ⟨cs0, fz0, hc0⟩, cs, t', fz, rfl, a5, a6, a7, a8⟩ := st.live r _ hr
                  rw [hm] at a2; cases a2
                  obtain rfl : t' = at_.elem := by cases hc0; rfl
                  rw [asz] at hcp
                  obtain ⟨w', cs', b1, b2, b3, b4, b5, b6, b7, b8⟩ := run_storeCells (P := P) e.b (e.d + 0 + len) at_.elem fz l'.toList 0 cs w a3 (by simp [hl2l]; omega)
                    (fun j hj => by
                      have hj' : j < b.size := by simp only [Array.length_toList] at hj; omega
                      have := a7 (len + j) (by omega)
                      rwa [show e.d + 0 + len + 0 + j = e.d + (len + j) by omega]) (hl2.oneCells (byteVals_one b))
                  have hext := Ext.rebase (w' := w') (e' := ⟨e.b, 0, e.ext, 1⟩) (o' := .tcells (vs ++ byteVals b) at_.elem) st hr rfl hm b2 b3 b4 b7 b8 rfl
                    ⟨⟨rfl, rfl⟩, ⟨cs', fz, rfl⟩, cs', at_.elem, fz, rfl, by simp [byteVals_length]; omega, by simp only; omega, fun i hi => by
                      have := a7 i hi
                      simp only
                      rwa [show e.d + i = 0 + i by omega] at this, fun i v hv => by
                      simp only
                      rw [b6 (0 + i)]
                      simp only [Array.length_toList, Nat.add_zero]
                      by_cases hi : i < vs.length
                      · rw [List.getElem?_append_left hi] at hv
                        rw [if_neg (by omega)]
                        obtain ⟨v', c1, c2⟩ := a8 _ v hv
                        exact ⟨v', by rw [← c1]; congr 1; omega, c2.mono (Agree.upd μ _ (Nat.le_refl _)) (by omega)⟩
                      · rw [List.getElem?_append_right (by omega)] at hv
                        have hi2 := (List.getElem?_eq_some_iff.1 hv).1
                        rw [byteVals_length] at hi2
                        rw [if_pos (by omega)]
                        obtain ⟨v', c1, c2⟩ := hl2.getElem? _ hv
                        exact ⟨v', by rw [← c1]; congr 1; omega, c2.mono (Agree.upd μ _ (Nat.le_refl _)) (by omega)⟩⟩
                  refine ⟨_, w', _, append_stay (P := P) ok hat ty hlx hl1 hfit (w' := w') (fun a ea => ?_) (fun ea => by cases ea), hext, ?_⟩
                  · cases ea; rw [add_none, hs1, Nat.mul_one]; exact b1
                  · have := VRel.sliceU (μ := μ.upd h.next ⟨e.b, 0, e.ext, 1⟩) (n := ((h.kill r).new (.tcells (vs ++ byteVals b) at_.elem)).next) (r := h.next) (off := 0) (len := len + b.size) (cap := cap) (e := ⟨e.b, 0, e.ext, 1⟩) (by simp) (Emb.upd_same _ _ _) hfit (by simp only; omega)
                    simp only [hd0, Nat.add_zero] at this ⊢
                    exact this
                · obtain ⟨ncap, cs, g1, g2, g3, rest, g4⟩ := append_grow (P := P) ok hat ty hlx (base' := some ⟨e.b, e.d + 0, none⟩) (o' := lo.toArray) (by rw [hs1]; exact k1) hd1 hfit hroom (by simp only [List.size_toArray, hs1]; omega) (by rw [hs1]; omega)
                  have hv : LRel μ h.next (vs ++ byteVals b) (cs.toList.take (vs ++ byteVals b).length) := by
                    have ho2 : LRel μ h.next vs lo.toArray.toList := by simpa using k2
                    rw [g4, (ho2.append hd2).length, List.take_left]; exact ho2.append hd2
                  have ek := Ext.kill st r
                  obtain ⟨μ', e1, e2⟩ := append_newT (e := at_.elem) (h := h.kill r) ek.st (vs := vs ++ byteVals b) hv (by rw [List.length_append, byteVals_length, hvl]) (by rw [g3, hs1, Nat.mul_one]) g1
                  exact ⟨_, _, μ', g2, ek.trans e1, e2⟩
          · cases ha
        · rw [hb0, cond_true] at ha; cases ha
      · cases ha
  · cases ha
noncomputable def uData (s : Value) (h : AHeap) : Option (Value × AHeap) :=
  match s with
  | .slice none 0 0 => some (.pointer none, h)
  | .slice (some ⟨r, off, none⟩) (_ + 1) 0 => some (.pointer (some ⟨r, off, none⟩), h)
  | _ => none
theorem uData_good (st : StRel μ h w) (ats : Array TypeId) (ty : TypeId) {s s' v : Value} (hs : VRel μ h.next s s') (ha : uData s h = some (v, h')) : GoodV P μ h w (Builtin.unsafeSliceData_ ats ty #[s']) v h' := by
  unfold uData at ha
  split at ha
  · cases ha; cases hs
    exact ⟨_, w, μ, Lib.run_unsafeSliceData_nil w ats ty 0 0, Ext.refl st, .ptr0⟩
  · rename_i r off n
    cases ha
    cases hs with
    | sliceU hlt hm hl hc => exact ⟨_, w, μ, Lib.run_unsafeSliceData_row w ats ty _ _ _ (by omega), Ext.refl st, .ptr hlt hm⟩
  · cases ha
noncomputable def uStr (T : Tr TI) (ats : Array TypeId) (p n : Value) (h : AHeap) : Option (Value × AHeap) :=
  match ats.toList, p, n with
  | [_, _], .pointer none, .int .i64 (.ofNat 0) => some (.string .empty, h)
  | [pt, _], .pointer (some ⟨r, 0, none⟩), .int .i64 (.ofNat (m + 1)) => match T.get pt, h.get r with
    | some pi, some (.tcells vs t) => (match pi.und, T.get t, bytesIn vs with
      | .pointer u, some ti, some bs => bif Nat.beq u t && (Nat.beq ti.size 1 && (Nat.beq bs.length (m + 1) && (Nat.ble (m + 1) 9223372036854775807 && vs.all okB))) then some (.string ⟨bs.toArray⟩, (h.set r (.ro [])).kill r) else none
      | _, _, _ => none)
    | _, _ => none
  | _, _, _ => none
where okB : Value → Bool
  | .int .u8 (.ofNat k) => Nat.ble (k + 1) 256
  | _ => false
theorem bytesIn_get : ∀ {vs : List Value} {bs : List UInt8}, bytesIn vs = some bs → vs.all uStr.okB = true → ∀ (j : Nat) (x : UInt8), bs[j]? = some x → vs[j]? = some (.int .u8 x.toNat)
  | [], bs, hb, _, j, x, hx => by simp only [bytesIn, Option.some.injEq] at hb; subst hb; simp at hx
  | v :: vs, bs, hb, hok, j, x, hx => by
    unfold bytesIn at hb
    split at hb
    · rename_i e; cases e
    · rename_i n l e
      cases e
      split at hb
      · rename_i r hr
        cases hb
        simp only [List.all_cons, Bool.and_eq_true] at hok
        cases j with
        | zero =>
          simp at hx; subst hx
          have h1 := hok.1
          unfold uStr.okB at h1
          split at h1
          · rename_i k e
            cases e
            have := Nat.le_of_ble_eq_true h1
            simp only [List.getElem?_cons_zero, Option.some.injEq, Value.int.injEq, true_and]
            show Int.ofNat k = ((UInt8.ofNat (Int.ofNat k).toNat).toNat : Int)
            simp only [Int.ofNat_eq_natCast, Int.toNat_natCast, UInt8.toNat_ofNat']
            omega
          · cases h1
        | succ j => simpa using bytesIn_get hr hok.2 j x (by simpa using hx)
      · cases hb
    · cases hb
theorem uStr_good (ok : TyOK P T) (st : StRel μ h w) {ats : Array TypeId} (ty : TypeId) {p p' n n' v : Value} (hp : VRel μ h.next p p') (hn : VRel μ h.next n n') (ha : uStr T ats p n h = some (v, h')) : GoodV P μ h w (Builtin.unsafeString_ ats ty #[p', n']) v h' := by
  unfold uStr at ha
  split at ha
  · rename_i pt it hats
    cases ha; cases hp; cases hn
    have : ats = #[pt, it] := Array.toList_inj.1 hats
    subst this
    exact ⟨_, w, μ, Lib.run_unsafeString_none w pt it ty none, Ext.refl st, .string _⟩
  · rename_i pt it r m hats
    have : ats = #[pt, it] := Array.toList_inj.1 hats
    subst this
    split at ha
    · rename_i pi vs t hpt hr
      split at ha
      · rename_i u ti bs hpu ht hbs
        cases hb : Nat.beq u t && (Nat.beq ti.size 1 && (Nat.beq bs.length (m + 1) && (Nat.ble (m + 1) 9223372036854775807 && vs.all uStr.okB)))
        · rw [hb, cond_false] at ha; cases ha
        · rw [hb, cond_true] at ha
          cases ha
          simp only [Bool.and_eq_true] at hb
          obtain ⟨c1, c2, c3, c4, c5⟩ := hb
          obtain rfl := Nat.eq_of_beq_eq_true c1
          have hts := Nat.eq_of_beq_eq_true c2
          have hbl := Nat.eq_of_beq_eq_true c3
          have hmax := Nat.le_of_ble_eq_true c4
          cases hn
          cases hp with
          | ptr hlt hm =>
            rename_i e
            obtain ⟨hd0, cs, fz, g1, g2, g3⟩ := typed_shape st hr hm
            obtain ⟨up, _⟩ := und_of ok hpt; rw [hpu] at up
            obtain ⟨ut, i, hi1, hi2⟩ := und_of ok ht
            have hc1 : P.cellsOf u = 1 := by simp [Program.cellsOf, hi1, hi2, hts]
            have hget := bytesIn_get hbs c5
            have hrow : rowOf h r = some vs := by simp [rowOf, hr]
            have hvl : bs.length ≤ vs.length := by
              rcases Nat.lt_or_ge vs.length bs.length with hlt2 | hge
              · have := hget vs.length (bs[vs.length]'hlt2) (by simp)
                simp at this
              · exact hge
            have hrun := Lib.run_unsafeString_row (P := P) w pt it ty u up hc1 e.b cs.size g2 bs (by intro e0; rw [e0] at hbl; simp at hbl) (by omega) (by omega) (fun j x hx => by
              obtain ⟨v', k1, k2⟩ := st.cell hrow hm (hget j x hx)
              cases k2
              rw [hd0] at k1
              rw [← k1]
              congr 1
              unfold Addr.add
              by_cases hj : j = 0
              · subst hj; simp
              · simp [hj])
            have ew : (w.freeze ⟨e.b, 0, none⟩ bs.length).heap[e.b]? = some (.cells cs u (if fz.1 == fz.2 then (0, 0 + bs.length) else (min fz.1 0, max fz.2 (0 + bs.length)))) := by
              unfold World.freeze
              rw [if_neg (by omega)]
              simp only [Array.getElem?_modify, if_true, g1, Option.map_some]
            have eo : ∀ b, b ≠ e.b → (w.freeze ⟨e.b, 0, none⟩ bs.length).heap[b]? = w.heap[b]? := by
              intro b hb
              unfold World.freeze
              split
              · rfl
              · simp only [Array.getElem?_modify, if_neg (Ne.symm hb)]
            have es : (w.freeze ⟨e.b, 0, none⟩ bs.length).heap.size = w.heap.size := by
              unfold World.freeze
              split
              · rfl
              · simp
            have e1 : (w.freeze ⟨e.b, 0, none⟩ bs.length).os = w.os ∧ (w.freeze ⟨e.b, 0, none⟩ bs.length).output = w.output := by
              unfold World.freeze
              split <;> exact ⟨rfl, rfl⟩
            have x1 := Ext.set (o' := .ro []) st hr rfl hm es eo ew e1.1 e1.2 ⟨cs, u, _, rfl, fun i v hv => by simp at hv⟩
            refine ⟨_, _, μ, ?_, x1.trans (Ext.kill x1.st r), .string _⟩
            have : (Int.ofNat (m + 1)) = ((bs.length : Nat) : Int) := by rw [hbl]; rfl
            rw [this]
            simp only [hd0, Nat.zero_add]
            exact hrun
      · cases ha
    · cases ha
  · cases ha
noncomputable def uEntry (P : Program) (T : Tr TI) (t : TypeId) (m k : Value) (h : AHeap) : Option (Value × AHeap) :=
  match mapTypes T t, m with
  | some (kt, et), .map (some r) => match h.get r with
    | some (.map es clock) => bif keyOk P false kt k then match aFind P T kt k es with
      | some (some (i, v)) => match es[i]? with
        | some e => bif Instr.sameBits 10000 e.key k then some (.tuple #[v, .int .i64 e.born], h.set r (.map (es.set i ⟨k, e.val, e.born⟩) clock)) else none
        | none => none
      | some none => match T.get et with
        | some ei => match ei.zero with
          | some z => bif flat z then some (.tuple #[z, .int .i64 clock], h.set r (.map (es ++ [⟨k, z, clock⟩]) (clock + 1))) else none
          | none => none
        | none => none
      | none => none
      else none
    | _ => none
  | _, _ => none
theorem uEntry_good (ok : TyOK P T) (st : StRel μ h w) {t : TypeId} {m m' k k' v : Value} (hm : VRel μ h.next m m') (hk : VRel μ h.next k k') (ha : uEntry P T t m k h = some (v, h')) : GoodV P μ h w (Instr.mapEntry t m' k') v h' := by
  unfold uEntry at ha
  split at ha
  · rename_i kt et r hmt
    split at ha
    · rename_i es clock hg
      cases hko : keyOk P false kt k
      · rw [hko, cond_false] at ha; cases ha
      · rw [hko, cond_true] at ha
        obtain ⟨rfl, hck, hkf⟩ := keyOk_run hk hko w
        cases hm with
        | map hlt hmm =>
          rename_i e
          obtain ⟨ms, g1, g2, g3⟩ := st.getMap hg hmm
          have gO := run_getObj (P := P) g1 (fun _ _ _ => by simp)
          have gS : ∀ o', (Go.setObj e.b o').run P w = .ok () { w with heap := w.heap.setIfInBounds e.b o' } := fun o' => run_setObj g1 (fun _ _ _ => by simp)
          split at ha
          · rename_i i v0 hf
            obtain ⟨r', f1, f2⟩ := find_good ok g2 hf w
            cases r' with
            | none => exact f2.elim
            | some p =>
              obtain ⟨j, v1⟩ := p
              obtain ⟨rfl, f3⟩ := f2
              split at ha
              · rename_i en hen
                cases hsb : Instr.sameBits 10000 en.key k'
                · rw [hsb, cond_false] at ha; cases ha
                · rw [hsb, cond_true] at ha
                  cases ha
                  obtain ⟨mm, q1, q2⟩ := g2.getElem? _ hen
                  have hmk : ((ms[i]?).map (·.key)).getD k' = en.key := by rw [← Array.getElem?_toList, q1]; exact q2.key
                  have hbo : ((ms[i]?).map (fun m => (m.born : Int))).getD 0 = (en.born : Int) := by rw [← Array.getElem?_toList, q1]; exact congrArg Int.ofNat q2.born
                  have x := st.setObj hg rfl hmm (c' := .map (ms.modify i fun e => { e with key := k' }) clock) (o' := .map (es.set i ⟨k', en.val, en.born⟩) clock) ⟨g3, _, rfl, by
                    rw [modify_toList _ _ _ q1]
                    exact g2.set _ ⟨rfl, hkf, q2.val, q2.born⟩⟩
                  refine ⟨.tuple #[v1, goInt en.born], _, μ, ?_, x, .tuple (.cons (f3.mono x.agree x.next) (.cons (.int _ _) .nil))⟩
                  simp only [Instr.mapEntry, Sem.run_bind, mapTypes_run ok hmt, Result.andThen_ok, gO, hck, f1, hmk, Instr.keyThatStays, hsb, if_true, Sem.run_pure, gS, hbo]
              · cases ha
          · rename_i hf
            obtain ⟨r', f1, f2⟩ := find_good ok g2 hf w
            cases r' with
            | some p => exact f2.elim
            | none =>
              split at ha
              · rename_i ei hei
                split at ha
                · rename_i z hz
                  cases hfz : flat z
                  · rw [hfz, cond_false] at ha; cases ha
                  · rw [hfz, cond_true] at ha
                    cases ha
                    have x := st.setObj hg rfl hmm (c' := .map (ms.push { key := k', val := z, born := clock }) (clock + 1)) (o' := .map (es ++ [⟨k', z, clock⟩]) (clock + 1)) ⟨g3, _, rfl, by
                      rw [Array.toList_push]; exact g2.append (.cons ⟨rfl, hkf, .of_flat _ _ hfz, rfl⟩ .nil)⟩
                    refine ⟨.tuple #[z, goInt clock], _, μ, ?_, x, .tuple (.cons (.of_flat _ _ hfz) (.cons (.int _ _) .nil))⟩
                    simp only [Instr.mapEntry, Sem.run_bind, mapTypes_run ok hmt, Result.andThen_ok, gO, hck, f1, run_zeroValue ok hei w hz, gS, Sem.run_pure]
                · cases ha
              · cases ha
          · cases ha
    · cases ha
  · cases ha
noncomputable def atBorn (n : Nat) : List AEnt → Nat → Option Nat
  | [], _ => none
  | e :: es, i => bif Nat.beq e.born n then some i else atBorn n es (i + 1)
theorem atBorn_spec {k n : Nat} : ∀ {es : List AEnt} {ms : List MapEntry} {i j : Nat}, EsRel μ k es ms → atBorn n es i = some j → ∃ e, i ≤ j ∧ es[j - i]? = some e ∧ ms.findIdx? (fun m => (m.born : Int) == (n : Int)) = some (j - i)
  | _, _, i, j, .nil, h => by cases h
  | _, _, i, j, .cons (e := e) (m := m) (l := es) (l' := ms) h0 t, h => by
    simp only [atBorn] at h
    cases hb : Nat.beq e.born n
    · rw [hb, cond_false] at h
      obtain ⟨e', h1, h2, h3⟩ := atBorn_spec t h
      have hne : ((m.born : Int) == (n : Int)) = false := by
        rw [h0.born]
        have : e.born ≠ n := fun q => by rw [q, Nat.beq_refl] at hb; cases hb
        exact beq_eq_false_iff_ne.2 fun q => this (Int.ofNat.inj q)
      refine ⟨e', by omega, ?_, ?_⟩
      · rw [show j - i = (j - (i + 1)) + 1 by omega]; simpa using h2
      · rw [List.findIdx?_cons, hne, h3]
        simp; omega
    · rw [hb, cond_true] at h
      cases h
      have := Nat.eq_of_beq_eq_true hb
      refine ⟨e, Nat.le_refl _, by simp, ?_⟩
      rw [List.findIdx?_cons, h0.born, this]
      simp
noncomputable def uStore (m s x : Value) (h : AHeap) : Option (Value × AHeap) :=
  match m, s with
  | .map (some r), .int _ (.ofNat n) => match h.get r with
    | some (.map es clock) => match atBorn n es 0 with
      | some i => match es[i]? with
        | some e => some (.tuple #[], h.set r (.map (es.set i ⟨e.key, x, e.born⟩) clock))
        | none => none
      | none => none
    | _ => none
  | _, _ => none
theorem uStore_good (st : StRel μ h w) {t : TypeId} {m m' s s' x x' v : Value} (hm : VRel μ h.next m m') (hs : VRel μ h.next s s') (hx : VRel μ h.next x x') (ha : uStore m s x h = some (v, h')) : GoodU P μ h w (Instr.entryStore t m' s' x') h' ∧ v = .tuple #[] := by
  unfold uStore at ha
  split at ha
  · rename_i r ik n
    cases hs
    split at ha
    · rename_i es clock hg
      cases hm with
      | map hlt hmm =>
        rename_i e
        obtain ⟨ms, g1, g2, g3⟩ := st.getMap hg hmm
        split at ha
        · rename_i i hi
          split at ha
          · rename_i en hen
            cases ha
            obtain ⟨e', _, k2, k3⟩ := atBorn_spec g2 hi
            rw [Nat.sub_zero] at k2 k3
            obtain ⟨mm, q1, q2⟩ := g2.getElem? _ hen
            refine ⟨⟨_, μ, ?_, st.setObj hg rfl hmm (c' := .map (ms.modify i fun e => { e with val := x' }) clock) ⟨g3, _, rfl, by
              rw [modify_toList _ _ _ q1]
              exact g2.set _ ⟨q2.key, q2.kflat, hx, q2.born⟩⟩⟩, rfl⟩
            have k4 : ms.findIdx? (fun m => (m.born : Int) == Int.ofNat n) = some i := by obtain ⟨l⟩ := ms; simpa using k3
            simp only [Instr.entryStore, Sem.run_bind, run_getObj (P := P) g1 (fun _ _ _ => by simp), Result.andThen_ok, asInt, asIntOf, Sem.run_pure, k4, run_setObj (P := P) g1 (fun _ _ _ => by simp)]
          · cases ha
        · cases ha
    · cases ha
  · cases ha
noncomputable def uNeq (T : Tr TI) (tp : TypeId) (v u : Value) (h : AHeap) : Option (Value × AHeap) :=
  match v, u, T.get tp with
  | .pointer (some ⟨r, a, none⟩), .pointer (some ⟨s, b, none⟩), some ti => bif Nat.beq r s && Nat.beq a b then (match ti.und with
    | .pointer te => match T.get te with
      | some _ => some (.bool false, h)
      | none => none
    | _ => none) else none
  | _, _, _ => none
theorem uNeq_good (ok : TyOK P T) (st : StRel μ h w) {tp : TypeId} {v v' u u' x : Value} (hv : VRel μ h.next v v') (hu : VRel μ h.next u u') (ha : uNeq T tp v u h = some (x, h')) : GoodV P μ h w (binOp .neq tp v' u') x h' := by
  unfold uNeq at ha
  split at ha
  · rename_i r a s b ti ht
    cases hb : Nat.beq r s && Nat.beq a b
    · rw [hb, cond_false] at ha; cases ha
    · rw [hb, cond_true] at ha
      simp only [Bool.and_eq_true] at hb
      obtain rfl := Nat.eq_of_beq_eq_true hb.1
      obtain rfl := Nat.eq_of_beq_eq_true hb.2
      split at ha
      · rename_i te hte
        split at ha
        · rename_i ei hei
          cases ha
          obtain ⟨k1, _⟩ := und_of ok ht; rw [hte] at k1
          obtain ⟨_, i, k2, _⟩ := und_of ok hei
          cases hv with
          | ptr hlt hm => cases hu with
            | ptr hlt2 hm2 =>
              rw [hm] at hm2; cases hm2
              exact ⟨_, w, μ, Lib.run_neq_ptr_same w _ k1 k2, Ext.refl st, .bool _⟩
        · cases ha
      · cases ha
  · cases ha
theorem uNeq_guard (ok : TyOK P T) (st : StRel μ h w) {tp : TypeId} {v v' u u' x : Value} {o₁ o₂ : Operand} (hv : VRel μ h.next v v') (hu : VRel μ h.next u u') (ha : uNeq T tp v u h = some (x, h')) : eqGuard .neq tp o₁ o₂ v' u' = pure () := by
  unfold uNeq at ha
  split at ha
  · cases hv with
    | ptr hlt hm => rfl
  · cases ha
theorem um_get (st : StRel μ h w) {r : Nat} {es : List AEnt} {e : Ent} (hg : h.get r = some (.umap es)) (hm : μ r = some e) : ∃ ms clk, w.heap[e.b]? = some (.map ms clk) ∧ UM es ms.toList ∧ e.d = 0 := by
  obtain ⟨_, e', c, k1, k2, k3⟩ := st.live r _ hg
  rw [hm] at k1; cases k1
  obtain ⟨hd, ms, clk, rfl, hu⟩ := k3
  exact ⟨ms, clk, k2, hu, hd⟩
noncomputable def isK (ik : IntKind) (e : AEnt) : Bool :=
  match e.key with
  | .int k _ => decide (k = ik)
  | _ => false
noncomputable def hasK (n : Int) (e : AEnt) : Bool :=
  match e.key with
  | .int _ m => m == n
  | _ => false
noncomputable def findU (n : Int) : List AEnt → Option Value
  | [] => none
  | e :: es => bif hasK n e then some e.val else findU n es
noncomputable def uFind (T : Tr TI) (kt : TypeId) (ik : IntKind) (n : Int) (es : List AEnt) : Option Value :=
  match T.get kt with
  | some ki => match ki.und, findU n es with
    | .int _, some v => bif es.all (isK ik) && (flat v && es.all (fun e => !hasK n e || veq e.val v)) then some v else none
    | _, _ => none
  | none => none
theorem findU_mem {n : Int} {v : Value} : ∀ {es : List AEnt}, findU n es = some v → ∃ e ∈ es, hasK n e = true ∧ e.val = v
  | e :: es, h => by
    simp only [findU] at h
    cases hb : hasK n e
    · rw [hb, cond_false] at h; obtain ⟨a, h1, h2⟩ := findU_mem h; exact ⟨a, List.mem_cons_of_mem _ h1, h2⟩
    · rw [hb, cond_true] at h; cases h; exact ⟨e, List.mem_cons_self, hb, rfl⟩
theorem findNow_um {ik ik2 : IntKind} {n : Int} {v : Value} : ∀ (ms : List MapEntry) (i : Nat), (∀ m ∈ ms, ∃ x, m.key = .int ik x) → (∃ m ∈ ms, m.key = .int ik n) → (∀ m ∈ ms, m.key = .int ik n → m.val = v) →
    ∃ j mm, Instr.findNow (.int ik2) (.int ik n) ms i = some (some (i + j, v)) ∧ ms[j]? = some mm ∧ mm.key = .int ik n ∧ mm.val = v
  | [], i, _, h, _ => by obtain ⟨_, h, _⟩ := h; cases h
  | m :: ms, i, h1, h2, h3 => by
    obtain ⟨x, hx⟩ := h1 m List.mem_cons_self
    by_cases hn : n = x
    · subst hn
      have hv := h3 m List.mem_cons_self hx
      exact ⟨0, m, by simp [Instr.findNow, Instr.sameNow, hx, hv], by simp, hx, hv⟩
    · have h2' : ∃ m ∈ ms, m.key = .int ik n := by
        obtain ⟨m', a, b⟩ := h2
        cases a with
        | head => rw [hx] at b; cases b; exact (hn rfl).elim
        | tail _ a => exact ⟨m', a, b⟩
      obtain ⟨j, mm, k1, k2, k3⟩ := findNow_um (ik2 := ik2) ms (i + 1) (fun m hm => h1 m (List.mem_cons_of_mem _ hm)) h2' (fun m hm => h3 m (List.mem_cons_of_mem _ hm))
      refine ⟨j + 1, mm, ?_, by simpa using k2, k3⟩
      have hne : (n == x) = false := beq_eq_false_iff_ne.2 hn
      simp only [Instr.findNow, Instr.sameNow, hx, if_true, hne, k1]
      exact congrArg (fun q => some (some (q, v))) (by omega)
theorem uFind_run (ok : TyOK P T) {kt : TypeId} {ik : IntKind} {n : Int} {es : List AEnt} {v : Value} (hf : uFind T kt ik n es = some v) {ms : Array MapEntry} (hu : UM es ms.toList) (w : World) :
    flat v = true ∧ ∃ j mm, (Instr.findKey kt (.int ik n) ms.toList).run P w = .ok (some (j, v)) w ∧ ms.toList[j]? = some mm ∧ mm.key = .int ik n ∧ mm.val = v := by
  unfold uFind at hf
  split at hf
  · rename_i ki hki
    split at hf
    · rename_i ik2 v0 hund hv0
      cases hb : es.all (isK ik) && (flat v0 && es.all (fun e => !hasK n e || veq e.val v0))
      · rw [hb, cond_false] at hf; cases hf
      · rw [hb, cond_true] at hf
        cases hf
        simp only [Bool.and_eq_true, List.all_eq_true] at hb
        obtain ⟨b1, b2, b3⟩ := hb
        have key : ∀ e ∈ es, ∃ x, e.key = .int ik x := fun e he => by
          have := b1 e he
          unfold isK at this
          split at this
          · rename_i k x hk; exact ⟨x, by rw [hk, of_decide_eq_true this]⟩
          · cases this
        have is : ∀ e ∈ es, hasK n e = true → e.key = .int ik n := fun e he hn => by
          obtain ⟨x, hx⟩ := key e he
          simp only [hasK, hx, beq_iff_eq] at hn
          rw [hx, hn]
        obtain ⟨e, e1, e2, e3⟩ := findU_mem hv0
        obtain ⟨m, m1, m2, m3⟩ := hu.1 e e1
        obtain ⟨j, mm, k1, k2, k3, k4⟩ := findNow_um (ik2 := ik2) (v := v) ms.toList 0 (fun m hm => by obtain ⟨a, ha, g1, g2⟩ := hu.2 m hm; obtain ⟨x, hx⟩ := key a ha; exact ⟨x, g1.trans hx⟩) ⟨m, m1, m2.trans (is e e1 e2)⟩ (fun m hm hk => by
          obtain ⟨a, ha, g1, g2⟩ := hu.2 m hm
          have := b3 a ha
          have hh : hasK n a = true := by unfold hasK; rw [← g1, hk]; simp
          rw [hh] at this
          rw [g2]; exact veq_eq (by simpa using this))
        rw [Nat.zero_add] at k1
        exact ⟨b2, j, mm, by simp only [Instr.findKey, Sem.run_bind, run_underlying ok hki w, hund, Result.andThen_ok, k1, Sem.run_pure], k2, k3, k4⟩
    · cases hf
  · cases hf
noncomputable def uLook (P : Program) (T : Tr TI) (t : TypeId) (m k : Value) (c : Bool) (h : AHeap) : Option (Value × AHeap) :=
  match mapTypes T t, m, k with
  | some (kt, _), .map (some r), .int ik n => match h.get r with
    | some (.umap es) => match uFind T kt ik n es with
      | some v => bif keyOk P false kt (.int ik n) then some (bif c then .tuple #[v, .bool true] else v, h) else none
      | none => none
    | _ => none
  | _, _, _ => none
theorem uLook_good (ok : TyOK P T) (st : StRel μ h w) {t : TypeId} {m m' k k' v : Value} {c : Bool} (hm : VRel μ h.next m m') (hk : VRel μ h.next k k') (ha : uLook P T t m k c h = some (v, h')) : GoodV P μ h w (Instr.lookup t m' k' c) v h' := by
  unfold uLook at ha
  split at ha
  · rename_i kt et r ik n hmt
    cases hk
    split at ha
    · rename_i es hg
      split at ha
      · rename_i v0 hf
        cases hko : keyOk P false kt (.int ik n)
        · rw [hko, cond_false] at ha; cases ha
        · rw [hko, cond_true] at ha
          cases ha
          obtain ⟨_, hck, _⟩ := keyOk_run (n := h.next) (.int (μ := μ) ik n) hko w
          cases hm with
          | map hlt hmm =>
            obtain ⟨ms, clk, g1, g2, g3⟩ := um_get st hg hmm
            obtain ⟨hfl, j, mm, f1, f2, f3, f4⟩ := uFind_run ok hf g2 w
            have hne : ms.isEmpty = false := by
              cases hms : ms.isEmpty
              · rfl
              · have : ms = #[] := by simpa using hms
                subst this
                simp at f2
            refine ⟨if c then .tuple #[v0, .bool true] else v0, w, μ, ?_, ?_, ?_⟩
            · simp only [Instr.lookup, Sem.run_bind, mapTypes_run ok hmt, Result.andThen_ok, run_getObj (P := P) g1 (fun _ _ _ => by simp), Sem.run_pure, hne, hck, f1]
            · exact Ext.refl st
            · cases c
              · exact .of_flat _ _ hfl
              · exact .tuple (.cons (.of_flat _ _ hfl) (.cons (.bool _) .nil))
      · cases ha
    · cases ha
  · cases ha
noncomputable def uUpd (P : Program) (T : Tr TI) (t : TypeId) (m k x : Value) (h : AHeap) : Option (Value × AHeap) :=
  match mapTypes T t, m, k with
  | some (kt, _), .map (some r), .int ik n => match h.get r with
    | some (.umap es) => match uFind T kt ik n es with
      | some v => bif keyOk P false kt (.int ik n) && (veq x v && Instr.sameBits 10000 (.int ik n) (.int ik n)) then some (.tuple #[], h.set r (.umap es)) else none
      | none => none
    | _ => none
  | _, _, _ => none
theorem uUpd_good (ok : TyOK P T) (st : StRel μ h w) {t : TypeId} {m m' k k' x x' v : Value} (hm : VRel μ h.next m m') (hk : VRel μ h.next k k') (hx : VRel μ h.next x x') (ha : uUpd P T t m k x h = some (v, h')) : GoodU P μ h w (Instr.mapUpdate t m' k' x') h' ∧ v = .tuple #[] := by
  unfold uUpd at ha
  split at ha
  · rename_i kt et r ik n hmt
    cases hk
    split at ha
    · rename_i es hg
      split at ha
      · rename_i v0 hf
        cases hko : keyOk P false kt (.int ik n) && (veq x v0 && Instr.sameBits 10000 (.int ik n) (.int ik n))
        · rw [hko, cond_false] at ha; cases ha
        · rw [hko, cond_true] at ha
          cases ha
          simp only [Bool.and_eq_true] at hko
          obtain ⟨hko, hxv, hsb⟩ := hko
          have hxv := veq_eq hxv
          subst hxv
          obtain ⟨_, hck, _⟩ := keyOk_run (n := h.next) (.int (μ := μ) ik n) hko w
          cases hm with
          | map hlt hmm =>
            rename_i e
            obtain ⟨ms, clk, g1, g2, g3⟩ := um_get st hg hmm
            obtain ⟨hfl, j, mm, f1, f2, f3, f4⟩ := uFind_run ok hf g2 w
            have hxe := hx.flat_eq hfl
            subst hxe
            have gO := run_getObj (P := P) g1 (fun _ _ _ => by simp)
            have gS : ∀ o', (Go.setObj e.b o').run P w = .ok () { w with heap := w.heap.setIfInBounds e.b o' } := fun o' => run_setObj g1 (fun _ _ _ => by simp)
            have hmk : ((ms[j]?).map (·.key)).getD (.int ik n) = .int ik n := by rw [← Array.getElem?_toList, f2]; exact f3
            refine ⟨⟨_, μ, ?_, st.setObj hg rfl hmm (c' := .map (ms.modify j fun e => { e with key := .int ik n, val := x' }) clk) (o' := .umap es) ⟨g3, _, _, rfl, ?_⟩⟩, rfl⟩
            · simp only [Instr.mapUpdate, Sem.run_bind, mapTypes_run ok hmt, Result.andThen_ok, gO, hck, f1, hmk, Instr.keyThatStays, hsb, if_true, Sem.run_pure, gS]
            · rw [modify_toList _ _ _ f2]
              have hget : ∀ a, a ∈ ms.toList → ∃ b ∈ ms.toList.set j { mm with key := .int ik n, val := x' }, b.key = a.key ∧ b.val = a.val := fun a ha => by
                obtain ⟨i, hi⟩ := List.getElem?_of_mem ha
                by_cases hij : j = i
                · subst hij
                  rw [f2] at hi; cases hi
                  exact ⟨_, List.mem_of_getElem? (i := j) (by rw [List.getElem?_set, if_pos rfl, if_pos (List.getElem?_eq_some_iff.1 f2).1]), f3.symm, f4.symm⟩
                · exact ⟨a, List.mem_of_getElem? (i := i) (by rw [List.getElem?_set, if_neg hij]; exact hi), rfl, rfl⟩
              refine ⟨fun a ha => ?_, fun b hb => ?_⟩
              · obtain ⟨m, m1, m2, m3⟩ := g2.1 a ha
                obtain ⟨b, b1, b2, b3⟩ := hget m m1
                exact ⟨b, b1, b2.trans m2, b3.trans m3⟩
              · rcases List.mem_or_eq_of_mem_set hb with hb | hb
                · exact g2.2 b hb
                · subst hb
                  obtain ⟨a, a1, a2, a3⟩ := g2.2 mm (List.mem_of_getElem? f2)
                  exact ⟨a, a1, f3.symm.trans a2, f4.symm.trans a3⟩
      · cases ha
    · cases ha
  · cases ha
noncomputable def uOp (P : Program) (T : Tr TI) (o : Oper) (ρ : Operand → Option Value) (h : AHeap) : Option (Value × AHeap) :=
  match o.op with
  | .convert src dst x => match ρ x with
    | some v => uConv T src dst v h
    | none => none
  | .lookup t m k c => match ρ m, ρ k with
    | some a, some b => uLook P T t a b c h
    | _, _ => none
  | .mapUpdate t m k x => match ρ m, ρ k, ρ x with
    | some a, some b, some c => uUpd P T t a b c h
    | _, _, _ => none
  | .mapEntry t m k => match ρ m, ρ k with
    | some a, some b => uEntry P T t a b h
    | _, _ => none
  | .entryStore _ m s x => match ρ m, ρ s, ρ x with
    | some a, some b, some c => uStore a b c h
    | _, _, _ => none
  | .binOp .neq tp x y _ => match ρ x, ρ y with
    | some a, some b => uNeq T tp a b h
    | _, _ => none
  | .call ⟨.builtin .append, xs, ats⟩ => match aopnds ρ xs.toList with
    | some [s, x] => uApp T ats s x h
    | _ => none
  | .call ⟨.builtin .unsafeSliceData, xs, _⟩ => match aopnds ρ xs.toList with
    | some [s] => uData s h
    | _ => none
  | .call ⟨.builtin .unsafeString, xs, ats⟩ => match aopnds ρ xs.toList with
    | some [p, n] => uStr T ats p n h
    | _ => none
  | _ => none
theorem uOp_sound (ok : TyOK P T) {o : Oper} {ρ : Operand → Option Value} {v : Value} (ha : uOp P T o ρ h = some (v, h')) : OpWp P o ρ h fun x y => x = v ∧ y = h' := by
  intro μ ρ' w c cs hρ st
  obtain ⟨dst, op, ty, pos, after, guard⟩ := o
  unfold uOp at ha
  split at ha
  · rename_i src dst2 x hop
    simp only at hop; subst hop
    split at ha
    · rename_i u hu
      simp only [execOp]
      exact Lands.value (uConv_good ok st (hρ x _ hu) ha) ⟨rfl, rfl⟩
    · cases ha
  · rename_i t m k cc hop
    simp only at hop; subst hop
    split at ha
    · rename_i a b h1 h2
      simp only [execOp]
      exact Lands.value (uLook_good ok st (hρ m _ h1) (hρ k _ h2) ha) ⟨rfl, rfl⟩
    · cases ha
  · rename_i t m k x hop
    simp only at hop; subst hop
    split at ha
    · rename_i a b d h1 h2 h3
      obtain ⟨g, rfl⟩ := uUpd_good ok st (hρ m _ h1) (hρ k _ h2) (hρ x _ h3) ha
      simp only [execOp]
      exact Lands.unit g ⟨rfl, rfl⟩
    · cases ha
  · rename_i t m k hop
    simp only at hop; subst hop
    split at ha
    · rename_i a b h1 h2
      simp only [execOp]
      exact Lands.value (uEntry_good ok st (hρ m _ h1) (hρ k _ h2) ha) ⟨rfl, rfl⟩
    · cases ha
  · rename_i t m s x hop
    simp only at hop; subst hop
    split at ha
    · rename_i a b d h1 h2 h3
      obtain ⟨g, rfl⟩ := uStore_good (P := P) (t := t) st (hρ m _ h1) (hρ s _ h2) (hρ x _ h3) ha
      simp only [execOp]
      exact Lands.unit g ⟨rfl, rfl⟩
    · cases ha
  · rename_i tp x y yt hop
    simp only at hop; subst hop
    split at ha
    · rename_i a b h1 h2
      have g := uNeq_good ok st (hρ x _ h1) (hρ y _ h2) ha
      have q : eqGuard .neq tp x y (ρ' x) (ρ' y) = pure () := uNeq_guard ok st (hρ x _ h1) (hρ y _ h2) ha
      simp only [execOp, q, pure_bind]
      exact Lands.value g ⟨rfl, rfl⟩
    · cases ha
  · rename_i xs ats hop
    simp only at hop; subst hop
    split at ha
    · rename_i s x hx
      have hl : LRel μ h.next [s, x] (xs.map ρ').toList := by simpa using aopnds_rel hρ hx
      obtain ⟨x', y', e, h1, h2⟩ := hl.two
      simp only [execOp, resolve, pure_bind, invoke, e]
      exact Lands.value (uApp_good ok st ty h1 h2 ha) ⟨rfl, rfl⟩
    · cases ha
  · rename_i xs ats hop
    simp only at hop; subst hop
    split at ha
    · rename_i s hx
      have hl : LRel μ h.next [s] (xs.map ρ').toList := by simpa using aopnds_rel hρ hx
      obtain ⟨x', e, h1⟩ := hl.one
      simp only [execOp, resolve, pure_bind, invoke, e]
      exact Lands.value (uData_good st ats ty h1 ha) ⟨rfl, rfl⟩
    · cases ha
  · rename_i xs ats hop
    simp only at hop; subst hop
    split at ha
    · rename_i p n hx
      have hl : LRel μ h.next [p, n] (xs.map ρ').toList := by simpa using aopnds_rel hρ hx
      obtain ⟨x', y', e, h1, h2⟩ := hl.two
      simp only [execOp, resolve, pure_bind, invoke, e]
      exact Lands.value (uStr_good ok st ty h1 h2 ha) ⟨rfl, rfl⟩
    · cases ha
  · cases ha
end
noncomputable def xOp (E : Env) (call : CallV) (o : Oper) (ρ : Operand → Option Value) (h : AHeap) : Option (Value × AHeap) :=
  match uOp E.P E.T o ρ h with
  | some r => some r
  | none => zOp E call o ρ h
theorem xOp_sound {E : Env} (ok : EnvOK E) {call : CallV} (hv : VSound E.P call) (o : Oper) (ρ : Operand → Option Value) (h : AHeap) (v : Value) (h' : AHeap) (he : xOp E call o ρ h = some (v, h')) : OpWp E.P o ρ h fun x y => x = v ∧ y = h' := by
  unfold xOp at he
  split at he
  · rename_i r hr; cases he; exact uOp_sound ok.ty hr
  · exact zOp_sound ok hv o ρ h v h' he
end Go.Ab.Nx.Ux
namespace Go.Ab.Nx.Lx
open Go.Ab Go.Ab.Nx Go.Ab.Nx.Zx Go.Ab.Nx.Ux
set_option linter.unusedSimpArgs false
set_option linter.unusedVariables false
set_option maxRecDepth 100000
noncomputable abbrev Outs := List (AExit × Tr Value × AHeap)
noncomputable abbrev VOuts := List (Value × AHeap)
noncomputable abbrev CallL := Value → List Value → AHeap → Option VOuts
noncomputable def bindL {α β : Type} (f : α → Option (List β)) : List α → Option (List β)
  | [] => some []
  | x :: xs => match f x, bindL f xs with
    | some a, some b => some (a ++ b)
    | _, _ => none
theorem bindL_mem {α β : Type} {f : α → Option (List β)} : ∀ {l : List α} {r : List β}, bindL f l = some r → ∀ x ∈ l, ∃ ys, f x = some ys ∧ ∀ y ∈ ys, y ∈ r
  | [], r, h, x, hx => by cases hx
  | a :: l, r, h, x, hx => by
    simp only [bindL] at h
    split at h
    · rename_i p q hp hq
      cases h
      cases hx with
      | head => exact ⟨p, hp, fun y hy => List.mem_append_left _ hy⟩
      | tail _ hx =>
        obtain ⟨ys, h1, h2⟩ := bindL_mem hq x hx
        exact ⟨ys, h1, fun y hy => List.mem_append_right _ (h2 y hy)⟩
    · cases h
noncomputable def nextL (v : Value) (h : AHeap) : Option VOuts :=
  match v with
  | .pointer (some ⟨r, 0, none⟩) => match h.get r with
    | some (.mapIter (some m) since seen last) => match h.get m with
      | some (.map es clock) => bif !seen.isEmpty && !es.isEmpty && es.all (fun e => decide (e.born ≥ last)) then none else
        some ((bif ((left es seen).filter (fun e => decide (e.born < since))).isEmpty then [(.tuple #[.bool false], h)] else []) ++ (left es seen).map fun e => (.tuple #[.bool true, e.key, e.val], h.set r (.mapIter (some m) since (seen.push e.born) clock)))
      | _ => none
    | _ => none
  | _ => none
noncomputable def lOp (E : Env) (call : CallV) (callL : CallL) (o : Oper) (ρ : Operand → Option Value) (h : AHeap) : Option VOuts :=
  match o.op with
  | .call ⟨.value f, xs, _⟩ => match ρ f, aopnds ρ xs.toList with
    | some fv, some vs => callL fv vs h
    | _, _ => none
  | .next x false => match ρ x with
    | some v => nextL v h
    | none => none
  | _ => match xOp E call o ρ h with
    | some r => some [r]
    | none => none
noncomputable def lOps (E : Env) (call : CallV) (callL : CallL) (ops : Array Oper) (nt : Nat) : List Oper → Tr Value → AHeap → Option (List (Tr Value × AHeap))
  | [], a, h => some [(a, h)]
  | o :: os, a, h => match aguard ops a o with
    | some true => bif isDefer o.op then none else match lOp E call callL o (aopnd a) h with
      | some outs => bindL (fun x => match aput nt a o.dst x.1 with
        | some a' => lOps E call callL ops nt os a' x.2
        | none => none) outs
      | none => none
    | some false => match aput nt a o.dst (.tuple #[]) with
      | some a' => lOps E call callL ops nt os a' h
      | none => none
    | none => none
noncomputable abbrev CodeL := Cx → Code → Tr Value → AHeap → Option Outs
noncomputable def isApp (o : Oper) : Bool :=
  match o.op with
  | .call ⟨.builtin .append, _, _⟩ => true
  | _ => false
noncomputable def lStep (E : Env) (call : CallV) (callL : CallL) (code : CodeL) (cx : Cx) (c : Code) (a : Tr Value) (h : AHeap) : Option Outs :=
  match c with
  | .skip => some [(.normal, a, h)]
  | .label _ => some [(.normal, a, h)]
  | .region id ops draw => bif draw then (match (compDrawn E ops cx.nt).run call a h with
      | some r => some [(.normal, r)]
      | none => match Nx.evDrawn E.P E.T (xOp E call) ops cx.nt a h with
        | some r => some [(.normal, r)]
        | none => none)
    else match (bif ops.toList.any isApp then none else (compC (.region id ops false) E cx.fn cx.nt).run cx.rd call a h) with
      | some r => some [r]
      | none => match lOps E call callL ops cx.nt ops.toList a h with
        | some l => some (l.map fun r => (.normal, r))
        | none => none
  | .seq x y => match code cx x a h with
    | some outs => bindL (fun r => match r with
      | (.normal, a', h') => code cx y a' h'
      | r => some [r]) outs
    | none => none
  | .cond c x y => match aopnd a c with
    | some (.bool t) => bif t then code cx x a h else code cx y a h
    | _ => none
  | .block id c => match code cx c a h with
    | some outs => some (outs.map fun r => match r with
      | (.exit i, p) => (bif Nat.beq i id then .normal else .exit i, p)
      | r => r)
    | none => none
  | .loop c => match code cx c a h with
    | some outs => bindL (fun r => match r with
      | (.normal, a', h') => code cx (.loop c) a' h'
      | r => some [r]) outs
    | none => none
  | .rangeFunc f params assign body => match zRange E call cx f params assign body a h with
    | some r => some [r]
    | none => none
  | .exit id => some [(.exit id, a, h)]
  | .scope c => code cx c a h
  | .ret => some [(.ret, a, h)]
  | _ => none
noncomputable def lEv (E : Env) (call : CallV) (callL : CallL) : Nat → CodeL
  | 0 => fun _ _ _ _ => none
  | n + 1 => lStep E call callL (lEv E call callL n)
noncomputable def lFun (E : Env) (call : CallV) (callL : CallL) (n : Nat) (f : FuncId) (args : List Value) (h : AHeap) : Option VOuts :=
  match E.F.get f with
  | some fn => match fn.body with
    | some c => bif Nat.ble args.length fn.ntmps then match lEv E call callL n ⟨f, fn.ntmps, none⟩ c (entry args 0 .leaf) h with
        | some outs => bindL (fun r => match r with
          | (.exit _, _) => none
          | (_, a', h') => match aRet E.T fn a' h' with
            | some v => some [(v, h')]
            | none => none) outs
        | none => none
      else none
    | none => none
  | none => none
noncomputable def lCall (E : Env) (call : CallV) (B : List FuncId) (n : Nat) : Nat → CallL
  | 0 => fun _ _ _ => none
  | d + 1 => fun fv vs h => match fv with
    | .func (.func f) first cap => bif B.any (Nat.beq f) then lFun E call (lCall E call B n d) n f (first.toList ++ vs ++ cap.toList) h
      else match call fv vs h with
        | some r => some [r]
        | none => none
    | _ => match call fv vs h with
      | some r => some [r]
      | none => none
noncomputable def LSound (P : Program) (callL : CallL) : Prop := ∀ fv vs h outs, callL fv vs h = some outs → VWp P fv vs h fun x y => (x, y) ∈ outs
noncomputable def CSound (P : Program) (code : CodeL) : Prop := ∀ cx c a h outs, code cx c a h = some outs → CWp P cx c a h fun e a1 h1 => (e, a1, h1) ∈ outs
section
variable {E : Env} (ok : EnvOK E)
include ok
theorem lOp_sound {call : CallV} {callL : CallL} (hv : VSound E.P call) (hl : LSound E.P callL) (o : Oper) (ρ : Operand → Option Value) (h : AHeap) (outs : VOuts) (he : lOp E call callL o ρ h = some outs) : OpWp E.P o ρ h fun x y => (x, y) ∈ outs := by
  have det : ∀ {o : Oper}, (match xOp E call o ρ h with
      | some r => some [r]
      | none => none) = some outs → OpWp E.P o ρ h fun x y => (x, y) ∈ outs := by
    intro o he
    split at he
    · rename_i r hr
      cases he
      refine (xOp_sound ok hv o ρ h r.1 r.2 hr).mono ?_
      rintro x y ⟨rfl, rfl⟩
      exact List.mem_singleton.2 rfl
    · cases he
  unfold lOp at he
  split at he
  · rename_i f xs ats hop
    obtain ⟨dst, op, ty, pos, after, guard⟩ := o
    simp only at hop
    subst hop
    split at he
    · rename_i fv vs h1 h2
      exact OpWp.call h1 h2 (hl _ _ _ _ he)
    · cases he
  · rename_i x hop
    obtain ⟨dst, op, ty, pos, after, guard⟩ := o
    simp only at hop
    subst hop
    split at he
    · rename_i v hv
      intro μ ρ' w c cs hρ st
      unfold nextL at he
      split at he
      · rename_i r
        split at he
        · rename_i m since seen last hr
          split at he
          · rename_i es clock hm
            cases hc : !seen.isEmpty && !es.isEmpty && es.all (fun e => decide (e.born ≥ last))
            · rw [hc, cond_false] at he
              cases he
              rcases next_map (P := E.P) st hr hm hc (hρ x _ hv) ty with ⟨h1, h2⟩ | ⟨e, h1, h2⟩
              · simp only [execOp]
                exact Lands.value h2 (List.mem_append_left _ (by rw [h1]; exact List.mem_singleton.2 rfl))
              · simp only [execOp]
                exact Lands.value h2 (List.mem_append_right _ (List.mem_map.2 ⟨e, h1, rfl⟩))
            · rw [hc, cond_true] at he; cases he
          · cases he
        · cases he
      · cases he
    · cases he
  · exact det he
theorem lOps_sound {call : CallV} {callL : CallL} (hv : VSound E.P call) (hl : LSound E.P callL) {ops : Array Oper} {cx : Cx} : ∀ {os : List Oper} {i : Nat} {a : Tr Value} {h : AHeap} {outs : List (Tr Value × AHeap)}, ops.toList.drop i = os → lOps E call callL ops cx.nt os a h = some outs →
    OWp E.P cx ops (List.range' i os.length) a h fun x y => (x, y) ∈ outs
  | [], i, a, h, outs, _, he => by simp only [lOps, Option.some.injEq] at he; subst he; exact OWp.nil (List.mem_singleton.2 rfl)
  | o :: os, i, a, h, outs, hd, he => by
    have ho : ops[i]? = some o := by
      rw [← Array.getElem?_toList]
      have := congrArg (fun l : List Oper => l[0]?) hd
      simpa using this
    have hd1 : ops.toList.drop (i + 1) = os := by rw [← List.drop_drop, hd]; rfl
    simp only [lOps] at he
    rw [List.length_cons, List.range'_succ]
    split at he
    · rename_i hg
      cases hdf : isDefer o.op
      · rw [hdf, cond_false] at he
        split at he
        · rename_i l hop
          refine OWp.op ho hg hdf ((lOp_sound ok hv hl o _ _ _ hop).mono ?_)
          intro x y hx
          obtain ⟨ys, h1, h2⟩ := bindL_mem he (x, y) hx
          simp only at h1
          split at h1
          · rename_i a1 hp
            refine ⟨a1, hp, fun μ base tmps defers rd w k cs p => ?_⟩
            obtain ⟨a', h', μ', t', w', hm, q⟩ := lOps_sound hv hl hd1 h1 μ base tmps defers rd w k cs p
            exact ⟨a', h', μ', t', w', h2 _ hm, q⟩
          · cases h1
        · cases he
      · rw [hdf, cond_true] at he; cases he
    · rename_i hg
      split at he
      · rename_i a1 hp
        exact OWp.skip ho hg hp (lOps_sound hv hl hd1 he)
      · cases he
    · cases he
theorem lStep_sound {call : CallV} {callL : CallL} (hv : VSound E.P call) (hl : LSound E.P callL) {code : CodeL} (hs : CSound E.P code) : CSound E.P (lStep E call callL code) := by
  intro cx c a h outs he
  cases c with
  | skip => simp only [lStep, Option.some.injEq] at he; subst he; exact CWp.skip (List.mem_singleton.2 rfl)
  | label l => simp only [lStep, Option.some.injEq] at he; subst he; exact CWp.label (List.mem_singleton.2 rfl)
  | region id ops draw =>
    simp only [lStep] at he
    cases draw
    · simp only [cond_false] at he
      split at he
      · rename_i r hr
        cases he
        obtain ⟨e, a', h'⟩ := r
        cases hap : ops.toList.any isApp
        case true => rw [hap, cond_true] at hr; cases hr
        rw [hap, cond_false] at hr
        refine (compC_good ok hv (.region id ops false) cx.rd a h e a' h' hr).mono ?_
        rintro x y z ⟨rfl, rfl, rfl⟩
        exact List.mem_singleton.2 rfl
      split at he
      · rename_i l hr
        cases he
        have := lOps_sound ok hv hl (cx := cx) (i := 0) (by simp) hr
        rw [Array.length_toList, ← List.range_eq_range'] at this
        refine CWp.region (fun μ base tmps defers rd w k cs p => ?_)
        obtain ⟨a2, h2, μ2, t2, w2, hm, q⟩ := this μ base tmps defers rd w k cs p
        exact ⟨_, _, μ2, t2, w2, List.mem_map.2 ⟨_, hm, rfl⟩, q⟩
      · cases he
    · simp only [cond_true] at he
      split at he
      · rename_i r hr
        cases he
        refine Nx.evDrawn_sound ok.ty ok.mix (fun o ρ h u h' => zOp_sound ok hv o ρ h u h') (compDrawn_eq E call ops cx.nt a h r hr) ?_
        exact List.mem_singleton.2 rfl
      · split at he
        · rename_i r hr
          cases he
          refine Nx.evDrawn_sound ok.ty ok.mix (fun o ρ h u h' => xOp_sound ok hv o ρ h u h') hr ?_
          exact List.mem_singleton.2 rfl
        · cases he
  | seq x y =>
    simp only [lStep] at he
    split at he
    · rename_i l hx
      refine CWp.seq ((hs _ _ _ _ _ hx).mono ?_)
      intro e1 a1 h1 hm
      obtain ⟨ys, g1, g2⟩ := bindL_mem he _ hm
      cases e1 with
      | normal => exact (hs _ _ _ _ _ g1).mono fun _ _ _ hq => g2 _ hq
      | exit i => cases g1; exact g2 _ (List.mem_singleton.2 rfl)
      | ret => cases g1; exact g2 _ (List.mem_singleton.2 rfl)
    · cases he
  | cond c x y =>
    simp only [lStep] at he
    split at he
    · rename_i t ht
      refine CWp.cond ht ?_
      cases t
      · exact hs _ _ _ _ _ he
      · exact hs _ _ _ _ _ he
    · cases he
  | block id c =>
    simp only [lStep] at he
    split at he
    · rename_i l hx
      cases he
      refine CWp.block ((hs _ _ _ _ _ hx).mono ?_)
      intro e1 a1 h1 hm
      cases e1 with
      | normal => exact List.mem_map.2 ⟨_, hm, rfl⟩
      | ret => exact List.mem_map.2 ⟨_, hm, rfl⟩
      | exit i =>
        by_cases hi : i = id
        · subst hi
          simp only [if_true]
          exact List.mem_map.2 ⟨_, hm, by show ((bif Nat.beq i i then AExit.normal else AExit.exit i), a1, h1) = _; rw [show Nat.beq i i = true from Nat.beq_refl i]; rfl⟩
        · have : Nat.beq i id = false := by
            cases hb : Nat.beq i id
            · rfl
            · exact (hi (Nat.eq_of_beq_eq_true hb)).elim
          simp only [if_neg hi]
          exact List.mem_map.2 ⟨_, hm, by show ((bif Nat.beq i id then AExit.normal else AExit.exit i), a1, h1) = _; rw [this]; rfl⟩
    · cases he
  | loop c =>
    simp only [lStep] at he
    split at he
    · rename_i l hx
      refine CWp.loop1 ((hs _ _ _ _ _ hx).mono ?_)
      intro e1 a1 h1 hm
      obtain ⟨ys, g1, g2⟩ := bindL_mem he _ hm
      cases e1 with
      | normal => exact (hs _ _ _ _ _ g1).mono fun _ _ _ hq => g2 _ hq
      | exit i => cases g1; exact g2 _ (List.mem_singleton.2 rfl)
      | ret => cases g1; exact g2 _ (List.mem_singleton.2 rfl)
    · cases he
  | rangeFunc f params assign body =>
    simp only [lStep] at he
    split at he
    · rename_i r hr
      cases he
      refine (zRange_sound hv (cx := cx) hr).mono ?_
      rintro e1 a1 h1 ⟨rfl, rfl, rfl⟩
      exact List.mem_singleton.2 rfl
    · cases he
  | exit id => simp only [lStep, Option.some.injEq] at he; subst he; exact CWp.exit (List.mem_singleton.2 rfl)
  | scope c => exact CWp.scope (hs _ _ _ _ _ he)
  | goto l => cases he
  | ret => simp only [lStep, Option.some.injEq] at he; subst he; exact CWp.ret (List.mem_singleton.2 rfl)
  | refuse w => cases he
theorem lEv_sound {call : CallV} {callL : CallL} (hv : VSound E.P call) (hl : LSound E.P callL) : ∀ n, CSound E.P (lEv E call callL n)
  | 0 => fun _ _ _ _ _ he => by cases he
  | n + 1 => lStep_sound ok hv hl (lEv_sound hv hl n)
theorem lFun_sound {call : CallV} {callL : CallL} (hv : VSound E.P call) (hl : LSound E.P callL) {n : Nat} {f : FuncId} {args : List Value} {h : AHeap} {outs : VOuts} (he : lFun E call callL n f args h = some outs) : (∃ fn, Entered E.P f fn) ∧ FWp E.P f args h fun x y => (x, y) ∈ outs := by
  unfold lFun at he
  split at he
  · rename_i fn hf
    split at he
    · rename_i c hb
      cases hlen : Nat.ble args.length fn.ntmps
      · rw [hlen, cond_false] at he; cases he
      · rw [hlen, cond_true] at he
        refine ⟨⟨fn, ok.fn f fn hf⟩, ?_⟩
        split at he
        · rename_i l hc
          refine FWp.code ok.ty (ok.fn f fn hf).look hb (Nat.le_of_ble_eq_true hlen) ((lEv_sound ok hv hl n _ _ _ _ _ hc).mono ?_)
          intro e1 a1 h1 hm
          obtain ⟨ys, g1, g2⟩ := bindL_mem he _ hm
          cases e1 with
          | exit i => cases g1
          | normal =>
            simp only at g1
            split at g1
            · rename_i v hv; cases g1; exact ⟨_, hv, g2 _ (List.mem_singleton.2 rfl)⟩
            · cases g1
          | ret =>
            simp only at g1
            split at g1
            · rename_i v hv; cases g1; exact ⟨_, hv, g2 _ (List.mem_singleton.2 rfl)⟩
            · cases g1
        · cases he
    · cases he
  · cases he
theorem lCall_sound {call : CallV} (hv : VSound E.P call) (B : List FuncId) (n : Nat) : ∀ d, LSound E.P (lCall E call B n d)
  | 0 => fun _ _ _ _ he => by cases he
  | d + 1 => by
    intro fv vs h outs he
    have det : (match call fv vs h with
        | some r => some [r]
        | none => none) = some outs → VWp E.P fv vs h fun x y => (x, y) ∈ outs := by
      intro he
      split at he
      · rename_i r hr
        cases he
        refine (hv _ _ _ _ _ hr).mono ?_
        rintro x y ⟨rfl, rfl⟩
        exact List.mem_singleton.2 rfl
      · cases he
    simp only [lCall] at he
    split at he
    · rename_i f first cap
      cases hb : B.any (Nat.beq f)
      · rw [hb, cond_false] at he; exact det he
      · rw [hb, cond_true] at he
        obtain ⟨⟨fn, h1⟩, h2⟩ := lFun_sound ok hv (lCall_sound hv B n d) he
        exact VWp.func h1 h2
    · exact det he
end
noncomputable def trueV : Value → Bool
  | .bool b => b
  | _ => false
theorem trueV_eq {v : Value} (h : trueV v = true) : v = .bool true := by
  cases v <;> first | (cases h; done) | skip
  rename_i b
  cases b
  · cases h
  · rfl
noncomputable def allTrue (l : VOuts) : Bool := l.all fun x => trueV x.1
theorem allTrue_mem {l : VOuts} (h : allTrue l = true) (x : Value) (y : AHeap) (hm : (x, y) ∈ l) : x = .bool true := trueV_eq (List.all_eq_true.1 h (x, y) hm)
noncomputable def yesL : Option VOuts → Bool
  | some l => allTrue l
  | none => false
theorem yesL_some {x : Option VOuts} (h : yesL x = true) : ∃ l, x = some l ∧ allTrue l = true := by
  cases x with
  | none => cases h
  | some l => exact ⟨l, rfl, h⟩
theorem closedL_true {E : Env} (ok : EnvOK E) {call : CallV} (hv : VSound E.P call) {callL : CallL} (hs : LSound E.P callL) (n : Nat) {f : FuncId} (he : yesL (lFun E call callL n f [] ⟨0, .leaf⟩) = true) (w : World) : Calls E.P f #[] w fun e w' => e = .returned (.bool true) ∧ Kept w w' := by
  obtain ⟨l, hl, ha⟩ := yesL_some he
  have hf := (lFun_sound ok hv hs hl).2
  have st : StRel (fun _ => none) ⟨0, .leaf⟩ w := ⟨fun r o hr => (by have hr : (Tr.leaf : Tr AObj).get r = some o := hr; rw [Tr.get_leaf] at hr; cases hr), fun r q o p e f hr => (by have hr : (Tr.leaf : Tr AObj).get r = some _ := hr; rw [Tr.get_leaf] at hr; cases hr)⟩
  refine (hf (fun _ => none) #[] w .nil st).mono ?_
  rintro e w' ⟨x, v', h1, μ', rfl, hm, ex, hr⟩
  have hx := allTrue_mem ha _ _ hm
  subst hx
  exact ⟨by rw [hr.flat_eq rfl], ex.os, ex.output, ex.size, fun b hb => (ex.frame b hb fun r o e hr => (by have e := (Tr.get_leaf (α := AObj) _).symm.trans hr; cases e)).1⟩
end Go.Ab.Nx.Lx
namespace Go.Ab.Nx.Sx
open Go.Ab Go.Ab.Nx Go.Ab.Nx.Zx Go.Ab.Nx.Lx
set_option linter.unusedSimpArgs false
set_option linter.unusedVariables false
set_option maxRecDepth 100000
theorem Ext.drop {μ : Emb} {h g : AHeap} {w : World} (st : StRel μ h w) (hg : ∀ r o, g.get r = some o → h.get r = some o) (hn : g.next = h.next) : Ext μ h w μ g w :=
  ⟨by omega, Agree.refl _ _, Nat.le_refl _, rfl, rfl, fun b _ hb => ⟨rfl, fun r o e hr => hb r o e (hg r o hr)⟩, fun b _ hb r o e hr => hb r o e (hg r o hr),
    ⟨fun r o hr => by have := st.live r o (hg r o hr); rw [hn]; exact this, fun r q o p e f hr ho hq => st.apart r q o p e f (hg r o hr) ho (hg q p hq)⟩⟩
theorem CWp.drop {P : Program} {cx : Cx} {c : Code} {a : Tr Value} {h g : AHeap} {Q : AExit → Tr Value → AHeap → Prop} (hg : ∀ r o, g.get r = some o → h.get r = some o) (hn : g.next = h.next) (hc : CWp P cx c a g Q) : CWp P cx c a h Q := by
  intro μ base tmps defers rd w k cs p
  have x := Ext.drop p.st hg hn
  obtain ⟨e, a', h', μ', t', d', w', q, p', x', arr⟩ := hc μ base tmps defers rd w k cs (p.ext x)
  exact ⟨e, a', h', μ', t', d', w', q, p', x.trans x', arr⟩
noncomputable def rowsT : List (Nat × AObj) → Tr AObj
  | [] => .leaf
  | (r, o) :: l => (rowsT l).put r (some o)
noncomputable def mkH (n : Nat) (l : List (Nat × AObj)) : AHeap := ⟨n, rowsT l⟩
theorem rowsT_get : ∀ {l : List (Nat × AObj)} {r : Nat} {o : AObj}, (rowsT l).get r = some o → (r, o) ∈ l
  | [], r, o, h => by have e := (Tr.get_leaf (α := AObj) r).symm.trans h; cases e
  | (q, p) :: l, r, o, h => by
    simp only [rowsT, Tr.get_put] at h
    split at h
    · rename_i e; subst e; cases h; exact List.mem_cons_self
    · exact List.mem_cons_of_mem _ (rowsT_get h)
theorem mkH_get {n : Nat} {l : List (Nat × AObj)} {r : Nat} {o : AObj} (h : (mkH n l).get r = some o) : (r, o) ∈ l := rowsT_get h
theorem mkA_mem : ∀ {l : List (Nat × Value)} {t : Nat} {v : Value}, (mkA l).get t = some v → (t, v) ∈ l
  | [], t, v, h => by have e := (Tr.get_leaf (α := Value) t).symm.trans h; cases e
  | (s, u) :: l, t, v, h => by
    simp only [mkA, Tr.get_put] at h
    split at h
    · rename_i e; subst e; cases h; exact List.mem_cons_self
    · exact List.mem_cons_of_mem _ (mkA_mem h)
noncomputable def veqF : Value → Value → Bool := veq
theorem veqF_eq {v w : Value} (h : veqF v w = true) : v = w := veq_eq h
noncomputable def veqFs : List Value → List Value → Bool
  | [], [] => true
  | a :: l, b :: m => veqF a b && veqFs l m
  | _, _ => false
theorem veqFs_eq : ∀ {a b : List Value}, veqFs a b = true → a = b
  | [], [], _ => rfl
  | a :: l, b :: m, h => by simp only [veqFs, Bool.and_eq_true] at h; rw [veqF_eq h.1, veqFs_eq h.2]
  | [], _ :: _, h => by cases h
  | _ :: _, [], h => by cases h
noncomputable def eeqs : List AEnt → List AEnt → Bool
  | [], [] => true
  | a :: l, b :: m => (veqF a.key b.key && (veqF a.val b.val && Nat.beq a.born b.born)) && eeqs l m
  | _, _ => false
theorem eeqs_eq : ∀ {a b : List AEnt}, eeqs a b = true → a = b
  | [], [], _ => rfl
  | a :: l, b :: m, h => by
    simp only [eeqs, Bool.and_eq_true] at h
    obtain ⟨⟨h1, h2, h3⟩, h4⟩ := h
    cases a; cases b
    simp only at h1 h2 h3
    rw [veqF_eq h1, veqF_eq h2, Nat.eq_of_beq_eq_true h3, eeqs_eq h4]
  | [], _ :: _, h => by cases h
  | _ :: _, [], h => by cases h
noncomputable def oeq : AObj → AObj → Bool
  | .cells a n, .cells b m => Nat.beq n m && veqFs a b
  | .map a n, .map b m => Nat.beq n m && eeqs a b
  | .tcells a n, .tcells b m => Nat.beq n m && veqFs a b
  | .umap a, .umap b => eeqs a b
  | _, _ => false
theorem oeq_eq {a b : AObj} (h : oeq a b = true) : a = b := by
  unfold oeq at h
  split at h
  · simp only [Bool.and_eq_true] at h; rw [Nat.eq_of_beq_eq_true h.1, veqFs_eq h.2]
  · simp only [Bool.and_eq_true] at h; rw [Nat.eq_of_beq_eq_true h.1, eeqs_eq h.2]
  · simp only [Bool.and_eq_true] at h; rw [Nat.eq_of_beq_eq_true h.1, veqFs_eq h.2]
  · rw [eeqs_eq h]
  · cases h
structure Seg where
  next : Nat
  tmps : List (Nat × Value)
  rows : List (Nat × AObj)
noncomputable def okT (a : Tr Value) (p : Nat × Value) : Bool :=
  match a.get p.1 with
  | some v => veqF v p.2
  | none => false
noncomputable def okO (h : AHeap) (p : Nat × AObj) : Bool :=
  match h.get p.1 with
  | some o => oeq o p.2
  | none => false
noncomputable def same (a : Tr Value) (h : AHeap) (s : Seg) : Bool := Nat.beq s.next h.next && (s.tmps.all (okT a) && s.rows.all (okO h))
theorem same_spec {a : Tr Value} {h : AHeap} {s : Seg} (hs : same a h s = true) : (mkH s.next s.rows).next = h.next ∧ (∀ t v, (mkA s.tmps).get t = some v → a.get t = some v) ∧ ∀ r o, (mkH s.next s.rows).get r = some o → h.get r = some o := by
  simp only [same, Bool.and_eq_true, List.all_eq_true] at hs
  obtain ⟨h1, h2, h3⟩ := hs
  refine ⟨Nat.eq_of_beq_eq_true h1, fun t v hv => ?_, fun r o ho => ?_⟩
  · have := h2 _ (mkA_mem hv)
    simp only [okT] at this
    split at this
    · rename_i u hu; rw [hu, veqF_eq this]
    · cases this
  · have := h3 _ (mkH_get ho)
    simp only [okO] at this
    split at this
    · rename_i u hu; rw [hu, oeq_eq this]
    · cases this
noncomputable def okSt (e0 : AExit) (x : RS) (s : Seg) : Bool :=
  match x with
  | some (e, a, h) => (match e0, e with
    | .normal, .normal => true
    | .exit i, .exit j => Nat.beq i j
    | _, _ => false) && same a h s
  | none => false
theorem okSt_spec {e0 : AExit} {x : RS} {s : Seg} (h : okSt e0 x s = true) : ∃ a g, x = some (e0, a, g) ∧ same a g s = true := by
  unfold okSt at h
  split at h
  · rename_i e a g
    simp only [Bool.and_eq_true] at h
    refine ⟨a, g, ?_, h.2⟩
    have h1 := h.1
    split at h1
    · rfl
    · rw [Nat.eq_of_beq_eq_true h1]
    · cases h1
  · cases h
theorem CWp.from {P : Program} {cx : Cx} {c : Code} {a : Tr Value} {h : AHeap} {s : Seg} {Q : AExit → Tr Value → AHeap → Prop} (hs : same a h s = true) (hc : CWp P cx c (mkA s.tmps) (mkH s.next s.rows) Q) : CWp P cx c a h Q :=
  have ⟨h1, h2, h3⟩ := same_spec hs
  CWp.forget h2 (CWp.drop h3 h1 hc)
noncomputable def takeS : Nat → Code → List Code
  | k + 1, .seq x y => x :: takeS k y
  | _, _ => []
noncomputable def dropS : Nat → Code → Code
  | k + 1, .seq x y => dropS k y
  | _, c => c
noncomputable def chainZ (E : Env) (f : FuncId) (nt : Nat) (rd : Option Nat) (call : CallV) : List Code → Tr Value → AHeap → RS
  | [], a, h => some (.normal, a, h)
  | c :: cs, a, h => seqZ ((compC c E f nt).run rd call a h) call (fun _ a h => chainZ E f nt rd call cs a h)
section
variable {E : Env} (ok : EnvOK E) {call : CallV} (hv : VSound E.P call) {f : FuncId} {nt : Nat} {rd : Option Nat} {Q : AExit → Tr Value → AHeap → Prop}
include ok hv
theorem chain_good : ∀ {k : Nat} {c : Code} {a a' : Tr Value} {h h' : AHeap}, chainZ E f nt rd call (takeS k c) a h = some (.normal, a', h') → CWp E.P ⟨f, nt, rd⟩ (dropS k c) a' h' Q → CWp E.P ⟨f, nt, rd⟩ c a h Q
  | 0, c, a, a', h, h', he, hc => by
    have he : some (AExit.normal, a, h) = some (.normal, a', h') := by cases c <;> exact he
    have hc : CWp E.P ⟨f, nt, rd⟩ c a' h' Q := by cases c <;> exact hc
    cases he
    exact hc
  | k + 1, c, a, a', h, h', he, hc => by
    cases c with
    | seq x y =>
      have he : seqZ ((compC x E f nt).run rd call a h) call (fun _ a h => chainZ E f nt rd call (takeS k y) a h) = some (.normal, a', h') := he
      have hc : CWp E.P ⟨f, nt, rd⟩ (dropS k y) a' h' Q := hc
      rw [seqZ_eq] at he
      split at he
      · rename_i a1 h1 hx
        refine CWp.seq ((compC_good ok hv x rd a h _ _ _ hx).mono ?_)
        rintro e1 a2 h2 ⟨rfl, rfl, rfl⟩
        exact chain_good he hc
      · rename_i r hne
        exact (hne _ _ he).elim
    | _ => (have he : some (AExit.normal, a, h) = some (.normal, a', h') := he); cases he; exact hc
theorem CWp.chain {k : Nat} {c : Code} {a : Tr Value} {h : AHeap} (s : Seg) (he : okSt .normal (chainZ E f nt rd call (takeS k c) a h) s = true) (hc : CWp E.P ⟨f, nt, rd⟩ (dropS k c) (mkA s.tmps) (mkH s.next s.rows) Q) : CWp E.P ⟨f, nt, rd⟩ c a h Q := by
  obtain ⟨a', h', h1, h2⟩ := okSt_spec he
  exact chain_good ok hv h1 (CWp.from h2 hc)
end
noncomputable def okEnd (E : Env) (fn : Func) (x : RS) : Bool :=
  match x with
  | some (.exit _, _, _) => false
  | some (_, a, h) => match aRet E.T fn a h with
    | some v => trueV v
    | none => false
  | none => false
theorem CWp.last {E : Env} (ok : EnvOK E) {call : CallV} (hv : VSound E.P call) {f : FuncId} {fn : Func} {c : Code} {a : Tr Value} {h : AHeap} (he : okEnd E fn ((compC c E f fn.ntmps).run none call a h) = true) :
    CWp E.P ⟨f, fn.ntmps, none⟩ c a h fun e a' h' => match e with | .exit _ => False | _ => ∃ v, aRet E.T fn a' h' = some v ∧ v = .bool true := by
  rcases hx : (compC c E f fn.ntmps).run none call a h with _ | ⟨e, a', h'⟩
  · rw [hx] at he; cases he
  · rw [hx] at he
    refine (compC_good ok hv c none a h _ _ _ hx).mono ?_
    rintro e1 a2 h2 ⟨rfl, rfl, rfl⟩
    cases e1 with
    | exit i => cases he
    | normal =>
      have he : (match aRet E.T fn a2 h2 with
        | some v => trueV v
        | none => false) = true := he
      split at he
      · rename_i v hv; exact ⟨v, hv, trueV_eq he⟩
      · cases he
    | ret =>
      have he : (match aRet E.T fn a2 h2 with
        | some v => trueV v
        | none => false) = true := he
      split at he
      · rename_i v hv; exact ⟨v, hv, trueV_eq he⟩
      · cases he
theorem closed_pieces {E : Env} (ok : EnvOK E) {f : FuncId} {fn : Func} {c : Code} (hf : E.F.get f = some fn) (hb : fn.body = some c)
    (hc : CWp E.P ⟨f, fn.ntmps, none⟩ c .leaf ⟨0, .leaf⟩ fun e a' h' => match e with | .exit _ => False | _ => ∃ v, aRet E.T fn a' h' = some v ∧ v = .bool true) (w : World) : Calls E.P f #[] w fun e w' => e = .returned (.bool true) ∧ Kept w w' := by
  have hw : FWp E.P f [] ⟨0, .leaf⟩ fun x y => x = .bool true := FWp.code ok.ty (ok.fn f fn hf).look hb (Nat.zero_le _) (hc.mono fun e a' h' hq => by cases e <;> exact hq)
  have st : StRel (fun _ => none) ⟨0, .leaf⟩ w := ⟨fun r o hr => (by have hr : (Tr.leaf : Tr AObj).get r = some o := hr; rw [Tr.get_leaf] at hr; cases hr), fun r q o p e f hr => (by have hr : (Tr.leaf : Tr AObj).get r = some _ := hr; rw [Tr.get_leaf] at hr; cases hr)⟩
  refine (hw (fun _ => none) #[] w .nil st).mono ?_
  rintro e w' ⟨x, v', h1, μ', rfl, rfl, ex, hr⟩
  exact ⟨by rw [hr.flat_eq rfl], ex.os, ex.output, ex.size, fun b hb => (ex.frame b hb fun r o e hr => (by have e := (Tr.get_leaf (α := AObj) _).symm.trans hr; cases e)).1⟩
end Go.Ab.Nx.Sx
namespace Go.Ab.Nx.Dx
open Go.Ab Go.Ab.Nx Go.Ab.Nx.Zx
set_option linter.unusedSimpArgs false
set_option linter.unusedVariables false
noncomputable def DefW (P : Program) (g : FuncId) (caps : List Value) (h : AHeap) (K : AHeap → Prop) : Prop :=
  ∀ (μ : Emb) (caps' : Array Value) (w : World), LRel μ h.next caps caps'.toList → StRel μ h w → ∀ (c : Frame) (cs : List Frame), c.mode = .returning →
    ∃ v h' μ' w' fr, K h' ∧ Ext μ h w μ' h' w' ∧ Steps P (lone (Frame.enter P g caps' .deferred) (c :: cs) w) (lone fr (c :: cs) w') ∧ fr.kind = .deferred ∧ fr.going P w' (.returned v)
section
variable {P : Program} {T : Tr TI} {h : AHeap}
theorem entry_act2 {μ : Emb} {args : List Value} {args' : Array Value} {n : Nat} (hl : LRel μ h.next args args'.toList) : ActRel μ h.next (entry args 0 .leaf) (args' ++ Array.replicate n undef) := by
  intro t v hv
  rw [entry_get] at hv
  split at hv
  · obtain ⟨v', h1, h2⟩ := hl.getElem? _ hv
    rw [Nat.sub_zero, Array.getElem?_toList] at h1
    exact ⟨v', by rw [Array.getElem?_append_left (Array.getElem?_eq_some_iff.1 h1).1]; exact h1, h2⟩
  · rw [Tr.get_leaf] at hv; cases hv
theorem ext_marks {μ μ' : Emb} {h' : AHeap} {w w' w2 : World} {d' : List Deferred} (x' : Ext μ h w μ' h' w') (dge : ∀ d ∈ d', ∀ q, d.target = .collected q → w.heap.size ≤ q) (g2 : StRel μ' h' w2) (g3 : w2.heap.size = w'.heap.size) (g4 : w2.os = w'.os) (g5 : w2.output = w'.output)
    (g6 : ∀ b, (∀ d ∈ d', ∀ q, d.target = .collected q → q ≠ b) → w2.heap[b]? = w'.heap[b]?) : Ext μ h w μ' h' w2 := by
  refine ⟨x'.next, x'.agree, by have := x'.size; omega, g4.trans x'.os, g5.trans x'.output, fun b hb hfr => ?_, x'.free, g2⟩
  obtain ⟨y1, y2⟩ := x'.frame b hb hfr
  refine ⟨(g6 b fun d hd q hq => ?_).trans y1, y2⟩
  have := dge d hd q hq
  omega
theorem ends {P : Program} {fn : FuncId} {b : Bool} {tmps tmps' : Array Value} {d d' : List Deferred} {cs : List Frame} {w w' : World} {c : Code} {e : AExit} (hne : ∀ i, e ≠ .exit i) (arr : Arr P (lone (frame fn ⟨none, b⟩ tmps d [.code c]) cs w) fn ⟨none, b⟩ [] cs e tmps' d' w') :
    ∃ todo, Steps P (lone (frame fn ⟨none, b⟩ tmps d [.code c]) cs w) (lone { frame fn ⟨none, b⟩ tmps' d' todo with mode := .returning } cs w') := by
  cases e with
  | exit i => exact (hne i rfl).elim
  | normal => exact ⟨[], Steps.trans arr (.one (step_lone_go (by simp [stepG, stepG.exec, frame])))⟩
  | ret => obtain ⟨k0, hs⟩ := arr; exact ⟨.code .ret :: k0, Steps.trans hs (.one (step_lone_go (by simp [stepG, stepG.exec, frame])))⟩
theorem DefW.code {g : FuncId} {fg : Func} {c : Code} {caps : List Value} {K : AHeap → Prop} (hf : P.funcs[g]? = some fg) (hb : fg.body = some c) (hres : fg.results = #[]) (hn : caps.length ≤ fg.ntmps)
    (hc : CWp P ⟨g, fg.ntmps, none⟩ c (entry caps 0 .leaf) h fun e _ h' => (∀ i, e ≠ .exit i) ∧ K h') : DefW P g caps h K := by
  intro μ caps' w hl st c0 cs hu
  have hlen := hl.length
  simp only [Array.length_toList] at hlen
  have hsz : (caps' ++ Array.replicate (fg.ntmps - caps'.size) undef).size = fg.ntmps := by simp; omega
  obtain ⟨e, a', h', μ', t', d', w', ⟨q1, q2⟩, p', x', arr⟩ := hc μ ⟨w.heap.size, []⟩ _ [] ⟨none, true⟩ w [] (c0 :: cs) ⟨entry_act2 hl, hsz, trivial, .nil (fun _ hd => by cases hd), fun _ => rfl, fun d hd => (by cases hd), Nat.le_refl _, st⟩
  have henter : Frame.enter P g caps' .deferred = frame g ⟨none, true⟩ (caps' ++ Array.replicate (fg.ntmps - caps'.size) undef) [] [.code c] := by simp [Frame.enter, frame, RK.kind, hf, hb]
  obtain ⟨todo, hs⟩ := ends q1 arr
  obtain ⟨w2, g1, g2, g3, g4, g5, g6⟩ := take_marks (P := P) (fn := g) (rd := ⟨none, true⟩) (tmps := t') (todo := todo) (cs := c0 :: cs) p'.st p'.dok
  refine ⟨.tuple #[], h', μ', w2, { frame g ⟨none, true⟩ t' [] todo with mode := .returning }, q2, ext_marks x' p'.dge g2 g3 g4 g5 fun b hb => g6 b (.inl hb), by rw [henter]; exact hs.trans g1, rfl, rfl, rfl, fg, hf, ?_⟩
  simp [results, hres]
theorem DefW.recover {g : FuncId} {fg : Func} {caps : List Value} {K : AHeap → Prop} {id : Nat} {t5 t2 : Nat} {ats : Array TypeId} {ty ty2 : TypeId} {pos pos2 : String} {af af2 : Array Edge} {Z : Code}
    (hf : P.funcs[g]? = some fg) (hb : fg.body = some (.seq (.region id #[⟨some t5, .call ⟨.builtin .recover, #[], ats⟩, ty, pos, af, none⟩, ⟨some t2, .assign (.tmp t5), ty2, pos2, af2, none⟩] false) Z)) (hres : fg.results = #[]) (hn : caps.length ≤ fg.ntmps) (h5 : t5 < fg.ntmps) (h2 : t2 < fg.ntmps)
    (hc : CWp P ⟨g, fg.ntmps, none⟩ Z (((entry caps 0 .leaf).put t5 (some .nilIface)).put t2 (some .nilIface)) h fun e _ h' => (∀ i, e ≠ .exit i) ∧ K h') : DefW P g caps h K := by
  intro μ caps' w hl st c cs hu
  have hlen := hl.length
  simp only [Array.length_toList] at hlen
  obtain ⟨tm, htm⟩ : ∃ tm, tm = caps' ++ Array.replicate (fg.ntmps - caps'.size) undef := ⟨_, rfl⟩
  have hsz : tm.size = fg.ntmps := by rw [htm]; simp; omega
  have hact : ActRel μ h.next (entry caps 0 .leaf) tm := by rw [htm]; exact entry_act2 hl
  obtain ⟨R, hR⟩ : ∃ R : Array Oper, R = #[⟨some t5, .call ⟨.builtin .recover, #[], ats⟩, ty, pos, af, none⟩, ⟨some t2, .assign (.tmp t5), ty2, pos2, af2, none⟩] := ⟨_, rfl⟩
  have henter : Frame.enter P g caps' .deferred = frame g ⟨none, true⟩ tm [] [.code (.seq (.region id R false) Z)] := by simp [Frame.enter, frame, RK.kind, hf, hb, htm, hR]
  have o0 : R[0]? = some ⟨some t5, .call ⟨.builtin .recover, #[], ats⟩, ty, pos, af, none⟩ := by rw [hR]; rfl
  have o1 : R[1]? = some ⟨some t2, .assign (.tmp t5), ty2, pos2, af2, none⟩ := by rw [hR]; rfl
  have hcm : ({ c with mode := .returning } : Frame) = c := by rw [← hu]
  have s1 : step P (lone (frame g ⟨none, true⟩ tm [] (.inRegion R [0, 1] :: [.code Z])) (c :: cs) w) = .next (lone (frame g ⟨none, true⟩ (put tm (some t5) .nilIface) [] (.inRegion R [1] :: [.code Z])) (c :: cs) w) := by
    have hfin : (frame g ⟨none, true⟩ tm [] (.inRegion R [0, 1] :: [.code Z])).finish .nilIface = frame g ⟨none, true⟩ (put tm (some t5) .nilIface) [] (.inRegion R [1] :: [.code Z]) := by rw [finish_region, o0]; rfl
    rw [← hfin]
    refine step_lone_go ?_
    have hg := stG_op (P := P) (fn := g) (rd := ⟨none, true⟩) (tmps := tm) (defers := []) (k := [.code Z]) (cs := c :: cs) (w := w) (rest := [1]) o0 rfl rfl
    rw [hg]
    simp [stepG.apply, execOp, resolve, invoke, builtin, frame, RK.kind, tryRecover, hu, hcm]
  have hrv : VRel μ h.next .nilIface .nilIface := .nilIface
  obtain ⟨r1, r2⟩ := hact.put (nt := fg.ntmps) (dst := some t5) hsz hrv (a' := (entry caps 0 .leaf).put t5 (some .nilIface)) (by simp only [aput]; rw [Nat.ble_eq_true_of_le (by omega : t5 + 1 ≤ fg.ntmps)]; rfl)
  have s2 : step P (lone (frame g ⟨none, true⟩ (put tm (some t5) .nilIface) [] (.inRegion R [1] :: [.code Z])) (c :: cs) w) = .next (lone (frame g ⟨none, true⟩ (put (put tm (some t5) .nilIface) (some t2) .nilIface) [] (.inRegion R [] :: [.code Z])) (c :: cs) w) := by
    refine st_op_value o1 rfl rfl (nx := .value .nilIface) ?_ (.inl rfl)
    have : (put tm (some t5) .nilIface).getD t5 undef = .nilIface := by simp [put, Array.getD_eq_getD_getElem?, show t5 < tm.size by omega]
    simp [execOp, opnd, this]
  obtain ⟨q1, q2⟩ := r1.put (nt := fg.ntmps) (dst := some t2) r2 hrv (a' := ((entry caps 0 .leaf).put t5 (some .nilIface)).put t2 (some .nilIface)) (by simp only [aput]; rw [Nat.ble_eq_true_of_le (by omega : t2 + 1 ≤ fg.ntmps)]; rfl)
  obtain ⟨e, a', h', μ', t', d', w', ⟨z1, z2⟩, p', x', arr⟩ := hc μ ⟨w.heap.size, []⟩ _ [] ⟨none, true⟩ w [] (c :: cs) ⟨q1, q2, trivial, .nil (fun _ hd => by cases hd), fun _ => rfl, fun d hd => (by cases hd), Nat.le_refl _, st⟩
  obtain ⟨todo, hs⟩ := ends z1 arr
  obtain ⟨w2, g1, g2, g3, g4, g5, g6⟩ := take_marks (P := P) (fn := g) (rd := ⟨none, true⟩) (tmps := t') (todo := todo) (cs := c :: cs) p'.st p'.dok
  refine ⟨.tuple #[], h', μ', w2, { frame g ⟨none, true⟩ t' [] todo with mode := .returning }, z2, ext_marks x' p'.dge g2 g3 g4 g5 fun b hb => g6 b (.inl hb), ?_, rfl, rfl, rfl, fg, hf, ?_⟩
  · rw [henter]
    have hrange : List.range R.size = [0, 1] := by rw [hR]; rfl
    have s0 : step P (lone (frame g ⟨none, true⟩ tm [] (.code (.region id R false) :: [.code Z])) (c :: cs) w) = .next (lone (frame g ⟨none, true⟩ tm [] (.inRegion R [0, 1] :: [.code Z])) (c :: cs) w) := by rw [← hrange]; exact st_region
    exact .head st_seq (.head s0 (.head s1 (.head s2 (.head st_region_end (hs.trans g1)))))
  · simp [results, hres]
noncomputable def DWp (P : Program) (f : FuncId) (nt : Nat) (c : Code) (a : Tr Value) (h : AHeap) (K : Value → AHeap → Prop) : Prop :=
  ∀ (μ0 : Emb) (h0 : AHeap) (w0 : World) (μ : Emb) (tmps : Array Value) (d : List Deferred) (w : World) (cs : List Frame) (m0 : Machine), Ext μ0 h0 w0 μ h w → Pre μ ⟨w0.heap.size, []⟩ ⟨f, nt, none⟩ a h tmps d ⟨none, false⟩ w → Steps P m0 (lone (frame f ⟨none, false⟩ tmps d [.code c]) cs w) →
    ∃ e w' fr, (∃ v v' h' μ', e = Ending.returned v' ∧ K v h' ∧ Ext μ0 h0 w0 μ' h' w' ∧ VRel μ' h'.next v v') ∧ Comes P m0 (lone fr cs w') e ∧ fr.fn = f ∧ fr.leaving P w' e
theorem DWp.fin (ok : TyOK P T) {f : FuncId} {fn : Func} {K : Value → AHeap → Prop} (hf : P.funcs[f]? = some fn) {μ0 μ' : Emb} {h0 h' : AHeap} {w0 w' : World} {t' : Array Value} {d' : List Deferred} {a' : Tr Value} {cs : List Frame} {m0 : Machine} {todo : List Item} {v : Value}
    (x' : Ext μ0 h0 w0 μ' h' w') (act : ActRel μ' h'.next a' t') (dok : DOk [] μ' h' w' d') (dge : ∀ d ∈ d', ∀ q, d.target = .collected q → w0.heap.size ≤ q) (hr : aRet T fn a' h' = some v) (hk : K v h') (hs : Steps P m0 (lone { frame f ⟨none, false⟩ t' d' todo with mode := .returning } cs w')) :
    ∃ e w'' fr, (∃ v v' h' μ', e = Ending.returned v' ∧ K v h' ∧ Ext μ0 h0 w0 μ' h' w'' ∧ VRel μ' h'.next v v') ∧ Comes P m0 (lone fr cs w'') e ∧ fr.fn = f ∧ fr.leaving P w'' e := by
  obtain ⟨w2, g1, g2, g3, g4, g5, g6⟩ := take_marks (P := P) (fn := f) (rd := ⟨none, false⟩) (tmps := t') (todo := todo) (cs := cs) x'.st dok
  obtain ⟨v', r1, r2⟩ := ret_good ok g2 act hr
  exact ⟨.returned v', w2, { frame f ⟨none, false⟩ t' [] todo with mode := .returning }, ⟨v, v', h', μ', rfl, hk, ext_marks x' dge g2 g3 g4 g5 fun b hb => g6 b (.inl hb), r2⟩, Steps.trans hs g1, rfl, rfl, rfl, rfl, fn, hf, r1⟩
theorem DWp.seq (ok : TyOK P T) {f : FuncId} {fn : Func} {K : Value → AHeap → Prop} (hf : P.funcs[f]? = some fn) {y z : Code} {a : Tr Value}
    (hc : CWp P ⟨f, fn.ntmps, none⟩ y a h fun e a' h' => match e with | .normal => DWp P f fn.ntmps z a' h' K | .ret => ∃ v, aRet T fn a' h' = some v ∧ K v h' | .exit _ => False) : DWp P f fn.ntmps (.seq y z) a h K := by
  intro μ0 h0 w0 μ tmps d w cs m0 x p hs
  obtain ⟨e, a', h', μ', t', d', w', q, p', x', arr⟩ := hc μ _ tmps d _ w [.code z] cs p
  cases e with
  | exit i => exact q.elim
  | normal => exact q μ0 h0 w0 μ' t' d' w' cs m0 (x.trans x') p' (hs.trans (.head st_seq arr))
  | ret =>
    obtain ⟨v, q1, q2⟩ := q
    obtain ⟨k0, hs2⟩ := arr
    exact DWp.fin (todo := .code .ret :: k0) ok hf (x.trans x') p'.act p'.dok p'.dge q1 q2 ((hs.trans (.head st_seq hs2)).trans (.one (step_lone_go (by simp [stepG, stepG.exec, frame]))))
theorem DWp.defer (ok : TyOK P T) {f g : FuncId} {fn fg : Func} {K : Value → AHeap → Prop} (hf : P.funcs[f]? = some fn) (he : Entered P g fg) {C : Code} {a : Tr Value} {id : Nat} {t4 : Nat} {xs : Array Operand} {ty ty2 : TypeId} {pos pos2 : String} {af af2 : Array Edge} {ats : Array TypeId} {caps : List Value} (h4 : t4 < fn.ntmps)
    (hx : aopnds (aopnd a) xs.toList = some caps)
    (hc : CWp P ⟨f, fn.ntmps, none⟩ C (a.put t4 (some (.func (.func g) #[] caps.toArray))) h fun e a3 h3 => (∀ i, e ≠ .exit i) ∧ DefW P g caps h3 fun h4 => ∃ v, aRet T fn a3 h4 = some v ∧ K v h4) :
    DWp P f fn.ntmps (.seq (.region id #[⟨some t4, .makeFunc (.func g) #[] xs, ty, pos, af, none⟩, ⟨none, .defer ⟨.value (.tmp t4), #[], ats⟩, ty2, pos2, af2, none⟩] false) C) a h K := by
  intro μ0 h0 w0 μ tmps d w cs m0 x p hs
  obtain ⟨R, hR⟩ : ∃ R : Array Oper, R = #[⟨some t4, .makeFunc (.func g) #[] xs, ty, pos, af, none⟩, ⟨none, .defer ⟨.value (.tmp t4), #[], ats⟩, ty2, pos2, af2, none⟩] := ⟨_, rfl⟩
  rw [← hR] at hs
  have o0 : R[0]? = some ⟨some t4, .makeFunc (.func g) #[] xs, ty, pos, af, none⟩ := by rw [hR]; rfl
  have o1 : R[1]? = some ⟨none, .defer ⟨.value (.tmp t4), #[], ats⟩, ty2, pos2, af2, none⟩ := by rw [hR]; rfl
  have hrange : List.range R.size = [0, 1] := by rw [hR]; rfl
  have s0 : step P (lone (frame f ⟨none, false⟩ tmps d (.code (.region id R false) :: [.code C])) cs w) = .next (lone (frame f ⟨none, false⟩ tmps d (.inRegion R [0, 1] :: [.code C])) cs w) := by rw [← hrange]; exact st_region
  have hcr : LRel μ h.next caps ((xs.map (opnd tmps)).toList) := by rw [Array.toList_map]; exact aopnds_rel p.act.opnd hx
  have s1 : step P (lone (frame f ⟨none, false⟩ tmps d (.inRegion R [0, 1] :: [.code C])) cs w) = .next (lone (frame f ⟨none, false⟩ (put tmps (some t4) (.func (.func g) #[] (xs.map (opnd tmps)))) d (.inRegion R [1] :: [.code C])) cs w) :=
    st_op_value o0 rfl rfl (nx := .value (.func (.func g) #[] (xs.map (opnd tmps)))) (by simp [execOp, Instr.makeFunc]) (.inl rfl)
  have hfv : VRel μ h.next (.func (.func g) #[] caps.toArray) (.func (.func g) #[] (xs.map (opnd tmps))) := .func (fun l => by simp) .nil (by simpa using hcr)
  obtain ⟨r1, r2⟩ := p.act.put (nt := fn.ntmps) (dst := some t4) p.size hfv (a' := a.put t4 (some (.func (.func g) #[] caps.toArray))) (by simp only [aput]; rw [Nat.ble_eq_true_of_le (by omega : t4 + 1 ≤ fn.ntmps)]; rfl)
  obtain ⟨dd, hdd⟩ : ∃ dd : Deferred, dd = { target := .fn (.func g) (xs.map (opnd tmps)), args := #[] } := ⟨_, rfl⟩
  obtain ⟨tq, htq⟩ : ∃ tq, tq = put tmps (some t4) (.func (.func g) #[] (xs.map (opnd tmps))) := ⟨_, rfl⟩
  rw [← htq] at s1 r1 r2
  have hget : tq.getD t4 undef = .func (.func g) #[] (xs.map (opnd tmps)) := by
    have := p.size
    simp only at this
    rw [htq]; simp [put, Array.getD_eq_getD_getElem?, show t4 < tmps.size by omega]
  have s2 : step P (lone (frame f ⟨none, false⟩ tq d (.inRegion R [1] :: [.code C])) cs w) = .next (lone (frame f ⟨none, false⟩ tq (dd :: d) (.inRegion R [] :: [.code C])) cs w) := by
    refine step_lone_go ?_
    have hev : (frame f ⟨none, false⟩ tq d (.inRegion R [1] :: [.code C])).eval = opnd tq := frame_eval ..
    simp only [frame, RK.kind, cond_false] at hev
    have hw : Region.wanted ⟨none, .defer ⟨.value (.tmp t4), #[], ats⟩, ty2, pos2, af2, none⟩ (yielded R tq) = true := rfl
    simp [stepG, stepG.exec, stepG.oper, Frame.oper?, frame, RK.kind, o1, hw, hev, stepG.apply, execOp, resolve, opnd, hget, Deferred.ofValue, Frame.finish, hdd]
  have hlt : ∀ e ∈ dd :: d, ∀ q, e.target = .collected q → q < w.heap.size := by
    intro e he q hq
    cases he with
    | head => rw [hdd] at hq; cases hq
    | tail _ he => exact p.dok.lt e he q hq
  obtain ⟨e, a3, h3, μ3, t3, d3, w3, ⟨q1, q2⟩, p3, x3, arr⟩ := hc μ ⟨w0.heap.size, dd :: d⟩ tq (dd :: d) ⟨none, false⟩ w [] cs ⟨r1, r2, trivial, .nil hlt, fun e => (e rfl).elim, fun e he q hq => by
    cases he with
    | head => rw [hdd] at hq; cases hq
    | tail _ he => exact p.dge e he q hq, p.bsz, p.st⟩
  obtain ⟨todo, hs3⟩ := ends q1 arr
  obtain ⟨w4, g1, g2, g3, g4, g5, g6⟩ := take_marks (P := P) (fn := f) (rd := ⟨none, false⟩) (tmps := t3) (todo := todo) (cs := cs) p3.st p3.dok
  have x4 : Ext μ0 h0 w0 μ3 h3 w4 := ext_marks (x.trans x3) p3.dge g2 g3 g4 g5 fun b hb => g6 b (.inl hb)
  -- what was deferred ahead stands as it did
  have keep : ∀ {l : List Deferred}, (∀ e ∈ l, e ∈ d) → DOk [] μ3 h3 w3 l → DOk [] μ3 h3 w4 l := by
    intro l hs hl
    induction hl with
    | nil hD => exact .nil fun d hd => (by cases hd)
    | cons hr ho hne t ih =>
      exact .cons ((g6 _ (.inr ⟨_, List.mem_cons_of_mem _ (hs _ List.mem_cons_self), rfl⟩)).trans hr) ho hne (ih fun e he => hs e (List.mem_cons_of_mem _ he))
  have dok4 : DOk [] μ3 h3 w4 d := keep (fun _ h => h) (p.dok.ext x3)
  have hcr4 : LRel μ3 h3.next caps (xs.map (opnd tmps)).toList := hcr.mono x3.agree x3.next
  have hinv : (invoke dd.target dd.args).run P = fun w => .ok (.enter g (xs.map (opnd tmps))) w := by
    funext w; rw [hdd]; simp [invoke, he.run]
  have s4 := step_defer (P := P) (fr := { frame f ⟨none, false⟩ t3 (dd :: d) todo with mode := .returning }) (cs := cs) (w := w4) (d := dd) (ds := d) (by simp) rfl (by rw [hdd]) (congrFun hinv w4)
  obtain ⟨v0, h5, μ5, w5, fr, ⟨v, k1, k2⟩, x5, y2, y3, y4⟩ := q2 μ3 _ w4 hcr4 g2 { { frame f ⟨none, false⟩ t3 (dd :: d) todo with mode := .returning } with defers := d } cs rfl
  have s5 := step_going_returned (c := { { frame f ⟨none, false⟩ t3 (dd :: d) todo with mode := .returning } with defers := d }) (cs := cs) y3 y4
  have hsF : Steps P m0 (lone { frame f ⟨none, false⟩ t3 d todo with mode := .returning } cs w5) :=
    hs.trans (.head st_seq (.head s0 (.head s1 (.head s2 (.head st_region_end (hs3.trans (g1.trans (.head s4 (y2.trans (.one s5))))))))))
  exact DWp.fin ok hf (x4.trans x5) (p3.act.mono x5.agree x5.next) (dok4.ext x5) p.dge k1 k2 hsF
end
noncomputable def deferOf : Code → Option (Tmp × FuncId × Array Operand)
  | .region _ ops false => match ops.toList with
    | [⟨some t, .makeFunc (.func g) first xs, _, _, _, none⟩, ⟨none, .defer ⟨.value (.tmp u), args, _⟩, _, _, _, none⟩] => bif Nat.beq t u && (first.isEmpty && args.isEmpty) then some (t, g, xs) else none
    | _ => none
  | _ => none
theorem deferOf_eq {c : Code} {t : Tmp} {g : FuncId} {xs : Array Operand} (hc : deferOf c = some (t, g, xs)) :
    ∃ id ty ty2 pos pos2 af af2 ats, c = .region id #[⟨some t, .makeFunc (.func g) #[] xs, ty, pos, af, none⟩, ⟨none, .defer ⟨.value (.tmp t), #[], ats⟩, ty2, pos2, af2, none⟩] false := by
  unfold deferOf at hc
  split at hc
  · rename_i id ops
    split at hc
    · rename_i t1 g1 first xs1 ty pos af u args ats ty2 pos2 af2 hops
      cases hb : Nat.beq t1 u && (first.isEmpty && args.isEmpty)
      · rw [hb, cond_false] at hc; cases hc
      · rw [hb, cond_true] at hc
        simp only [Bool.and_eq_true, Array.isEmpty_iff] at hb
        obtain ⟨b1, rfl, rfl⟩ := hb
        obtain rfl := Nat.eq_of_beq_eq_true b1
        cases hc
        have : ops = #[⟨some t, .makeFunc (.func g) #[] xs, ty, pos, af, none⟩, ⟨none, .defer ⟨.value (.tmp t), #[], ats⟩, ty2, pos2, af2, none⟩] := Array.toList_inj.1 hops
        subst this
        exact ⟨_, _, _, _, _, _, _, _, rfl⟩
    · cases hc
  · cases hc
noncomputable def recOf : Code → Option (Tmp × Tmp × Code)
  | .seq (.region _ ops false) z => match ops.toList with
    | [⟨some t, .call ⟨.builtin .recover, args, _⟩, _, _, _, none⟩, ⟨some s, .assign (.tmp u), _, _, _, none⟩] => bif Nat.beq t u && args.isEmpty then some (t, s, z) else none
    | _ => none
  | _ => none
theorem recOf_eq {c z : Code} {t s : Tmp} (hc : recOf c = some (t, s, z)) :
    ∃ id ty ty2 pos pos2 af af2 ats, c = .seq (.region id #[⟨some t, .call ⟨.builtin .recover, #[], ats⟩, ty, pos, af, none⟩, ⟨some s, .assign (.tmp t), ty2, pos2, af2, none⟩] false) z := by
  unfold recOf at hc
  split at hc
  · rename_i id ops z1
    split at hc
    · rename_i t1 args ats ty pos af s1 u ty2 pos2 af2 hops
      cases hb : Nat.beq t1 u && args.isEmpty
      · rw [hb, cond_false] at hc; cases hc
      · rw [hb, cond_true] at hc
        simp only [Bool.and_eq_true, Array.isEmpty_iff] at hb
        obtain ⟨b1, rfl⟩ := hb
        obtain rfl := Nat.eq_of_beq_eq_true b1
        cases hc
        have : ops = #[⟨some t, .call ⟨.builtin .recover, #[], ats⟩, ty, pos, af, none⟩, ⟨some s, .assign (.tmp t), ty2, pos2, af2, none⟩] := Array.toList_inj.1 hops
        subst this
        exact ⟨_, _, _, _, _, _, _, _, rfl⟩
    · cases hc
  · cases hc
noncomputable def notExit : AExit → Bool
  | .exit _ => false
  | _ => true
theorem notExit_ne {e : AExit} (h : notExit e = true) : ∀ i, e ≠ .exit i := by
  intro i hi; subst hi; cases h
noncomputable def runC (E : Env) (call : CallV) (g : FuncId) (nt : Nat) (c : Code) (a : Tr Value) (h : AHeap) : Option AHeap :=
  match (compC c E g nt).run none call a h with
  | some (e, _, h') => bif notExit e then some h' else none
  | none => none
noncomputable def defEv (E : Env) (call : CallV) (g : FuncId) (caps : List Value) (h : AHeap) : Option AHeap :=
  match E.F.get g with
  | some fg => match fg.body with
    | some c => bif fg.results.isEmpty && Nat.ble caps.length fg.ntmps then match recOf c with
        | some (t, s, z) => bif Nat.ble (t + 1) fg.ntmps && Nat.ble (s + 1) fg.ntmps then runC E call g fg.ntmps z (((entry caps 0 .leaf).put t (some .nilIface)).put s (some .nilIface)) h else none
        | none => runC E call g fg.ntmps c (entry caps 0 .leaf) h
      else none
    | none => none
  | none => none
noncomputable def retD (E : Env) (fn : Func) (a : Tr Value) (h : AHeap) : ZV :=
  match aRet E.T fn a h with
  | some v => some (v, h)
  | none => none
noncomputable def dEv (E : Env) (call : CallV) (f : FuncId) (fn : Func) : Code → Tr Value → AHeap → ZV
  | .seq x y, a, h => match deferOf x with
    | some (t, g, xs) => bif Nat.ble (t + 1) fn.ntmps then match aopnds (aopnd a) xs.toList with
      | some caps => match (compC y E f fn.ntmps).run none call (a.put t (some (.func (.func g) #[] caps.toArray))) h with
        | some (e, a3, h3) => bif notExit e then match defEv E call g caps h3 with
          | some h4 => retD E fn a3 h4
          | none => none
          else none
        | none => none
      | none => none
      else none
    | none => match (compC x E f fn.ntmps).run none call a h with
      | some (.normal, a', h') => dEv E call f fn y a' h'
      | some (.ret, a', h') => retD E fn a' h'
      | _ => none
  | _, _, _ => none
noncomputable def dFun (E : Env) (call : CallV) (f : FuncId) (args : List Value) (h : AHeap) : ZV :=
  match E.F.get f with
  | some fn => match fn.body with
    | some c => bif Nat.ble args.length fn.ntmps then dEv E call f fn c (entry args 0 .leaf) h else none
    | none => none
  | none => none
noncomputable def dS (E : Env) (n : Nat) (B : List FuncId) (f : FuncId) (args : List Value) (h : AHeap) : ZV :=
  bif B.any (Nat.beq f) then dFun E (evZ E n) f args h else E.S f args h
noncomputable def envD (E : Env) (n : Nat) (B : List FuncId) : Env := { E with S := dS E n B }
section
variable {E : Env} (ok : EnvOK E) {call : CallV} (hv : VSound E.P call)
include ok
omit ok in
theorem retD_some {fn : Func} {a : Tr Value} {h h' : AHeap} {v : Value} (he : retD E fn a h = some (v, h')) : aRet E.T fn a h = some v ∧ h' = h := by
  unfold retD at he
  split at he
  · cases he; exact ⟨by assumption, rfl⟩
  · cases he
include hv
theorem runC_good {g : FuncId} {nt : Nat} {c : Code} {a : Tr Value} {h h' : AHeap} (he : runC E call g nt c a h = some h') : CWp E.P ⟨g, nt, none⟩ c a h fun e _ h2 => (∀ i, e ≠ .exit i) ∧ h2 = h' := by
  unfold runC at he
  split at he
  · rename_i e a1 h1 hx
    cases hn : notExit e
    · rw [hn, cond_false] at he; cases he
    · rw [hn, cond_true] at he
      cases he
      refine (compC_good ok hv _ _ _ _ _ _ _ hx).mono ?_
      rintro e1 a2 h2 ⟨rfl, rfl, rfl⟩
      exact ⟨notExit_ne hn, rfl⟩
  · cases he
theorem defEv_good {g : FuncId} {caps : List Value} {h h' : AHeap} (he : defEv E call g caps h = some h') : DefW E.P g caps h fun h2 => h2 = h' := by
  unfold defEv at he
  split at he
  · rename_i fg hf
    split at he
    · rename_i c hb
      cases hbb : fg.results.isEmpty && Nat.ble caps.length fg.ntmps
      · rw [hbb, cond_false] at he; cases he
      · rw [hbb, cond_true] at he
        simp only [Bool.and_eq_true, Array.isEmpty_iff] at hbb
        obtain ⟨b1, b2⟩ := hbb
        have hl := (ok.fn g fg hf).look
        split at he
        · rename_i t s z hr
          cases hb3 : Nat.ble (t + 1) fg.ntmps && Nat.ble (s + 1) fg.ntmps
          · rw [hb3, cond_false] at he; cases he
          · rw [hb3, cond_true] at he
            simp only [Bool.and_eq_true] at hb3
            obtain ⟨id, ty, ty2, pos, pos2, af, af2, ats, rfl⟩ := recOf_eq hr
            exact DefW.recover hl hb b1 (Nat.le_of_ble_eq_true b2) (Nat.le_of_ble_eq_true hb3.1) (Nat.le_of_ble_eq_true hb3.2) (runC_good ok hv he)
        · exact DefW.code hl hb b1 (Nat.le_of_ble_eq_true b2) (runC_good ok hv he)
    · cases he
  · cases he
theorem dEv_good {f : FuncId} {fn : Func} (hf : E.F.get f = some fn) : ∀ (c : Code) (a : Tr Value) (h : AHeap) (v : Value) (h' : AHeap), dEv E call f fn c a h = some (v, h') → DWp E.P f fn.ntmps c a h fun x y => x = v ∧ y = h'
  | .seq x y, a, h, v, h', he => by
    have hl := (ok.fn f fn hf).look
    rw [dEv] at he
    split at he
    · rename_i t g xs hd
      obtain ⟨id, ty, ty2, pos, pos2, af, af2, ats, rfl⟩ := deferOf_eq hd
      cases hb : Nat.ble (t + 1) fn.ntmps
      · rw [hb, cond_false] at he; cases he
      · rw [hb, cond_true] at he
        split at he
        · rename_i caps hx
          split at he
          · rename_i e a3 h3 hc
            cases hn : notExit e
            · rw [hn, cond_false] at he; cases he
            · rw [hn, cond_true] at he
              split at he
              · rename_i h4 hd4
                obtain ⟨r1, rfl⟩ := retD_some he
                obtain ⟨fg, hg⟩ : ∃ fg, E.F.get g = some fg := by
                  unfold defEv at hd4
                  split at hd4
                  · exact ⟨_, by assumption⟩
                  · cases hd4
                refine DWp.defer ok.ty hl (ok.fn g fg hg) (Nat.le_of_ble_eq_true hb) hx ((compC_good ok hv _ _ _ _ _ _ _ hc).mono ?_)
                rintro e1 a2 h2 ⟨rfl, rfl, rfl⟩
                refine ⟨notExit_ne hn, fun μ caps' w q1 q2 c cs q3 => ?_⟩
                obtain ⟨v0, h5, μ5, w5, fr, rfl, z⟩ := defEv_good ok hv hd4 μ caps' w q1 q2 c cs q3
                exact ⟨v0, h5, μ5, w5, fr, ⟨v, r1, rfl, rfl⟩, z⟩
              · cases he
          · cases he
        · cases he
    · split at he
      · rename_i a1 h1 hx
        refine DWp.seq ok.ty hl ((compC_good ok hv _ _ _ _ _ _ _ hx).mono ?_)
        rintro e1 a2 h2 ⟨rfl, rfl, rfl⟩
        exact dEv_good hf y a2 h2 v h' he
      · rename_i a1 h1 hx
        obtain ⟨r1, rfl⟩ := retD_some he
        refine DWp.seq ok.ty hl ((compC_good ok hv _ _ _ _ _ _ _ hx).mono ?_)
        rintro e1 a2 h2 ⟨rfl, rfl, rfl⟩
        exact ⟨v, r1, rfl, rfl⟩
      · cases he
  | .skip, _, _, _, _, he => by cases he
  | .label _, _, _, _, _, he => by cases he
  | .region .., _, _, _, _, he => by cases he
  | .cond .., _, _, _, _, he => by cases he
  | .block .., _, _, _, _, he => by cases he
  | .loop _, _, _, _, _, he => by cases he
  | .rangeFunc .., _, _, _, _, he => by cases he
  | .exit _, _, _, _, _, he => by cases he
  | .scope _, _, _, _, _, he => by cases he
  | .goto _, _, _, _, _, he => by cases he
  | .ret, _, _, _, _, he => by cases he
  | .refuse _, _, _, _, _, he => by cases he
theorem dFun_good {f : FuncId} {args : List Value} {h h' : AHeap} {v : Value} (he : dFun E call f args h = some (v, h')) : (∃ fn, Entered E.P f fn) ∧ FWp E.P f args h fun x y => x = v ∧ y = h' := by
  unfold dFun at he
  split at he
  · rename_i fn hf
    split at he
    · rename_i c hb
      cases hn : Nat.ble args.length fn.ntmps
      · rw [hn, cond_false] at he; cases he
      · rw [hn, cond_true] at he
        have hn := Nat.le_of_ble_eq_true hn
        refine ⟨⟨fn, ok.fn f fn hf⟩, fun μ args' w hl st cs => ?_⟩
        have hlen := hl.length
        simp only [Array.length_toList] at hlen
        have hsz : (args' ++ Array.replicate (fn.ntmps - args'.size) undef).size = fn.ntmps := by simp; omega
        have henter : Frame.enter E.P f args' .normal = frame f ⟨none, false⟩ (args' ++ Array.replicate (fn.ntmps - args'.size) undef) [] [.code c] := by simp [Frame.enter, frame, RK.kind, (ok.fn f fn hf).look, hb]
        rw [henter]
        exact dEv_good ok hv hf c _ h v h' he μ h w μ _ [] w cs _ (Ext.refl st) ⟨entry_act2 hl, hsz, trivial, .nil (fun _ hd => by cases hd), fun _ => rfl, fun d hd => (by cases hd), Nat.le_refl _, st⟩ (.refl _ _)
    · cases he
  · cases he
end
theorem envD_ok {E : Env} (ok : EnvOK E) (n : Nat) (B : List FuncId) : EnvOK (envD E n B) := by
  refine ⟨ok.ty, ok.mix, ok.fn, fun f args h v h' he => ?_⟩
  have he : dS E n B f args h = some (v, h') := he
  unfold dS at he
  cases hb : B.any (Nat.beq f)
  · rw [hb, cond_false] at he; exact ok.sum f args h v h' he
  · rw [hb, cond_true] at he; exact dFun_good ok (evZ_sound ok n) he
end Go.Ab.Nx.Dx
namespace Go.Ab.Nx.Dx
open Go.Ab Go.Ab.Nx Go.Ab.Nx.Zx Go.Ab.Nx.Lx
set_option linter.unusedSimpArgs false
set_option linter.unusedVariables false
noncomputable def plainL (call : CallV) (fv : Value) (vs : List Value) (h : AHeap) : Option VOuts :=
  match call fv vs h with
  | some r => some [r]
  | none => none
noncomputable def cloneL (call : CallV) (X : List FuncId) : CallL := fun fv vs h =>
  match fv, vs with
  | .func (.func k) first cap, [.iface t (.map (some r))] => bif X.any (Nat.beq k) then (bif first.isEmpty && cap.isEmpty then match h.get r with
      | some (.map es clock) => some [(.iface t (.map (some h.next)), h.new (.map es clock))]
      | _ => none
      else none)
    else plainL call fv vs h
  | _, _ => plainL call fv vs h
noncomputable def XOK (P : Program) (X : List FuncId) : Prop := ∀ k ∈ X, ∃ fn, P.funcs[k]? = some fn ∧ (fn.name == "runtime.NumGoroutine") = false ∧ fn.body.isNone = true ∧ Extern.findNext fn = none ∧ Extern.find fn = some Extern.MapsClone.clone
theorem plainL_sound {P : Program} {call : CallV} (hv : VSound P call) : LSound P (plainL call) := by
  intro fv vs h outs he
  unfold plainL at he
  split at he
  · rename_i r hr
    cases he
    refine (hv _ _ _ _ _ hr).mono ?_
    rintro x y ⟨rfl, rfl⟩
    exact List.mem_singleton.2 rfl
  · cases he
theorem clone_run {P : Program} {w : World} {b : Nat} {ms : Array MapEntry} {clock : Nat} (t : TypeId) (hb : w.heap[b]? = some (.map ms clock)) :
    (Extern.MapsClone.clone #[.iface t (.map (some b))]).run P w = .ok (.iface t (.map (some w.heap.size))) { w with heap := w.heap.push (.map ms clock) } := by
  have e : Extern.MapsClone.clone #[.iface t (.map (some b))] = (getObj b >>= fun o => match o with
      | .map entries clock => (newObj (.map entries clock) >>= fun n => pure (.iface t (.map (some n))))
      | _ => stuck "maps.clone: a map expected") := rfl
  rw [e]
  simp only [Sem.run_bind, run_getObj hb (fun _ _ _ => by simp), Result.andThen_ok, run_newObj, Sem.run_pure]
theorem cloneL_sound {P : Program} {call : CallV} (hv : VSound P call) {X : List FuncId} (hX : XOK P X) : LSound P (cloneL call X) := by
  intro fv vs h outs he
  unfold cloneL at he
  split at he
  · rename_i k first cap t r
    cases hb : X.any (Nat.beq k)
    · rw [hb, cond_false] at he; exact plainL_sound hv _ _ _ _ he
    · rw [hb, cond_true] at he
      obtain ⟨k', hk', hkk⟩ := List.any_eq_true.1 hb
      obtain rfl := Nat.eq_of_beq_eq_true hkk
      cases he2 : first.isEmpty && cap.isEmpty
      · rw [he2, cond_false] at he; cases he
      · rw [he2, cond_true] at he
        simp only [Bool.and_eq_true, Array.isEmpty_iff] at he2
        obtain ⟨rfl, rfl⟩ := he2
        split at he
        · rename_i es clock hg
          cases he
          obtain ⟨fn, x1, x2, x3, x4, x5⟩ := hX k hk'
          intro μ fv' vs' w c cs h1 h2 st
          cases h1 with
          | func hy ha hc =>
            rename_i a' c'
            have ea : a' = #[] := by
              have := ha.length
              simpa using this.symm
            have ec : c' = #[] := by
              have := hc.length
              simpa using this.symm
            subst ea ec
            obtain ⟨x', hx', hr⟩ := h2.one
            cases hr with
            | iface hm =>
              cases hm with
              | map hlt hmm =>
                rename_i e
                obtain ⟨ms, g1, g2, g3⟩ := st.getMap hg hmm
                have hvs : vs' = #[.iface t (.map (some e.b))] := hx'
                subst hvs
                have xn := Ext.new st (.map ms clock) ⟨w.heap.size, 0, 0, 0⟩ (.map es clock) rfl ⟨rfl, ms, rfl, g2.mono (Agree.upd μ _ (Nat.le_refl _)) (by omega)⟩
                refine ⟨.value (.iface t (.map (some w.heap.size))), _, _, _, _, h.new (.map es clock), _, _, ?_, rfl, .refl _ _, List.mem_singleton.2 rfl, xn, .iface (.map (by simp) (Emb.upd_same _ _ _))⟩
                simp only [Sem.run_bind, Deferred.ofValue, Sem.run_pure, Result.andThen_ok, invoke, Array.empty_append, Array.append_empty, run_callFunc_extern x1 x2 x3 x4 x5, clone_run t g1]
        · cases he
  · exact plainL_sound hv _ _ _ _ he
end Go.Ab.Nx.Dx
namespace Go.Ab.Nx.Mx
open Go.Ab Go.Ab.Nx Go.Ab.Nx.Zx Go.Ab.Nx.Lx Go.Ab.Nx.Sx Go.Ab.Nx.Dx
set_option linter.unusedSimpArgs false
set_option linter.unusedVariables false
noncomputable def VSim (ρ : Nat → Option Nat) (n : Nat) (v u : Value) : Prop := ∀ (μ : Emb) (k : Nat) (v' : Value), VRel μ k u v' → VRel (fun r => (ρ r).bind μ) n v v'
noncomputable def isAt (ρ : Nat → Option Nat) (n r s : Nat) : Bool := Nat.ble (r + 1) n && (match ρ r with | some t => Nat.beq t s | none => false)
theorem isAt_spec {ρ : Nat → Option Nat} {n r s : Nat} (h : isAt ρ n r s = true) : r < n ∧ ρ r = some s := by
  simp only [isAt, Bool.and_eq_true] at h
  refine ⟨Nat.le_of_ble_eq_true h.1, ?_⟩
  have h2 := h.2
  split at h2
  · rename_i t ht; rw [ht, Nat.eq_of_beq_eq_true h2]
  · cases h2
noncomputable def sim1 (ρ : Nat → Option Nat) (n : Nat) : Value → Value → Bool
  | .pointer (some ⟨r, o, none⟩), .pointer (some ⟨s, p, none⟩) => isAt ρ n r s && Nat.beq o p
  | .slice (some ⟨r, o, none⟩) m c, .slice (some ⟨s, p, none⟩) k d => isAt ρ n r s && (Nat.beq o p && (Nat.beq m k && Nat.beq c d))
  | .map (some r), .map (some s) => isAt ρ n r s
  | a, b => flat a && veq1 a b
theorem sim1_spec {ρ : Nat → Option Nat} {n : Nat} {v u : Value} (h : sim1 ρ n v u = true) : VSim ρ n v u := by
  intro μ k v' hv
  unfold sim1 at h
  split at h
  · simp only [Bool.and_eq_true] at h
    obtain ⟨h1, h2⟩ := h
    obtain ⟨h3, h4⟩ := isAt_spec h1
    obtain rfl := Nat.eq_of_beq_eq_true h2
    cases hv with
    | ptr hr hm => exact .ptr h3 (by rw [h4]; exact hm)
  · simp only [Bool.and_eq_true] at h
    obtain ⟨h1, h2, h5, h6⟩ := h
    obtain ⟨h3, h4⟩ := isAt_spec h1
    obtain rfl := Nat.eq_of_beq_eq_true h2
    obtain rfl := Nat.eq_of_beq_eq_true h5
    obtain rfl := Nat.eq_of_beq_eq_true h6
    have e : ∀ {x : Ent}, μ _ = some x → (ρ _).bind μ = some x := fun {x} hm => by rw [h4]; exact hm
    cases hv with
    | sliceK hr hm => exact .sliceK h3 (e hm)
    | sliceU hr hm hl hc => exact .sliceU h3 (e hm) hl hc
    | sliceZ hr hm => exact .sliceZ h3 (e hm)
    | sliceKZ hr hm => exact .sliceKZ h3 (e hm)
  · obtain ⟨h3, h4⟩ := isAt_spec h
    cases hv with
    | map hr hm => exact .map h3 (by rw [h4]; exact hm)
  · simp only [Bool.and_eq_true] at h
    have := veq1_eq h.2
    subst this
    have e := hv.flat_eq h.1
    subst e
    exact .of_flat _ _ h.1
theorem LSim {ρ : Nat → Option Nat} {n : Nat} {f : Value → Value → Bool} (hf : ∀ {a b : Value}, f a b = true → VSim ρ n a b) : ∀ {a b : List Value}, veqL f a b = true → ∀ (μ : Emb) (k : Nat) (l' : List Value), LRel μ k b l' → LRel (fun r => (ρ r).bind μ) n a l'
  | [], [], _, μ, k, l', hl => by cases hl; exact .nil
  | [], _ :: _, h, _, _, _, _ => by cases h
  | _ :: _, [], h, _, _, _, _ => by cases h
  | a :: l, b :: m, h, μ, k, l', hl => by
    simp only [veqL, Bool.and_eq_true] at h
    cases hl with
    | cons h1 h2 => exact .cons (hf h.1 _ _ _ h1) (LSim hf h.2 _ _ _ h2)
noncomputable def simUp (f g : Value → Value → Bool) : Value → Value → Bool
  | .agg a, .agg b => veqL g a.toList b.toList
  | .tuple a, .tuple b => veqL g a.toList b.toList
  | .func (.func x) a c, .func (.func y) b d => Nat.beq x y && (veqL g a.toList b.toList && veqL g c.toList d.toList)
  | .iface t v, .iface u w => Nat.beq t u && g v w
  | a, b => f a b
theorem simUp_spec {ρ : Nat → Option Nat} {n : Nat} {f g : Value → Value → Bool} (hf : ∀ {a b : Value}, f a b = true → VSim ρ n a b) (hg : ∀ {a b : Value}, g a b = true → VSim ρ n a b) {v u : Value} (h : simUp f g v u = true) : VSim ρ n v u := by
  intro μ k v' hv
  unfold simUp at h
  split at h
  · cases hv with | agg hl => exact .agg (LSim hg h _ _ _ hl)
  · cases hv with | tuple hl => exact .tuple (LSim hg h _ _ _ hl)
  · simp only [Bool.and_eq_true] at h
    obtain ⟨h1, h2, h3⟩ := h
    obtain rfl := Nat.eq_of_beq_eq_true h1
    cases hv with | func hy ha hc => exact .func hy (LSim hg h2 _ _ _ ha) (LSim hg h3 _ _ _ hc)
  · simp only [Bool.and_eq_true] at h
    obtain rfl := Nat.eq_of_beq_eq_true h.1
    cases hv with | iface hw => exact .iface (hg h.2 _ _ _ hw)
  · exact hf h _ _ _ hv
noncomputable def vsim (ρ : Nat → Option Nat) (n : Nat) : Value → Value → Bool := simUp (sim1 ρ n) (simUp (sim1 ρ n) (simUp (sim1 ρ n) (sim1 ρ n)))
theorem vsim_spec {ρ : Nat → Option Nat} {n : Nat} {v u : Value} (h : vsim ρ n v u = true) : VSim ρ n v u :=
  simUp_spec sim1_spec (simUp_spec sim1_spec (simUp_spec sim1_spec sim1_spec)) h
noncomputable def vsimF (ρ : Nat → Option Nat) (n : Nat) (v u : Value) : Bool :=
  match v with
  | .int _ _ => veq1 v u
  | .string _ => veq1 v u
  | .bool _ => veq1 v u
  | _ => vsim ρ n v u
theorem vsimF_spec {ρ : Nat → Option Nat} {n : Nat} {v u : Value} (h : vsimF ρ n v u = true) : VSim ρ n v u := by
  have eq : flat v = true → veq1 v u = true → VSim ρ n v u := by
    intro hf h μ k v' hv
    have := veq1_eq h
    subst this
    have e := hv.flat_eq hf
    subst e
    exact .of_flat _ _ hf
  unfold vsimF at h
  split at h
  · exact eq rfl h
  · exact eq rfl h
  · exact eq rfl h
  · exact vsim_spec h
noncomputable def esim (ρ : Nat → Option Nat) (n : Nat) : List AEnt → List AEnt → Bool
  | [], [] => true
  | a :: l, b :: m => (veq a.key b.key && (vsim ρ n a.val b.val && Nat.beq a.born b.born)) && esim ρ n l m
  | _, _ => false
theorem esim_spec {ρ : Nat → Option Nat} {n : Nat} {μ : Emb} {k : Nat} : ∀ {a b : List AEnt}, esim ρ n a b = true → ∀ {ms : List MapEntry}, EsRel μ k b ms → EsRel (fun r => (ρ r).bind μ) n a ms
  | [], [], _, ms, hm => by cases hm; exact .nil
  | [], _ :: _, h, _, _ => by cases h
  | _ :: _, [], h, _, _ => by cases h
  | a :: l, b :: m, h, ms, hm => by
    simp only [esim, Bool.and_eq_true] at h
    obtain ⟨⟨h1, h2, h3⟩, h4⟩ := h
    cases hm with
    | cons e t =>
      have k1 := veq_eq h1
      have k3 := Nat.eq_of_beq_eq_true h3
      exact .cons ⟨e.key.trans k1.symm, by rw [k1]; exact e.kflat, vsim_spec h2 _ _ _ e.val, e.born.trans k3.symm⟩ (esim_spec h4 t)
noncomputable def entB (a b : AEnt) : Bool := veq a.key b.key && (veq a.val b.val && flat b.val)
noncomputable def umB (a b : List AEnt) : Bool := a.all (fun x => b.any (entB x)) && b.all (fun y => a.any fun x => entB x y)
theorem umB_spec {a b : List AEnt} (h : umB a b = true) : (∀ x ∈ a, ∃ y ∈ b, y.key = x.key ∧ y.val = x.val ∧ flat y.val = true) ∧ ∀ y ∈ b, flat y.val = true ∧ ∃ x ∈ a, y.key = x.key ∧ y.val = x.val := by
  simp only [umB, entB, Bool.and_eq_true, List.all_eq_true, List.any_eq_true] at h
  refine ⟨fun x hx => ?_, fun y hy => ?_⟩
  · obtain ⟨y, h1, h2, h3, h4⟩ := h.1 x hx
    exact ⟨y, h1, (veq_eq h2).symm, (veq_eq h3).symm, h4⟩
  · obtain ⟨x, h1, h2, h3, h4⟩ := h.2 y hy
    exact ⟨h4, x, h1, (veq_eq h2).symm, (veq_eq h3).symm⟩
theorem EsRel.mem {μ : Emb} {n : Nat} : ∀ {l : List AEnt} {l' : List MapEntry}, EsRel μ n l l' → (∀ a ∈ l, ∃ m ∈ l', ERel μ n a m) ∧ ∀ m ∈ l', ∃ a ∈ l, ERel μ n a m
  | _, _, .nil => ⟨fun a h => absurd h (by simp), fun a h => absurd h (by simp)⟩
  | _, _, .cons (e := e) (m := m) h t => by
    obtain ⟨g1, g2⟩ := EsRel.mem t
    refine ⟨fun a ha => ?_, fun x hx => ?_⟩
    · cases ha with
      | head => exact ⟨m, List.mem_cons_self, h⟩
      | tail _ ha => obtain ⟨y, h1, h2⟩ := g1 a ha; exact ⟨y, List.mem_cons_of_mem _ h1, h2⟩
    · cases hx with
      | head => exact ⟨e, List.mem_cons_self, h⟩
      | tail _ hx => obtain ⟨y, h1, h2⟩ := g2 x hx; exact ⟨y, List.mem_cons_of_mem _ h1, h2⟩
theorem UM.of_map {μ : Emb} {n : Nat} {a b : List AEnt} (h : umB a b = true) {ms : List MapEntry} (hm : EsRel μ n b ms) : UM a ms := by
  obtain ⟨h1, h2⟩ := umB_spec h
  obtain ⟨g1, g2⟩ := EsRel.mem hm
  refine ⟨fun x hx => ?_, fun m hm => ?_⟩
  · obtain ⟨y, k1, k2, k3, k4⟩ := h1 x hx
    obtain ⟨m, m1, m2⟩ := g1 y k1
    exact ⟨m, m1, m2.key.trans k2, (m2.val.flat_eq k4).trans k3⟩
  · obtain ⟨y, m1, m2⟩ := g2 m hm
    obtain ⟨k4, x, k1, k2, k3⟩ := h2 y m1
    exact ⟨x, k1, m2.key.trans k2, (m2.val.flat_eq k4).trans k3⟩
theorem UM.of_um {a b : List AEnt} (h : umB a b = true) {ms : List MapEntry} (hm : UM b ms) : UM a ms := by
  obtain ⟨h1, h2⟩ := umB_spec h
  refine ⟨fun x hx => ?_, fun m hx => ?_⟩
  · obtain ⟨y, k1, k2, k3, k4⟩ := h1 x hx
    obtain ⟨m, m1, m2, m3⟩ := hm.1 y k1
    exact ⟨m, m1, m2.trans k2, m3.trans k3⟩
  · obtain ⟨y, m1, m2, m3⟩ := hm.2 m hx
    obtain ⟨k4, x, k1, k2, k3⟩ := h2 y m1
    exact ⟨x, k1, m2.trans k2, m3.trans k3⟩
noncomputable def osim (ρ : Nat → Option Nat) (n : Nat) : AObj → AObj → Bool
  | .cells a x, .cells b y => Nat.beq x y && veqL (vsimF ρ n) a b
  | .map a x, .map b y => Nat.beq x y && esim ρ n a b
  | .tcells a x, .tcells b y => Nat.beq x y && veqL (vsimF ρ n) a b
  | .umap a, .map b _ => umB a b
  | .umap a, .umap b => umB a b
  | _, _ => false
theorem veqL_get {f : Value → Value → Bool} : ∀ {a b : List Value}, veqL f a b = true → a.length = b.length ∧ ∀ {i : Nat} {v : Value}, a[i]? = some v → ∃ u, b[i]? = some u ∧ f v u = true
  | [], [], _ => ⟨rfl, fun {i v} h => by simp at h⟩
  | [], _ :: _, h => by cases h
  | _ :: _, [], h => by cases h
  | a :: l, b :: m, h => by
    simp only [veqL, Bool.and_eq_true] at h
    obtain ⟨h1, h2⟩ := h
    obtain ⟨e, g⟩ := veqL_get h2
    refine ⟨by simp [e], fun {i v} hv => ?_⟩
    cases i with
    | zero => simp at hv; subst hv; exact ⟨b, rfl, h1⟩
    | succ i => simpa using g (i := i) (by simpa using hv)
theorem osim_spec {ρ : Nat → Option Nat} {n : Nat} {o p : AObj} (h : osim ρ n o p = true) {μ : Emb} {k : Nat} {e : Ent} {c : Obj} (hO : ORel μ k e c p) : ORel (fun r => (ρ r).bind μ) n e c o ∧ o.own = p.own := by
  unfold osim at h
  split at h
  · simp only [Bool.and_eq_true] at h
    obtain ⟨h1, h2⟩ := h
    obtain rfl := Nat.eq_of_beq_eq_true h1
    obtain ⟨hs, cs, t, fz, rfl, c1, c2, c3, c4⟩ := hO
    obtain ⟨g1, g2⟩ := veqL_get h2
    refine ⟨⟨hs, cs, t, fz, rfl, by omega, c2, c3, fun i v hv => ?_⟩, rfl⟩
    obtain ⟨u, hu, hvu⟩ := g2 hv
    obtain ⟨v', k1, k2⟩ := c4 i u hu
    exact ⟨v', k1, vsimF_spec hvu _ _ _ k2⟩
  · simp only [Bool.and_eq_true] at h
    obtain ⟨h1, h2⟩ := h
    obtain rfl := Nat.eq_of_beq_eq_true h1
    obtain ⟨hd, ms, rfl, hm⟩ := hO
    exact ⟨⟨hd, ms, rfl, esim_spec h2 hm⟩, rfl⟩
  · simp only [Bool.and_eq_true] at h
    obtain ⟨h1, h2⟩ := h
    obtain rfl := Nat.eq_of_beq_eq_true h1
    obtain ⟨hs, hc, cs, t, fz, rfl, c1, c2, c3, c4⟩ := hO
    obtain ⟨g1, g2⟩ := veqL_get h2
    refine ⟨⟨hs, hc, cs, t, fz, rfl, by omega, c2, c3, fun i v hv => ?_⟩, rfl⟩
    obtain ⟨u, hu, hvu⟩ := g2 hv
    obtain ⟨v', k1, k2⟩ := c4 i u hu
    exact ⟨v', k1, vsimF_spec hvu _ _ _ k2⟩
  · obtain ⟨hd, ms, rfl, hm⟩ := hO
    exact ⟨⟨hd, ms, _, rfl, UM.of_map h hm⟩, rfl⟩
  · obtain ⟨hd, ms, clk, rfl, hm⟩ := hO
    exact ⟨⟨hd, ms, clk, rfl, UM.of_um h hm⟩, rfl⟩
  · cases h
structure Fits (g h m : AHeap) (v u : Value) (y : AHeap) (ρ : Nat → Option Nat) : Prop where
  next : h.next ≤ m.next
  val : VSim ρ m.next v u
  old : ∀ r, r < h.next → ρ r = some r
  inj : ∀ r q s, ρ r = some s → ρ q = some s → r = q
  new : ∀ r s, h.next ≤ r → ρ r = some s → h.next ≤ s
  rows : ∀ r o, m.get r = some o → (h.get r = some o ∧ g.get r = none) ∨ ∃ s p, ρ r = some s ∧ y.get s = some p ∧ r < m.next ∧ osim ρ m.next o p = true
theorem FWp.fits {P : Program} {f : FuncId} {args : List Value} {g h : AHeap} (hg : ∀ r o, g.get r = some o → h.get r = some o) (hn : g.next = h.next) {K : Value → AHeap → Prop}
    (hf : FWp P f args g fun u y => ∃ v m ρ, K v m ∧ Fits g h m v u y ρ) : FWp P f args h K := by
  intro μ args' w hl st
  have xg : Ext μ h w μ g w := Ext.drop st hg hn
  refine (hf μ args' w (by rw [hn]; exact hl) xg.st).mono ?_
  rintro e w' ⟨u, v', y, μ', rfl, ⟨v, m, ρ, hK, F⟩, x, hr⟩
  obtain ⟨f1, f2, f3, f4, f5, f6⟩ := F
  have agr : ∀ r, r < h.next → ((ρ r).bind μ') = μ r := fun r hr => by rw [f3 r hr]; exact x.agree r (by rw [hn]; exact hr)
  refine ⟨v, v', m, fun r => (ρ r).bind μ', rfl, hK, ⟨f1, fun r hr => agr r hr, x.size, x.os, x.output, fun b hb hown => ?_, fun b hb hown => ?_, ?_, ?_⟩, f2 _ _ _ hr⟩
  · obtain ⟨x1, x2⟩ := x.frame b hb fun r o e hr ho hm => hown r o e (hg r o hr) ho hm
    refine ⟨x1, fun r o e hr ho hm => ?_⟩
    rcases f6 r o hr with ⟨h1, _⟩ | ⟨s, p, h1, h2, h3, h4⟩
    · have hlt := (st.live r o h1).1
      rw [agr r hlt] at hm
      exact hown r o e h1 ho hm
    · rw [h1] at hm
      obtain ⟨_, e', c', k1, k2, k3⟩ := x.st.live s p h2
      have := (osim_spec h4 k3).2
      exact x2 s p e h2 (by rw [← this]; exact ho) hm
  · have x2 := x.free b hb fun r o e hr hm => hown r o e (hg r o hr) hm
    intro r o e hr hm
    rcases f6 r o hr with ⟨h1, _⟩ | ⟨s, p, h1, h2, h3, h4⟩
    · have hlt := (st.live r o h1).1
      rw [agr r hlt] at hm
      exact hown r o e h1 hm
    · rw [h1] at hm
      exact x2 s p e h2 hm
  · intro r o hr
    rcases f6 r o hr with ⟨h1, h2⟩ | ⟨s, p, h1, h2, h3, h4⟩
    · obtain ⟨lt, e, c, k1, k2, k3⟩ := st.live r o h1
      refine ⟨by omega, e, c, by rw [agr r lt]; exact k1, ?_, k3.mono (fun q hq => agr q hq) f1⟩
      rw [← k2]
      refine (x.frame e.b (lt_of_heap k2) fun q p f hq hp hm hb => ?_).1
      have := st.apart q r p o f e (hg q p hq) hp h1 hm k1 hb
      subst this
      rw [h2] at hq; cases hq
    · obtain ⟨lt, e, c, k1, k2, k3⟩ := x.st.live s p h2
      exact ⟨h3, e, c, by rw [h1]; exact k1, k2, (osim_spec h4 k3).1⟩
  · intro r q o p e f hr ho hq hmr hmq hb
    rcases f6 r o hr with ⟨r1, r2⟩ | ⟨s, p1, r1, r2, r3, r4⟩ <;> rcases f6 q p hq with ⟨q1, q2⟩ | ⟨t, p2, q1, q2, q3, q4⟩
    · rw [agr r (st.live r o r1).1] at hmr
      rw [agr q (st.live q p q1).1] at hmq
      exact st.apart r q o p e f r1 ho q1 hmr hmq hb
    · exfalso
      rw [agr r (st.live r o r1).1] at hmr
      rw [q1] at hmq
      obtain ⟨_, e', c, k1, k2, _⟩ := st.live r o r1
      rw [hmr] at k1; cases k1
      refine x.free e.b (lt_of_heap k2) (fun a pa fa ha hma hba => ?_) t p2 f q2 hmq hb.symm
      have := st.apart r a o pa e fa r1 ho (hg a pa ha) hmr hma hba.symm
      subst this
      rw [r2] at ha; cases ha
    · exfalso
      rw [agr q (st.live q p q1).1] at hmq
      rw [r1] at hmr
      obtain ⟨_, e', c, k1, k2, _⟩ := st.live q p q1
      rw [hmq] at k1; cases k1
      obtain ⟨_, e2, c2, z1, z2, z3⟩ := x.st.live s p1 r2
      have how := (osim_spec r4 z3).2
      refine (x.frame f.b (lt_of_heap k2) fun a pa fa ha hoa hma hba => ?_).2 s p1 e r2 (by rw [← how]; exact ho) hmr hb
      have := st.apart a q pa p fa f (hg a pa ha) hoa q1 hma hmq hba
      subst this
      rw [q2] at ha; cases ha
    · rw [r1] at hmr
      rw [q1] at hmq
      obtain ⟨_, e2, c2, z1, z2, z3⟩ := x.st.live s p1 r2
      have how := (osim_spec r4 z3).2
      have := x.st.apart s t p1 p2 e f r2 (by rw [← how]; exact ho) q2 hmr hmq hb
      subst this
      exact f4 r q s r1 q1
noncomputable abbrev Prs := List (Nat × Nat)
noncomputable def pr1 : Value → Value → Prs
  | .pointer (some ⟨r, _, _⟩), .pointer (some ⟨s, _, _⟩) => [(r, s)]
  | .slice (some ⟨r, _, _⟩) _ _, .slice (some ⟨s, _, _⟩) _ _ => [(r, s)]
  | .map (some r), .map (some s) => [(r, s)]
  | _, _ => []
noncomputable def prL (f : Value → Value → Prs) : List Value → List Value → Prs
  | a :: l, b :: m => f a b ++ prL f l m
  | _, _ => []
noncomputable def prUp (g : Value → Value → Prs) : Value → Value → Prs
  | .agg a, .agg b => prL g a.toList b.toList
  | .tuple a, .tuple b => prL g a.toList b.toList
  | .func _ a c, .func _ b d => prL g a.toList b.toList ++ prL g c.toList d.toList
  | .iface _ v, .iface _ w => g v w
  | a, b => pr1 a b
noncomputable def pr : Value → Value → Prs := prUp (prUp (prUp pr1))
noncomputable def prF (a b : Value) : Prs :=
  match a with
  | .int _ _ => []
  | .string _ => []
  | .bool _ => []
  | _ => pr a b
noncomputable def prE : List AEnt → List AEnt → Prs
  | a :: l, b :: m => pr a.val b.val ++ prE l m
  | _, _ => []
noncomputable def prO : AObj → AObj → Prs
  | .cells a _, .cells b _ => prL prF a b
  | .map a _, .map b _ => prE a b
  | .tcells a _, .tcells b _ => prL prF a b
  | _, _ => []
noncomputable def hasP (r : Nat) : Prs → Bool
  | [] => false
  | x :: l => bif Nat.beq x.1 r then true else hasP r l
noncomputable def atP (r : Nat) : Prs → Option Nat
  | [] => none
  | x :: l => bif Nat.beq x.1 r then some x.2 else atP r l
noncomputable def closeP (h y : AHeap) : Nat → Prs → Prs → Prs
  | 0, _, L => L
  | _ + 1, [], L => L
  | n + 1, (r, s) :: w, L => bif hasP r L then closeP h y n w L else match h.get r, y.get s with
    | some o, some p => closeP h y n (prO o p ++ w) ((r, s) :: L)
    | _, _ => closeP h y n w ((r, s) :: L)
noncomputable def rowsAt (y : AHeap) : Prs → List (Nat × AObj)
  | [] => []
  | (r, _) :: l => match y.get r with
    | some o => (r, o) :: rowsAt y l
    | none => rowsAt y l
theorem rowsAt_get {y : AHeap} : ∀ {l : Prs} {r : Nat} {o : AObj}, (r, o) ∈ rowsAt y l → y.get r = some o
  | [], r, o, h => by cases h
  | (q, s) :: l, r, o, h => by
    simp only [rowsAt] at h
    split at h
    · rename_i p hp
      cases h with
      | head => exact hp
      | tail _ h => exact rowsAt_get h
    · exact rowsAt_get h
structure Cls where
  v : Value
  R : List (Nat × AObj)
  n : Nat
noncomputable def idP (rs : List (Nat × AObj)) : Prs := rs.map fun x => (x.1, x.1)
noncomputable def isNB (e : AEnt) : Bool :=
  match e.key, e.val with
  | .int _ _, .bool _ => true
  | _, _ => false
noncomputable def weakO : AObj → AObj
  | .map (a :: b :: l) n => bif (a :: b :: l).all isNB then .umap (a :: b :: l) else .map (a :: b :: l) n
  | o => o
noncomputable def weakR (l : List (Nat × AObj)) : List (Nat × AObj) := l.map fun x => (x.1, weakO x.2)
noncomputable def mkCls (gl : List (Nat × AObj)) (x : Value × AHeap) : Cls := ⟨x.1, weakR (rowsAt x.2 (closeP x.2 x.2 100000 (pr x.1 x.1 ++ idP gl) [])), x.2.next⟩
noncomputable def rhoP (n : Nat) (L : Prs) (r : Nat) : Option Nat := bif Nat.ble (r + 1) n then some r else atP r L
noncomputable def okP (n : Nat) : Prs → Bool
  | [] => true
  | (r, s) :: l => (Nat.ble (r + 1) n || (Nat.ble n s && l.all (fun x => Nat.ble (x.1 + 1) n || !Nat.beq x.2 s))) && okP n l
noncomputable def rowFit (ρ : Nat → Option Nat) (n : Nat) (y : AHeap) (x : Nat × AObj) : Bool :=
  Nat.ble (x.1 + 1) n && (match ρ x.1 with
    | some s => (match y.get s with
      | some p => osim ρ n x.2 p
      | none => false)
    | none => false)
noncomputable def fitB (h : AHeap) (gl : List (Nat × AObj)) (c : Cls) (x : Value × AHeap) : Bool :=
  fitL h c x (closeP ⟨c.n, rowsT c.R⟩ x.2 100000 (pr c.v x.1 ++ idP gl) [])
where fitL (h : AHeap) (c : Cls) (x : Value × AHeap) (L : Prs) : Bool :=
  (Nat.ble h.next c.n && okP h.next L) && (vsim (rhoP h.next L) c.n c.v x.1 && c.R.all (rowFit (rhoP h.next L) c.n x.2))
theorem atP_mem {r s : Nat} : ∀ {L : Prs}, atP r L = some s → (r, s) ∈ L
  | (q, t) :: L, h => by
    simp only [atP] at h
    cases hb : Nat.beq q r
    · rw [hb, cond_false] at h; exact List.mem_cons_of_mem _ (atP_mem h)
    · rw [hb, cond_true] at h
      obtain rfl := Nat.eq_of_beq_eq_true hb
      cases h; exact List.mem_cons_self
theorem okP_new {n : Nat} : ∀ {L : Prs}, okP n L = true → ∀ r s, (r, s) ∈ L → n ≤ r → n ≤ s
  | (q, t) :: L, h, r, s, hm, hr => by
    simp only [okP, Bool.and_eq_true, Bool.or_eq_true] at h
    cases hm with
    | head =>
      rcases h.1 with h1 | h1
      · have := Nat.le_of_ble_eq_true h1; omega
      · exact Nat.le_of_ble_eq_true h1.1
    | tail _ hm => exact okP_new h.2 r s hm hr
theorem okP_inj {n : Nat} : ∀ {L : Prs}, okP n L = true → ∀ r q s, n ≤ r → n ≤ q → (r, s) ∈ L → (q, s) ∈ L → r = q
  | (a, t) :: L, h, r, q, s, hr, hq, h1, h2 => by
    simp only [okP, Bool.and_eq_true, Bool.or_eq_true, List.all_eq_true] at h
    have key : ∀ b, n ≤ a → n ≤ b → (b, t) ∈ L → False := by
      intro b ha hb hm
      rcases h.1 with h3 | ⟨_, h4⟩
      · have := Nat.le_of_ble_eq_true h3; omega
      · rcases h4 _ hm with h5 | h5
        · have := Nat.le_of_ble_eq_true h5; simp only at this; omega
        · simp at h5
    cases h1 with
    | head => cases h2 with
      | head => rfl
      | tail _ h2 => exact (key q hr hq h2).elim
    | tail _ h1 => cases h2 with
      | head => exact (key r hq hr h1).elim
      | tail _ h2 => exact okP_inj h.2 r q s hr hq h1 h2
noncomputable def dropR : List (Nat × AObj) → Tr AObj → Tr AObj
  | [], t => t
  | (r, _) :: l, t => (dropR l t).put r none
noncomputable def addR : List (Nat × AObj) → Tr AObj → Tr AObj
  | [], t => t
  | (r, o) :: l, t => (addR l t).put r (some o)
noncomputable def outH (h : AHeap) (gl : List (Nat × AObj)) (c : Cls) : AHeap := ⟨c.n, addR c.R (dropR gl h.rows)⟩
theorem addR_get : ∀ {l : List (Nat × AObj)} {t : Tr AObj} {r : Nat} {o : AObj}, (addR l t).get r = some o → (r, o) ∈ l ∨ t.get r = some o
  | [], t, r, o, h => .inr h
  | (q, p) :: l, t, r, o, h => by
    simp only [addR, Tr.get_put] at h
    split at h
    · rename_i e; subst e; cases h; exact .inl List.mem_cons_self
    · exact (addR_get h).imp (List.mem_cons_of_mem _) id
theorem dropR_get : ∀ {l : List (Nat × AObj)} {t : Tr AObj} {r : Nat} {o : AObj}, (dropR l t).get r = some o → t.get r = some o ∧ ∀ p, (r, p) ∉ l
  | [], t, r, o, h => ⟨h, fun _ hm => by cases hm⟩
  | (q, p) :: l, t, r, o, h => by
    simp only [dropR, Tr.get_put] at h
    split at h
    · cases h
    · rename_i e
      obtain ⟨h1, h2⟩ := dropR_get h
      refine ⟨h1, fun p2 hm => ?_⟩
      cases hm with
      | head => exact e rfl
      | tail _ hm => exact h2 p2 hm
theorem fitB_spec {h : AHeap} {gl : List (Nat × AObj)} {c : Cls} {x : Value × AHeap} (hb : fitB h gl c x = true) : ∃ ρ, Fits (mkH h.next gl) h (outH h gl c) c.v x.1 x.2 ρ := by
  unfold fitB fitB.fitL at hb
  obtain ⟨L, hL⟩ : ∃ L, L = closeP ⟨c.n, rowsT c.R⟩ x.2 100000 (pr c.v x.1 ++ idP gl) [] := ⟨_, rfl⟩
  rw [← hL] at hb
  simp only [Bool.and_eq_true, List.all_eq_true] at hb
  obtain ⟨⟨b1, b2⟩, b3, b4⟩ := hb
  have rho : ∀ {r s : Nat}, rhoP h.next L r = some s → (r < h.next ∧ s = r) ∨ (h.next ≤ r ∧ (r, s) ∈ L) := by
    intro r s hr
    unfold rhoP at hr
    cases hn : Nat.ble (r + 1) h.next
    · rw [hn, cond_false] at hr
      refine .inr ⟨?_, atP_mem hr⟩
      rcases Nat.lt_or_ge r h.next with h1 | h1
      · have := Nat.ble_eq_true_of_le (Nat.succ_le_of_lt h1); rw [hn] at this; cases this
      · exact h1
    · rw [hn, cond_true] at hr
      exact .inl ⟨Nat.le_of_ble_eq_true hn, by cases hr; rfl⟩
  refine ⟨rhoP h.next L, Nat.le_of_ble_eq_true b1, vsim_spec b3, fun r hr => ?_, fun r q s h1 h2 => ?_, fun r s hr h1 => ?_, fun r o hr => ?_⟩
  · unfold rhoP; rw [Nat.ble_eq_true_of_le (Nat.succ_le_of_lt hr)]; rfl
  · rcases rho h1 with ⟨a1, a2⟩ | ⟨a1, a2⟩ <;> rcases rho h2 with ⟨c1, c2⟩ | ⟨c1, c2⟩
    · omega
    · have := okP_new b2 q s c2 c1; omega
    · have := okP_new b2 r s a2 a1; omega
    · exact okP_inj b2 r q s a1 c1 a2 c2
  · rcases rho h1 with ⟨a1, a2⟩ | ⟨a1, a2⟩
    · omega
    · exact okP_new b2 r s a2 a1
  · have hr : (addR c.R (dropR gl h.rows)).get r = some o := hr
    rcases addR_get hr with h1 | h1
    · have := b4 _ h1
      simp only [rowFit, Bool.and_eq_true] at this
      obtain ⟨k1, k2⟩ := this
      split at k2
      · rename_i s hs
        split at k2
        · rename_i p hp
          exact .inr ⟨s, p, hs, hp, Nat.le_of_ble_eq_true k1, k2⟩
        · cases k2
      · cases k2
    · obtain ⟨k1, k2⟩ := dropR_get h1
      refine .inl ⟨k1, ?_⟩
      cases hg : (mkH h.next gl).get r with
      | none => rfl
      | some p => exact (k2 p (mkH_get hg)).elim
noncomputable def addC (h : AHeap) (gl : List (Nat × AObj)) (cs : List Cls) (x : Value × AHeap) : List Cls := bif cs.any (fun c => fitB h gl c x) then cs else mkCls gl x :: cs
noncomputable def localR (h : AHeap) (gl : List (Nat × AObj)) (outs : VOuts) (cs : List Cls) : Option VOuts :=
  bif outs.all (fun x => cs.any fun c => fitB h gl c x) then some (cs.map fun c => (c.v, outH h gl c)) else none
noncomputable def localL (E : Env) (call : CallV) (callL : CallL) (n : Nat) (f : FuncId) (args : List Value) (h : AHeap) : Option VOuts :=
  localG E call callL n f args h (rowsAt h (closeP h h 100000 (prL pr args args) []))
where localG (E : Env) (call : CallV) (callL : CallL) (n : Nat) (f : FuncId) (args : List Value) (h : AHeap) (gl : List (Nat × AObj)) : Option VOuts :=
  match lFun E call callL n f args (mkH h.next gl) with
  | some outs => localR h gl outs (outs.foldl (addC h gl) [])
  | none => none
noncomputable def escL (call : CallV) (X : List FuncId × List FuncId) : CallL := fun fv vs h =>
  match fv, vs with
  | .func (.func k) first cap, [v] => bif X.2.any (Nat.beq k) && (first.isEmpty && cap.isEmpty) then some [(v, h)] else cloneL call X.1 fv vs h
  | _, _ => cloneL call X.1 fv vs h
noncomputable def YOK (P : Program) (X : List FuncId × List FuncId) : Prop := XOK P X.1 ∧ ∀ k ∈ X.2, ∃ fn, P.funcs[k]? = some fn ∧ (fn.name == "runtime.NumGoroutine") = false ∧ fn.body.isNone = true ∧ Extern.findNext fn = none ∧ Extern.find fn = some Extern.AbiNoEscape.same
theorem escL_sound {P : Program} {call : CallV} (hv : VSound P call) {X : List FuncId × List FuncId} (hX : YOK P X) : LSound P (escL call X) := by
  intro fv vs h outs he
  unfold escL at he
  split at he
  · rename_i k first cap v
    cases hb : X.2.any (Nat.beq k) && (first.isEmpty && cap.isEmpty)
    · rw [hb, cond_false] at he; exact cloneL_sound hv hX.1 _ _ _ _ he
    · rw [hb, cond_true] at he
      cases he
      simp only [Bool.and_eq_true, Array.isEmpty_iff] at hb
      obtain ⟨hb, rfl, rfl⟩ := hb
      obtain ⟨k', hk', hkk⟩ := List.any_eq_true.1 hb
      obtain rfl := Nat.eq_of_beq_eq_true hkk
      obtain ⟨fn, x1, x2, x3, x4, x5⟩ := hX.2 k hk'
      intro μ fv' vs' w c cs h1 h2 st
      cases h1 with
      | func hy ha hc =>
        rename_i a' c'
        have ea : a' = #[] := by
          have := ha.length
          simpa using this.symm
        have ec : c' = #[] := by
          have := hc.length
          simpa using this.symm
        subst ea ec
        obtain ⟨x', hx', hr⟩ := h2.one
        have hvs : vs' = #[x'] := hx'
        subst hvs
        refine ⟨.value x', w, _, v, x', h, μ, w, ?_, rfl, .refl _ _, List.mem_singleton.2 rfl, Ext.refl st, hr⟩
        simp only [Sem.run_bind, Deferred.ofValue, Sem.run_pure, Result.andThen_ok, invoke, Array.empty_append, Array.append_empty, run_callFunc_extern x1 x2 x3 x4 x5, Lib.run_noEscape]
  · exact cloneL_sound hv hX.1 _ _ _ _ he
noncomputable def mCall (E : Env) (call : CallV) (X : List FuncId × List FuncId) (B : List FuncId) (n : Nat) : Nat → CallL
  | 0 => escL call X
  | d + 1 => fun fv vs h => match fv with
    | .func (.func f) first cap => bif B.any (Nat.beq f) then localL E call (mCall E call X B n d) n f (first.toList ++ vs ++ cap.toList) h else escL call X fv vs h
    | _ => escL call X fv vs h
section
variable {E : Env} (ok : EnvOK E) {call : CallV} (hv : VSound E.P call)
include ok hv
theorem localL_sound {callL : CallL} (hl : LSound E.P callL) {n : Nat} {f : FuncId} {args : List Value} {h : AHeap} {outs : VOuts} (he : localL E call callL n f args h = some outs) : (∃ fn, Entered E.P f fn) ∧ FWp E.P f args h fun x y => (x, y) ∈ outs := by
  unfold localL localL.localG at he
  obtain ⟨gl, hgl⟩ : ∃ gl, gl = rowsAt h (closeP h h 100000 (prL pr args args) []) := ⟨_, rfl⟩
  rw [← hgl] at he
  split at he
  · rename_i os hos
    obtain ⟨h1, h2⟩ := lFun_sound ok hv hl hos
    refine ⟨h1, ?_⟩
    unfold localR at he
    cases hb : os.all (fun x => (os.foldl (addC h gl) []).any fun c => fitB h gl c x)
    · rw [hb, cond_false] at he; cases he
    · rw [hb, cond_true] at he
      cases he
      have hsub : ∀ r o, (mkH h.next gl).get r = some o → h.get r = some o := fun r o hr => by have hm := mkH_get hr; rw [hgl] at hm; exact rowsAt_get hm
      refine FWp.fits (g := mkH h.next gl) (h := h) hsub rfl (h2.mono fun u y hm => ?_)
      obtain ⟨c, hc, hfit⟩ := List.any_eq_true.1 (List.all_eq_true.1 hb (u, y) hm)
      obtain ⟨ρ, F⟩ := fitB_spec hfit
      exact ⟨c.v, outH h gl c, ρ, List.mem_map.2 ⟨c, hc, rfl⟩, F⟩
  · cases he
theorem mCall_sound {X : List FuncId × List FuncId} (hX : YOK E.P X) (B : List FuncId) (n : Nat) : ∀ d, LSound E.P (mCall E call X B n d)
  | 0 => escL_sound hv hX
  | d + 1 => by
    intro fv vs h outs he
    simp only [mCall] at he
    split at he
    · rename_i f first cap
      cases hb : B.any (Nat.beq f)
      · rw [hb, cond_false] at he; exact escL_sound hv hX _ _ _ _ he
      · rw [hb, cond_true] at he
        obtain ⟨⟨fn, h1⟩, h2⟩ := localL_sound ok hv (mCall_sound hX B n d) he
        exact VWp.func h1 h2
    · exact escL_sound hv hX _ _ _ _ he
end
noncomputable def mS (E : Env) (n : Nat) (X : List FuncId × List FuncId) (B : List FuncId) (d : Nat) (f : FuncId) (args : List Value) (h : AHeap) : ZV :=
  bif B.any (Nat.beq f) then (match localL E (evZ E n) (mCall E (evZ E n) X B 1000 d) 1000 f args h with
    | some [r] => some r
    | _ => none) else E.S f args h
noncomputable def envM (E : Env) (n : Nat) (X : List FuncId × List FuncId) (B : List FuncId) (d : Nat) : Env := { E with S := mS E n X B d }
theorem envM_ok {E : Env} (ok : EnvOK E) (n : Nat) {X : List FuncId × List FuncId} (hX : YOK E.P X) (B : List FuncId) (d : Nat) : EnvOK (envM E n X B d) := by
  refine ⟨ok.ty, ok.mix, ok.fn, fun f args h v h' he => ?_⟩
  have he : mS E n X B d f args h = some (v, h') := he
  unfold mS at he
  cases hb : B.any (Nat.beq f)
  · rw [hb, cond_false] at he; exact ok.sum f args h v h' he
  · rw [hb, cond_true] at he
    split at he
    · rename_i r hr
      cases he
      obtain ⟨h1, h2⟩ := localL_sound ok (evZ_sound ok n) (mCall_sound ok (evZ_sound ok n) hX B 1000 d) hr
      refine ⟨h1, h2.mono fun x y hm => ?_⟩
      have := List.mem_singleton.1 hm
      cases this
      exact ⟨rfl, rfl⟩
    · cases he
end Go.Ab.Nx.Mx
