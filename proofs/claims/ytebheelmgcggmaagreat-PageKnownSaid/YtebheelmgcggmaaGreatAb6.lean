/-
  The operations of a program under the view: append, copy, clear, len; bytes and strings.
-/
import Derived.Test.YtebheelmgcggmaaGreatAb5
namespace Go.Ab
set_option linter.unusedSimpArgs false
set_option linter.unusedVariables false
section ops
variable {P : Program} {T : Tr TI} {μ : Emb} {h h' : AHeap} {w : World}
noncomputable def byteVals (s : ByteArray) : List Value := s.data.toList.map fun b => Value.int .u8 b.toNat
noncomputable def aCells (h : AHeap) (size n : Nat) (x : Value) : Option (List Value) :=
  match x with
  | .slice none 0 0 => some []
  | .slice (some ⟨r, off, none⟩) len _ => bif Nat.beq (n * size) 0 then some [] else bif Nat.ble n len then match rowOf h r with
    | some vs => cellsOf vs off (n * size)
    | none => none
    else none
  | .string s => bif Nat.beq size 1 then some ((byteVals s).take n) else none
  | _ => none
noncomputable def aLen (x : Value) : Option Nat :=
  match x with
  | .slice _ n _ => some n
  | .string s => some s.size
  | _ => none
theorem lenOf_good {n : Nat} {x x' : Value} {k : Nat} (hx : VRel μ n x x') (ha : aLen x = some k) (w : World) : (Builtin.lenOf x').run P w = .ok k w := by
  cases hx <;> simp only [aLen, Option.some.injEq] at ha <;> first | (subst ha; rfl) | cases ha
theorem firstCells_good (st : StRel μ h w) {size n : Nat} {x x' : Value} {l : List Value} (hx : VRel μ h.next x x') (ha : aCells h size n x = some l) :
    ∃ l', (Builtin.firstCells size n x').run P w = .ok l' w ∧ LRel μ h.next l l'.toList := by
  unfold aCells at ha
  split at ha
  · cases ha; cases hx
    exact ⟨#[], rfl, .nil⟩
  · rename_i r off len c
    cases hz : Nat.beq (n * size) 0
    · rw [hz, cond_false] at ha
      have hz' : ¬ n * size = 0 := fun e => by rw [e] at hz; cases hz
      cases hn : Nat.ble n len
      · rw [hn, cond_false] at ha; cases ha
      · rw [hn, cond_true] at ha
        have hn' : n ≤ len := Nat.le_of_ble_eq_true hn
        split at ha
        · rename_i vs hr
          have key : ∀ (e : Ent) (c' : Nat), μ r = some e → ∃ l', (Builtin.firstCells size n (.slice (some ⟨e.b, e.d + off, none⟩) len c')).run P w = .ok l' w ∧ LRel μ h.next l l'.toList := by
            intro e c' hm
            obtain ⟨l', h1, h2⟩ := st.loadCells (P := P) hr hm ha
            exact ⟨l'.toArray, h1, by simpa using h2⟩
          cases hx with
          | sliceK hlt hm => exact key _ _ hm
          | sliceU hlt hm hl hc => exact key _ _ hm
          | sliceZ hlt hm => exfalso; have : n = 0 := by omega
                             subst this; simp at hz'
          | sliceKZ hlt hm => exfalso; have : n = 0 := by omega
                              subst this; simp at hz'
        · cases ha
    · rw [hz, cond_true] at ha
      cases ha
      have hz' : n * size = 0 := Nat.eq_of_beq_eq_true hz
      have key : ∀ (a : Addr) (len c' : Nat), ∃ l', (Builtin.firstCells size n (.slice (some a) len c')).run P w = .ok l' w ∧ LRel μ h.next [] l'.toList := by
        intro a len c'
        refine ⟨#[], ?_, .nil⟩
        simp only [Builtin.firstCells, hz']
        rfl
      cases hx <;> exact key _ _ _
  · rename_i s
    cases hs1 : Nat.beq size 1
    · rw [hs1, cond_false] at ha; cases ha
    rw [hs1, cond_true] at ha
    cases ha; cases hx
    refine ⟨_, rfl, ?_⟩
    have e : ((s.extract 0 n).data.map fun b => Value.int .u8 b.toNat).toList = (byteVals s).take n := by
      simp [byteVals, ByteArray.extract, ByteArray.copySlice, List.map_take]
    rw [e]
    refine LRel.of_flat1 _ _ ?_
    simp only [byteVals, List.all_eq_true]
    intro x hx
    have := List.mem_of_mem_take hx
    simp only [List.mem_map] at this
    obtain ⟨b, _, rfl⟩ := this
    rfl
  · cases ha
theorem growBy_le (need : Nat) : ∀ (k c : Nat), c < need → Builtin.growBy need k c ≤ 2 * need + 256
  | 0, c, h => by simp [Builtin.growBy]; omega
  | k + 1, c, h => by
    simp only [Builtin.growBy]
    split
    · omega
    · by_cases hc : c + (c + 768) / 4 < need
      · exact growBy_le need k _ hc
      · cases k with
        | zero => simp [Builtin.growBy]; omega
        | succ k => simp only [Builtin.growBy]; rw [if_pos (by omega)]; omega
theorem nextslicecap_le {need cap : Nat} (h : cap < need) : Builtin.nextslicecap need cap ≤ 2 * need + 256 := by
  unfold Builtin.nextslicecap
  split
  · omega
  · split
    · omega
    · exact growBy_le need 4 cap h
structure AppT where
  elem : TypeId
  size : Nat
  bytes : Nat
  z : List Value
noncomputable def appT (T : Tr TI) (argTypes : Array TypeId) : Option AppT :=
  match argTypes.toList with
  | [t, u] => match T.get t, T.get u with
    | some ti, some ui => match ti.und, ui.und with
      | .slice _, .int _ => none
      | .slice elem, _ => match T.get elem with
        | some ei => match ei.zero with
          | some z => bif Nat.beq z.cells.size ei.size && Nat.ble 1 ei.bytes then some ⟨elem, ei.size, ei.bytes, z.cells.toList⟩ else none
          | none => none
        | none => none
      | _, _ => none
    | _, _ => none
  | _ => none
noncomputable def sCells (h : AHeap) (size : Nat) (s : Value) : Option (List Value) :=
  match s with
  | .slice _ len _ => aCells h size len s
  | _ => none
noncomputable def vLen : Value → Nat
  | .slice _ n _ => n
  | _ => 0
noncomputable def aAppend (T : Tr TI) (argTypes : Array TypeId) (s x : Value) (h : AHeap) : Option (Value × AHeap) :=
  match appT T argTypes, aLen x with
  | some at_, some n => match aCells h at_.size n x with
    | some new => bif Nat.ble ((2 * (vLen s + n) + 256) * at_.bytes) 281474976710656 then
      match s with
      | .slice none 0 0 => bif Nat.beq n 0 then some (s, h) else some (.slice (some ⟨h.next, 0, none⟩) n 0, h.new (.cells new at_.size))
      | .slice (some ⟨r, off, none⟩) len (c + 1) =>
        bif Nat.ble (len + n) c then
          bif Nat.beq n 0 then some (s, h) else bif Nat.ble 1 c then match writeRow h r (off + len * at_.size) new with
            | some h' => some (.slice (some ⟨r, off, none⟩) (len + n) (c + 1), h')
            | none => none
          else none
        else match sCells h at_.size s with
          | some old => some (.slice (some ⟨h.next, 0, none⟩) (len + n) 0, h.new (.cells (old ++ new) at_.size))
          | none => none
      | .slice (some ⟨r, off, none⟩) len 0 =>
        bif Nat.beq n 0 then some (s, h) else match h.get r with
          | some (.cells vs sz) => bif Nat.beq sz at_.size && oneCells new then match cellsOf vs off (len * sz) with
            | some old => some (.slice (some ⟨h.next, 0, none⟩) (len + n) 0, (h.kill r).new (.cells (old ++ new) sz))
            | none => none
            else none
          | _ => none
      | _ => none
      else none
    | none => none
  | _, _ => none
theorem appT_run (ok : TyOK P T) {argTypes : Array TypeId} {a : AppT} (ha : appT T argTypes = some a) : ∃ t u ti ui ei z, argTypes[0]? = some t ∧ argTypes[1]? = some u ∧ T.get t = some ti ∧ T.get u = some ui ∧
    ti.und = .slice a.elem ∧ (∀ k, ui.und ≠ .int k) ∧ T.get a.elem = some ei ∧ ei.size = a.size ∧ ei.bytes = a.bytes ∧ ei.zero = some z ∧ z.cells.size = a.size ∧ 1 ≤ a.bytes := by
  unfold appT at ha
  split at ha
  · rename_i t u hat
    have h0 : argTypes[0]? = some t := by rw [← Array.getElem?_toList, hat]; rfl
    have h1 : argTypes[1]? = some u := by rw [← Array.getElem?_toList, hat]; rfl
    split at ha
    · rename_i ti ui ht hu
      split at ha
      · cases ha
      · rename_i elem hni hti
        split at ha
        · rename_i ei he
          split at ha
          · rename_i z hz
            cases hb : Nat.beq z.cells.size ei.size && Nat.ble 1 ei.bytes
            · rw [hb, cond_false] at ha; cases ha
            · rw [hb, cond_true] at ha
              cases ha
              simp only [Bool.and_eq_true] at hb
              exact ⟨t, u, ti, ui, ei, z, h0, h1, ht, hu, hni, fun k e => hti k e, he, rfl, rfl, hz, Nat.eq_of_beq_eq_true hb.1, Nat.le_of_ble_eq_true hb.2⟩
          · cases ha
        · cases ha
      · cases ha
    · cases ha
  · cases ha
theorem not_int {d : TypeDesc} (hd : ∀ k, d ≠ .int k) : (d matches .int _) = false := by
  cases d <;> first | rfl | exact (hd _ rfl).elim
theorem append_grow (ok : TyOK P T) {argTypes : Array TypeId} {at_ : AppT} (ha : appT T argTypes = some at_) (ty : TypeId) {base' : Option Addr} {len cap n : Nat} {x' : Value} {l' o' : Array Value}
    (hn : (Builtin.lenOf x').run P w = .ok n w) (hold : (Builtin.firstCells at_.size len (.slice base' len cap)).run P { w with drawn := w.drawn + 1 } = .ok o' { w with drawn := w.drawn + 1 })
    (hnew : (Builtin.firstCells at_.size n x').run P { w with drawn := w.drawn + 1 } = .ok l' { w with drawn := w.drawn + 1 }) (hgt : ¬ len + n ≤ cap) (hroom : (2 * (len + n) + 256) * at_.bytes ≤ 281474976710656)
    (ho : o'.size = len * at_.size) (hl : l'.size = n * at_.size) :
    ∃ ncap cs, len + n ≤ ncap ∧ (Builtin.append_ argTypes ty #[.slice base' len cap, x']).run P w = .ok (.slice (some ⟨w.heap.size, 0, none⟩) (len + n) ncap) { w with drawn := w.drawn + 1, heap := w.heap.push (.cells cs at_.elem) } ∧
      cs.size = ncap * at_.size ∧ ∃ rest, cs.toList = o'.toList ++ l'.toList ++ rest := by
  obtain ⟨t, u, ti, ui, ei, z, h0, h1, ht, hu, hti, hui, he, hs, hby, hz, hzs, hb1⟩ := appT_run ok ha
  obtain ⟨i, hi0, hi2, hi3, hi4, _⟩ := ok.ok _ _ he
  have hi1 : ∀ w : World, (typeInfo at_.elem).run P w = .ok i w := fun w' => by simp [typeInfo, hi0]
  have hcap : ¬ Builtin.nextslicecap (len + n) cap * i.bytes > 2 ^ 48 := by
    have h2 := nextslicecap_le (need := len + n) (cap := cap) (by omega)
    have h3 := Nat.mul_le_mul_right i.bytes h2
    rw [hi3, hby] at h3 ⊢
    omega
  have hnz : ¬ i.bytes = 0 := by rw [hi3, hby]; omega
  generalize hq : (Question.appendCap (len + n) cap at_.elem).cut (w.tape w.drawn (Question.appendCap (len + n) cap at_.elem)) = ncap
  have hge : len + n ≤ ncap := by rw [← hq]; simp [Question.cut]
  refine ⟨ncap, o' ++ l' ++ Builtin.zeroCells z.cells (ncap - (len + n)), hge, ?_, ?_, _, by simp; rfl⟩
  · have hu2 := not_int hui
    simp only [Builtin.append_, h0, h1, List.getElem?_toArray, List.getElem?_cons_zero, List.getElem?_cons_succ, Sem.run_bind, run_underlying ok ht, hti, Result.andThen_ok, run_sizeOf ok he, hs]
    simp only [Result.andThen_ok, Sem.run_pure, run_underlying ok hu, hu2, Bool.false_eq_true, if_false, Bool.not_false, if_true, hn, Sem.run_ite, hgt, hi1, hnz, false_or, and_false, hcap, run_choose, Question.forced, hq, run_askRoom, hold, hnew, Sem.run_bind,
      run_zeroValue ok he _ hz, Go.newRow, run_newObj, Sem.run_pure]
  · simp only [Array.size_append, ho, hl, Builtin.zeroCells, Array.size_map, Array.size_range, hzs]
    rw [← Nat.add_mul, ← Nat.add_mul]
    congr 1
    omega
theorem append_stay (ok : TyOK P T) {argTypes : Array TypeId} {at_ : AppT} (ha : appT T argTypes = some at_) (ty : TypeId) {base' : Option Addr} {len cap n : Nat} {x' : Value} {l' : Array Value}
    (hn : (Builtin.lenOf x').run P w = .ok n w) (hnew : (Builtin.firstCells at_.size n x').run P w = .ok l' w) (hle : len + n ≤ cap) {w' : World}
    (hst : ∀ a, base' = some a → (storeCells (a.add (len * at_.size)) l'.toList).run P w = .ok () w') (hno : base' = none → w' = w) :
    (Builtin.append_ argTypes ty #[.slice base' len cap, x']).run P w = .ok (.slice base' (len + n) cap) w' := by
  obtain ⟨t, u, ti, ui, ei, z, h0, h1, ht, hu, hti, hui, he, hs, hby, hz, hzs, hb1⟩ := appT_run ok ha
  have hu2 := not_int hui
  simp only [Builtin.append_, h0, h1, List.getElem?_toArray, List.getElem?_cons_zero, List.getElem?_cons_succ, Sem.run_bind, run_underlying ok ht, hti, Result.andThen_ok, run_sizeOf ok he, hs]
  simp only [Result.andThen_ok, Sem.run_pure, run_underlying ok hu, hu2, Bool.false_eq_true, if_false, Bool.not_false, if_true, hn, Sem.run_ite, hle, Sem.run_bind, hnew]
  cases base' with
  | none => simp only [Sem.run_pure]; rw [hno rfl]
  | some a => simp only [Sem.run_bind, hst a rfl, Result.andThen_ok, Sem.run_pure]
theorem storeNil {P : Program} (a : Addr) (w : World) : (storeCells a []).run P w = .ok () w := rfl
theorem aCells_length {size n : Nat} {x : Value} {l : List Value} (hn : aLen x = some n) (ha : aCells h size n x = some l) : l.length = n * size := by
  unfold aCells at ha
  split at ha
  · cases ha; simp only [aLen, Option.some.injEq] at hn; subst hn; simp
  · rename_i r off len c
    cases hz : Nat.beq (n * size) 0
    · rw [hz, cond_false] at ha
      cases hb : Nat.ble n len
      · rw [hb, cond_false] at ha; cases ha
      · rw [hb, cond_true] at ha
        split at ha
        · exact (cellsOf_some ha).2.2
        · cases ha
    · rw [hz, cond_true] at ha; cases ha; have := Nat.eq_of_beq_eq_true hz; simp [this]
  · rename_i s
    cases hs1 : Nat.beq size 1
    · rw [hs1, cond_false] at ha; cases ha
    rw [hs1, cond_true] at ha
    cases ha
    have e := Nat.eq_of_beq_eq_true hs1
    subst e
    have e2 : s.size = n := by simpa only [aLen, Option.some.injEq] using hn
    have e3 : s.data.toList.length = s.size := Array.length_toList (xs := s.data)
    rw [List.length_take, byteVals, List.length_map, e3, e2, Nat.min_self, Nat.mul_one]
  · cases ha
theorem append_new (st : StRel μ h w) {at_ : AppT} {cs : Array Value} {need ncap : Nat} {vs : List Value} (hv : LRel μ h.next vs (cs.toList.take vs.length)) (hlen : vs.length = need * at_.size) (hcs : cs.size = ncap * at_.size) (hge : need ≤ ncap) :
    ∃ μ', Ext μ h w μ' (h.new (.cells vs at_.size)) { w with drawn := w.drawn + 1, heap := w.heap.push (.cells cs at_.elem) } ∧
      VRel μ' (h.new (.cells vs at_.size)).next (.slice (some ⟨h.next, 0, none⟩) need 0) (.slice (some ⟨w.heap.size, 0, none⟩) need ncap) := by
  have hle : vs.length ≤ cs.size := by rw [hlen, hcs]; exact Nat.mul_le_mul_right _ hge
  have e := Ext.new (w := { w with drawn := w.drawn + 1 }) (st.same rfl) (.cells cs at_.elem) ⟨w.heap.size, 0, cs.size, at_.size⟩ (.cells vs at_.size) rfl
    ⟨rfl, cs, at_.elem, (0, 0), rfl, hle, by simp, fun i _ => by omega, fun i v hi => by
      have hlt := (List.getElem?_eq_some_iff.1 hi).1
      obtain ⟨v', h1, h2⟩ := hv.getElem? i hi
      rw [List.getElem?_take, if_pos hlt, Array.getElem?_toList] at h1
      exact ⟨v', by simpa using h1, h2.mono (Agree.upd μ _ (Nat.le_refl _)) (by omega)⟩⟩
  refine ⟨_, (Ext.same (w' := { w with drawn := w.drawn + 1 }) st rfl rfl rfl).trans e, ?_⟩
  exact VRel.sliceU (off := 0) (by simp) (Emb.upd_same _ _ _) hge (by simp [hcs])
theorem append_good (ok : TyOK P T) (st : StRel μ h w) {argTypes : Array TypeId} (ty : TypeId) {s s' x x' v : Value} (hs : VRel μ h.next s s') (hx : VRel μ h.next x x')
    (ha : aAppend T argTypes s x h = some (v, h')) : GoodV P μ h w (Builtin.append_ argTypes ty #[s', x']) v h' := by
  unfold aAppend at ha
  split at ha
  · rename_i at_ n hat hn
    split at ha
    · rename_i new hnew
      have st1 : StRel μ h { w with drawn := w.drawn + 1 } := st.same rfl
      have hlx := lenOf_good (P := P) hx hn w
      obtain ⟨l', hl1, hl2⟩ := firstCells_good (P := P) st hx hnew
      have hlen := aCells_length hn hnew
      have hl2l := hl2.length
      simp only [Array.length_toList] at hl2l
      -- the new cells, once an answer has been drawn
      obtain ⟨ld, hd1, hd2⟩ := firstCells_good (P := P) st1 hx hnew
      have hd2l := hd2.length
      simp only [Array.length_toList] at hd2l
      cases hroom : Nat.ble ((2 * (vLen s + n) + 256) * at_.bytes) 281474976710656
      · rw [hroom, cond_false] at ha; cases ha
      · rw [hroom, cond_true] at ha
        have hroom' := Nat.le_of_ble_eq_true hroom
        split at ha
        · -- nil
          cases hs
          simp only [vLen] at hroom'
          cases hn0 : Nat.beq n 0
          · rw [hn0, cond_false] at ha
            have hn0' : ¬ n = 0 := fun e => by rw [e] at hn0; cases hn0
            simp only [Option.some.injEq, Prod.mk.injEq] at ha
            obtain ⟨rfl, rfl⟩ := ha
            obtain ⟨ncap, cs, g1, g2, g3, rest, g4⟩ := append_grow (P := P) ok hat ty hlx (base' := none) (len := 0) (cap := 0) (o' := #[]) rfl hd1 (by omega) hroom' (by simp) (by omega)
            rw [Nat.zero_add] at g1 g2
            obtain ⟨μ', e1, e2⟩ := append_new st (vs := new) (by rw [g4]; simp only [List.nil_append]; rw [hd2.length, List.take_left]; exact hd2) hlen g3 g1
            exact ⟨_, _, μ', g2, e1, e2⟩
          · rw [hn0, cond_true] at ha
            simp only [Option.some.injEq, Prod.mk.injEq] at ha
            obtain ⟨rfl, rfl⟩ := ha
            have hn0' : n = 0 := Nat.eq_of_beq_eq_true hn0
            subst hn0'
            exact ⟨_, w, μ, append_stay (P := P) ok hat ty hlx hl1 (Nat.le_refl _) (fun a e => by cases e) (fun _ => rfl), Ext.refl st, .slice0⟩
        · -- the capacity is known
          rename_i r off len c
          simp only [vLen] at hroom'
          cases hfit : Nat.ble (len + n) c
          · rw [hfit, cond_false] at ha
            have hfit' : ¬ len + n ≤ c := fun e => by rw [Nat.ble_eq_true_of_le e] at hfit; cases hfit
            split at ha
            · rename_i old hold
              simp only [Option.some.injEq, Prod.mk.injEq] at ha
              obtain ⟨rfl, rfl⟩ := ha
              have hsl : aLen (.slice (some ⟨r, off, none⟩) len (c + 1)) = some len := rfl
              have hold' : aCells h at_.size len (.slice (some ⟨r, off, none⟩) len (c + 1)) = some old := hold
              obtain ⟨o', ho1, ho2⟩ := firstCells_good (P := P) st1 hs hold'
              have hol := aCells_length hsl hold'
              have ho2l := ho2.length
              simp only [Array.length_toList] at ho2l
              have fin : ∀ base', s' = .slice (some base') len c → GoodV P μ h w (Builtin.append_ argTypes ty #[s', x']) (.slice (some ⟨h.next, 0, none⟩) (len + n) 0) (h.new (.cells (old ++ new) at_.size)) := by
                rintro base' rfl
                obtain ⟨ncap, cs, g1, g2, g3, rest, g4⟩ := append_grow (P := P) ok hat ty hlx ho1 hd1 hfit' hroom' (by omega) (by omega)
                have hv : LRel μ h.next (old ++ new) (cs.toList.take (old ++ new).length) := by
                  rw [g4, (ho2.append hd2).length, List.take_left]; exact ho2.append hd2
                obtain ⟨μ', e1, e2⟩ := append_new st (vs := old ++ new) hv (by rw [List.length_append, hol, hlen, Nat.add_mul]) g3 g1
                exact ⟨_, _, μ', g2, e1, e2⟩
              cases hs with
              | sliceK hlt hm => exact fin _ rfl
              | sliceKZ hlt hm => exact fin _ rfl
            · cases ha
          · rw [hfit, cond_true] at ha
            have hfit' : len + n ≤ c := Nat.le_of_ble_eq_true hfit
            cases hn0 : Nat.beq n 0
            · rw [hn0, cond_false] at ha
              have hn0' : ¬ n = 0 := fun e => by rw [e] at hn0; cases hn0
              cases hc1 : Nat.ble 1 c
              · rw [hc1, cond_false] at ha; cases ha
              · rw [hc1, cond_true] at ha
                have hc1' : 1 ≤ c := Nat.le_of_ble_eq_true hc1
                split at ha
                · rename_i h2 hw
                  simp only [Option.some.injEq, Prod.mk.injEq] at ha
                  obtain ⟨rfl, rfl⟩ := ha
                  cases hs with
                  | sliceK hlt hm =>
                    rename_i e
                    obtain ⟨w', k1, k2⟩ := st.storeCells (P := P) hw hm hl2
                    refine ⟨_, w', μ, append_stay (P := P) ok hat ty hlx hl1 hfit' (w' := w') (fun a ea => ?_) (fun ea => by cases ea), k2, VRel.mono k2.agree k2.next (.sliceK hlt hm)⟩
                    cases ea
                    rw [add_none, Nat.add_assoc]; exact k1
                  | sliceKZ hlt hm => omega
                · cases ha
            · rw [hn0, cond_true] at ha
              simp only [Option.some.injEq, Prod.mk.injEq] at ha
              obtain ⟨rfl, rfl⟩ := ha
              have hn0' : n = 0 := Nat.eq_of_beq_eq_true hn0
              subst hn0'
              have hnil : l' = #[] := by apply Array.eq_empty_of_size_eq_zero; omega
              subst hnil
              have fin : ∀ base', s' = .slice (some base') len c → GoodV P μ h w (Builtin.append_ argTypes ty #[s', x']) (.slice (some ⟨r, off, none⟩) len (c + 1)) h := by
                rintro base' rfl
                exact ⟨_, w, μ, append_stay (P := P) ok hat ty hlx hl1 hfit' (fun a ea => storeNil _ _) (fun ea => by cases ea), Ext.refl st, hs⟩
              cases hs with
              | sliceK hlt hm => exact fin _ rfl
              | sliceKZ hlt hm => exact fin _ rfl
        · -- the capacity is not known
          rename_i r off len
          simp only [vLen] at hroom'
          cases hn0 : Nat.beq n 0
          · rw [hn0, cond_false] at ha
            have hn0' : ¬ n = 0 := fun e => by rw [e] at hn0; cases hn0
            split at ha
            · rename_i vs sz hg
              cases hb : Nat.beq sz at_.size && oneCells new
              · rw [hb, cond_false] at ha; cases ha
              · rw [hb, cond_true] at ha
                simp only [Bool.and_eq_true] at hb
                have esz : sz = at_.size := Nat.eq_of_beq_eq_true hb.1
                subst esz
                split at ha
                · rename_i old hold
                  simp only [Option.some.injEq, Prod.mk.injEq] at ha
                  obtain ⟨rfl, rfl⟩ := ha
                  have hrow : rowOf h r = some vs := by simp [rowOf, hg]
                  obtain ⟨hol1, hol2, hol3⟩ := cellsOf_some hold
                  -- a new array
                  have grow : ∀ (a : Addr) (cap : Nat) (o' : Array Value), ¬ len + n ≤ cap → (Builtin.firstCells at_.size len (.slice (some a) len cap)).run P { w with drawn := w.drawn + 1 } = .ok o' { w with drawn := w.drawn + 1 } →
                      LRel μ h.next old o'.toList → GoodV P μ h w (Builtin.append_ argTypes ty #[.slice (some a) len cap, x']) (.slice (some ⟨h.next, 0, none⟩) (len + n) 0) ((h.kill r).new (.cells (old ++ new) at_.size)) := by
                    intro a cap o' hgt ho1 ho2
                    have ho2l := ho2.length
                    simp only [Array.length_toList] at ho2l
                    obtain ⟨ncap, cs, g1, g2, g3, rest, g4⟩ := append_grow (P := P) ok hat ty hlx ho1 hd1 hgt hroom' (by omega) (by omega)
                    have hv : LRel μ h.next (old ++ new) (cs.toList.take (old ++ new).length) := by
                      rw [g4, (ho2.append hd2).length, List.take_left]; exact ho2.append hd2
                    have ek := Ext.kill st r
                    obtain ⟨μ', e1, e2⟩ := append_new (h := h.kill r) ek.st (vs := old ++ new) hv (by rw [List.length_append, hol3, hlen, Nat.add_mul]) g3 g1
                    exact ⟨_, _, μ', g2, ek.trans e1, e2⟩
                  cases hs with
                  | sliceZ hlt hm =>
                    refine grow _ 0 #[] (by omega) ?_ ?_
                    · simp only [Builtin.firstCells, Nat.zero_mul]; rfl
                    · have : old = [] := List.length_eq_zero_iff.1 (by rw [hol3, Nat.zero_mul])
                      rw [this]; exact .nil
                  | sliceU hlt hm hl hcp =>
                    rename_i cap e
                    by_cases hfit : len + n ≤ cap
                    · -- in its place
                      obtain ⟨hrn, e', c, a2, a3, asz, cs, t, fz, rfl, a5, a6, a7, a8⟩ := st.live r _ hg
                      rw [hm] at a2; cases a2
                      rw [asz] at hcp
                      have hmul : (len + n) * at_.size ≤ cap * at_.size := Nat.mul_le_mul_right _ hfit
                      rw [Nat.add_mul] at hmul
                      obtain ⟨w', cs', b1, b2, b3, b4, b5, b6, b7, b8⟩ := run_storeCells (P := P) e.b (e.d + off + len * at_.size) t fz l'.toList 0 cs w a3 (by simp; omega)
                        (fun j hj => by
                          have hj' : j < n * at_.size := by simp only [Array.length_toList] at hj; omega
                          have := a7 (off + len * at_.size + j) (by omega)
                          rwa [show e.d + off + len * at_.size + 0 + j = e.d + (off + len * at_.size + j) by omega]) (hl2.oneCells hb.2)
                      have hext := Ext.rebase (w' := w') (e' := ⟨e.b, e.d + off, e.ext - off, at_.size⟩) (o' := .cells (old ++ new) at_.size) st hg rfl hm b2 b3 b4 b7 b8 rfl
                        ⟨rfl, cs', t, fz, rfl, by simp [hol3, hlen]; omega, by simp only; omega, fun i hi => by
                          have := a7 (off + i) (by simp only at hi; omega)
                          simp only
                          rwa [show e.d + off + i = e.d + (off + i) by omega], fun i v hv => by
                          simp only
                          rw [b6 (e.d + off + i)]
                          simp only [Array.length_toList, Nat.add_zero]
                          by_cases hi : i < old.length
                          · rw [List.getElem?_append_left hi] at hv
                            rw [if_neg (by omega)]
                            rw [hol2, List.getElem?_take, if_pos (by omega), List.getElem?_drop] at hv
                            obtain ⟨v', c1, c2⟩ := a8 _ v hv
                            exact ⟨v', by rw [← c1]; congr 1; omega, c2.mono (Agree.upd μ _ (Nat.le_refl _)) (by omega)⟩
                          · rw [List.getElem?_append_right (by omega)] at hv
                            have hi2 := (List.getElem?_eq_some_iff.1 hv).1
                            rw [if_pos (by omega)]
                            obtain ⟨v', c1, c2⟩ := hl2.getElem? _ hv
                            exact ⟨v', by rw [← c1]; congr 1; omega, c2.mono (Agree.upd μ _ (Nat.le_refl _)) (by omega)⟩⟩
                      refine ⟨_, w', _, append_stay (P := P) ok hat ty hlx hl1 hfit (w' := w') (fun a ea => ?_) (fun ea => by cases ea), hext, ?_⟩
                      · cases ea; rw [add_none]; exact b1
                      · exact VRel.sliceU (off := 0) (e := ⟨e.b, e.d + off, e.ext - off, at_.size⟩) (by simp) (Emb.upd_same _ _ _) hfit (by simp only; omega)
                    · obtain ⟨lo, c1, c2⟩ := st1.loadCells (P := P) hrow hm hold
                      exact grow _ cap lo.toArray hfit c1 (by simpa using c2)
                · cases ha
            · cases ha
          · rw [hn0, cond_true] at ha
            simp only [Option.some.injEq, Prod.mk.injEq] at ha
            obtain ⟨rfl, rfl⟩ := ha
            have hn0' : n = 0 := Nat.eq_of_beq_eq_true hn0
            subst hn0'
            have hnil : l' = #[] := by apply Array.eq_empty_of_size_eq_zero; omega
            subst hnil
            have fin : ∀ base' cap, len ≤ cap → s' = .slice (some base') len cap → GoodV P μ h w (Builtin.append_ argTypes ty #[s', x']) (.slice (some ⟨r, off, none⟩) len 0) h := by
              rintro base' cap hle rfl
              exact ⟨_, w, μ, append_stay (P := P) ok hat ty hlx hl1 (by omega) (fun a ea => storeNil _ _) (fun ea => by cases ea), Ext.refl st, hs⟩
            cases hs with
            | sliceU hlt hm hl hcp => exact fin _ _ hl rfl
            | sliceZ hlt hm => exact fin _ 0 (Nat.le_refl _) rfl
        · cases ha
    · cases ha
  · cases ha
end ops
end Go.Ab
