/-
  The operations of a program under the view: bytes and strings; what asks nothing of memory; comparisons with nil.
-/
import Derived.Test.YtebheelmgcggmaaGreatAb7
namespace Go.Ab
set_option linter.unusedSimpArgs false
set_option linter.unusedVariables false
section ops
variable {P : Program} {T : Tr TI} {μ : Emb} {h h' : AHeap} {w : World}
noncomputable def bytesIn : List Value → Option (List UInt8)
  | [] => some []
  | .int .u8 n :: l => match bytesIn l with
    | some r => some (UInt8.ofNat n.toNat :: r)
    | none => none
  | _ => none
theorem bytesIn_ints : ∀ {l : List Value} {r : List UInt8}, bytesIn l = some r → ∃ ns : List Int, l = ns.map (Value.int .u8) ∧ r = ns.map fun n => UInt8.ofNat n.toNat
  | [], r, h => by simp only [bytesIn, Option.some.injEq] at h; subst h; exact ⟨[], rfl, rfl⟩
  | v :: l, r, h => by
    unfold bytesIn at h
    split at h
    · rename_i e; cases e
    · rename_i n l' e
      cases e
      split at h
      · rename_i r' hr
        cases h
        obtain ⟨ns, e1, e2⟩ := bytesIn_ints hr
        exact ⟨n :: ns, by simp [e1], by simp [e2]⟩
      · cases h
    · cases h
theorem foldl_push : ∀ (ns : List Int) (s : ByteArray), ns.foldl (fun r n => r.push (UInt8.ofNat n.toNat)) s = ⟨(s.data.toList ++ ns.map fun n => UInt8.ofNat n.toNat).toArray⟩
  | [], s => by simp
  | n :: ns, s => by
    rw [List.foldl_cons, foldl_push ns]
    simp [ByteArray.push]
theorem modify_push (a : Array Obj) (x : Obj) (f : Obj → Obj) : (a.push x).modify a.size f = a.push (f x) := by
  apply Array.ext_getElem?
  intro i
  rw [Array.getElem?_modify, Array.getElem?_push, Array.getElem?_push]
  by_cases hi : i = a.size
  · rw [if_pos hi, if_pos hi, if_pos hi.symm]; rfl
  · rw [if_neg hi, if_neg hi, if_neg (Ne.symm hi)]
noncomputable def aConv (T : Tr TI) (src dst : TypeId) (x : Value) (h : AHeap) : Option (Value × AHeap) :=
  match T.get src, T.get dst with
  | some si, some di => match si.und, di.und, x with
    | .string, .slice e, .string s => match T.get e with
      | some ei => match ei.und with
        | .int .u8 => some (.slice (some ⟨h.next, 0, none⟩) s.size 0, h.new (.cells (byteVals s) 1))
        | _ => none
      | none => none
    | .slice e, .string, .slice b n c => match T.get e, aCells h 1 n (.slice b n c) with
      | some ei, some l => match ei.und, bytesIn l with
        | .int .u8, some r => some (.string ⟨r.toArray⟩, h)
        | _, _ => none
      | _, _ => none
    | _, _, _ => none
  | _, _ => none
theorem conv_good (ok : TyOK P T) (st : StRel μ h w) {src dst : TypeId} {x x' v : Value} (hx : VRel μ h.next x x') (ha : aConv T src dst x h = some (v, h')) : GoodV P μ h w (convert src dst x') v h' := by
  unfold aConv at ha
  split at ha
  · rename_i si di hs hd
    split at ha
    · rename_i e s hsu hdu
      split at ha
      · rename_i ei he
        split at ha
        · rename_i heu
          simp only [Option.some.injEq, Prod.mk.injEq] at ha
          obtain ⟨rfl, rfl⟩ := ha
          cases hx
          generalize hq : (Question.appendCap s.size 0 e).cut (w.tape w.drawn (Question.appendCap s.size 0 e)) = cap
          have hge : s.size ≤ cap := by rw [← hq]; simp [Question.cut]
          generalize hcs : (s.data.map fun b => Value.int .u8 b.toNat) ++ Array.replicate (cap - s.size) (Value.int .u8 0) = cs
          have hsz : cs.size = cap := by
            rw [← hcs]; simp only [Array.size_append, Array.size_map, Array.size_replicate]
            have : s.data.size = s.size := rfl
            omega
          have hbl : (byteVals s).length = s.size := by simp only [byteVals, List.length_map, Array.length_toList]; rfl
          have e1 := Ext.new (w := { w with drawn := w.drawn + 1 }) (st.same rfl) (.cells cs e (cs.size, cs.size + 1)) ⟨w.heap.size, 0, cs.size, 1⟩ (.cells (byteVals s) 1) rfl
            ⟨rfl, cs, e, (cs.size, cs.size + 1), rfl, by simp only; omega, by simp, fun i hi => by simp only at hi ⊢; omega, fun i v hi => by
              refine ⟨v, ?_, ?_⟩
              · rw [← hcs]
                have hlt := (List.getElem?_eq_some_iff.1 hi).1
                rw [Nat.zero_add, Array.getElem?_append_left (by simp only [Array.size_map]; rw [hbl] at hlt; exact hlt)]
                rw [← hi, byteVals, ← Array.getElem?_toList, Array.toList_map]
              · simp only [byteVals, List.getElem?_map, Option.map_eq_some_iff] at hi
                obtain ⟨b, _, rfl⟩ := hi
                exact .int _ _⟩
          refine ⟨.slice (some ⟨w.heap.size, 0, none⟩) s.size cap, _, _, ?_, (Ext.same (w' := { w with drawn := w.drawn + 1 }) st rfl rfl rfl).trans e1, ?_⟩
          · simp only [convert, Sem.run_bind, run_underlying ok hs, run_underlying ok hd, hsu, hdu, Result.andThen_ok, run_underlying ok he, heu, Conv.stringToBytes, run_choose, Question.forced, Bool.false_eq_true, if_false, hq, hcs, Go.newRow, run_newObj,
              Sem.run_pure, markStringish, run_shape, World.shape?, Array.getElem?_push_size, run_freeze, World.freeze, Nat.one_ne_zero]
            rw [modify_push]
            rfl
          · exact VRel.sliceU (off := 0) (by simp) (Emb.upd_same _ _ _) hge (by simp [hsz])
        · cases ha
      · cases ha
    · rename_i e b n c hsu hdu
      split at ha
      · rename_i ei l he hl
        split at ha
        · rename_i r heu hr
          simp only [Option.some.injEq, Prod.mk.injEq] at ha
          obtain ⟨rfl, rfl⟩ := ha
          obtain ⟨ns, e1, e2⟩ := bytesIn_ints hr
          subst e1 e2
          have hflat : (ns.map (Value.int .u8)).all flat1 = true := by simp [List.all_eq_true, flat1]
          obtain ⟨l', k1, k2⟩ := firstCells_good (P := P) st hx hl
          have k3 : l' = (ns.map (Value.int .u8)).toArray := by
            have := k2.flat1_eq hflat
            rw [← this]
          subst k3
          refine ⟨.string ⟨(ns.map fun n => UInt8.ofNat n.toNat).toArray⟩, w, μ, ?_, Ext.refl st, .string _⟩
          have fin : ∀ a cap, (loadCells a n).run P w = .ok (ns.map (Value.int .u8)).toArray w → (convert src dst (.slice (some a) n cap)).run P w = .ok (.string ⟨(ns.map fun n => UInt8.ofNat n.toNat).toArray⟩) w := by
            intro a cap hload
            simp only [convert, Sem.run_bind, run_underlying ok hs, run_underlying ok hd, hsu, hdu, Result.andThen_ok, run_underlying ok he, heu]
            rw [run_bytesToString w a n cap ns hload, foldl_push]
            simp
          simp only [Builtin.firstCells, Nat.mul_one] at k1
          cases hx with
          | slice0 =>
            have : ns = [] := by
              simp only [Builtin.firstCells, Sem.run_pure, Result.ok.injEq, and_true] at k1
              cases ns with
              | nil => rfl
              | cons a b => simp at k1
            subst this
            simp only [convert, Sem.run_bind, run_underlying ok hs, run_underlying ok hd, hsu, hdu, Result.andThen_ok, run_underlying ok he, heu, Conv.bytesToString, Sem.run_pure]
            rfl
          | sliceK hlt hm => exact fin _ _ k1
          | sliceU hlt hm _ _ => exact fin _ _ k1
          | sliceZ hlt hm => exact fin _ _ k1
          | sliceKZ hlt hm => exact fin _ _ k1
        · cases ha
      · cases ha
    · cases ha
  · cases ha
theorem pure_good (st : StRel μ h w) {s : Sem Value} {v : Value} (hp : pureRun P s = some v) (hf : flat v = true) : GoodV P μ h w s v h :=
  ⟨v, w, μ, pureRun_run s w hp, Ext.refl st, .of_flat _ _ hf⟩
noncomputable def aEq (T : Tr TI) (t : TypeId) (x y : Value) : Option Bool :=
  match T.get t with
  | some ti => match ti.und, x, y with
    | .pointer _, .pointer none, .pointer b => some b.isNone
    | .pointer _, .pointer (some _), .pointer none => some false
    | .pointer elem, .pointer (some ⟨r, o, none⟩), .pointer (some ⟨q, p, none⟩) => match T.get elem with
      | some ei => bif Nat.beq r q && !Nat.beq ei.size 0 then some (Nat.beq o p) else none
      | none => none
    | .slice _, .slice none _ _, .slice b _ _ => some b.isNone
    | .slice _, .slice (some _) _ _, .slice none _ _ => some false
    | .map _ _, .map none, .map b => some b.isNone
    | .map _ _, .map (some _), .map none => some false
    | .func _ _ _, .nilFunc, .nilFunc => some true
    | .func _ _ _, .nilFunc, .func _ _ _ => some false
    | .func _ _ _, .func _ _ _, .nilFunc => some false
    | _, _, _ => none
  | none => none
theorem eqIn_good (ok : TyOK P T) {n : Nat} {t : TypeId} {x x' y y' : Value} (hx : VRel μ n x x') (hy : VRel μ n y y') {b : Bool} (ha : aEq T t x y = some b) (w : World) (d : Nat) :
    (Op.equalIn (d + 1) t x' y').run P w = .ok b w := by
  unfold aEq at ha
  split at ha
  · rename_i ti ht
    split at ha
    · rename_i b' hu
      cases ha; cases hx
      cases hy <;> simp only [Op.equalIn, Sem.run_bind, run_underlying ok ht, hu, Result.andThen_ok, Sem.run_pure, Option.isNone]
    · rename_i a hu
      cases ha; cases hy
      cases hx <;> simp only [Op.equalIn, Sem.run_bind, run_underlying ok ht, hu, Result.andThen_ok, Sem.run_pure]
    · rename_i elem r o q p hu
      split at ha
      · rename_i ei he
        cases hb : Nat.beq r q && !Nat.beq ei.size 0
        · rw [hb, cond_false] at ha; cases ha
        · rw [hb, cond_true] at ha
          cases ha
          simp only [Bool.and_eq_true] at hb
          have e1 := Nat.eq_of_beq_eq_true hb.1
          subst e1
          have hsz : ¬ ei.size = 0 := fun e => by rw [e] at hb; simp at hb
          cases hx with
          | ptr hlt hm =>
            cases hy with
            | ptr hlt2 hm2 =>
              rw [hm] at hm2; cases hm2
              rename_i e
              have hde : (({ block := e.b, off := e.d + o, spot := none } : Addr) == { block := e.b, off := e.d + p, spot := none }) = Nat.beq o p := by
                rw [Bool.eq_iff_iff]
                simp
              simp only [Op.equalIn, Sem.run_bind, run_underlying ok ht, hu, Result.andThen_ok, run_sizeOf ok he, ne_eq, hsz, not_false_eq_true, if_true, sameAddr, beq_self_eq_true, Sem.run_pure, hde]
      · cases ha
    · rename_i hu
      cases ha; cases hx
      cases hy <;> simp only [Op.equalIn, Sem.run_bind, run_underlying ok ht, hu, Result.andThen_ok, Sem.run_pure, Option.isNone]
    · rename_i hu
      cases ha; cases hy
      cases hx <;> simp only [Op.equalIn, Sem.run_bind, run_underlying ok ht, hu, Result.andThen_ok, Sem.run_pure]
    · rename_i hu
      cases ha; cases hx
      cases hy <;> simp only [Op.equalIn, Sem.run_bind, run_underlying ok ht, hu, Result.andThen_ok, Sem.run_pure, Option.isNone]
    · rename_i hu
      cases ha; cases hy
      cases hx <;> simp only [Op.equalIn, Sem.run_bind, run_underlying ok ht, hu, Result.andThen_ok, Sem.run_pure]
    · rename_i hu
      cases ha; cases hx; cases hy
      simp only [Op.equalIn, Sem.run_bind, run_underlying ok ht, hu, Result.andThen_ok, Sem.run_pure]
    · rename_i hu
      cases ha; cases hx
      cases hy <;> simp only [Op.equalIn, Sem.run_bind, run_underlying ok ht, hu, Result.andThen_ok, Sem.run_pure]
    · rename_i hu
      cases ha; cases hy
      cases hx <;> simp only [Op.equalIn, Sem.run_bind, run_underlying ok ht, hu, Result.andThen_ok, Sem.run_pure]
    · cases ha
  · cases ha
theorem eq_good (ok : TyOK P T) {n : Nat} {t : TypeId} {x x' y y' : Value} (hx : VRel μ n x x') (hy : VRel μ n y y') {b : Bool} (ha : aEq T t x y = some b) (w : World) :
    (Op.equal t x' y').run P w = .ok b w := eqIn_good ok hx hy ha w 9999
noncomputable def isCmp : BinOp → Option Bool
  | .eql => some true
  | .neq => some false
  | _ => none
noncomputable def noGuard : Value → Bool
  | .nilIface | .agg _ => false
  | _ => true
noncomputable def aBin (P : Program) (T : Tr TI) (op : BinOp) (t : TypeId) (xo yo : Operand) (x y : Value) : Option Value :=
  bif flat x && flat y then
    match pureRun P (do eqGuard op t xo yo x y; binOp op t x y) with
    | some v => bif flat v then some v else none
    | none => none
  else match isCmp op, aEq T t x y with
    | some b, some e => bif noGuard x && noGuard y then some (.bool (bif b then e else !e)) else none
    | _, _ => none
theorem eqGuard_none {op : BinOp} {t : TypeId} {xo yo : Operand} {x y : Value} (hx : noGuard x = true) (w : World) : (eqGuard op t xo yo x y).run P w = .ok () w := by
  cases op <;> first | rfl | (cases x <;> first | rfl | (simp [noGuard] at hx; done))
theorem VRel.noGuard_eq {n : Nat} {x x' : Value} (h : VRel μ n x x') : noGuard x' = noGuard x := by cases h <;> rfl
theorem bin_good (ok : TyOK P T) (st : StRel μ h w) {op : BinOp} {t : TypeId} (xo yo : Operand) {x x' y y' v : Value} (hx : VRel μ h.next x x') (hy : VRel μ h.next y y') (ha : aBin P T op t xo yo x y = some v) :
    GoodV P μ h w (do eqGuard op t xo yo x' y'; binOp op t x' y') v h := by
  unfold aBin at ha
  cases hf : flat x && flat y
  · rw [hf, cond_false] at ha
    split at ha
    · rename_i b e hop he
      cases hg : noGuard x && noGuard y
      · rw [hg, cond_false] at ha; cases ha
      · rw [hg, cond_true] at ha
        cases ha
        simp only [Bool.and_eq_true] at hg
        have heq := eq_good ok hx hy he w
        refine ⟨_, w, μ, ?_, Ext.refl st, .bool _⟩
        simp only [Sem.run_bind, eqGuard_none (by rw [hx.noGuard_eq]; exact hg.1), Result.andThen_ok]
        unfold aEq at he
        split at he
        · rename_i ti ht
          cases op <;> simp only [isCmp] at hop <;> first | (cases hop; done) | skip
          · cases hop
            split at he <;> cases hx <;> cases hy <;> simp only [binOp, Sem.run_bind, heq, Result.andThen_ok, Sem.run_pure, cond_true] <;> cases he
          · cases hop
            split at he <;> cases hx <;> cases hy <;> simp only [binOp, Sem.run_bind, heq, Result.andThen_ok, Sem.run_pure, cond_false] <;> cases he
        · cases he
    · cases ha
  · rw [hf, cond_true] at ha
    simp only [Bool.and_eq_true] at hf
    rw [hx.flat_eq hf.1, hy.flat_eq hf.2]
    split at ha
    · rename_i v' hp
      cases hfv : flat v'
      · rw [hfv, cond_false] at ha; cases ha
      · rw [hfv, cond_true] at ha
        cases ha
        exact pure_good st hp hfv
    · cases ha
end ops
end Go.Ab
