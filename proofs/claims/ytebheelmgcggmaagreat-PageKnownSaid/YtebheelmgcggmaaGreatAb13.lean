/-
  All operations but calls, as one function; going through strings and maps.
-/
import Derived.Test.YtebheelmgcggmaaGreatAb12
namespace Go.Ab
set_option linter.unusedSimpArgs false
set_option linter.unusedVariables false
section ops
variable {P : Program} {T : Tr TI} {μ : Emb} {h h' : AHeap} {w : World}
noncomputable def aRange (T : Tr TI) (t : TypeId) (x : Value) (h : AHeap) : Option (Value × AHeap) :=
  match T.get t with
  | some ti => match ti.und, x with
    | .string, .string s => some (.pointer (some ⟨h.next, 0, none⟩), h.new (.strIter s 0))
    | .map _ _, .map none => some (.pointer (some ⟨h.next, 0, none⟩), h.new (.mapIter none 0 #[] 0))
    | .map _ _, .map (some m) => match h.get m with
      | some (.map _ clock) => some (.pointer (some ⟨h.next, 0, none⟩), h.new (.mapIter (some m) clock #[] clock))
      | _ => none
    | _, _ => none
  | none => none
theorem range_good (ok : TyOK P T) (st : StRel μ h w) {t : TypeId} {x x' v : Value} (hx : VRel μ h.next x x') (ha : aRange T t x h = some (v, h')) : GoodV P μ h w (Instr.range t x') v h' := by
  unfold aRange at ha
  split at ha
  · rename_i ti ht
    split at ha
    · rename_i s hu
      simp only [Option.some.injEq, Prod.mk.injEq] at ha
      obtain ⟨rfl, rfl⟩ := ha
      cases hx
      refine ⟨.pointer (some ⟨w.heap.size, 0, none⟩), _, _, ?_, Ext.new st (.stringIter s 0) ⟨w.heap.size, 0, 0, 0⟩ (.strIter s 0) rfl ⟨rfl, rfl⟩, VRel.ptr (off := 0) (by simp) (Emb.upd_same _ _ _)⟩
      simp only [Instr.range, Sem.run_bind, run_underlying ok ht, hu, Result.andThen_ok, Sem.run_pure, run_newObj]
    · rename_i hu
      simp only [Option.some.injEq, Prod.mk.injEq] at ha
      obtain ⟨rfl, rfl⟩ := ha
      cases hx
      refine ⟨.pointer (some ⟨w.heap.size, 0, none⟩), _, _, ?_, Ext.new st (.mapIter none 0 #[] 0) ⟨w.heap.size, 0, 0, 0⟩ (.mapIter none 0 #[] 0) rfl ⟨rfl, none, rfl, trivial⟩, VRel.ptr (off := 0) (by simp) (Emb.upd_same _ _ _)⟩
      simp only [Instr.range, Sem.run_bind, run_underlying ok ht, hu, Result.andThen_ok, Sem.run_pure, run_newObj]
    · rename_i m hu
      split at ha
      · rename_i es clock hg
        simp only [Option.some.injEq, Prod.mk.injEq] at ha
        obtain ⟨rfl, rfl⟩ := ha
        cases hx with
        | map hlt hm =>
          rename_i e
          obtain ⟨ms, g1, g2, g3⟩ := st.getMap hg hm
          refine ⟨.pointer (some ⟨w.heap.size, 0, none⟩), _, _, ?_, Ext.new st (.mapIter (some e.b) clock #[] clock) ⟨w.heap.size, 0, 0, 0⟩ (.mapIter (some m) clock #[] clock) rfl
            ⟨rfl, some e.b, rfl, by omega, e, by rw [Emb.upd_ne _ _ (by omega)]; exact hm, rfl⟩, VRel.ptr (off := 0) (by simp) (Emb.upd_same _ _ _)⟩
          simp only [Instr.range, Sem.run_bind, run_underlying ok ht, hu, Result.andThen_ok, run_getObj g1 (fun _ _ _ => by simp), Sem.run_pure, run_newObj]
      · cases ha
    · cases ha
  · cases ha
noncomputable def left (es : List AEnt) (seen : Array Nat) : List AEnt := es.filter fun e => !seen.contains e.born
theorem EsRel.filter {n : Nat} (p : Nat → Bool) : ∀ {l : List AEnt} {l' : List MapEntry}, EsRel μ n l l' → EsRel μ n (l.filter fun e => p e.born) (l'.filter fun e => p e.born)
  | _, _, .nil => .nil
  | _, _, .cons (e := e) (m := m) he t => by
    simp only [List.filter_cons, he.born]
    split
    · exact .cons he (t.filter p)
    · exact t.filter p
theorem EsRel.all {n : Nat} (p : Nat → Bool) : ∀ {l : List AEnt} {l' : List MapEntry}, EsRel μ n l l' → (l'.all fun e => p e.born) = l.all fun e => p e.born
  | _, _, .nil => rfl
  | _, _, .cons he t => by simp only [List.all_cons, he.born, t.all p]
noncomputable def cands (L : Array MapEntry) (since : Nat) : Array (Option MapEntry) :=
  (if (L.filter (fun e => decide (e.born < since))).isEmpty then #[none] else #[]) ++ ((L.filter (fun e => decide (e.born < since))) ++ (L.filter (fun e => decide (e.born ≥ since)))).map some
theorem next_map (st : StRel μ h w) {r m : Nat} {since last clock : Nat} {seen : Array Nat} {es : List AEnt} (hr : h.get r = some (.mapIter (some m) since seen last)) (hm : h.get m = some (.map es clock))
    (hc : (!seen.isEmpty && !es.isEmpty && es.all (fun e => decide (e.born ≥ last))) = false) {x' : Value} (hx : VRel μ h.next (.pointer (some ⟨r, 0, none⟩)) x') (ty : TypeId) :
    (((left es seen).filter (fun e => decide (e.born < since))) = [] ∧ GoodV P μ h w (Instr.next x' false ty) (.tuple #[.bool false]) h) ∨
    ∃ e ∈ left es seen, GoodV P μ h w (Instr.next x' false ty) (.tuple #[.bool true, e.key, e.val]) (h.set r (.mapIter (some m) since (seen.push e.born) clock)) := by
  cases hx with
  | ptr hlt hmu =>
    rename_i en
    obtain ⟨_, e', c, h2, h3, h4, m', rfl, h5⟩ := st.live r _ hr
    rw [hmu] at h2; cases h2
    cases m' with
    | none => exact h5.elim
    | some b =>
      obtain ⟨hmn, f, hf, rfl⟩ := h5
      obtain ⟨ms, g1, g2, g3⟩ := st.getMap hm hf
      have hcond : (!seen.isEmpty && !ms.isEmpty && ms.all (fun e => decide (e.born ≥ last))) = false := by
        rw [g2.isEmpty, ← Array.all_toList, g2.all (fun b => decide (b ≥ last))]; exact hc
      -- what is left
      have hleft : EsRel μ h.next (left es seen) (ms.filter fun e => !seen.contains e.born).toList := by
        rw [Array.toList_filter]; exact g2.filter fun b => !seen.contains b
      have hold := hleft.filter fun b => decide (b < since)
      have hnew := hleft.filter fun b => decide (b ≥ since)
      generalize hL : (ms.filter fun e => !seen.contains e.born) = L at *
      have hpre : (Instr.next (.pointer (some ⟨en.b, en.d + 0, none⟩)) false ty).run P w =
          (do
            match (cands L since)[← choose (.mapNext (cands L since).size)]? with
            | some (some e) =>
              Go.setObj en.b (.mapIter (some f.b) since (seen.push e.born) clock)
              pure (.tuple #[.bool true, e.key, e.val])
            | some none => pure (.tuple #[.bool false])
            | none => stuck "Next: no such candidate" : Sem Value).run P w := by
        have e0 : en.d + 0 = 0 := by omega
        rw [e0]
        simp only [Instr.next, Sem.run_bind, run_getObj h3 (fun _ _ _ => by simp), Result.andThen_ok, run_getObj g1 (fun _ _ _ => by simp), hcond, Bool.false_eq_true, if_false, hL]
        rfl
      generalize hC : cands L since = C at hpre
      unfold cands at hC
      -- there is a candidate
      have hpos : 0 < C.size := by
        rw [← hC]
        by_cases hem : (L.filter (fun e => decide (e.born < since))).isEmpty = true
        · simp [hem]; omega
        · simp only [hem, Bool.false_eq_true, if_false, Array.size_append, Array.size_map, List.size_toArray, List.length_nil]
          have : 0 < (L.filter (fun e => decide (e.born < since))).size := by
            rcases Nat.eq_zero_or_pos (L.filter (fun e => decide (e.born < since))).size with h | h
            · exact (hem (by simpa [Array.isEmpty] using h)).elim
            · exact h
          omega
      obtain ⟨i, w1, hch, hi, hw1⟩ : ∃ i w1, (choose (.mapNext C.size)).run P w = .ok i w1 ∧ i < C.size ∧ (w1 = w ∨ w1 = { w with drawn := w.drawn + 1 }) := by
        rw [run_choose]
        by_cases hfo : (Question.mapNext C.size).forced = true
        · exact ⟨0, w, by simp [hfo], hpos, .inl rfl⟩
        · exact ⟨(Question.mapNext C.size).cut (w.tape w.drawn (Question.mapNext C.size)), _, by simp [hfo], by simp only [Question.cut]; exact Nat.mod_lt _ hpos, .inr rfl⟩
      have st1 : StRel μ h w1 := by rcases hw1 with rfl | rfl; exact st; exact st.same rfl
      have x1 : Ext μ h w μ h w1 := by rcases hw1 with rfl | rfl; exact Ext.refl st; exact Ext.same st rfl rfl rfl
      have h3' : w1.heap[en.b]? = some (.mapIter (some f.b) since seen last) := by rcases hw1 with rfl | rfl <;> exact h3
      have hget : C[i]? = some C[i] := Array.getElem?_eq_getElem hi
      cases hci : C[i] with
      | none =>
        left
        constructor
        · -- nothing that was there at first
          by_cases hem : (L.filter (fun e => decide (e.born < since))).isEmpty = true
          · have : (L.filter (fun e => decide (e.born < since))).toList = [] := by
              have : (L.filter (fun e => decide (e.born < since))) = #[] := by simpa using hem
              rw [this]
            rw [Array.toList_filter] at this
            have hlen := hold.length
            rw [this] at hlen
            exact List.length_eq_zero_iff.1 hlen.symm
          · exfalso
            have hmem : (none : Option MapEntry) ∈ C := by rw [← hci]; exact Array.getElem_mem hi
            rw [← hC] at hmem
            simp [hem] at hmem
        · refine ⟨_, w1, μ, ?_, x1, .tuple (.cons (.bool _) .nil)⟩
          rw [hpre]
          simp only [Sem.run_bind, hch, Result.andThen_ok, hget, hci, Sem.run_pure]
      | some me =>
        right
        -- it is one of those that are left
        have hmem : (some me) ∈ C := by rw [← hci]; exact Array.getElem_mem hi
        have hin : me ∈ L.toList := by
          rw [← hC] at hmem
          simp only [Array.mem_append, Array.mem_map, Option.some.injEq, exists_eq_right] at hmem
          rcases hmem with hmem | hmem
          · split at hmem <;> simp at hmem
          · rcases hmem with hmem | hmem
            · exact Array.mem_toList_iff.2 (Array.mem_filter.1 hmem).1
            · exact Array.mem_toList_iff.2 (Array.mem_filter.1 hmem).1
        obtain ⟨j, hj⟩ := List.getElem?_of_mem hin
        have hjl : j < (left es seen).length := by rw [← hleft.length]; exact (List.getElem?_eq_some_iff.1 hj).1
        obtain ⟨me2, q1, q2⟩ := hleft.getElem? j (List.getElem?_eq_getElem hjl)
        rw [hj] at q1; cases q1
        refine ⟨(left es seen)[j], List.getElem_mem hjl, ?_⟩
        have x2 := st1.setObj hr rfl hmu (c' := .mapIter (some f.b) since (seen.push me.born) clock) (o' := .mapIter (some m) since (seen.push me.born) clock) ⟨h4, some f.b, rfl, hmn, f, hf, rfl⟩
        rw [q2.born] at x2
        refine ⟨.tuple #[.bool true, me.key, me.val], _, μ, ?_, x1.trans x2, ?_⟩
        · rw [hpre]
          simp only [Sem.run_bind, hch, Result.andThen_ok, hget, hci, run_setObj h3' (fun _ _ _ => by simp), Sem.run_pure, q2.born]
        · exact .tuple (.cons (.bool _) (.cons (by rw [q2.key]; exact .of_flat _ _ q2.kflat) (.cons q2.val .nil)))
noncomputable def aNext (x : Value) (isString : Bool) (h : AHeap) : Option (Value × AHeap) :=
  match x with
  | .pointer (some ⟨r, 0, none⟩) => match h.get r, isString with
    | some (.strIter s pos), true => bif Nat.ble (pos + 1) s.size then
        some (.tuple #[.bool true, .int .i64 pos, .int .i32 (Utf8.decode s pos).1], h.set r (.strIter s (pos + (Utf8.decode s pos).2)))
      else some (.tuple #[.bool false], h)
    | some (.mapIter none _ _ _), false => some (.tuple #[.bool false], h)
    | some (.mapIter (some m) since seen last), false => match h.get m with
      | some (.map es clock) => bif !seen.isEmpty && !es.isEmpty && es.all (fun e => decide (e.born ≥ last)) then none else
        match left es seen with
        | [] => some (.tuple #[.bool false], h)
        | [e] => bif Nat.ble (e.born + 1) since then some (.tuple #[.bool true, e.key, e.val], h.set r (.mapIter (some m) since (seen.push e.born) clock)) else none
        | _ => none
      | _ => none
    | _, _ => none
  | _ => none
theorem next_good (st : StRel μ h w) {x x' v : Value} {b : Bool} (hx : VRel μ h.next x x') (ty : TypeId) (ha : aNext x b h = some (v, h')) : GoodV P μ h w (Instr.next x' b ty) v h' := by
  unfold aNext at ha
  split at ha
  · rename_i r
    split at ha
    · rename_i s pos hg
      have hx0 := hx
      cases hx with
      | ptr hlt hm =>
        rename_i e
        obtain ⟨_, e', c, h2, h3, h4, rfl⟩ := st.live r _ hg
        rw [hm] at h2; cases h2
        have e0 : e.d + 0 = 0 := by omega
        rw [e0]
        cases hb : Nat.ble (pos + 1) s.size
        · rw [hb, cond_false] at ha
          simp only [Option.some.injEq, Prod.mk.injEq] at ha
          obtain ⟨rfl, rfl⟩ := ha
          have hlt2 : ¬ pos < s.size := fun hl => by rw [Nat.ble_eq_true_of_le hl] at hb; cases hb
          refine ⟨.tuple #[.bool false], w, μ, ?_, Ext.refl st, .tuple (.cons (.bool _) .nil)⟩
          simp only [Instr.next, Sem.run_bind, run_getObj h3 (fun _ _ _ => by simp), Result.andThen_ok, hlt2, if_false, Sem.run_pure]
        · rw [hb, cond_true] at ha
          simp only [Option.some.injEq, Prod.mk.injEq] at ha
          obtain ⟨rfl, rfl⟩ := ha
          have hlt2 : pos < s.size := Nat.le_of_ble_eq_true hb
          refine ⟨.tuple #[.bool true, .int .i64 pos, .int .i32 (Utf8.decode s pos).1], _, μ, ?_, st.setObj hg rfl hm (c' := .stringIter s (pos + (Utf8.decode s pos).2)) ⟨h4, rfl⟩, .tuple (.cons (.bool _) (.cons (.int _ _) (.cons (.int _ _) .nil)))⟩
          simp only [Instr.next, Sem.run_bind, run_getObj h3 (fun _ _ _ => by simp), Result.andThen_ok, hlt2, if_true, Sem.run_pure, run_setObj h3 (fun _ _ _ => by simp), goInt]
    · rename_i hg
      cases hx with
      | ptr hlt hm =>
        rename_i e
        simp only [Option.some.injEq, Prod.mk.injEq] at ha
        obtain ⟨rfl, rfl⟩ := ha
        obtain ⟨_, e', c, h2, h3, h4, m', rfl, h5⟩ := st.live r _ hg
        rw [hm] at h2; cases h2
        have e0 : e.d + 0 = 0 := by omega
        rw [e0]
        cases m' with
        | some _ => exact h5.elim
        | none =>
          refine ⟨.tuple #[.bool false], w, μ, ?_, Ext.refl st, .tuple (.cons (.bool _) .nil)⟩
          simp only [Instr.next, Sem.run_bind, run_getObj h3 (fun _ _ _ => by simp), Result.andThen_ok, Sem.run_pure]
    · rename_i m since seen last hg
      split at ha
      · rename_i es clock hgm
        cases hc : !seen.isEmpty && !es.isEmpty && es.all (fun e => decide (e.born ≥ last))
        · rw [hc, cond_false] at ha
          split at ha
          · rename_i hl
            simp only [Option.some.injEq, Prod.mk.injEq] at ha
            obtain ⟨rfl, rfl⟩ := ha
            rcases next_map (P := P) st hg hgm hc hx ty with ⟨_, hgood⟩ | ⟨e, he, _⟩
            · exact hgood
            · rw [hl] at he; cases he
          · rename_i e hl
            cases hb : Nat.ble (e.born + 1) since
            · rw [hb, cond_false] at ha; cases ha
            · rw [hb, cond_true] at ha
              simp only [Option.some.injEq, Prod.mk.injEq] at ha
              obtain ⟨rfl, rfl⟩ := ha
              have hlt : e.born < since := Nat.le_of_ble_eq_true hb
              rcases next_map (P := P) st hg hgm hc hx ty with ⟨hno, _⟩ | ⟨e', he, hgood⟩
              · rw [hl] at hno; simp [hlt] at hno
              · rw [hl] at he; simp at he; subst he; exact hgood
          · cases ha
        · rw [hc, cond_true] at ha; cases ha
      · cases ha
    · cases ha
  · cases ha
noncomputable def aEntry (x : Value) (h : AHeap) : Option Value :=
  match x with
  | .pointer (some ⟨r, 0, none⟩) => match h.get r with
    | some (.mapIter (some m) _ seen stepped) => match h.get m, seen.back? with
      | some (.map es clock), some stamp => bif Nat.beq clock stepped then match es.find? (fun e => e.born == stamp) with
        | some e => some (.tuple #[e.key, e.val])
        | none => none
        else none
      | _, _ => none
    | _ => none
  | _ => none
theorem EsRel.find {n : Nat} (p : Nat → Bool) : ∀ {l : List AEnt} {l' : List MapEntry}, EsRel μ n l l' → ∀ {e : AEnt}, l.find? (fun e => p e.born) = some e → ∃ m, l'.find? (fun e => p e.born) = some m ∧ ERel μ n e m
  | _, _, .nil, e, he => by simp at he
  | _, _, .cons (e := e0) (m := m0) h0 t, e, he => by
    simp only [List.find?_cons, h0.born] at he ⊢
    cases hp : p e0.born
    · rw [hp] at he; simpa using t.find p (by simpa using he)
    · rw [hp] at he; simp at he; subst he; exact ⟨m0, by simp, h0⟩
theorem entry_good (st : StRel μ h w) {x x' v : Value} (hx : VRel μ h.next x x') (ha : aEntry x h = some v) : ∃ v', (Instr.entry x').run P w = .ok v' w ∧ VRel μ h.next v v' := by
  unfold aEntry at ha
  split at ha
  · rename_i r
    split at ha
    · rename_i m since seen stepped hg
      split at ha
      · rename_i es clock stamp hgm hst
        cases hb : Nat.beq clock stepped
        · rw [hb, cond_false] at ha; cases ha
        · rw [hb, cond_true] at ha
          have e1 := Nat.eq_of_beq_eq_true hb
          split at ha
          · rename_i e hf
            cases ha
            cases hx with
            | ptr hlt hm =>
              rename_i en
              obtain ⟨_, e', c, h2, h3, h4, m', rfl, h5⟩ := st.live r _ hg
              rw [hm] at h2; cases h2
              have e0 : en.d + 0 = 0 := by omega
              rw [e0]
              cases m' with
              | none => exact h5.elim
              | some b =>
                obtain ⟨hmn, f, hf2, rfl⟩ := h5
                obtain ⟨ms, g1, g2, g3⟩ := st.getMap hgm hf2
                obtain ⟨me, q1, q2⟩ := g2.find (fun b => b == stamp) hf
                have q1' : ms.find? (fun e => e.born == stamp) = some me := by rw [← Array.find?_toList]; exact q1
                have hcl : (clock != stepped) = false := by simp [e1]
                refine ⟨.tuple #[me.key, me.val], ?_, .tuple (.cons (by rw [q2.key]; exact .of_flat _ _ q2.kflat) (.cons q2.val .nil))⟩
                simp only [Instr.entry, Sem.run_bind, run_getObj h3 (fun _ _ _ => by simp), Result.andThen_ok, hst, run_getObj g1 (fun _ _ _ => by simp), hcl, Bool.false_eq_true, if_false, q1', Sem.run_pure]
          · cases ha
      · cases ha
    · cases ha
  · cases ha
end ops
mutual
theorem VRel.narrow {μ₀ μ : Emb} {n m : Nat} : ∀ {v x y : Value}, VRel μ₀ n v x → VRel μ m v y → VRel μ n v y
  | _, _, _, .bool b, .bool _ => .bool b
  | _, _, _, .int k i, .int _ _ => .int k i
  | _, _, _, .float k x, .float _ _ => .float k x
  | _, _, _, .complex k x y, .complex _ _ _ => .complex k x y
  | _, _, _, .string s, .string _ => .string s
  | _, _, _, .ptr0, .ptr0 => .ptr0
  | _, _, _, .ptr hr _, .ptr _ hm => .ptr hr hm
  | _, _, _, .slice0, .slice0 => .slice0
  | _, _, _, .sliceK hr _, .sliceK _ hm => .sliceK hr hm
  | _, _, _, .sliceK hr _, .sliceKZ _ hm => .sliceKZ hr hm
  | _, _, _, .sliceU hr _ _ _, .sliceU _ hm a b => .sliceU hr hm a b
  | _, _, _, .sliceU hr _ _ _, .sliceZ _ hm => .sliceZ hr hm
  | _, _, _, .sliceZ hr _, .sliceU _ hm a b => .sliceU hr hm a b
  | _, _, _, .sliceZ hr _, .sliceZ _ hm => .sliceZ hr hm
  | _, _, _, .sliceKZ hr _, .sliceK _ hm => .sliceK hr hm
  | _, _, _, .sliceKZ hr _, .sliceKZ _ hm => .sliceKZ hr hm
  | _, _, _, .map0, .map0 => .map0
  | _, _, _, .map hr _, .map _ hm => .map hr hm
  | _, _, _, .func hf h1 h2, .func hf' g1 g2 => .func hf (LRel.narrow h1 g1) (LRel.narrow h2 g2)
  | _, _, _, .func hf _ _, .yield _ _ => absurd rfl (hf _)
  | _, _, _, .yield _ _, .func hf _ _ => absurd rfl (hf _)
  | _, _, _, .yield hr _, .yield _ hm => .yield hr hm
  | _, _, _, .nilFunc, .nilFunc => .nilFunc
  | _, _, _, .iface h, .iface g => .iface (VRel.narrow h g)
  | _, _, _, .nilIface, .nilIface => .nilIface
  | _, _, _, .agg h, .agg g => .agg (LRel.narrow h g)
  | _, _, _, .tuple h, .tuple g => .tuple (LRel.narrow h g)
theorem LRel.narrow {μ₀ μ : Emb} {n m : Nat} : ∀ {v x y : List Value}, LRel μ₀ n v x → LRel μ m v y → LRel μ n v y
  | _, _, _, .nil, .nil => .nil
  | _, _, _, .cons h t, .cons g s => .cons (VRel.narrow h g) (LRel.narrow t s)
end
noncomputable def BV (n : Nat) (v : Value) : Prop := ∃ μ x, VRel μ n v x
theorem BV.flat {n : Nat} {v : Value} (h : Ab.flat v = true) : BV n v := ⟨fun _ => none, v, .of_flat _ _ h⟩
noncomputable def BO (n : Nat) : AObj → Prop
  | .cells vs _ => ∀ v ∈ vs, BV n v
  | .ro vs => ∀ v ∈ vs, BV n v
  | .map es _ => ∀ e ∈ es, BV n e.val
  | .mapIter m _ _ _ => ∀ r, m = some r → r < n
  | .strIter _ _ => True
  | .loop l => ∀ t v, l.tmps.get t = some v → BV n v
theorem ActRel.narrow {μ : Emb} {n m : Nat} {a : Tr Value} {tmps : Array Value} (hb : ∀ t v, a.get t = some v → BV n v) (h : ActRel μ m a tmps) : ActRel μ n a tmps := fun t v hv =>
  let ⟨v', h1, h2⟩ := h t v hv
  let ⟨_, _, h3⟩ := hb t v hv
  ⟨v', h1, h3.narrow h2⟩
theorem EsRel.narrow {μ : Emb} {n m : Nat} : ∀ {l : List AEnt} {l' : List MapEntry}, (∀ e ∈ l, BV n e.val) → EsRel μ m l l' → EsRel μ n l l'
  | _, _, _, .nil => .nil
  | _, _, hb, .cons h t => .cons ⟨h.key, h.kflat, let ⟨_, _, g⟩ := hb _ List.mem_cons_self; g.narrow h.val, h.born⟩ (t.narrow fun e he => hb e (List.mem_cons_of_mem _ he))
theorem ORel.narrow {μ : Emb} {n m : Nat} {e : Ent} {c : Obj} {o : AObj} (hb : BO n o) (h : ORel μ m e c o) : ORel μ n e c o := by
  cases o with
  | cells vs sz =>
    obtain ⟨h1, cs, t, fz, h2, h3, h4, h5, h6⟩ := h
    refine ⟨h1, cs, t, fz, h2, h3, h4, h5, fun i v hv => ?_⟩
    obtain ⟨v', g1, g2⟩ := h6 i v hv
    obtain ⟨_, _, g3⟩ := hb v (List.mem_of_getElem? hv)
    exact ⟨v', g1, g3.narrow g2⟩
  | ro vs =>
    obtain ⟨cs, t, fz, h2, h6⟩ := h
    refine ⟨cs, t, fz, h2, fun i v hv => ?_⟩
    obtain ⟨v', g1, g2⟩ := h6 i v hv
    obtain ⟨_, _, g3⟩ := hb v (List.mem_of_getElem? hv)
    exact ⟨v', g1, g3.narrow g2⟩
  | map es clock => obtain ⟨h0, ms, h1, h2⟩ := h; exact ⟨h0, ms, h1, h2.narrow hb⟩
  | mapIter mm since seen stepped =>
    obtain ⟨h0, m', h1, h2⟩ := h
    refine ⟨h0, m', h1, ?_⟩
    cases mm <;> cases m' <;> first | exact h2 | skip
    obtain ⟨a, f, b, c⟩ := h2
    exact ⟨hb _ rfl, f, b, c⟩
  | strIter s pos => exact h
  | loop l =>
    obtain ⟨h0, r, h1, h2, h3, h4, h7, h5, h6⟩ := h
    exact ⟨h0, r, h1, h2, h3, h4, h7, h5.narrow hb, h6⟩
theorem ORel.below {μ : Emb} {n : Nat} {e : Ent} {c : Obj} {o : AObj} (h : ORel μ n e c o) : BO n o := by
  cases o with
  | cells vs sz =>
    obtain ⟨h1, cs, t, fz, h2, h3, h4, h5, h6⟩ := h
    intro v hv
    obtain ⟨i, hi⟩ := List.getElem?_of_mem hv
    obtain ⟨v', _, g⟩ := h6 i v hi
    exact ⟨μ, v', g⟩
  | ro vs =>
    obtain ⟨cs, t, fz, h2, h6⟩ := h
    intro v hv
    obtain ⟨i, hi⟩ := List.getElem?_of_mem hv
    obtain ⟨v', _, g⟩ := h6 i v hi
    exact ⟨μ, v', g⟩
  | map es clock =>
    obtain ⟨h0, ms, h1, h2⟩ := h
    intro e he
    obtain ⟨i, hi⟩ := List.getElem?_of_mem he
    obtain ⟨m, _, g⟩ := h2.getElem? i hi
    exact ⟨μ, _, g.val⟩
  | mapIter mm since seen stepped =>
    obtain ⟨h0, m', h1, h2⟩ := h
    intro r hr
    subst hr
    cases m' with
    | none => exact h2.elim
    | some b => exact h2.1
  | strIter s pos => trivial
  | loop l =>
    obtain ⟨h0, r, h1, h2, h3, h4, h7, h5, h6⟩ := h
    intro t v hv
    obtain ⟨v', _, g⟩ := h5 t v hv
    exact ⟨μ, v', g⟩
theorem Ext.old {μ μ' : Emb} {h h' H : AHeap} {w w' : World} (st : StRel μ h w) (x : Ext μ h w μ' h' w') (hn : H.next = h.next) (hget : ∀ r o, H.get r = some o → r < h.next ∧ h'.get r = some o ∧ (h.get r = some o ∨ BO h.next o)) : Ext μ h w μ H w' := by
  have hl : ∀ r o, H.get r = some o → ∃ e c, μ r = some e ∧ μ' r = some e ∧ w'.heap[e.b]? = some c ∧ ORel μ h.next e c o := by
    intro r o hr
    obtain ⟨h1, h2, h3⟩ := hget r o hr
    obtain ⟨_, e, c, g1, g2, g3⟩ := x.st.live r o h2
    have hb : BO h.next o := by
      rcases h3 with h3 | h3
      · obtain ⟨_, e0, c0, k1, k2, k3⟩ := st.live r o h3; exact k3.below
      · exact h3
    refine ⟨e, c, by rw [← x.agree r h1]; exact g1, g1, g2, ?_⟩
    exact (g3.narrow hb).mono (fun q hq => (x.agree q hq).symm) (Nat.le_refl _)
  refine ⟨by omega, Agree.refl _ _, x.size, x.os, x.output, fun b hb hf => ?_, fun b hb hf r o e hr hm => ?_, ⟨fun r o hr => ?_, fun r q o p e f hr ho hq hm hn' hbb => ?_⟩⟩
  · obtain ⟨y1, y2⟩ := x.frame b hb hf
    refine ⟨y1, fun r o e hr ho hm => ?_⟩
    obtain ⟨h1, h2, _⟩ := hget r o hr
    exact y2 r o e h2 ho (by rw [x.agree r h1]; exact hm)
  · obtain ⟨h1, h2, _⟩ := hget r o hr
    exact x.free b hb hf r o e h2 (by rw [x.agree r h1]; exact hm)
  · obtain ⟨e, c, g1, _, g2, g3⟩ := hl r o hr
    exact ⟨by rw [hn]; exact (hget r o hr).1, e, c, g1, g2, by rw [hn]; exact g3⟩
  · obtain ⟨h1, h2, _⟩ := hget r o hr
    obtain ⟨h3, h4, _⟩ := hget q p hq
    exact x.st.apart r q o p e f h2 ho h4 (by rw [x.agree r h1]; exact hm) (by rw [x.agree q h3]; exact hn') hbb
theorem Ext.newOne {μ μ' : Emb} {h h' H : AHeap} {w w' : World} (st : StRel μ h w) (x : Ext μ h w μ' h' w') (hn : H.next = h.next) (hget : ∀ r o, H.get r = some o → r < h.next ∧ h'.get r = some o ∧ (h.get r = some o ∨ BO h.next o))
    {r2 : Nat} {o2 : AObj} (hr2 : h'.get r2 = some o2) (hge : h.next ≤ r2) (hb2 : BO h.next o2) : ∃ e, μ' r2 = some e ∧ Ext μ h w (μ.upd h.next e) (H.new o2) w' := by
  have x0 := Ext.old st x hn hget
  obtain ⟨_, e, c, g1, g2, g3⟩ := x.st.live r2 o2 hr2
  refine ⟨e, g1, ?_⟩
  have hag : Agree h.next μ (μ.upd h.next e) := Agree.upd μ e (Nat.le_refl _)
  have ho2 : ORel (μ.upd h.next e) (h.next + 1) e c o2 := ((g3.narrow hb2).mono (fun q hq => by rw [Emb.upd_ne _ _ (by omega)]; exact (x.agree q hq).symm) (by omega))
  have gN : ∀ q, (H.new o2).get q = if h.next = q then some o2 else H.get q := fun q => by rw [AHeap.get_new, hn]
  refine ⟨by simp; omega, hag, x.size, x.os, x.output, fun b hb hf => ⟨(x0.frame b hb hf).1, ?_⟩, fun b hb hf q o f hq hm => ?_, ⟨?_, ?_⟩⟩
  · intro q o f hq ho hm
    rw [gN] at hq
    split at hq
    · rename_i e1; subst e1; cases hq; rw [Emb.upd_same] at hm; cases hm
      exact (x.frame b hb hf).2 r2 o2 e hr2 ho g1
    · rename_i e1
      rw [Emb.upd_ne _ _ (Ne.symm e1)] at hm
      exact (x0.frame b hb hf).2 q o f hq ho hm
  · rw [gN] at hq
    split at hq
    · rename_i e1; subst e1; cases hq; rw [Emb.upd_same] at hm; cases hm
      exact x.free b hb hf r2 o2 e hr2 g1
    · rename_i e1
      rw [Emb.upd_ne _ _ (Ne.symm e1)] at hm
      exact x0.free b hb hf q o f hq hm
  · intro q o hq
    rw [gN] at hq
    split at hq
    · rename_i e1; subst e1; cases hq
      exact ⟨by simp; omega, e, c, Emb.upd_same _ _ _, g2, by simp only [AHeap.next_new, hn]; exact ho2⟩
    · rename_i e1
      obtain ⟨k1, f, c', k2, k3, k4⟩ := x0.st.live q o hq
      exact ⟨by simp; omega, f, c', by rw [Emb.upd_ne _ _ (Ne.symm e1)]; exact k2, k3, k4.mono (by rw [hn]; exact hag) (by simp)⟩
  · intro q s o p f g hq ho hs hm hg' hbb
    rw [gN] at hq hs
    have hold : ∀ {q o}, H.get q = some o → ∀ {f}, (μ.upd h.next e) q = some f → μ q = some f ∧ μ' q = some f ∧ h'.get q = some o ∧ q < h.next := by
      intro q o hq f hm
      obtain ⟨h1, h2, _⟩ := hget q o hq
      rw [Emb.upd_ne _ _ (by omega)] at hm
      exact ⟨hm, by rw [x.agree q h1]; exact hm, h2, h1⟩
    split at hq <;> split at hs
    · omega
    · rename_i e1 e2
      subst e1; cases hq; rw [Emb.upd_same] at hm; cases hm
      obtain ⟨_, k2, k3, k4⟩ := hold hs hg'
      have := x.st.apart r2 s o2 p e g hr2 ho k3 g1 k2 hbb
      omega
    · rename_i e1 e2
      subst e2; cases hs; rw [Emb.upd_same] at hg'; cases hg'
      obtain ⟨_, k2, k3, k4⟩ := hold hq hm
      have := x.st.apart q r2 o o2 f e k3 ho hr2 k2 g1 hbb
      omega
    · obtain ⟨k1, _, _, _⟩ := hold hq hm
      obtain ⟨k2, _, _, _⟩ := hold hs hg'
      exact x0.st.apart q s o p f g hq ho hs k1 k2 hbb
end Go.Ab
