/-
  The operations of a program under the view: maps, and what goes through them. The machine under the view: frames, the code of a frame, regions of operations. The machine under the view: operations, calls, the return of a function, rounds of a loop over a function. The machine under the view: a loop over a function, its rounds. All operations but calls, as one function; going through strings and maps. A region whose order is left open: whatever the order, it comes to what the text's order comes to, where the operations that change something stand in a chain, and the others give the same wherever they may stand. All operations but calls of functions, as one function of the view, and that it is right. Regions whose order is left open, by a walk in the text's order that looks at what stands ahead of what.
-/
import Derived.Test.YtimbhgkiohbkdaaGreatAb1
import Derived.Orders
namespace Go.Ab
set_option linter.unusedSimpArgs false
set_option linter.unusedVariables false
section ops
variable {P : Program} {T : Tr TI} {μ : Emb} {h h' : AHeap} {w : World}
theorem EsRel.getElem? {n : Nat} : ∀ {l : List AEnt} {l' : List MapEntry}, EsRel μ n l l' → ∀ (i : Nat) {e : AEnt}, l[i]? = some e → ∃ m, l'[i]? = some m ∧ ERel μ n e m
  | _, _, .nil, i, e, he => by simp at he
  | _, _, .cons h t, 0, e, he => by simp at he; subst he; exact ⟨_, by simp, h⟩
  | _, _, .cons h t, i + 1, e, he => by simp at he; obtain ⟨m, h1, h2⟩ := t.getElem? i he; exact ⟨m, by simpa using h1, h2⟩
theorem EsRel.append {n : Nat} : ∀ {l m : List AEnt} {l' m' : List MapEntry}, EsRel μ n l l' → EsRel μ n m m' → EsRel μ n (l ++ m) (l' ++ m')
  | _, _, _, _, .nil, h => h
  | _, _, _, _, .cons h t, hm => .cons h (t.append hm)
theorem EsRel.eraseIdx {n : Nat} : ∀ {l : List AEnt} {l' : List MapEntry} (i : Nat), EsRel μ n l l' → EsRel μ n (l.eraseIdx i) (l'.eraseIdx i)
  | _, _, _, .nil => .nil
  | _, _, 0, .cons _ t => t
  | _, _, i + 1, .cons h t => .cons h (t.eraseIdx i)
theorem EsRel.set {n : Nat} : ∀ {l : List AEnt} {l' : List MapEntry} (i : Nat) {e : AEnt} {m : MapEntry}, EsRel μ n l l' → ERel μ n e m → EsRel μ n (l.set i e) (l'.set i m)
  | _, _, _, _, _, .nil, _ => .nil
  | _, _, 0, _, _, .cons _ t, he => .cons he t
  | _, _, i + 1, _, _, .cons h t, he => .cons h (t.set i he)
noncomputable def aFindNow (kind : TypeDesc) (k : Value) : List AEnt → Nat → Option (Option (Nat × Value))
  | [], _ => some none
  | e :: es, i => match Instr.sameNow kind k e.key with
    | some true => some (some (i, e.val))
    | some false => aFindNow kind k es (i + 1)
    | none => none
noncomputable def aFindAsk (P : Program) (kt : TypeId) (k : Value) : List AEnt → Nat → Option (Option (Nat × Value))
  | [], _ => some none
  | e :: es, i => match pureRun P (Op.equal kt k e.key) with
    | some true => some (some (i, e.val))
    | some false => aFindAsk P kt k es (i + 1)
    | none => none
noncomputable def aFind (P : Program) (T : Tr TI) (kt : TypeId) (k : Value) (es : List AEnt) : Option (Option (Nat × Value)) :=
  match T.get kt with
  | some ki => match aFindNow ki.und k es 0 with
    | some r => some r
    | none => aFindAsk P kt k es 0
  | none => none
noncomputable def FRel (μ : Emb) (n : Nat) : Option (Nat × Value) → Option (Nat × Value) → Prop
  | none, none => True
  | some (i, v), some (j, v') => i = j ∧ VRel μ n v v'
  | _, _ => False
theorem findNow_good {n : Nat} (kind : TypeDesc) (k : Value) : ∀ {es : List AEnt} {ms : List MapEntry} (i : Nat), EsRel μ n es ms →
    (∀ r, aFindNow kind k es i = some r → ∃ r', Instr.findNow kind k ms i = some r' ∧ FRel μ n r r') ∧ (aFindNow kind k es i = none → Instr.findNow kind k ms i = none)
  | _, _, i, .nil => ⟨fun r hr => by simp only [aFindNow, Option.some.injEq] at hr; subst hr; exact ⟨none, rfl, trivial⟩, fun h => by simp [aFindNow] at h⟩
  | _, _, i, .cons (e := e) (m := m) h t => by
    have ih := findNow_good kind k (i + 1) t
    simp only [aFindNow, Instr.findNow, h.key]
    cases hs : Instr.sameNow kind k e.key with
    | none => exact ⟨fun r hr => by simp at hr, fun _ => rfl⟩
    | some b =>
      cases b with
      | true => exact ⟨fun r hr => by simp only [Option.some.injEq] at hr; subst hr; exact ⟨_, rfl, rfl, h.val⟩, fun hh => by simp at hh⟩
      | false => exact ih
theorem findAsk_good {n : Nat} (kt : TypeId) (k : Value) (w : World) : ∀ {es : List AEnt} {ms : List MapEntry} (i : Nat) {r : Option (Nat × Value)}, EsRel μ n es ms → aFindAsk P kt k es i = some r →
    ∃ r', (Instr.findAsking kt k ms i).run P w = .ok r' w ∧ FRel μ n r r'
  | _, _, i, r, .nil, hr => by simp only [aFindAsk, Option.some.injEq] at hr; subst hr; exact ⟨none, rfl, trivial⟩
  | _, _, i, r, .cons (e := e) (m := m) h t, hr => by
    simp only [aFindAsk] at hr
    split at hr
    · rename_i hp
      simp only [Option.some.injEq] at hr; subst hr
      refine ⟨some (i, m.val), ?_, rfl, h.val⟩
      simp only [Instr.findAsking, h.key, Sem.run_bind, pureRun_run _ w hp, Result.andThen_ok, if_true, Sem.run_pure]
    · rename_i hp
      obtain ⟨r', h1, h2⟩ := findAsk_good kt k w (i + 1) t hr
      refine ⟨r', ?_, h2⟩
      simp only [Instr.findAsking, h.key, Sem.run_bind, pureRun_run _ w hp, Result.andThen_ok, Bool.false_eq_true, if_false, h1]
    · cases hr
theorem find_good (ok : TyOK P T) {n : Nat} {kt : TypeId} {k : Value} {es : List AEnt} {ms : List MapEntry} {r : Option (Nat × Value)} (he : EsRel μ n es ms) (ha : aFind P T kt k es = some r) (w : World) :
    ∃ r', (Instr.findKey kt k ms).run P w = .ok r' w ∧ FRel μ n r r' := by
  unfold aFind at ha
  split at ha
  · rename_i ki hk
    split at ha
    · rename_i r0 hr
      cases ha
      obtain ⟨r', h1, h2⟩ := (findNow_good ki.und k 0 he).1 _ hr
      exact ⟨r', by simp only [Instr.findKey, Sem.run_bind, run_underlying ok hk, Result.andThen_ok, h1, Sem.run_pure], h2⟩
    · rename_i hr
      have h0 := (findNow_good ki.und k 0 he).2 hr
      obtain ⟨r', h1, h2⟩ := findAsk_good kt k w 0 he ha
      exact ⟨r', by simp only [Instr.findKey, Sem.run_bind, run_underlying ok hk, Result.andThen_ok, h0, h1], h2⟩
  · cases ha
noncomputable def keyOk (P : Program) (empty : Bool) (kt : TypeId) (k : Value) : Bool := flat k && (pureRun P (Instr.checkKey empty 10000 kt k)).isSome
theorem keyOk_run {empty : Bool} {kt : TypeId} {k k' : Value} {n : Nat} (hk : VRel μ n k k') (h : keyOk P empty kt k = true) (w : World) : k' = k ∧ (Instr.checkKey empty 10000 kt k).run P w = .ok () w ∧ flat k = true := by
  simp only [keyOk, Bool.and_eq_true, Option.isSome_iff_exists] at h
  obtain ⟨h1, u, h2⟩ := h
  exact ⟨hk.flat_eq h1, pureRun_run _ w h2, h1⟩
theorem EsRel.isEmpty {n : Nat} {es : List AEnt} {ms : Array MapEntry} (he : EsRel μ n es ms.toList) : ms.isEmpty = es.isEmpty := by
  have := he.length
  simp only [Array.length_toList] at this
  cases es with
  | nil => simp at this; simp [this]
  | cons a l => simp at this ⊢; intro h; rw [h] at this; simp at this
noncomputable def aMakeMap (h : AHeap) : Value × AHeap := (.map (some h.next), h.new (.map [] 0))
theorem makeMap_good (st : StRel μ h w) {t : TypeId} {r r' : Option Value} (hr : OV μ h.next r r') (hok : r = none) : GoodV P μ h w (Instr.makeMap t r') (aMakeMap h).1 (aMakeMap h).2 := by
  subst hok
  cases r' with
  | some _ => exact hr.elim
  | none =>
    refine ⟨.map (some w.heap.size), _, _, ?_, Ext.new st (.map #[] 0) ⟨w.heap.size, 0, 0, 0⟩ (.map [] 0) rfl ⟨rfl, #[], rfl, .nil⟩, ?_⟩
    · simp only [Instr.makeMap, Sem.run_bind, run_newObj, Result.andThen_ok, Sem.run_pure]
    · exact VRel.map (by simp [aMakeMap]) (Emb.upd_same _ _ _)
noncomputable def mapTypes (T : Tr TI) (t : TypeId) : Option (TypeId × TypeId) :=
  match T.get t with
  | some ti => match ti.und with
    | .map k e => some (k, e)
    | _ => none
  | none => none
theorem mapTypes_run (ok : TyOK P T) {t k e : TypeId} (hm : mapTypes T t = some (k, e)) (w : World) : (underlying t).run P w = .ok (.map k e) w := by
  unfold mapTypes at hm
  split at hm
  · rename_i ti ht
    split at hm
    · rename_i hu; cases hm; rw [run_underlying ok ht, hu]
    · cases hm
  · cases hm
noncomputable def aEntries (h : AHeap) (m : Value) : Option (List AEnt) :=
  match m with
  | .map none => some []
  | .map (some r) => match h.get r with
    | some (.map es _) => some es
    | _ => none
  | _ => none
noncomputable def aLookup (P : Program) (T : Tr TI) (t : TypeId) (m k : Value) (ok : Bool) (h : AHeap) : Option Value :=
  match mapTypes T t, aEntries h m with
  | some (kt, et), some es => bif keyOk P es.isEmpty kt k then match aFind P T kt k es, T.get et with
    | some (some (_, v)), _ => some (bif ok then .tuple #[v, .bool true] else v)
    | some none, some ei => match ei.zero with
      | some z => bif flat z then some (bif ok then .tuple #[z, .bool false] else z) else none
      | none => none
    | _, _ => none
    else none
  | _, _ => none
theorem lookup_good (ok : TyOK P T) (st : StRel μ h w) {t : TypeId} {m m' k k' v : Value} {c : Bool} (hm : VRel μ h.next m m') (hk : VRel μ h.next k k') (ha : aLookup P T t m k c h = some v) :
    ∃ v', (Instr.lookup t m' k' c).run P w = .ok v' w ∧ VRel μ h.next v v' := by
  unfold aLookup at ha
  split at ha
  · rename_i kt et es hmt hes
    cases hko : keyOk P es.isEmpty kt k
    · rw [hko, cond_false] at ha; cases ha
    · rw [hko, cond_true] at ha
      obtain ⟨rfl, hck, hkf⟩ := keyOk_run hk hko w
      have hms : ∃ ms : Array MapEntry, EsRel μ h.next es ms.toList ∧ ((m' = .map none ∧ ms = #[]) ∨ ∃ b clock, m' = .map (some b) ∧ w.heap[b]? = some (.map ms clock)) := by
        unfold aEntries at hes
        split at hes
        · cases hes; cases hm; exact ⟨#[], .nil, .inl ⟨rfl, rfl⟩⟩
        · rename_i r
          split at hes
          · rename_i es' clock hg
            cases hes
            cases hm with
            | map hlt hmm =>
              obtain ⟨ms, g1, g2, g3⟩ := st.getMap hg hmm
              exact ⟨ms, g2, .inr ⟨_, _, rfl, g1⟩⟩
          · cases hes
        · cases hes
      obtain ⟨ms, hrel, hK⟩ := hms
      have hemp := hrel.isEmpty
      clear hm hes
      split at ha
      · rename_i i v0 et' hf
        obtain ⟨r', f1, f2⟩ := find_good ok hrel hf w
        cases r' with
        | none => exact f2.elim
        | some p =>
          obtain ⟨j, v'⟩ := p
          obtain ⟨_, f3⟩ := f2
          cases ha
          refine ⟨if c then .tuple #[v', .bool true] else v', ?_, ?_⟩
          · rcases hK with ⟨rfl, rfl⟩ | ⟨b, clock, rfl, g1⟩
            · rw [← hemp] at hck
              simp only [Instr.lookup, Sem.run_bind, mapTypes_run ok hmt, Result.andThen_ok, Sem.run_pure, hck, f1]
            · rw [← hemp] at hck
              simp only [Instr.lookup, Sem.run_bind, mapTypes_run ok hmt, Result.andThen_ok, run_getObj g1 (fun _ _ _ => by simp), Sem.run_pure, hck, f1]
          · cases c
            · exact f3
            · exact .tuple (.cons f3 (.cons (.bool _) .nil))
      · rename_i ei hf hei
        obtain ⟨r', f1, f2⟩ := find_good ok hrel hf w
        cases r' with
        | some p => exact f2.elim
        | none =>
          split at ha
          · rename_i z hz
            cases hfz : flat z
            · rw [hfz, cond_false] at ha; cases ha
            · rw [hfz, cond_true] at ha
              cases ha
              refine ⟨if c then .tuple #[z, .bool false] else z, ?_, ?_⟩
              · rcases hK with ⟨rfl, rfl⟩ | ⟨b, clock, rfl, g1⟩
                · rw [← hemp] at hck
                  simp only [Instr.lookup, Sem.run_bind, mapTypes_run ok hmt, Result.andThen_ok, Sem.run_pure, hck, f1, run_zeroValue ok hei w hz]
                · rw [← hemp] at hck
                  simp only [Instr.lookup, Sem.run_bind, mapTypes_run ok hmt, Result.andThen_ok, run_getObj g1 (fun _ _ _ => by simp), Sem.run_pure, hck, f1, run_zeroValue ok hei w hz]
              · cases c
                · exact .of_flat _ _ hfz
                · exact .tuple (.cons (.of_flat _ _ hfz) (.cons (.bool _) .nil))
          · cases ha
      · cases ha
  · cases ha
noncomputable def aMapUpdate (P : Program) (T : Tr TI) (t : TypeId) (m k v : Value) (h : AHeap) : Option AHeap :=
  match mapTypes T t, m with
  | some (kt, _), .map (some r) => match h.get r with
    | some (.map es clock) => bif keyOk P false kt k then match aFind P T kt k es with
      | some (some (i, _)) => match es[i]? with
        | some e => bif Instr.sameBits 10000 e.key k then some (h.set r (.map (es.set i ⟨k, v, e.born⟩) clock)) else none
        | none => none
      | some none => some (h.set r (.map (es ++ [⟨k, v, clock⟩]) (clock + 1)))
      | none => none
      else none
    | _ => none
  | _, _ => none
theorem modify_toList (a : Array MapEntry) (i : Nat) (f : MapEntry → MapEntry) {m : MapEntry} (hm : a.toList[i]? = some m) : (a.modify i f).toList = a.toList.set i (f m) := by
  apply List.ext_getElem?
  intro j
  rw [Array.getElem?_toList, Array.getElem?_modify, List.getElem?_set]
  rw [Array.getElem?_toList] at hm ⊢
  by_cases hij : i = j
  · subst hij
    rw [if_pos rfl, if_pos rfl, hm, if_pos]
    · rfl
    · exact (Array.getElem?_eq_some_iff.1 hm).1
  · rw [if_neg hij, if_neg hij]
theorem mapUpdate_good (ok : TyOK P T) (st : StRel μ h w) {t : TypeId} {m m' k k' v v' : Value} (hm : VRel μ h.next m m') (hk : VRel μ h.next k k') (hv : VRel μ h.next v v') (ha : aMapUpdate P T t m k v h = some h') :
    GoodU P μ h w (Instr.mapUpdate t m' k' v') h' := by
  unfold aMapUpdate at ha
  split at ha
  · rename_i kt et r hmt
    split at ha
    · rename_i es clock hg
      cases hko : keyOk P false kt k
      · rw [hko, cond_false] at ha; cases ha
      · rw [hko, cond_true] at ha
        obtain ⟨rfl, hck, hkf⟩ := keyOk_run hk hko w
        cases hm with
        | map hlt hmm =>
          rename_i e
          obtain ⟨ms, g1, g2, g3⟩ := st.getMap hg hmm
          have gO := run_getObj (P := P) g1 (fun _ _ _ => by simp)
          have gS : ∀ o', (Go.setObj e.b o').run P w = .ok () { w with heap := w.heap.setIfInBounds e.b o' } := fun o' => run_setObj g1 (fun _ _ _ => by simp)
          split at ha
          · rename_i i v0 hf
            obtain ⟨r', f1, f2⟩ := find_good ok g2 hf w
            cases r' with
            | none => exact f2.elim
            | some p =>
              obtain ⟨j, v1⟩ := p
              obtain ⟨rfl, _⟩ := f2
              split at ha
              · rename_i en hen
                cases hsb : Instr.sameBits 10000 en.key k'
                · rw [hsb, cond_false] at ha; cases ha
                · rw [hsb, cond_true] at ha
                  cases ha
                  obtain ⟨mm, q1, q2⟩ := g2.getElem? _ hen
                  have hmk : ((ms[i]?).map (·.key)).getD k' = en.key := by rw [← Array.getElem?_toList, q1]; exact q2.key
                  refine ⟨_, μ, ?_, st.setObj hg rfl hmm (c' := .map (ms.modify i fun e => { e with key := k', val := v' }) clock) ⟨g3, _, rfl, ?_⟩⟩
                  · simp only [Instr.mapUpdate, Sem.run_bind, mapTypes_run ok hmt, Result.andThen_ok, gO, hck, f1, hmk, Instr.keyThatStays, hsb, if_true, Sem.run_pure, gS]
                  · rw [modify_toList _ _ _ q1]
                    exact g2.set _ ⟨rfl, hkf, hv, q2.born⟩
              · cases ha
          · rename_i hf
            cases ha
            obtain ⟨r', f1, f2⟩ := find_good ok g2 hf w
            cases r' with
            | some p => exact f2.elim
            | none =>
              refine ⟨_, μ, ?_, st.setObj hg rfl hmm (c' := .map (ms.push { key := k', val := v', born := clock }) (clock + 1)) ⟨g3, _, rfl, ?_⟩⟩
              · simp only [Instr.mapUpdate, Sem.run_bind, mapTypes_run ok hmt, Result.andThen_ok, gO, hck, f1, gS]
              · rw [Array.toList_push]; exact g2.append (.cons ⟨rfl, hkf, hv, rfl⟩ .nil)
          · cases ha
    · cases ha
  · cases ha
noncomputable def aDelete (P : Program) (T : Tr TI) (argTypes : Array TypeId) (m k : Value) (h : AHeap) : Option AHeap :=
  match argTypes.toList with
  | t :: _ => match mapTypes T t, m with
    | some (kt, _), .map none => bif keyOk P true kt k then some h else none
    | some (kt, _), .map (some r) => match h.get r with
      | some (.map es clock) => bif keyOk P es.isEmpty kt k then match aFind P T kt k es with
        | some (some (i, _)) => some (h.set r (.map (es.eraseIdx i) clock))
        | some none => some (h.set r (.map es clock))
        | none => none
        else none
      | _ => none
    | _, _ => none
  | [] => none
theorem delete_good (ok : TyOK P T) (st : StRel μ h w) {argTypes : Array TypeId} (ty : TypeId) {m m' k k' : Value} (hm : VRel μ h.next m m') (hk : VRel μ h.next k k') (ha : aDelete P T argTypes m k h = some h') :
    GoodV P μ h w (Builtin.delete_ argTypes ty #[m', k']) (.tuple #[]) h' := by
  unfold aDelete at ha
  split at ha
  · rename_i t rest hat
    have h0 : argTypes[0]? = some t := by rw [← Array.getElem?_toList, hat]; rfl
    split at ha
    · rename_i kt et hmt
      cases hko : keyOk P true kt k
      · rw [hko, cond_false] at ha; cases ha
      · rw [hko, cond_true] at ha
        cases ha
        obtain ⟨rfl, hck, hkf⟩ := keyOk_run hk hko w
        cases hm
        exact ⟨.tuple #[], w, μ, by simp only [Builtin.delete_, h0, List.getElem?_toArray, List.getElem?_cons_zero, List.getElem?_cons_succ, Sem.run_bind, mapTypes_run ok hmt, Result.andThen_ok, hck, Sem.run_pure], Ext.refl st, .tuple .nil⟩
    · rename_i kt et r hmt
      split at ha
      · rename_i es clock hg
        cases hko : keyOk P es.isEmpty kt k
        · rw [hko, cond_false] at ha; cases ha
        · rw [hko, cond_true] at ha
          obtain ⟨rfl, hck, hkf⟩ := keyOk_run hk hko w
          cases hm with
          | map hlt hmm =>
            rename_i e
            obtain ⟨ms, g1, g2, g3⟩ := st.getMap hg hmm
            have gO := run_getObj (P := P) g1 (fun _ _ _ => by simp)
            have gS : ∀ o', (Go.setObj e.b o').run P w = .ok () { w with heap := w.heap.setIfInBounds e.b o' } := fun o' => run_setObj g1 (fun _ _ _ => by simp)
            have hemp := g2.isEmpty
            split at ha
            · rename_i i v0 hf
              cases ha
              obtain ⟨r', f1, f2⟩ := find_good ok g2 hf w
              cases r' with
              | none => exact f2.elim
              | some p =>
                obtain ⟨j, v1⟩ := p
                obtain ⟨rfl, _⟩ := f2
                refine ⟨.tuple #[], _, μ, ?_, st.setObj hg rfl hmm (c' := .map (ms.eraseIdxIfInBounds i) clock) ⟨g3, _, rfl, ?_⟩, .tuple .nil⟩
                · simp only [Builtin.delete_, h0, List.getElem?_toArray, List.getElem?_cons_zero, List.getElem?_cons_succ, Sem.run_bind, mapTypes_run ok hmt, Result.andThen_ok, gO, hemp, hck, f1, gS, Sem.run_pure]
                · have : (ms.eraseIdxIfInBounds i).toList = ms.toList.eraseIdx i := by simp
                  rw [this]; exact g2.eraseIdx i
            · rename_i hf
              cases ha
              obtain ⟨r', f1, f2⟩ := find_good ok g2 hf w
              cases r' with
              | some p => exact f2.elim
              | none =>
                refine ⟨.tuple #[], _, μ, ?_, st.setObj hg rfl hmm (c' := .map ms clock) ⟨g3, _, rfl, g2⟩, .tuple .nil⟩
                simp only [Builtin.delete_, h0, List.getElem?_toArray, List.getElem?_cons_zero, List.getElem?_cons_succ, Sem.run_bind, mapTypes_run ok hmt, Result.andThen_ok, gO, hemp, hck, f1, gS, Sem.run_pure]
            · cases ha
      · cases ha
    · cases ha
  · cases ha
end ops
end Go.Ab
namespace Go.Ab
set_option linter.unusedSimpArgs false
set_option linter.unusedVariables false
structure RK where
  k : Option Nat
  d : Bool
noncomputable def RK.kind (r : RK) : CallKind := bif r.d then .deferred else .normal
noncomputable def frame (fn : FuncId) (rd : RK) (tmps : Array Value) (defers : List Deferred) (todo : List Item) : Frame :=
  { fn, tmps, todo, defers, mode := .run, kind := rd.kind, roundOf := rd.k }
noncomputable def opnd (tmps : Array Value) : Operand → Value
  | .tmp t => tmps.getD t undef
  | .const v => v
  | .global g => .pointer (some ⟨g, 0, none⟩)
  | .func f => .func (.func f) #[] #[]
theorem frame_eval (fn : FuncId) (rd : RK) (tmps : Array Value) (defers : List Deferred) (todo : List Item) : (frame fn rd tmps defers todo).eval = opnd tmps := by
  funext x; cases x <;> rfl
inductive AExit where
  | normal
  | exit (id : Nat)
  | ret
noncomputable def Arr (P : Program) (m : Machine) (fn : FuncId) (rd : RK) (k : List Item) (cs : List Frame) (e : AExit) (tmps : Array Value) (defers : List Deferred) (w : World) : Prop :=
  match e with
  | .normal => Steps P m (lone (frame fn rd tmps defers k) cs w)
  | .exit id => ∃ k0, exitTo id k0 = exitTo id k ∧ Steps P m (lone (frame fn rd tmps defers (.code (.exit id) :: k0)) cs w)
  | .ret => ∃ k0, Steps P m (lone (frame fn rd tmps defers (.code .ret :: k0)) cs w)
theorem Arr.of_steps {P : Program} {m m₁ : Machine} {fn : FuncId} {rd : RK} {k : List Item} {cs : List Frame} {e : AExit} {tmps : Array Value} {defers : List Deferred} {w : World} (h : Steps P m m₁)
    (h' : Arr P m₁ fn rd k cs e tmps defers w) : Arr P m fn rd k cs e tmps defers w := by
  cases e with
  | normal => exact h.trans h'
  | exit id => obtain ⟨k0, h1, h2⟩ := h'; exact ⟨k0, h1, h.trans h2⟩
  | ret => obtain ⟨k0, h2⟩ := h'; exact ⟨k0, h.trans h2⟩
theorem Arr.pass {P : Program} {m : Machine} {fn : FuncId} {rd : RK} {x : Item} {k : List Item} {cs : List Frame} {e : AExit} {tmps : Array Value} {defers : List Deferred} {w : World} (he : e ≠ .normal)
    (hx : ∀ id, e = .exit id → exitTo id (x :: k) = exitTo id k) (h : Arr P m fn rd (x :: k) cs e tmps defers w) : Arr P m fn rd k cs e tmps defers w := by
  cases e with
  | normal => exact (he rfl).elim
  | exit id => obtain ⟨k0, h1, h2⟩ := h; exact ⟨k0, h1.trans (hx id rfl), h2⟩
  | ret => exact h
section moves
variable {P : Program} {fn : FuncId} {rd : RK} {tmps : Array Value} {defers : List Deferred} {k : List Item} {cs : List Frame} {w : World}
theorem st_skip : step P (lone (frame fn rd tmps defers (.code .skip :: k)) cs w) = .next (lone (frame fn rd tmps defers k) cs w) := step_lone_go (by simp [stepG, stepG.exec, frame])
theorem st_label {l : Nat} : step P (lone (frame fn rd tmps defers (.code (.label l) :: k)) cs w) = .next (lone (frame fn rd tmps defers k) cs w) := step_lone_go (by simp [stepG, stepG.exec, frame])
theorem st_inBlock {id : Nat} : step P (lone (frame fn rd tmps defers (.inBlock id :: k)) cs w) = .next (lone (frame fn rd tmps defers k) cs w) := step_lone_go (by simp [stepG, stepG.exec, frame])
theorem st_inScope {b : Code} : step P (lone (frame fn rd tmps defers (.inScope b :: k)) cs w) = .next (lone (frame fn rd tmps defers k) cs w) := step_lone_go (by simp [stepG, stepG.exec, frame])
theorem st_seq {x y : Code} : step P (lone (frame fn rd tmps defers (.code (.seq x y) :: k)) cs w) = .next (lone (frame fn rd tmps defers (.code x :: .code y :: k)) cs w) := step_lone_go (by simp [stepG, stepG.exec, frame])
theorem st_cond {c : Operand} {x y : Code} {t : Bool} (h : opnd tmps c = .bool t) :
    step P (lone (frame fn rd tmps defers (.code (.cond c x y) :: k)) cs w) = .next (lone (frame fn rd tmps defers (.code (if t then x else y) :: k)) cs w) :=
  step_lone_go (by
    have e := congrFun (frame_eval fn rd tmps defers (.code (.cond c x y) :: k)) c
    simp only [frame] at e
    simp [stepG, stepG.exec, frame, e, h])
theorem st_block {id : Nat} {c : Code} : step P (lone (frame fn rd tmps defers (.code (.block id c) :: k)) cs w) = .next (lone (frame fn rd tmps defers (.code c :: .inBlock id :: k)) cs w) := step_lone_go (by simp [stepG, stepG.exec, frame])
theorem st_scope {c : Code} : step P (lone (frame fn rd tmps defers (.code (.scope c) :: k)) cs w) = .next (lone (frame fn rd tmps defers (.code c :: .inScope c :: k)) cs w) := step_lone_go (by simp [stepG, stepG.exec, frame])
theorem st_loop {c : Code} : step P (lone (frame fn rd tmps defers (.code (.loop c) :: k)) cs w) = .next (lone (frame fn rd tmps defers (.code c :: .inLoop c :: k)) cs w) := step_lone_go (by simp [stepG, stepG.exec, frame])
theorem st_inLoop {c : Code} : step P (lone (frame fn rd tmps defers (.inLoop c :: k)) cs w) = .next (lone (frame fn rd tmps defers (.code c :: .inLoop c :: k)) cs w) := step_lone_go (by simp [stepG, stepG.exec, frame])
theorem st_exit {id : Nat} {k' : List Item} (h : exitTo id k = some k') : step P (lone (frame fn rd tmps defers (.code (.exit id) :: k)) cs w) = .next (lone (frame fn rd tmps defers k') cs w) := step_lone_go (by simp [stepG, stepG.exec, frame, h])
theorem st_region {id : Nat} {ops : Array Oper} : step P (lone (frame fn rd tmps defers (.code (.region id ops false) :: k)) cs w) = .next (lone (frame fn rd tmps defers (.inRegion ops (List.range ops.size) :: k)) cs w) := step_lone_go (by simp [stepG, stepG.exec, frame])
theorem st_region_draw {id : Nat} {ops : Array Oper} : step P (lone (frame fn rd tmps defers (.code (.region id ops true) :: k)) cs w) =
    .next (lone (frame fn rd tmps defers (.inRegion ops (Region.schedule (P.follows .mixedOrders) ops (w.tape w.drawn (.order fn id))) :: k)) cs { w with drawn := w.drawn + 1 }) :=
  step_lone_go (by simp [stepG, stepG.exec, frame, choose, Sem.run, Question.forced, Question.cut])
theorem st_region_end {ops : Array Oper} : step P (lone (frame fn rd tmps defers (.inRegion ops [] :: k)) cs w) = .next (lone (frame fn rd tmps defers k) cs w) := step_lone_go (by simp [stepG, stepG.exec, frame])
noncomputable def put (tmps : Array Value) (dst : Option Tmp) (v : Value) : Array Value :=
  match dst with
  | some d => tmps.setIfInBounds d v
  | none => tmps
theorem finish_region {ops : Array Oper} {i : Nat} {rest : List Nat} (v : Value) :
    (frame fn rd tmps defers (.inRegion ops (i :: rest) :: k)).finish v = frame fn rd (put tmps ((ops[i]?).bind (·.dst)) v) defers (.inRegion ops rest :: k) := by
  cases h : (ops[i]?).bind (·.dst) <;> simp [Frame.finish, frame, put, h]
theorem st_op_skip {ops : Array Oper} {i : Nat} {rest : List Nat} (h : ((ops[i]?).map (Region.wanted · (yielded ops tmps))).getD false = false) :
    step P (lone (frame fn rd tmps defers (.inRegion ops (i :: rest) :: k)) cs w) = .next (lone (frame fn rd (put tmps ((ops[i]?).bind (·.dst)) undef) defers (.inRegion ops rest :: k)) cs w) := by
  rw [← finish_region]
  exact step_lone_go (by
    have h' := h
    simp only [frame] at *
    simp [stepG, stepG.exec, h'])
noncomputable def isDefer : Op → Bool
  | .defer _ => true
  | _ => false
theorem stG_op {ops : Array Oper} {i : Nat} {rest : List Nat} {o : Oper} (ho : ops[i]? = some o) (hw : Region.wanted o (yielded ops tmps) = true) (hd : isDefer o.op = false) :
    stepG P true { frame := frame fn rd tmps defers (.inRegion ops (i :: rest) :: k), callers := cs, status := .running, dying := none } w =
      stepG.apply P true (frame fn rd tmps defers (.inRegion ops (i :: rest) :: k)) cs none (execOp (opnd tmps) o) w := by
  have he := frame_eval fn rd tmps defers (.inRegion ops (i :: rest) :: k)
  simp only [frame] at he
  have hap : stepG.oper P true (frame fn rd tmps defers (.inRegion ops (i :: rest) :: k)) cs none w = stepG.apply P true (frame fn rd tmps defers (.inRegion ops (i :: rest) :: k)) cs none (execOp (opnd tmps) o) w := by
    simp only [stepG.oper, Frame.oper?, frame, ho, he]
    split
    · rename_i hop; rw [hop] at hd; cases hd
    · rfl
  simp only [frame] at hap ⊢
  simp [stepG, stepG.exec, ho, hw, hap]
theorem st_op_value {ops : Array Oper} {i : Nat} {rest : List Nat} {o : Oper} (ho : ops[i]? = some o) (hw : Region.wanted o (yielded ops tmps) = true) (hd : isDefer o.op = false) {nx : Next} {v : Value} {w' : World}
    (hr : (execOp (opnd tmps) o).run P w = .ok nx w') (hnx : nx = .value v ∨ (nx = .skip ∧ v = undef)) :
    step P (lone (frame fn rd tmps defers (.inRegion ops (i :: rest) :: k)) cs w) = .next (lone (frame fn rd (put tmps o.dst v) defers (.inRegion ops rest :: k)) cs w') := by
  have hg := stG_op (P := P) (fn := fn) (rd := rd) (defers := defers) (k := k) (cs := cs) (w := w) (rest := rest) ho hw hd
  have hfin : (frame fn rd tmps defers (.inRegion ops (i :: rest) :: k)).finish v = frame fn rd (put tmps o.dst v) defers (.inRegion ops rest :: k) := by rw [finish_region, ho]; rfl
  rw [← hfin]
  refine step_lone_go ?_
  rw [hg]
  rcases hnx with rfl | ⟨rfl, rfl⟩ <;> simp [stepG.apply, hr]
noncomputable def pushed (P : Program) (c : Frame) (cs : List Frame) (w : World) : Next → Option Machine
  | .enter f args => some (lone (Frame.enter P f args .normal) (c :: cs) w)
  | .round l f tmps assign body => some (lone (Frame.round l f tmps assign body .normal) (c :: cs) w)
  | .value v => some (lone (c.finish v) cs w)
  | .skip => some (lone (c.finish undef) cs w)
  | _ => none
theorem st_op_push {ops : Array Oper} {i : Nat} {rest : List Nat} {o : Oper} (ho : ops[i]? = some o) (hw : Region.wanted o (yielded ops tmps) = true) (hd : isDefer o.op = false) {nx : Next} {w' : World} {m : Machine}
    (hr : (execOp (opnd tmps) o).run P w = .ok nx w') (hp : pushed P (frame fn rd tmps defers (.inRegion ops (i :: rest) :: k)) cs w' nx = some m) :
    step P (lone (frame fn rd tmps defers (.inRegion ops (i :: rest) :: k)) cs w) = .next m := by
  have hg := stG_op (P := P) (fn := fn) (rd := rd) (defers := defers) (k := k) (cs := cs) (w := w) (rest := rest) ho hw hd
  cases nx <;> simp only [pushed, Option.some.injEq] at hp <;> first | (cases hp; done) | (subst hp; refine step_lone_go ?_; rw [hg]; simp [stepG.apply, hr, frame])
end moves
structure Cx where
  fn : FuncId
  nt : Nat
  rd : Option Nat
noncomputable def RdRel (μ : Emb) (n : Nat) : Option Nat → Option Nat → Prop
  | none, none => True
  | some l, some b => l < n ∧ ∃ e, μ l = some e ∧ e.b = b
  | _, _ => False
theorem RdRel.mono {μ μ' : Emb} {n m : Nat} {a b : Option Nat} (h : RdRel μ n a b) (ha : Agree n μ μ') (hn : n ≤ m) : RdRel μ' m a b := by
  cases a <;> cases b <;> first | exact h | skip
  obtain ⟨h1, e, h2, h3⟩ := h
  exact ⟨by omega, e, (ha _ h1).trans h2, h3⟩
structure Bs where
  n : Nat
  D : List Deferred
inductive DOk (D : List Deferred) (μ : Emb) (h : AHeap) (w : World) : List Deferred → Prop
  | nil (hD : ∀ d ∈ D, ∀ q, d.target = .collected q → q < w.heap.size) : DOk D μ h w D
  | cons {r : Nat} {l : List Deferred} (hr : w.heap[r]? = some (.deferred (some []))) (hown : ∀ q o e, h.get q = some o → o.own = true → μ q = some e → e.b ≠ r)
      (hne : ∀ d ∈ l, ∀ q, d.target = .collected q → q ≠ r) (t : DOk D μ h w l) : DOk D μ h w ({ target := .collected r, args := #[] } :: l)
theorem DOk.ext {D : List Deferred} {μ μ' : Emb} {h h' : AHeap} {w w' : World} (e : Ext μ h w μ' h' w') : ∀ {l : List Deferred}, DOk D μ h w l → DOk D μ' h' w' l
  | _, .nil hD => .nil fun d hd q hq => Nat.lt_of_lt_of_le (hD d hd q hq) e.size
  | _, .cons hr ho hne t => have ⟨h1, h2⟩ := e.frame _ (lt_of_heap hr) ho; .cons (h1.trans hr) h2 hne (t.ext e)
theorem DOk.sub {D : List Deferred} {μ : Emb} {h : AHeap} {w : World} : ∀ {l : List Deferred}, DOk D μ h w l → ∀ d ∈ D, d ∈ l
  | _, .nil _, d, hd => hd
  | _, .cons _ _ _ t, d, hd => List.mem_cons_of_mem _ (t.sub d hd)
theorem DOk.lt {D : List Deferred} {μ : Emb} {h : AHeap} {w : World} : ∀ {l : List Deferred}, DOk D μ h w l → ∀ d ∈ l, ∀ q, d.target = .collected q → q < w.heap.size
  | _, .nil hD, d, hd, q, hq => hD d hd q hq
  | _, .cons hr _ _ t, d, hd, q, hq => by
    cases hd with
    | head => cases hq; exact lt_of_heap hr
    | tail _ hd => exact t.lt d hd q hq
structure Pre (μ : Emb) (base : Bs) (cx : Cx) (a : Tr Value) (h : AHeap) (tmps : Array Value) (defers : List Deferred) (rd : RK) (w : World) : Prop where
  act : ActRel μ h.next a tmps
  size : tmps.size = cx.nt
  rdr : RdRel μ h.next cx.rd rd.k
  dok : DOk base.D μ h w defers
  dno : cx.rd ≠ none → defers = []
  dge : ∀ d ∈ defers, ∀ q, d.target = .collected q → base.n ≤ q
  bsz : base.n ≤ w.heap.size
  st : StRel μ h w
theorem Pre.ext {μ μ' : Emb} {base : Bs} {cx : Cx} {a : Tr Value} {h h' : AHeap} {tmps : Array Value} {defers : List Deferred} {rd : RK} {w w' : World} (p : Pre μ base cx a h tmps defers rd w) (e : Ext μ h w μ' h' w') : Pre μ' base cx a h' tmps defers rd w' :=
  ⟨p.act.mono e.agree e.next, p.size, p.rdr.mono e.agree e.next, p.dok.ext e, p.dno, p.dge, Nat.le_trans p.bsz e.size, e.st⟩
noncomputable def aopnd (a : Tr Value) : Operand → Option Value
  | .tmp t => a.get t
  | .const v => bif flat v then some v else none
  | .global _ => none
  | .func f => some (.func (.func f) #[] #[])
noncomputable def OpRel (μ : Emb) (n : Nat) (ρ : Operand → Option Value) (ρ' : Operand → Value) : Prop := ∀ x v, ρ x = some v → VRel μ n v (ρ' x)
theorem ActRel.opnd {μ : Emb} {n : Nat} {a : Tr Value} {tmps : Array Value} (h : ActRel μ n a tmps) : OpRel μ n (aopnd a) (Ab.opnd tmps) := by
  intro x v hv
  cases x with
  | tmp t =>
    obtain ⟨v', h1, h2⟩ := h t v hv
    have : tmps.getD t undef = v' := by simp [Array.getD_eq_getD_getElem?, h1]
    simp only [Ab.opnd, this]; exact h2
  | const c =>
    simp only [aopnd] at hv
    cases hf : flat c
    · rw [hf, cond_false] at hv; cases hv
    · rw [hf, cond_true] at hv; cases hv; exact .of_flat _ _ hf
  | global g => cases hv
  | func f => simp only [aopnd, Option.some.injEq] at hv; subst hv; exact .func (fun l => by simp) .nil .nil
noncomputable def aput (nt : Nat) (a : Tr Value) (dst : Option Tmp) (v : Value) : Option (Tr Value) :=
  match dst with
  | some d => bif Nat.ble (d + 1) nt then some (a.put d (some v)) else none
  | none => some a
theorem ActRel.put {μ : Emb} {n nt : Nat} {a a' : Tr Value} {tmps : Array Value} (h : ActRel μ n a tmps) (hs : tmps.size = nt) {dst : Option Tmp} {v v' : Value} (hv : VRel μ n v v') (hp : aput nt a dst v = some a') :
    ActRel μ n a' (Ab.put tmps dst v') ∧ (Ab.put tmps dst v').size = nt := by
  cases dst with
  | none => simp only [aput, Option.some.injEq] at hp; subst hp; exact ⟨h, hs⟩
  | some d =>
    simp only [aput] at hp
    cases hb : Nat.ble (d + 1) nt
    · rw [hb, cond_false] at hp; cases hp
    · rw [hb, cond_true] at hp
      cases hp
      have hlt : d < tmps.size := by rw [hs]; exact Nat.le_of_ble_eq_true hb
      refine ⟨fun t u hu => ?_, by simp [Ab.put, hs]⟩
      rw [Tr.get_put] at hu
      by_cases hd : d = t
      · subst hd; rw [if_pos rfl] at hu; cases hu; exact ⟨v', by simp [Ab.put, hlt], hv⟩
      · rw [if_neg hd] at hu
        obtain ⟨u', h1, h2⟩ := h t u hu
        exact ⟨u', by simp only [Ab.put]; rw [Array.getElem?_setIfInBounds_ne hd]; exact h1, h2⟩
noncomputable def aguard (ops : Array Oper) (a : Tr Value) (o : Oper) : Option Bool :=
  match o.guard with
  | none => some true
  | some (j, want) => match (ops[j]?).bind (·.dst) with
    | none => some false
    | some d => match a.get d with
      | some (.bool b) => some (b == want)
      | some _ => some false
      | none => none
theorem aguard_wanted {μ : Emb} {n : Nat} {ops : Array Oper} {a : Tr Value} {tmps : Array Value} (h : ActRel μ n a tmps) {o : Oper} {b : Bool} (hg : aguard ops a o = some b) : Region.wanted o (yielded ops tmps) = b := by
  unfold aguard at hg
  unfold Region.wanted
  split at hg
  · rename_i hn; rw [hn]; simpa using hg
  · rename_i j want hn
    rw [hn]
    simp only
    split at hg
    · rename_i hd; simp only [yielded, hd, Option.bind_none]; cases hg; rfl
    · rename_i d hd
      split at hg
      · rename_i b' hb
        obtain ⟨v', h1, h2⟩ := h _ _ hb
        cases h2
        simp only [yielded, hd, Option.bind_some, h1]
        cases hg
        cases b' <;> cases want <;> rfl
      · rename_i v hv hnb
        obtain ⟨v', h1, h2⟩ := h _ _ hnb
        cases hg
        simp only [yielded, hd, Option.bind_some, h1]
        cases h2 <;> first | rfl | exact (hv _ rfl).elim
      · cases hg
noncomputable def CWp (P : Program) (cx : Cx) (c : Code) (a : Tr Value) (h : AHeap) (Q : AExit → Tr Value → AHeap → Prop) : Prop :=
  ∀ (μ : Emb) (base : Bs) (tmps : Array Value) (defers : List Deferred) (rd : RK) (w : World) (k : List Item) (cs : List Frame), Pre μ base cx a h tmps defers rd w →
    ∃ e a' h' μ' tmps' defers' w', Q e a' h' ∧ Pre μ' base cx a' h' tmps' defers' rd w' ∧ Ext μ h w μ' h' w' ∧ Arr P (lone (frame cx.fn rd tmps defers (.code c :: k)) cs w) cx.fn rd k cs e tmps' defers' w'
noncomputable def OWp (P : Program) (cx : Cx) (ops : Array Oper) (l : List Nat) (a : Tr Value) (h : AHeap) (Q : Tr Value → AHeap → Prop) : Prop :=
  ∀ (μ : Emb) (base : Bs) (tmps : Array Value) (defers : List Deferred) (rd : RK) (w : World) (k : List Item) (cs : List Frame), Pre μ base cx a h tmps defers rd w →
    ∃ a' h' μ' tmps' w', Q a' h' ∧ Pre μ' base cx a' h' tmps' defers rd w' ∧ Ext μ h w μ' h' w' ∧ Steps P (lone (frame cx.fn rd tmps defers (.inRegion ops l :: k)) cs w) (lone (frame cx.fn rd tmps' defers k) cs w')
section rules
variable {P : Program} {cx : Cx} {a : Tr Value} {h : AHeap} {Q : AExit → Tr Value → AHeap → Prop}
theorem CWp.mono {c : Code} {Q' : AExit → Tr Value → AHeap → Prop} (hc : CWp P cx c a h Q) (hq : ∀ e a h, Q e a h → Q' e a h) : CWp P cx c a h Q' :=
  fun μ base tmps defers rd w k cs p => let ⟨e, a', h', μ', t', d', w', q, r⟩ := hc μ base tmps defers rd w k cs p; ⟨e, a', h', μ', t', d', w', hq _ _ _ q, r⟩
theorem CWp.skip (hq : Q .normal a h) : CWp P cx .skip a h Q := fun μ _ tmps defers _ w _ _ p => ⟨.normal, a, h, μ, tmps, defers, w, hq, p, Ext.refl p.st, .one st_skip⟩
theorem CWp.label {l : Nat} (hq : Q .normal a h) : CWp P cx (.label l) a h Q := fun μ _ tmps defers _ w _ _ p => ⟨.normal, a, h, μ, tmps, defers, w, hq, p, Ext.refl p.st, .one st_label⟩
theorem CWp.exit {id : Nat} (hq : Q (.exit id) a h) : CWp P cx (.exit id) a h Q := fun μ _ tmps defers _ w k _ p => ⟨.exit id, a, h, μ, tmps, defers, w, hq, p, Ext.refl p.st, k, rfl, .refl _ _⟩
theorem CWp.ret (hq : Q .ret a h) : CWp P cx .ret a h Q := fun μ _ tmps defers _ w k _ p => ⟨.ret, a, h, μ, tmps, defers, w, hq, p, Ext.refl p.st, k, .refl _ _⟩
theorem CWp.seq {x y : Code} (hc : CWp P cx x a h fun e a' h' => match e with | .normal => CWp P cx y a' h' Q | e => Q e a' h') : CWp P cx (.seq x y) a h Q := by
  intro μ base tmps defers rd w k cs p
  obtain ⟨e, a1, h1, μ1, t1, d1, w1, q, p1, x1, arr⟩ := hc μ base tmps defers rd w (.code y :: k) cs p
  cases e with
  | normal =>
    obtain ⟨e2, a2, h2, μ2, t2, d2, w2, q2, p2, x2, arr2⟩ := q μ1 base t1 d1 rd w1 k cs p1
    exact ⟨e2, a2, h2, μ2, t2, d2, w2, q2, p2, x1.trans x2, .of_steps (.head st_seq arr) arr2⟩
  | exit id => exact ⟨.exit id, a1, h1, μ1, t1, d1, w1, q, p1, x1, .of_steps (.one st_seq) (.pass (by simp) (fun _ _ => rfl) arr)⟩
  | ret => exact ⟨.ret, a1, h1, μ1, t1, d1, w1, q, p1, x1, .of_steps (.one st_seq) (.pass (by simp) (fun _ _ => rfl) arr)⟩
theorem CWp.cond {c : Operand} {x y : Code} {t : Bool} (hc : aopnd a c = some (.bool t)) (hb : CWp P cx (if t then x else y) a h Q) : CWp P cx (.cond c x y) a h Q := by
  intro μ base tmps defers rd w k cs p
  have hv : opnd tmps c = .bool t := by have := p.act.opnd c _ hc; cases hx : opnd tmps c <;> rw [hx] at this <;> cases this; rfl
  obtain ⟨e, a1, h1, μ1, t1, d1, w1, q, p1, x1, arr⟩ := hb μ base tmps defers rd w k cs p
  exact ⟨e, a1, h1, μ1, t1, d1, w1, q, p1, x1, .of_steps (.one (st_cond hv)) arr⟩
theorem CWp.block {id : Nat} {c : Code} (hc : CWp P cx c a h fun e a' h' => match e with | .exit i => if i = id then Q .normal a' h' else Q (.exit i) a' h' | e => Q e a' h') : CWp P cx (.block id c) a h Q := by
  intro μ base tmps defers rd w k cs p
  obtain ⟨e, a1, h1, μ1, t1, d1, w1, q, p1, x1, arr⟩ := hc μ base tmps defers rd w (.inBlock id :: k) cs p
  cases e with
  | normal => exact ⟨.normal, a1, h1, μ1, t1, d1, w1, q, p1, x1, .head st_block (Steps.trans arr (.one st_inBlock))⟩
  | exit i =>
    by_cases hi : i = id
    · simp only [hi, if_true] at q
      obtain ⟨k0, hk, hs⟩ := arr
      refine ⟨.normal, a1, h1, μ1, t1, d1, w1, q, p1, x1, .head st_block (hs.trans (.one (st_exit ?_)))⟩
      rw [hk]; simp [exitTo, hi]
    · simp only [hi, if_false] at q
      refine ⟨.exit i, a1, h1, μ1, t1, d1, w1, q, p1, x1, .of_steps (.one st_block) (.pass (by simp) (fun j hj => ?_) arr)⟩
      cases hj
      have : (id == i) = false := by simp; exact fun e => hi e.symm
      simp [exitTo, this]
  | ret => exact ⟨.ret, a1, h1, μ1, t1, d1, w1, q, p1, x1, .of_steps (.one st_block) (.pass (by simp) (fun _ hj => by cases hj) arr)⟩
theorem CWp.scope {c : Code} (hc : CWp P cx c a h Q) : CWp P cx (.scope c) a h Q := by
  intro μ base tmps defers rd w k cs p
  obtain ⟨e, a1, h1, μ1, t1, d1, w1, q, p1, x1, arr⟩ := hc μ base tmps defers rd w (.inScope c :: k) cs p
  cases e with
  | normal => exact ⟨.normal, a1, h1, μ1, t1, d1, w1, q, p1, x1, .head st_scope (Steps.trans arr (.one st_inScope))⟩
  | exit i => exact ⟨.exit i, a1, h1, μ1, t1, d1, w1, q, p1, x1, .of_steps (.one st_scope) (.pass (by simp) (fun _ _ => rfl) arr)⟩
  | ret => exact ⟨.ret, a1, h1, μ1, t1, d1, w1, q, p1, x1, .of_steps (.one st_scope) (.pass (by simp) (fun _ _ => rfl) arr)⟩
theorem Steps.tail {m m₁ m₂ : Machine} (h : Steps P m m₂) (h1 : step P m = .next m₁) (hne : m ≠ m₂) : Steps P m₁ m₂ := by
  obtain ⟨n, hn⟩ := h
  cases n with
  | zero => simp only [runN, Stepped.next.injEq] at hn; exact (hne hn).elim
  | succ n => simp only [runN, h1] at hn; exact ⟨n, hn⟩
theorem lone_ne {fr fr' : Frame} {cs cs' : List Frame} {w w' : World} (h : fr.todo ≠ fr'.todo) : lone fr cs w ≠ lone fr' cs' w' := fun e => by
  simp only [lone, Machine.mk.injEq] at e
  have := e.2.1
  simp at this
  exact h (by rw [this.1])
theorem Arr.of_loop {m : Machine} {fn : FuncId} {rd : RK} {tmps tmps' : Array Value} {defers defers' : List Deferred} {c : Code} {k : List Item} {cs : List Frame} {w w' : World} {e : AExit}
    (hs : Steps P m (lone (frame fn rd tmps defers (.code c :: .inLoop c :: k)) cs w)) (h : Arr P (lone (frame fn rd tmps defers (.code (.loop c) :: k)) cs w) fn rd k cs e tmps' defers' w') : Arr P m fn rd k cs e tmps' defers' w' := by
  cases e with
  | normal =>
    refine hs.trans (Steps.tail h st_loop (lone_ne fun e => ?_))
    have := congrArg List.length e
    simp [frame] at this
  | exit id =>
    obtain ⟨k0, h1, h2⟩ := h
    exact ⟨k0, h1, hs.trans (Steps.tail h2 st_loop (lone_ne fun e => by simp [frame] at e))⟩
  | ret =>
    obtain ⟨k0, h2⟩ := h
    exact ⟨k0, hs.trans (Steps.tail h2 st_loop (lone_ne fun e => by simp [frame] at e))⟩
theorem CWp.loop1 {c : Code} (hc : CWp P cx c a h fun e a' h' => match e with | .normal => CWp P cx (.loop c) a' h' Q | e => Q e a' h') : CWp P cx (.loop c) a h Q := by
  intro μ base tmps defers rd w k cs p
  obtain ⟨e, a1, h1, μ1, t1, d1, w1, q, p1, x1, arr⟩ := hc μ base tmps defers rd w (.inLoop c :: k) cs p
  cases e with
  | normal =>
    obtain ⟨e2, a2, h2, μ2, t2, d2, w2, q2, p2, x2, arr2⟩ := q μ1 base t1 d1 rd w1 k cs p1
    refine ⟨e2, a2, h2, μ2, t2, d2, w2, q2, p2, x1.trans x2, ?_⟩
    -- the loop's own first step and 'inLoop' come to the same
    have hs : Steps P (lone (frame cx.fn rd tmps defers (.code (.loop c) :: k)) cs w) (lone (frame cx.fn rd t1 d1 (.code c :: .inLoop c :: k)) cs w1) := .head st_loop (Steps.trans arr (.one st_inLoop))
    exact Arr.of_loop hs arr2
  | exit i => exact ⟨.exit i, a1, h1, μ1, t1, d1, w1, q, p1, x1, .of_steps (.one st_loop) (.pass (by simp) (fun _ _ => rfl) arr)⟩
  | ret => exact ⟨.ret, a1, h1, μ1, t1, d1, w1, q, p1, x1, .of_steps (.one st_loop) (.pass (by simp) (fun _ _ => rfl) arr)⟩
end rules
end Go.Ab
namespace Go.Ab
set_option linter.unusedSimpArgs false
set_option linter.unusedVariables false
noncomputable def Lands (P : Program) (μ : Emb) (h : AHeap) (w : World) (s : Sem Next) (c : Frame) (cs : List Frame) (K : Value → AHeap → Prop) : Prop :=
  ∃ nx w1 m v v' h' μ' w', s.run P w = .ok nx w1 ∧ pushed P c cs w1 nx = some m ∧ Steps P m (lone (c.finish v') cs w') ∧ K v h' ∧ Ext μ h w μ' h' w' ∧ VRel μ' h'.next v v'
noncomputable def OpWp (P : Program) (o : Oper) (ρ : Operand → Option Value) (h : AHeap) (K : Value → AHeap → Prop) : Prop :=
  ∀ (μ : Emb) (ρ' : Operand → Value) (w : World) (c : Frame) (cs : List Frame), OpRel μ h.next ρ ρ' → StRel μ h w → Lands P μ h w (execOp ρ' o) c cs K
noncomputable def VWp (P : Program) (fv : Value) (vs : List Value) (h : AHeap) (K : Value → AHeap → Prop) : Prop :=
  ∀ (μ : Emb) (fv' : Value) (vs' : Array Value) (w : World) (c : Frame) (cs : List Frame), VRel μ h.next fv fv' → LRel μ h.next vs vs'.toList → StRel μ h w →
    Lands P μ h w (do let d ← Deferred.ofValue fv' vs'; invoke d.target d.args) c cs K
noncomputable def FWp (P : Program) (f : FuncId) (args : List Value) (h : AHeap) (K : Value → AHeap → Prop) : Prop :=
  ∀ (μ : Emb) (args' : Array Value) (w : World), LRel μ h.next args args'.toList → StRel μ h w →
    Calls P f args' w fun e w' => ∃ v v' h' μ', e = .returned v' ∧ K v h' ∧ Ext μ h w μ' h' w' ∧ VRel μ' h'.next v v'
section rules
variable {P : Program} {T : Tr TI} {cx : Cx} {a : Tr Value} {h : AHeap}
theorem VWp.mono {fv : Value} {vs : List Value} {K K' : Value → AHeap → Prop} (hv : VWp P fv vs h K) (hk : ∀ v h, K v h → K' v h) : VWp P fv vs h K' :=
  fun μ fv' vs' w c cs h1 h2 h3 => let ⟨nx, w1, m, v, v', h', μ', w', a, b, d, e, f⟩ := hv μ fv' vs' w c cs h1 h2 h3; ⟨nx, w1, m, v, v', h', μ', w', a, b, d, hk _ _ e, f⟩
theorem FWp.mono {f : FuncId} {args : List Value} {K K' : Value → AHeap → Prop} (hv : FWp P f args h K) (hk : ∀ v h, K v h → K' v h) : FWp P f args h K' :=
  fun μ args' w h1 h2 => (hv μ args' w h1 h2).mono fun _ _ ⟨v, v', h', μ', a, b, c⟩ => ⟨v, v', h', μ', a, hk _ _ b, c⟩
theorem OpWp.mono {o : Oper} {ρ : Operand → Option Value} {K K' : Value → AHeap → Prop} (hv : OpWp P o ρ h K) (hk : ∀ v h, K v h → K' v h) : OpWp P o ρ h K' :=
  fun μ ρ' w c cs h1 h2 => let ⟨nx, w1, m, v, v', h', μ', w', a, b, d, e, f⟩ := hv μ ρ' w c cs h1 h2; ⟨nx, w1, m, v, v', h', μ', w', a, b, d, hk _ _ e, f⟩
theorem Lands.value {μ : Emb} {w : World} {s : Sem Value} {v : Value} {h' : AHeap} {K : Value → AHeap → Prop} {c : Frame} {cs : List Frame} (hg : GoodV P μ h w s v h') (hk : K v h') :
    Lands P μ h w (do pure (.value (← s))) c cs K := by
  obtain ⟨v', w', μ', h1, h2, h3⟩ := hg
  exact ⟨.value v', w', _, v, v', h', μ', w', by simp only [Sem.run_bind, h1, Result.andThen_ok, Sem.run_pure], rfl, .refl _ _, hk, h2, h3⟩
theorem Lands.unit {μ : Emb} {w : World} {s : Sem Unit} {h' : AHeap} {K : Value → AHeap → Prop} {c : Frame} {cs : List Frame} (hg : GoodU P μ h w s h') (hk : K (.tuple #[]) h') :
    Lands P μ h w (do s; pure .skip) c cs K := by
  obtain ⟨w', μ', h1, h2⟩ := hg
  exact ⟨.skip, w', _, .tuple #[], undef, h', μ', w', by simp only [Sem.run_bind, h1, Result.andThen_ok, Sem.run_pure], rfl, .refl _ _, hk, h2, .tuple .nil⟩
theorem GoodV.of_same {μ : Emb} {w : World} {s : Sem Value} {v : Value} (st : StRel μ h w) (hg : ∃ v', s.run P w = .ok v' w ∧ VRel μ h.next v v') : GoodV P μ h w s v h :=
  let ⟨v', h1, h2⟩ := hg; ⟨v', w, μ, h1, Ext.refl st, h2⟩
theorem OWp.nil {ops : Array Oper} {Q : Tr Value → AHeap → Prop} (hq : Q a h) : OWp P cx ops [] a h Q :=
  fun μ _ tmps _ _ w _ _ p => ⟨a, h, μ, tmps, w, hq, p, Ext.refl p.st, .one st_region_end⟩
theorem OWp.skip {ops : Array Oper} {Q : Tr Value → AHeap → Prop} {i : Nat} {rest : List Nat} {o : Oper} {a' : Tr Value} (ho : ops[i]? = some o) (hg : aguard ops a o = some false) (hp : aput cx.nt a o.dst (.tuple #[]) = some a')
    (hr : OWp P cx ops rest a' h Q) : OWp P cx ops (i :: rest) a h Q := by
  intro μ base tmps defers rd w k cs p
  have hw := aguard_wanted p.act hg
  obtain ⟨r1, r2⟩ := p.act.put p.size (v := .tuple #[]) (v' := undef) (.tuple .nil) hp
  obtain ⟨a2, h2, μ2, t2, w2, q, p2, x2, s2⟩ := hr μ base _ defers rd w k cs ⟨r1, r2, p.rdr, p.dok, p.dno, p.dge, p.bsz, p.st⟩
  refine ⟨a2, h2, μ2, t2, w2, q, p2, x2, .head ?_ s2⟩
  have := st_op_skip (P := P) (fn := cx.fn) (rd := rd) (tmps := tmps) (defers := defers) (k := k) (cs := cs) (w := w) (ops := ops) (i := i) (rest := rest) (by simp [ho, hw])
  rw [this, ho]; rfl
theorem OWp.op {ops : Array Oper} {Q : Tr Value → AHeap → Prop} {i : Nat} {rest : List Nat} {o : Oper} (ho : ops[i]? = some o) (hg : aguard ops a o = some true) (hd : isDefer o.op = false)
    (hop : OpWp P o (aopnd a) h fun v h' => ∃ a', aput cx.nt a o.dst v = some a' ∧ OWp P cx ops rest a' h' Q) : OWp P cx ops (i :: rest) a h Q := by
  intro μ base tmps defers rd w k cs p
  have hw := aguard_wanted p.act hg
  obtain ⟨nx, w1, m, v, v', h', μ', w', e1, e2, e3, ⟨a', e4, e5⟩, e6, e7⟩ := hop μ (opnd tmps) w (frame cx.fn rd tmps defers (.inRegion ops (i :: rest) :: k)) cs p.act.opnd p.st
  have p' := p.ext e6
  obtain ⟨r1, r2⟩ := p'.act.put p'.size e7 e4
  obtain ⟨a2, h2, μ2, t2, w2, q, p2, x2, s2⟩ := e5 μ' base _ defers rd w' k cs ⟨r1, r2, p'.rdr, p'.dok, p'.dno, p'.dge, p'.bsz, p'.st⟩
  refine ⟨a2, h2, μ2, t2, w2, q, p2, e6.trans x2, .head (st_op_push ho hw hd e1 e2) (e3.trans ?_)⟩
  rw [finish_region, ho]
  exact s2
theorem CWp.region {id : Nat} {ops : Array Oper} {Q : AExit → Tr Value → AHeap → Prop} (hr : OWp P cx ops (List.range ops.size) a h fun a' h' => Q .normal a' h') : CWp P cx (.region id ops false) a h Q := by
  intro μ base tmps defers rd w k cs p
  obtain ⟨a2, h2, μ2, t2, w2, q, p2, x2, s2⟩ := hr μ base tmps defers rd w k cs p
  exact ⟨.normal, a2, h2, μ2, t2, defers, w2, q, p2, x2, .head st_region s2⟩
theorem Calls.lands {f : FuncId} {args : Array Value} {w : World} {R : Value → World → Prop} (hc : Calls P f args w fun e w' => ∃ v', e = .returned v' ∧ R v' w') (c : Frame) (cs : List Frame) :
    ∃ v' w', R v' w' ∧ Steps P (lone (Frame.enter P f args .normal) (c :: cs) w) (lone (c.finish v') cs w') := by
  obtain ⟨e, w', fr, ⟨v', rfl, hR⟩, hcomes, _, hleave⟩ := hc (c :: cs)
  exact ⟨v', w', hR, Steps.trans hcomes (.one (step_leave_returned hleave))⟩
structure Entered (P : Program) (f : FuncId) (fn : Func) : Prop where
  look : P.funcs[f]? = some fn
  nm : (fn.name == "runtime.NumGoroutine") = false
  bd : fn.body.isNone = false
theorem Entered.run {f : FuncId} {fn : Func} (he : Entered P f fn) (args : Array Value) (w : World) : (callFunc f args).run P w = .ok (.enter f args) w := by
  simp only [callFunc, Sem.run_bind, run_program, Result.andThen_ok, he.look, he.nm, Bool.false_eq_true, if_false, he.bd, Sem.run_pure]
theorem VWp.func {f : FuncId} {fn : Func} {first cap : Array Value} {vs : List Value} {K : Value → AHeap → Prop} (he : Entered P f fn) (hf : FWp P f (first.toList ++ vs ++ cap.toList) h K) :
    VWp P (.func (.func f) first cap) vs h K := by
  intro μ fv' vs' w c cs h1 h2 h3
  cases h1 with
  | func hy ha hc =>
    rename_i a' c'
    have hl : LRel μ h.next (first.toList ++ vs ++ cap.toList) (a' ++ vs' ++ c').toList := by
      simp only [Array.toList_append]
      exact (ha.append h2).append hc
    obtain ⟨v', w', ⟨v, h', μ', b1, b2, b3⟩, b4⟩ := Calls.lands (P := P) (R := fun v' w' => ∃ v h' μ', K v h' ∧ Ext μ h w μ' h' w' ∧ VRel μ' h'.next v v')
      ((hf μ _ w hl h3).mono fun _ _ ⟨v, v', h', μ', a, b, c⟩ => ⟨v', a, v, h', μ', b, c⟩) c cs
    refine ⟨.enter f (a' ++ vs' ++ c'), w, _, v, v', h', μ', w', ?_, rfl, b4, b1, b2, b3⟩
    simp only [Sem.run_bind, Deferred.ofValue, Sem.run_pure, Result.andThen_ok, invoke, he.run]
noncomputable def aopnds (ρ : Operand → Option Value) : List Operand → Option (List Value)
  | [] => some []
  | x :: xs => match ρ x, aopnds ρ xs with
    | some v, some l => some (v :: l)
    | _, _ => none
theorem aopnds_rel {μ : Emb} {n : Nat} {ρ : Operand → Option Value} {ρ' : Operand → Value} (hρ : OpRel μ n ρ ρ') : ∀ {xs : List Operand} {vs : List Value}, aopnds ρ xs = some vs → LRel μ n vs (xs.map ρ')
  | [], vs, h => by simp only [aopnds, Option.some.injEq] at h; subst h; exact .nil
  | x :: xs, vs, h => by
    simp only [aopnds] at h
    split at h
    · rename_i v l h1 h2; cases h; exact .cons (hρ x v h1) (aopnds_rel hρ h2)
    · cases h
theorem OpWp.call {dst : Option Tmp} {f : Operand} {xs : Array Operand} {ats : Array TypeId} {ty : TypeId} {pos : String} {after : Array Edge} {guard : Option (Nat × Bool)} {ρ : Operand → Option Value} {fv : Value} {vs : List Value} {K : Value → AHeap → Prop}
    (hf : ρ f = some fv) (hx : aopnds ρ xs.toList = some vs) (hv : VWp P fv vs h K) : OpWp P ⟨dst, .call ⟨.value f, xs, ats⟩, ty, pos, after, guard⟩ ρ h K := by
  intro μ ρ' w c cs hρ st
  have := hv μ (ρ' f) (xs.map ρ') w c cs (hρ f fv hf) (by rw [Array.toList_map]; exact aopnds_rel hρ hx) st
  simpa only [execOp, resolve] using this
noncomputable def aResult (T : Tr TI) (a : Tr Value) (h : AHeap) : ResultVar → Option Value
  | .tmp t => a.get t
  | .cell x t => match a.get x with
    | some v => aLoad T t v h
    | none => none
noncomputable def aResults (T : Tr TI) (a : Tr Value) (h : AHeap) : List ResultVar → Option (List Value)
  | [] => some []
  | x :: xs => match aResult T a h x, aResults T a h xs with
    | some v, some l => some (v :: l)
    | _, _ => none
noncomputable def aRet (T : Tr TI) (fn : Func) (a : Tr Value) (h : AHeap) : Option Value :=
  match aResults T a h fn.results.toList with
  | some [v] => some v
  | some l => some (.tuple l.toArray)
  | none => none
theorem results_good (ok : TyOK P T) {μ : Emb} {w : World} (st : StRel μ h w) {tmps : Array Value} (ha : ActRel μ h.next a tmps) {g : ResultVar → Sem Value} (hg1 : ∀ t, g (.tmp t) = pure (tmps.getD t undef))
    (hg2 : ∀ x t, g (.cell x t) = (do loadVar t (← asAddr (tmps.getD x undef)))) : ∀ {xs : List ResultVar} {l : List Value}, aResults T a h xs = some l → ∃ l', (xs.mapM g).run P w = .ok l' w ∧ LRel μ h.next l l'
  | [], l, hl => by simp only [aResults, Option.some.injEq] at hl; subst hl; exact ⟨[], rfl, .nil⟩
  | x :: xs, l, hl => by
    simp only [aResults] at hl
    split at hl
    · rename_i v l0 h1 h2
      cases hl
      obtain ⟨l', e1, e2⟩ := results_good ok st ha hg1 hg2 h2
      have hx : ∃ v', (g x).run P w = .ok v' w ∧ VRel μ h.next v v' := by
        cases x with
        | tmp t =>
          obtain ⟨v', g1, g2⟩ := ha t v h1
          exact ⟨v', by rw [hg1]; simp [Array.getD_eq_getD_getElem?, g1], g2⟩
        | cell x t =>
          simp only [aResult] at h1
          split at h1
          · rename_i u hu
            obtain ⟨u', g1, g2⟩ := ha x u hu
            obtain ⟨v', g3, g4⟩ := load_good ok st g2 h1
            refine ⟨v', ?_, g4⟩
            have hgd : tmps.getD x undef = u' := by simp [Array.getD_eq_getD_getElem?, g1]
            rw [hg2, hgd]
            unfold aLoad at h1
            split at h1
            · cases g2
              simpa only [Instr.loadAt, Instr.sureAddr, asAddr] using g3
            · cases h1
          · cases h1
      obtain ⟨v', f1, f2⟩ := hx
      refine ⟨v' :: l', ?_, .cons f2 e2⟩
      rw [List.mapM_cons]
      simp only [Sem.run_bind, f1, Result.andThen_ok, e1, Sem.run_pure]
    · cases hl
theorem ret_good (ok : TyOK P T) {μ : Emb} {w : World} (st : StRel μ h w) {tmps : Array Value} (ha : ActRel μ h.next a tmps) {fn : Func} {v : Value} (hr : aRet T fn a h = some v) :
    ∃ v', (results fn tmps).run P w = .ok v' w ∧ VRel μ h.next v v' := by
  unfold aRet at hr
  have key : ∀ l, aResults T a h fn.results.toList = some l → ∃ l', LRel μ h.next l l' ∧ (results fn tmps).run P w = .ok (if hs : l'.toArray.size = 1 then l'.toArray[0] else .tuple l'.toArray) w := by
    intro l hl
    obtain ⟨g, hg0, hg1, hg2⟩ : ∃ g : ResultVar → Sem Value, results fn tmps = (do let vs ← fn.results.mapM g; pure (if h : vs.size = 1 then vs[0] else .tuple vs)) ∧ (∀ t, g (.tmp t) = pure (tmps.getD t undef)) ∧
        (∀ x t, g (.cell x t) = (do loadVar t (← asAddr (tmps.getD x undef)))) := ⟨_, rfl, fun _ => rfl, fun _ _ => rfl⟩
    obtain ⟨l', e1, e2⟩ := results_good ok st ha hg1 hg2 hl
    refine ⟨l', e2, ?_⟩
    rw [hg0, Array.mapM_eq_mapM_toList]
    simp only [Sem.run_bind, Sem.run_map, e1, Result.andThen_ok, Sem.run_pure]
  split at hr
  · rename_i v0 hl
    cases hr
    obtain ⟨l', e1, e2⟩ := key _ hl
    cases e1 with
    | cons h1 h2 => cases h2; exact ⟨_, e2, h1⟩
  · rename_i l hne hl
    cases hr
    obtain ⟨l', e1, e2⟩ := key _ hl
    have hlen := e1.length
    refine ⟨.tuple l'.toArray, ?_, .tuple (by simpa using e1)⟩
    rw [e2, dif_neg]
    intro h1
    simp only [List.size_toArray] at h1
    match l, hne, hlen with
    | [x], hne, _ => exact hne x rfl
    | [], _, hlen => simp at hlen; omega
    | _ :: _ :: _, _, hlen => simp at hlen; omega
  · cases hr
noncomputable def entry : List Value → Nat → Tr Value → Tr Value
  | [], _, t => t
  | v :: vs, i, t => entry vs (i + 1) (t.put i (some v))
theorem entry_get : ∀ (vs : List Value) (i : Nat) (t : Tr Value) (j : Nat), (entry vs i t).get j = if i ≤ j ∧ j < i + vs.length then vs[j - i]? else t.get j
  | [], i, t, j => by rw [if_neg (by simp)]; rfl
  | v :: vs, i, t, j => by
    rw [entry, entry_get vs (i + 1), Tr.get_put, List.length_cons]
    by_cases hj : i = j
    · subst hj; rw [if_neg (by omega), if_pos rfl, if_pos (by omega)]; simp
    · rw [if_neg hj]
      by_cases hc : i + 1 ≤ j ∧ j < i + 1 + vs.length
      · rw [if_pos hc, if_pos (by omega), show j - i = (j - (i + 1)) + 1 by omega, List.getElem?_cons_succ]
      · rw [if_neg hc, if_neg (by omega)]
theorem take_marks {D : List Deferred} {μ : Emb} {fn : FuncId} {rd : RK} {tmps : Array Value} {todo : List Item} {cs : List Frame} : ∀ {defers : List Deferred} {w : World}, StRel μ h w → DOk D μ h w defers →
    ∃ w', Steps P (lone { frame fn rd tmps defers todo with mode := .returning } cs w) (lone { frame fn rd tmps D todo with mode := .returning } cs w') ∧ StRel μ h w' ∧ w'.heap.size = w.heap.size ∧ w'.os = w.os ∧ w'.output = w.output ∧
      ∀ b, ((∀ d ∈ defers, ∀ q, d.target = .collected q → q ≠ b) ∨ ∃ d ∈ D, d.target = .collected b) → w'.heap[b]? = w.heap[b]?
  | _, w, st, .nil _ => ⟨w, .refl _ _, st, rfl, rfl, rfl, fun _ _ => rfl⟩
  | _, w, st, .cons (r := r) (l := l) hr ho hne t => by
    have hlt := lt_of_heap hr
    have hrun : (Instr.takeDeferred r).run P w = .ok [] { w with heap := w.heap.setIfInBounds r (.deferred none) } := by
      simp only [Instr.takeDeferred, Sem.run_bind, run_getObj hr (fun _ _ _ => by simp), Result.andThen_ok, run_setObj hr (fun _ _ _ => by simp), Sem.run_pure]
    have hstep : step P (lone { frame fn rd tmps ({ target := .collected r, args := #[] } :: l) todo with mode := .returning } cs w) =
        .next (lone { frame fn rd tmps l todo with mode := .returning } cs { w with heap := w.heap.setIfInBounds r (.deferred none) }) :=
      step_lone_go (by simp [stepG, unwind, frame, hrun])
    have st' : StRel μ h { w with heap := w.heap.setIfInBounds r (.deferred none) } := by
      refine ⟨fun q o hq => ?_, st.apart⟩
      obtain ⟨h1, e, c, h2, h3, h4⟩ := st.live q o hq
      refine ⟨h1, e, c, h2, ?_, h4⟩
      have hne2 : r ≠ e.b := by
        intro he
        cases hown : o.own
        · cases o <;> simp only [AObj.own] at hown <;> first | (cases hown; done) | skip
          obtain ⟨cs', t', fz, rfl, _⟩ := h4
          rw [← he, hr] at h3; cases h3
        · exact ho q o e hq hown h2 he.symm
      simp only [Array.getElem?_setIfInBounds_ne hne2, h3]
    have dok' : DOk D μ h { w with heap := w.heap.setIfInBounds r (.deferred none) } l := by
      have : ∀ {l' : List Deferred}, DOk D μ h w l' → (∀ d ∈ l', ∀ q, d.target = .collected q → q ≠ r) → DOk D μ h { w with heap := w.heap.setIfInBounds r (.deferred none) } l' := by
        intro l' hd
        induction hd with
        | nil hD => intro _; exact .nil (by simpa using hD)
        | cons hr2 ho2 hne2 t2 ih =>
          intro hn
          refine .cons ?_ ho2 hne2 (ih fun d hd => hn d (List.mem_cons_of_mem _ hd))
          have : r ≠ _ := fun e => hn _ List.mem_cons_self _ rfl e.symm
          simp only [Array.getElem?_setIfInBounds_ne this, hr2]
      exact this t hne
    obtain ⟨w', g1, g2, g3, g4, g5, g6⟩ := take_marks (fn := fn) (rd := rd) (tmps := tmps) (todo := todo) (cs := cs) st' dok'
    refine ⟨w', .head hstep g1, g2, by simpa using g3, g4, g5, fun b hb => ?_⟩
    rw [g6 b (hb.imp (fun hb d hd => hb d (List.mem_cons_of_mem _ hd)) id)]
    have : r ≠ b := hb.elim (fun hb => hb _ List.mem_cons_self _ rfl) fun ⟨d, hd, e⟩ => (hne d (t.sub d hd) b e).symm
    simp only [Array.getElem?_setIfInBounds_ne this]
theorem FWp.code (ok : TyOK P T) {f : FuncId} {fn : Func} {c : Code} {args : List Value} {K : Value → AHeap → Prop} (hf : P.funcs[f]? = some fn) (hb : fn.body = some c) (hn : args.length ≤ fn.ntmps)
    (hc : CWp P ⟨f, fn.ntmps, none⟩ c (entry args 0 .leaf) h fun e a' h' => match e with | .exit _ => False | _ => ∃ v, aRet T fn a' h' = some v ∧ K v h') : FWp P f args h K := by
  intro μ args' w hl st cs
  have hlen := hl.length
  simp only [Array.length_toList] at hlen
  have hact : ActRel μ h.next (entry args 0 .leaf) (args' ++ Array.replicate (fn.ntmps - args'.size) undef) := by
    intro t v hv
    rw [entry_get] at hv
    split at hv
    · rename_i hc
      obtain ⟨v', h1, h2⟩ := hl.getElem? _ hv
      rw [Nat.sub_zero, Array.getElem?_toList] at h1
      have hlt := (Array.getElem?_eq_some_iff.1 h1).1
      exact ⟨v', by rw [Array.getElem?_append_left hlt]; exact h1, h2⟩
    · rw [Tr.get_leaf] at hv; cases hv
  have hsz : (args' ++ Array.replicate (fn.ntmps - args'.size) undef).size = fn.ntmps := by simp; omega
  obtain ⟨e, a', h', μ', t', d', w', q, p', x', arr⟩ := hc μ ⟨w.heap.size, []⟩ _ [] ⟨none, false⟩ w [] cs ⟨hact, hsz, trivial, .nil (fun _ hd => by cases hd), fun _ => rfl, fun d hd => (by cases hd), Nat.le_refl _, st⟩
  have henter : Frame.enter P f args' .normal = frame f ⟨none, false⟩ (args' ++ Array.replicate (fn.ntmps - args'.size) undef) [] [.code c] := by simp [Frame.enter, frame, RK.kind, hf, hb]
  have fin : ∀ todo v, aRet T fn a' h' = some v → K v h' → Steps P (lone (Frame.enter P f args' .normal) cs w) (lone { frame f ⟨none, false⟩ t' d' todo with mode := .returning } cs w') →
      ∃ e w'' fr, (∃ v v' h' μ', e = Ending.returned v' ∧ K v h' ∧ Ext μ h w μ' h' w'' ∧ VRel μ' h'.next v v') ∧ Comes P (lone (Frame.enter P f args' .normal) cs w) (lone fr cs w'') e ∧ fr.fn = f ∧ fr.leaving P w'' e := by
    intro todo v hr hk hs
    obtain ⟨w2, g1, g2, g3, g4, g5, g6⟩ := take_marks (P := P) (fn := f) (rd := ⟨none, false⟩) (tmps := t') (todo := todo) (cs := cs) p'.st p'.dok
    obtain ⟨v', r1, r2⟩ := ret_good ok g2 p'.act hr
    refine ⟨.returned v', w2, { frame f ⟨none, false⟩ t' [] todo with mode := .returning }, ⟨v, v', h', μ', rfl, hk, ?_, r2⟩, Steps.trans hs g1, rfl, rfl, rfl, rfl, fn, hf, r1⟩
    refine ⟨x'.next, x'.agree, by have := x'.size; omega, g4.trans x'.os, g5.trans x'.output, fun b hb hfr => ?_, x'.free, g2⟩
    obtain ⟨y1, y2⟩ := x'.frame b hb hfr
    refine ⟨(g6 b (.inl fun d hd q hq => ?_)).trans y1, y2⟩
    have : w.heap.size ≤ q := p'.dge d hd q hq
    omega
  rw [henter] at fin ⊢
  cases e with
  | exit id => exact q.elim
  | normal =>
    obtain ⟨v, q1, q2⟩ := q
    refine fin [] v q1 q2 (Steps.trans arr (.one ?_))
    exact step_lone_go (by simp [stepG, stepG.exec, frame])
  | ret =>
    obtain ⟨v, q1, q2⟩ := q
    obtain ⟨k0, hs⟩ := arr
    refine fin (.code .ret :: k0) v q1 q2 (Steps.trans hs (.one ?_))
    exact step_lone_go (by simp [stepG, stepG.exec, frame])
end rules
end Go.Ab
namespace Go.Ab
set_option linter.unusedSimpArgs false
set_option linter.unusedVariables false
section rules
variable {P : Program} {T : Tr TI} {cx : Cx} {a : Tr Value} {h : AHeap}
noncomputable def ALoop.with (l : ALoop) (s : LoopState) (p : Option Code) : ALoop := { l with state := s, pending := p }
theorem StRel.getLoop {μ : Emb} {w : World} (st : StRel μ h w) {l : Nat} {lp : ALoop} (hg : h.get l = some (.loop lp)) {e : Ent} (hm : μ l = some e) :
    ∃ r, w.heap[e.b]? = some (.loop r) ∧ e.d = 0 ∧ r.state = lp.state ∧ r.pending = lp.pending ∧ r.fn = lp.fn ∧ r.tmps.size = lp.nt ∧ ActRel μ h.next lp.tmps r.tmps ∧ r.params = lp.params ∧ r.assign = lp.assign ∧ r.body = lp.body := by
  obtain ⟨_, e', c, h2, h3, h4, r, rfl, h5⟩ := st.live l _ hg
  rw [hm] at h2; cases h2
  exact ⟨r, h3, h4, h5⟩
theorem run_getLoop {w : World} {b : Nat} {r : Loop} (hr : w.heap[b]? = some (.loop r)) : (Instr.getLoop b).run P w = .ok r w := by
  simp only [Instr.getLoop, Sem.run_bind, run_getObj hr (fun _ _ _ => by simp), Result.andThen_ok, Sem.run_pure]
theorem run_setLoop {w : World} {b : Nat} {r : Loop} (hr : w.heap[b]? = some (.loop r)) (o : Obj) : (Go.setObj b o).run P w = .ok () { w with heap := w.heap.setIfInBounds b o } :=
  run_setObj hr (fun _ _ _ => by simp)
theorem StRel.setLoop {μ : Emb} {w : World} (st : StRel μ h w) {l : Nat} {lp : ALoop} (hg : h.get l = some (.loop lp)) {e : Ent} (hm : μ l = some e) {r : Loop} (hr : w.heap[e.b]? = some (.loop r)) (s : LoopState) (p : Option Code) :
    Ext μ h w μ (h.set l (.loop (lp.with s p))) { w with heap := w.heap.setIfInBounds e.b (.loop { r with state := s, pending := p }) } := by
  obtain ⟨r', h3, h4, h5, h6, h7, h8, h9, h10, h11, h12⟩ := st.getLoop hg hm
  rw [hr] at h3; cases h3
  exact st.setObj hg rfl hm ⟨h4, _, rfl, rfl, rfl, h7, h8, h9, h10, h11, h12⟩
noncomputable def bindParams (nt : Nat) : List Tmp → List Value → Tr Value → Option (Tr Value)
  | [], [], a => some a
  | t :: ts, v :: vs, a => bif Nat.ble (t + 1) nt then bindParams nt ts vs (a.put t (some v)) else none
  | _, _, _ => none
theorem bindParams_rel {μ : Emb} {n nt : Nat} : ∀ {ts : List Tmp} {vs vs' : List Value} {a a' : Tr Value} {tmps : Array Value}, LRel μ n vs vs' → ActRel μ n a tmps → tmps.size = nt → bindParams nt ts vs a = some a' →
    ActRel μ n a' ((ts.zip vs').foldl (fun tmps (x : Tmp × Value) => tmps.setIfInBounds x.1 x.2) tmps) ∧ ((ts.zip vs').foldl (fun tmps (x : Tmp × Value) => tmps.setIfInBounds x.1 x.2) tmps).size = nt ∧ ts.length = vs'.length
  | [], _, _, a, a', tmps, .nil, ha, hs, hb => by simp only [bindParams, Option.some.injEq] at hb; subst hb; exact ⟨ha, hs, rfl⟩
  | [], _, _, a, a', tmps, .cons _ _, ha, hs, hb => by cases hb
  | t :: ts, _, _, a, a', tmps, .nil, ha, hs, hb => by cases hb
  | t :: ts, _, _, a, a', tmps, .cons (v := v) (v' := v') hv hl, ha, hs, hb => by
    simp only [bindParams] at hb
    cases hlt : Nat.ble (t + 1) nt
    · rw [hlt, cond_false] at hb; cases hb
    · rw [hlt, cond_true] at hb
      obtain ⟨r1, r2⟩ := ha.put hs (dst := some t) hv (a' := a.put t (some v)) (by simp only [aput, hlt, cond_true])
      obtain ⟨i1, i2, i3⟩ := bindParams_rel hl r1 r2 hb
      exact ⟨i1, i2, by simp [i3]⟩
noncomputable def roundEnd (lp : ALoop) (e : AExit) : ALoop × Bool :=
  match e with
  | .normal => (lp.with .ready none, true)
  | .exit id => (lp.with .done (some (.exit id)), false)
  | .ret => (lp.with .done (some .ret), false)
theorem VWp.yield {l : Nat} {lp : ALoop} {vs : List Value} {a0 : Tr Value} {K : Value → AHeap → Prop} (hg : h.get l = some (.loop lp)) (hp : bindParams lp.nt lp.params.toList vs lp.tmps = some a0)
    (hc : CWp P ⟨lp.fn, lp.nt, some l⟩ lp.assign a0 h fun e a1 h1 => e = .normal ∧ ∃ lp1, h1.get l = some (.loop lp1) ∧ lp1.state = .ready ∧ CWp P ⟨lp.fn, lp.nt, some l⟩ lp.body a1 (h1.set l (.loop (lp1.with .busy lp1.pending)))
      fun e a2 h2 => ∃ lp2, h2.get l = some (.loop lp2) ∧ K (.bool (roundEnd lp2 e).2) (h2.set l (.loop (roundEnd lp2 e).1))) : VWp P (.func (.yield l) #[] #[]) vs h K := by
  intro μ fv' vs' w c cs hf hv st
  cases hf with
  | func hy _ _ => exact (hy l rfl).elim
  | yield hlt hm =>
    rename_i e0
    obtain ⟨r, g1, g2, g3, g4, g5, g6, g7, g8, g9, g10⟩ := st.getLoop hg hm
    obtain ⟨b1, b2, b3⟩ := bindParams_rel hv g7 g6 hp
    obtain ⟨tm, htm⟩ : ∃ tm, (r.params.zip vs').foldl (fun tmps (x : Tmp × Value) => tmps.setIfInBounds x.1 x.2) r.tmps = tm := ⟨_, rfl⟩
    have htm2 : (lp.params.toList.zip vs'.toList).foldl (fun tmps (x : Tmp × Value) => tmps.setIfInBounds x.1 x.2) r.tmps = tm := by
      rw [← htm, ← Array.foldl_toList, Array.toList_zip, g8]
    rw [htm2] at b1 b2
    have hrun : (do let d ← Deferred.ofValue (.func (.yield e0.b) #[] #[]) vs'; invoke d.target d.args : Sem Next).run P w = .ok (.round e0.b lp.fn tm lp.assign lp.body) w := by
      have hps : ¬ vs'.size ≠ r.params.size := by
        rw [g8]; simp only [Array.length_toList] at b3; simp; omega
      simp only [Sem.run_bind, Deferred.ofValue, Sem.run_pure, Result.andThen_ok, invoke, Instr.yield, run_getLoop g1, Array.empty_append]
      rw [if_neg hps]
      simp only [Sem.run_pure, Result.ok.injEq, Next.round.injEq, and_true, true_and]
      exact ⟨g5, htm, g9, g10⟩
    -- the assignment
    obtain ⟨e1, a1, h1, μ1, t1, d1, w1, ⟨rfl, lp1, q1, q2, q3⟩, p1, x1, arr1⟩ := hc μ ⟨w.heap.size, []⟩ tm [] ⟨some e0.b, false⟩ w [.beginRound, .code lp.body] (c :: cs)
      ⟨b1, b2, ⟨hlt, e0, hm, rfl⟩, .nil (fun _ hd => by cases hd), fun _ => rfl, fun d hd => (by cases hd), Nat.le_refl _, st⟩
    have hd1 : d1 = [] := p1.dno (by simp)
    subst hd1
    -- the round begins
    have hm1 : μ1 l = some e0 := (x1.agree l hlt).trans hm
    obtain ⟨r1, k1, k2, k3, k4, k5, k6, k7, k8, k9, k10⟩ := p1.st.getLoop q1 hm1
    have xb := p1.st.setLoop q1 hm1 k1 .busy lp1.pending
    have hbegin : step P (lone (frame lp.fn ⟨some e0.b, false⟩ t1 [] [.beginRound, .code lp.body]) (c :: cs) w1) =
        .next (lone (frame lp.fn ⟨some e0.b, false⟩ t1 [] [.code lp.body]) (c :: cs) { w1 with heap := w1.heap.setIfInBounds e0.b (.loop { r1 with state := .busy, pending := lp1.pending }) }) := by
      refine step_lone_go ?_
      have hb : (Instr.beginRound e0.b).run P w1 = .ok () { w1 with heap := w1.heap.setIfInBounds e0.b (.loop { r1 with state := .busy, pending := lp1.pending }) } := by
        have hst : r1.state = .ready := k3.trans q2
        have hpd : ({ r1 with state := .busy, pending := lp1.pending } : Loop) = { r1 with state := .busy } := by rw [← k4]
        rw [hpd]
        simp only [Instr.beginRound, Sem.run_bind, run_getLoop k1, Result.andThen_ok, run_setLoop k1, hst, Sem.run_pure]
      simp [stepG, stepG.exec, frame, stepG.apply, hb, Frame.finish]
    have pb := p1.ext xb
    obtain ⟨e2, a2, h2, μ2, t2, d2, w2, ⟨lp2, q4, q5⟩, p2, x2, arr2⟩ := q3 μ1 ⟨w.heap.size, []⟩ t1 [] ⟨some e0.b, false⟩ _ [] (c :: cs) pb
    have hd2 : d2 = [] := p2.dno (by simp)
    subst hd2
    have hl1 : l < (h1.set l (.loop (lp1.with .busy lp1.pending))).next := by have := x1.next; simp; omega
    have hm2 : μ2 l = some e0 := (x2.agree l hl1).trans hm1
    obtain ⟨r2, m1, m2, m3, m4, m5, m6, m7, m8, m9, m10⟩ := p2.st.getLoop q4 hm2
    have hs0 : Steps P (lone (Frame.round e0.b lp.fn tm lp.assign lp.body .normal) (c :: cs) w) (lone (frame lp.fn ⟨some e0.b, false⟩ t1 [] [.code lp.body]) (c :: cs) { w1 with heap := w1.heap.setIfInBounds e0.b (.loop { r1 with state := .busy, pending := lp1.pending }) }) :=
      Steps.trans arr1 (.one hbegin)
    have hend : ∀ jump, (Instr.endRound e0.b jump).run P w2 = .ok (.bool jump.isNone) { w2 with heap := w2.heap.setIfInBounds e0.b (.loop { r2 with state := if jump.isNone then .ready else .done, pending := jump }) } := by
      intro jump
      simp only [Instr.endRound, Sem.run_bind, run_getLoop m1, Result.andThen_ok, run_setLoop m1, Sem.run_pure]
    cases e2 with
    | normal =>
      refine ⟨.round e0.b lp.fn tm lp.assign lp.body, w, _, .bool true, .bool true, h2.set l (.loop (lp2.with .ready none)), μ2, _, hrun, rfl, ?_, q5, (x1.trans (xb.trans x2)).trans (p2.st.setLoop q4 hm2 m1 .ready none), .bool _⟩
      refine hs0.trans (Steps.trans arr2 (.one (step_lone_go ?_)))
      have := hend none
      simp [stepG, stepG.exec, frame, RK.kind, this, doReturn]
    | exit id =>
      refine ⟨.round e0.b lp.fn tm lp.assign lp.body, w, _, .bool false, .bool false, h2.set l (.loop (lp2.with .done (some (.exit id)))), μ2, _, hrun, rfl, ?_, q5, (x1.trans (xb.trans x2)).trans (p2.st.setLoop q4 hm2 m1 .done (some (.exit id))), .bool _⟩
      obtain ⟨k0, y1, y2⟩ := arr2
      have y3 : exitTo id k0 = none := y1.trans rfl
      refine hs0.trans (y2.trans (.one (step_lone_go ?_)))
      have := hend (some (.exit id))
      simp [stepG, stepG.exec, frame, RK.kind, this, doReturn, y3]
    | ret =>
      refine ⟨.round e0.b lp.fn tm lp.assign lp.body, w, _, .bool false, .bool false, h2.set l (.loop (lp2.with .done (some .ret))), μ2, _, hrun, rfl, ?_, q5, (x1.trans (xb.trans x2)).trans (p2.st.setLoop q4 hm2 m1 .done (some .ret)), .bool _⟩
      obtain ⟨k0, y2⟩ := arr2
      refine hs0.trans (y2.trans (.one (step_lone_go ?_)))
      have := hend (some .ret)
      simp [stepG, stepG.exec, frame, RK.kind, this, doReturn]
noncomputable def jumpExit : Option Code → Option AExit
  | none => some .normal
  | some .ret => some .ret
  | some (.exit id) => some (.exit id)
  | _ => none
theorem CWp.rangeFunc {f : Operand} {params : Array Tmp} {assign body : Code} {fv : Value} {Q : AExit → Tr Value → AHeap → Prop} (hf : aopnd a f = some fv) (hrd : ∀ l, cx.rd = some l → ∃ lp, h.get l = some (.loop lp))
    (hv : VWp P fv [.func (.yield h.next) #[] #[]] (h.new (.loop ⟨.ready, none, cx.fn, cx.nt, a, params, assign, body⟩)) fun _ h2 =>
      ∃ lp e, h2.get h.next = some (.loop lp) ∧ (lp.state == .busy) = false ∧ jumpExit lp.pending = some e ∧ Q e a (h2.kill h.next)) :
    CWp P cx (.rangeFunc f params assign body) a h Q := by
  intro μ base tmps defers rr w k cs p
  obtain ⟨rd, dk⟩ := rr
  -- the loop's record
  have henter : ∃ w1 lb D mark, (Instr.enterLoop cx.fn tmps params assign body rd).run P w = .ok (lb, mark) w1 ∧ lb = w1.heap.size - 1 ∧ w1 = { (match rd with | none => { w with heap := w.heap.push (.deferred (some [])) } | some _ => w) with
        heap := (match rd with | none => w.heap.push (.deferred (some [])) | some _ => w.heap).push (.loop { state := .ready, pending := none, fn := cx.fn, tmps, params, assign, body, defers := D }) } ∧
      mark = (match rd with | none => [{ target := .collected w.heap.size, args := #[] }] | some _ => []) := by
    cases rd with
    | none =>
      refine ⟨_, w.heap.size + 1, w.heap.size, _, ?_, ?_, rfl, rfl⟩
      · simp only [Instr.enterLoop, Sem.run_bind, run_newObj, Result.andThen_ok, Sem.run_pure, Array.size_push]
      · simp
    | some b =>
      have hr := p.rdr
      obtain ⟨l, hl⟩ : ∃ l, cx.rd = some l := by
        cases hc : cx.rd with
        | none => rw [hc] at hr; exact hr.elim
        | some l => exact ⟨l, rfl⟩
      rw [hl] at hr
      obtain ⟨hlt, e, hm, rfl⟩ := hr
      obtain ⟨lp, hg⟩ := hrd l hl
      obtain ⟨r, g1, _⟩ := p.st.getLoop hg hm
      refine ⟨_, w.heap.size, r.defers, _, ?_, ?_, rfl, rfl⟩
      · simp only [Instr.enterLoop, Sem.run_bind, run_getLoop g1, run_newObj, Result.andThen_ok, Sem.run_pure]
      · simp
  obtain ⟨w1, lb, D, mark, hrun, hlb, hw1, hmark⟩ := henter
  -- the view of the world with the record
  have hext : ∃ μ1, Ext μ h w μ1 (h.new (.loop ⟨.ready, none, cx.fn, cx.nt, a, params, assign, body⟩)) w1 ∧ μ1 h.next = some ⟨lb, 0, 0, 0⟩ ∧ DOk base.D μ1 (h.new (.loop ⟨.ready, none, cx.fn, cx.nt, a, params, assign, body⟩)) w1 (mark ++ defers) ∧
      (∀ d ∈ mark ++ defers, ∀ q, d.target = .collected q → base.n ≤ q) ∧ (cx.rd ≠ none → mark ++ defers = []) := by
    have hcx : cx.rd = none ↔ rd = none := by
      have hr := p.rdr
      cases hc : cx.rd <;> cases rd <;> rw [hc] at hr <;> simp <;> exact hr.elim
    cases rd with
    | none =>
      simp only at hw1 hmark
      have x0 := Ext.alloc p.st (.deferred (some []))
      have x1 := Ext.new x0.st (.loop { state := .ready, pending := none, fn := cx.fn, tmps, params, assign, body, defers := D }) ⟨w.heap.size + 1, 0, 0, 0⟩ (.loop ⟨.ready, none, cx.fn, cx.nt, a, params, assign, body⟩) (by simp)
        ⟨rfl, _, rfl, rfl, rfl, rfl, p.size, p.act.mono (Agree.upd μ _ (Nat.le_refl _)) (by omega), rfl, rfl, rfl⟩
      have hw1' : w1 = { w with heap := (w.heap.push (.deferred (some []))).push (.loop { state := .ready, pending := none, fn := cx.fn, tmps, params, assign, body, defers := D }) } := hw1
      have hlb' : lb = w.heap.size + 1 := by rw [hlb, hw1']; simp
      subst hlb'
      rw [hw1']
      have xx := x0.trans x1
      refine ⟨_, xx, Emb.upd_same _ _ _, ?_, ?_, ?_⟩
      · rw [hmark]
        refine .cons ?_ ?_ ?_ (p.dok.ext xx)
        · rw [Array.getElem?_push, if_neg (by simp)]; simp
        · intro q o e hq ho hm
          rw [AHeap.get_new] at hq
          split at hq
          · rename_i e1; subst e1; rw [Emb.upd_same] at hm; cases hm; simp
          · rename_i e1
            rw [Emb.upd_ne _ _ (Ne.symm e1)] at hm
            obtain ⟨_, e', c', a2, a3, _⟩ := p.st.live q o hq
            rw [hm] at a2; cases a2
            have := lt_of_heap a3
            omega
        · intro d hd q hq
          have := p.dok.lt d hd q hq
          omega
      · rw [hmark]
        intro d hd q hq
        cases hd with
        | head => cases hq; exact p.bsz
        | tail _ hd => exact p.dge d hd q hq
      · intro hne; exact (hne (hcx.2 rfl)).elim
    | some b =>
      simp only at hw1 hmark
      have x1 := Ext.new p.st (.loop { state := .ready, pending := none, fn := cx.fn, tmps, params, assign, body, defers := D }) ⟨w.heap.size, 0, 0, 0⟩ (.loop ⟨.ready, none, cx.fn, cx.nt, a, params, assign, body⟩) rfl
        ⟨rfl, _, rfl, rfl, rfl, rfl, p.size, p.act.mono (Agree.upd μ _ (Nat.le_refl _)) (by omega), rfl, rfl, rfl⟩
      have hw1' : w1 = { w with heap := w.heap.push (.loop { state := .ready, pending := none, fn := cx.fn, tmps, params, assign, body, defers := D }) } := hw1
      have hlb' : lb = w.heap.size := by rw [hlb, hw1']; simp
      subst hlb'
      rw [hw1']
      have hdn : defers = [] := p.dno fun e => by have := hcx.1 e; cases this
      subst hdn
      rw [hmark]
      exact ⟨_, x1, Emb.upd_same _ _ _, p.dok.ext x1, fun d hd => (by cases hd), fun _ => rfl⟩
  obtain ⟨μ1, x1, hμ1, dok1, dge1, dno1⟩ := hext
  have act1 : ActRel μ1 (h.new (.loop ⟨.ready, none, cx.fn, cx.nt, a, params, assign, body⟩)).next a tmps := p.act.mono x1.agree x1.next
  have hfv : VRel μ h.next fv (opnd tmps f) := p.act.opnd f fv hf
  -- the call
  obtain ⟨nx, w2, m, v, v', h2, μ2, w3, c1, c2, c3, ⟨lp, e, c4, c5, c6, c7⟩, c8, c9⟩ := hv μ1 (opnd tmps f) #[.func (.yield lb) #[] #[]] w1 (frame cx.fn ⟨rd, dk⟩ tmps (mark ++ defers) (.inRangeFunc lb :: k)) cs
    (hfv.mono x1.agree x1.next) (.cons (.yield (by simp) hμ1) .nil) x1.st
  have hstep : step P (lone (frame cx.fn ⟨rd, dk⟩ tmps defers (.code (.rangeFunc f params assign body) :: k)) cs w) = .next m := by
    have he := frame_eval cx.fn ⟨rd, dk⟩ tmps (mark ++ defers) (.inRangeFunc lb :: k)
    simp only [frame] at he
    have hcall : (do let d ← resolve (opnd tmps) { callee := .value f, args := #[.const (.func (.yield lb) #[] #[])], argTypes := #[] } 0; invoke d.target d.args : Sem Next).run P w1 = .ok nx w2 := by
      simpa [resolve, opnd] using c1
    cases nx <;> simp only [pushed, Option.some.injEq] at c2 <;> first
      | (cases c2; done)
      | (subst c2; refine step_lone_go ?_
         simp only [stepG, stepG.exec, frame, Sem.runT_eq, hrun, he]
         simp [stepG.apply, hcall, frame])
  -- the loop ends
  have hm2 : μ2 h.next = some ⟨lb, 0, 0, 0⟩ := (c8.agree _ (by simp)).trans hμ1
  obtain ⟨r, g1, g2, g3, g4, _⟩ := c8.st.getLoop c4 hm2
  have xs := c8.st.setLoop c4 hm2 g1 .exhausted lp.pending
  have xk := Ext.kill xs.st h.next
  have hend : (Instr.endLoop lb).run P w3 = .ok lp.pending { w3 with heap := w3.heap.setIfInBounds lb (.loop { r with state := .exhausted, pending := lp.pending }) } := by
    have hpd : ({ r with state := .exhausted, pending := lp.pending } : Loop) = { r with state := .exhausted } := by rw [← g4]
    have g1' : w3.heap[lb]? = some (.loop r) := g1
    rw [hpd]
    have hst : (r.state == .busy) = false := by rw [g3]; exact c5
    simp only [Instr.endLoop, Sem.run_bind, run_getLoop g1', Result.andThen_ok, hst, Bool.false_eq_true, if_false, run_setLoop g1', Sem.run_pure, g4]
  have hback : Steps P (lone (frame cx.fn ⟨rd, dk⟩ tmps defers (.code (.rangeFunc f params assign body) :: k)) cs w)
      (lone (frame cx.fn ⟨rd, dk⟩ tmps (mark ++ defers) ((lp.pending.map Item.code).toList ++ k)) cs { w3 with heap := w3.heap.setIfInBounds lb (.loop { r with state := .exhausted, pending := lp.pending }) }) := by
    refine .head hstep (c3.trans (.one (step_lone_go ?_)))
    simp [frame, Frame.finish, stepG, stepG.exec, hend]
  have hk2 : (h2.set h.next (.loop (lp.with .exhausted lp.pending))).kill h.next = h2.kill h.next ∨ True := .inr trivial
  have xfin : Ext μ h w μ2 (h2.kill h.next) { w3 with heap := w3.heap.setIfInBounds lb (.loop { r with state := .exhausted, pending := lp.pending }) } := by
    have x4 := (x1.trans c8).trans (xs.trans xk)
    refine ⟨x4.next, x4.agree, x4.size, x4.os, x4.output, fun b hb hfr => ?_, fun b hb hfr => ?_, ?_⟩
    · obtain ⟨y1, y2⟩ := x4.frame b hb hfr
      refine ⟨y1, fun q o e' hq ho hm => y2 q o e' ?_ ho hm⟩
      rw [AHeap.get_kill] at hq ⊢
      split at hq
      · cases hq
      · rename_i hne; rw [if_neg hne, AHeap.get_set, if_neg hne]; exact hq
    · refine fun q o e' hq hm => x4.free b hb hfr q o e' ?_ hm
      rw [AHeap.get_kill] at hq ⊢
      split at hq
      · cases hq
      · rename_i hne; rw [if_neg hne, AHeap.get_set, if_neg hne]; exact hq
    · have hget : ∀ q, (h2.kill h.next).get q = ((h2.set h.next (.loop (lp.with .exhausted lp.pending))).kill h.next).get q := by
        intro q
        rw [AHeap.get_kill, AHeap.get_kill, AHeap.get_set]
        split <;> rfl
      refine ⟨fun q o hq => ?_, fun q s o o' e1 e2 hq ho hs hm1 hm2 hb => ?_⟩
      · rw [hget] at hq; exact x4.st.live q o hq
      · rw [hget] at hq hs; exact x4.st.apart q s o o' e1 e2 hq ho hs hm1 hm2 hb
  have pfin : Pre μ2 base cx a (h2.kill h.next) tmps (mark ++ defers) ⟨rd, dk⟩ { w3 with heap := w3.heap.setIfInBounds lb (.loop { r with state := .exhausted, pending := lp.pending }) } := by
    have p1 : Pre μ1 base cx a (h.new (.loop ⟨.ready, none, cx.fn, cx.nt, a, params, assign, body⟩)) tmps (mark ++ defers) ⟨rd, dk⟩ w1 :=
      ⟨act1, p.size, p.rdr.mono x1.agree x1.next, dok1, dno1, dge1, Nat.le_trans p.bsz x1.size, x1.st⟩
    have p3 := (p1.ext c8).ext xs
    refine ⟨p3.act, p3.size, p3.rdr, ?_, p3.dno, p3.dge, p3.bsz, xfin.st⟩
    have := p3.dok.ext xk
    clear hk2
    generalize mark ++ defers = dd at this
    induction this with
    | nil hD => exact .nil hD
    | cons hr ho hne t ih =>
      refine .cons hr (fun q o e' hq hown hm => ho q o e' ?_ hown hm) hne ih
      rw [AHeap.get_kill] at hq ⊢
      split at hq
      · cases hq
      · rename_i hne2; rw [if_neg hne2, AHeap.get_set, if_neg hne2]; exact hq
  refine ⟨e, a, h2.kill h.next, μ2, tmps, mark ++ defers, _, c7, pfin, xfin, ?_⟩
  revert hback
  generalize lp.pending = pd at c6
  intro hback
  unfold jumpExit at c6
  split at c6
  · cases c6; exact hback
  · cases c6; exact ⟨k, hback⟩
  · cases c6; exact ⟨k, rfl, hback⟩
  · cases c6
end rules
end Go.Ab
namespace Go.Ab
set_option linter.unusedSimpArgs false
set_option linter.unusedVariables false
section ops
variable {P : Program} {T : Tr TI} {μ : Emb} {h h' : AHeap} {w : World}
noncomputable def aRange (T : Tr TI) (t : TypeId) (x : Value) (h : AHeap) : Option (Value × AHeap) :=
  match T.get t with
  | some ti => match ti.und, x with
    | .string, .string s => some (.pointer (some ⟨h.next, 0, none⟩), h.new (.strIter s 0))
    | .map _ _, .map none => some (.pointer (some ⟨h.next, 0, none⟩), h.new (.mapIter none 0 #[] 0))
    | .map _ _, .map (some m) => match h.get m with
      | some (.map _ clock) => some (.pointer (some ⟨h.next, 0, none⟩), h.new (.mapIter (some m) clock #[] clock))
      | _ => none
    | _, _ => none
  | none => none
theorem range_good (ok : TyOK P T) (st : StRel μ h w) {t : TypeId} {x x' v : Value} (hx : VRel μ h.next x x') (ha : aRange T t x h = some (v, h')) : GoodV P μ h w (Instr.range t x') v h' := by
  unfold aRange at ha
  split at ha
  · rename_i ti ht
    split at ha
    · rename_i s hu
      simp only [Option.some.injEq, Prod.mk.injEq] at ha
      obtain ⟨rfl, rfl⟩ := ha
      cases hx
      refine ⟨.pointer (some ⟨w.heap.size, 0, none⟩), _, _, ?_, Ext.new st (.stringIter s 0) ⟨w.heap.size, 0, 0, 0⟩ (.strIter s 0) rfl ⟨rfl, rfl⟩, VRel.ptr (off := 0) (by simp) (Emb.upd_same _ _ _)⟩
      simp only [Instr.range, Sem.run_bind, run_underlying ok ht, hu, Result.andThen_ok, Sem.run_pure, run_newObj]
    · rename_i hu
      simp only [Option.some.injEq, Prod.mk.injEq] at ha
      obtain ⟨rfl, rfl⟩ := ha
      cases hx
      refine ⟨.pointer (some ⟨w.heap.size, 0, none⟩), _, _, ?_, Ext.new st (.mapIter none 0 #[] 0) ⟨w.heap.size, 0, 0, 0⟩ (.mapIter none 0 #[] 0) rfl ⟨rfl, none, rfl, trivial⟩, VRel.ptr (off := 0) (by simp) (Emb.upd_same _ _ _)⟩
      simp only [Instr.range, Sem.run_bind, run_underlying ok ht, hu, Result.andThen_ok, Sem.run_pure, run_newObj]
    · rename_i m hu
      split at ha
      · rename_i es clock hg
        simp only [Option.some.injEq, Prod.mk.injEq] at ha
        obtain ⟨rfl, rfl⟩ := ha
        cases hx with
        | map hlt hm =>
          rename_i e
          obtain ⟨ms, g1, g2, g3⟩ := st.getMap hg hm
          refine ⟨.pointer (some ⟨w.heap.size, 0, none⟩), _, _, ?_, Ext.new st (.mapIter (some e.b) clock #[] clock) ⟨w.heap.size, 0, 0, 0⟩ (.mapIter (some m) clock #[] clock) rfl
            ⟨rfl, some e.b, rfl, by omega, e, by rw [Emb.upd_ne _ _ (by omega)]; exact hm, rfl⟩, VRel.ptr (off := 0) (by simp) (Emb.upd_same _ _ _)⟩
          simp only [Instr.range, Sem.run_bind, run_underlying ok ht, hu, Result.andThen_ok, run_getObj g1 (fun _ _ _ => by simp), Sem.run_pure, run_newObj]
      · cases ha
    · cases ha
  · cases ha
noncomputable def left (es : List AEnt) (seen : Array Nat) : List AEnt := es.filter fun e => !seen.contains e.born
theorem EsRel.filter {n : Nat} (p : Nat → Bool) : ∀ {l : List AEnt} {l' : List MapEntry}, EsRel μ n l l' → EsRel μ n (l.filter fun e => p e.born) (l'.filter fun e => p e.born)
  | _, _, .nil => .nil
  | _, _, .cons (e := e) (m := m) he t => by
    simp only [List.filter_cons, he.born]
    split
    · exact .cons he (t.filter p)
    · exact t.filter p
theorem EsRel.all {n : Nat} (p : Nat → Bool) : ∀ {l : List AEnt} {l' : List MapEntry}, EsRel μ n l l' → (l'.all fun e => p e.born) = l.all fun e => p e.born
  | _, _, .nil => rfl
  | _, _, .cons he t => by simp only [List.all_cons, he.born, t.all p]
noncomputable def cands (L : Array MapEntry) (since : Nat) : Array (Option MapEntry) :=
  (if (L.filter (fun e => decide (e.born < since))).isEmpty then #[none] else #[]) ++ ((L.filter (fun e => decide (e.born < since))) ++ (L.filter (fun e => decide (e.born ≥ since)))).map some
theorem next_map (st : StRel μ h w) {r m : Nat} {since last clock : Nat} {seen : Array Nat} {es : List AEnt} (hr : h.get r = some (.mapIter (some m) since seen last)) (hm : h.get m = some (.map es clock))
    (hc : (!seen.isEmpty && !es.isEmpty && es.all (fun e => decide (e.born ≥ last))) = false) {x' : Value} (hx : VRel μ h.next (.pointer (some ⟨r, 0, none⟩)) x') (ty : TypeId) :
    (((left es seen).filter (fun e => decide (e.born < since))) = [] ∧ GoodV P μ h w (Instr.next x' false ty) (.tuple #[.bool false]) h) ∨
    ∃ e ∈ left es seen, GoodV P μ h w (Instr.next x' false ty) (.tuple #[.bool true, e.key, e.val]) (h.set r (.mapIter (some m) since (seen.push e.born) clock)) := by
  cases hx with
  | ptr hlt hmu =>
    rename_i en
    obtain ⟨_, e', c, h2, h3, h4, m', rfl, h5⟩ := st.live r _ hr
    rw [hmu] at h2; cases h2
    cases m' with
    | none => exact h5.elim
    | some b =>
      obtain ⟨hmn, f, hf, rfl⟩ := h5
      obtain ⟨ms, g1, g2, g3⟩ := st.getMap hm hf
      have hcond : (!seen.isEmpty && !ms.isEmpty && ms.all (fun e => decide (e.born ≥ last))) = false := by
        rw [g2.isEmpty, ← Array.all_toList, g2.all (fun b => decide (b ≥ last))]; exact hc
      -- what is left
      have hleft : EsRel μ h.next (left es seen) (ms.filter fun e => !seen.contains e.born).toList := by
        rw [Array.toList_filter]; exact g2.filter fun b => !seen.contains b
      have hold := hleft.filter fun b => decide (b < since)
      have hnew := hleft.filter fun b => decide (b ≥ since)
      generalize hL : (ms.filter fun e => !seen.contains e.born) = L at *
      have hpre : (Instr.next (.pointer (some ⟨en.b, en.d + 0, none⟩)) false ty).run P w =
          (do
            match (cands L since)[← choose (.mapNext (cands L since).size)]? with
            | some (some e) =>
              Go.setObj en.b (.mapIter (some f.b) since (seen.push e.born) clock)
              pure (.tuple #[.bool true, e.key, e.val])
            | some none => pure (.tuple #[.bool false])
            | none => stuck "Next: no such candidate" : Sem Value).run P w := by
        have e0 : en.d + 0 = 0 := by omega
        rw [e0]
        simp only [Instr.next, Sem.run_bind, run_getObj h3 (fun _ _ _ => by simp), Result.andThen_ok, run_getObj g1 (fun _ _ _ => by simp), hcond, Bool.false_eq_true, if_false, hL]
        rfl
      generalize hC : cands L since = C at hpre
      unfold cands at hC
      -- there is a candidate
      have hpos : 0 < C.size := by
        rw [← hC]
        by_cases hem : (L.filter (fun e => decide (e.born < since))).isEmpty = true
        · simp [hem]; omega
        · simp only [hem, Bool.false_eq_true, if_false, Array.size_append, Array.size_map, List.size_toArray, List.length_nil]
          have : 0 < (L.filter (fun e => decide (e.born < since))).size := by
            rcases Nat.eq_zero_or_pos (L.filter (fun e => decide (e.born < since))).size with h | h
            · exact (hem (by simpa [Array.isEmpty] using h)).elim
            · exact h
          omega
      obtain ⟨i, w1, hch, hi, hw1⟩ : ∃ i w1, (choose (.mapNext C.size)).run P w = .ok i w1 ∧ i < C.size ∧ (w1 = w ∨ w1 = { w with drawn := w.drawn + 1 }) := by
        rw [run_choose]
        by_cases hfo : (Question.mapNext C.size).forced = true
        · exact ⟨0, w, by simp [hfo], hpos, .inl rfl⟩
        · exact ⟨(Question.mapNext C.size).cut (w.tape w.drawn (Question.mapNext C.size)), _, by simp [hfo], by simp only [Question.cut]; exact Nat.mod_lt _ hpos, .inr rfl⟩
      have st1 : StRel μ h w1 := by rcases hw1 with rfl | rfl; exact st; exact st.same rfl
      have x1 : Ext μ h w μ h w1 := by rcases hw1 with rfl | rfl; exact Ext.refl st; exact Ext.same st rfl rfl rfl
      have h3' : w1.heap[en.b]? = some (.mapIter (some f.b) since seen last) := by rcases hw1 with rfl | rfl <;> exact h3
      have hget : C[i]? = some C[i] := Array.getElem?_eq_getElem hi
      cases hci : C[i] with
      | none =>
        left
        constructor
        · -- nothing that was there at first
          by_cases hem : (L.filter (fun e => decide (e.born < since))).isEmpty = true
          · have : (L.filter (fun e => decide (e.born < since))).toList = [] := by
              have : (L.filter (fun e => decide (e.born < since))) = #[] := by simpa using hem
              rw [this]
            rw [Array.toList_filter] at this
            have hlen := hold.length
            rw [this] at hlen
            exact List.length_eq_zero_iff.1 hlen.symm
          · exfalso
            have hmem : (none : Option MapEntry) ∈ C := by rw [← hci]; exact Array.getElem_mem hi
            rw [← hC] at hmem
            simp [hem] at hmem
        · refine ⟨_, w1, μ, ?_, x1, .tuple (.cons (.bool _) .nil)⟩
          rw [hpre]
          simp only [Sem.run_bind, hch, Result.andThen_ok, hget, hci, Sem.run_pure]
      | some me =>
        right
        -- it is one of those that are left
        have hmem : (some me) ∈ C := by rw [← hci]; exact Array.getElem_mem hi
        have hin : me ∈ L.toList := by
          rw [← hC] at hmem
          simp only [Array.mem_append, Array.mem_map, Option.some.injEq, exists_eq_right] at hmem
          rcases hmem with hmem | hmem
          · split at hmem <;> simp at hmem
          · rcases hmem with hmem | hmem
            · exact Array.mem_toList_iff.2 (Array.mem_filter.1 hmem).1
            · exact Array.mem_toList_iff.2 (Array.mem_filter.1 hmem).1
        obtain ⟨j, hj⟩ := List.getElem?_of_mem hin
        have hjl : j < (left es seen).length := by rw [← hleft.length]; exact (List.getElem?_eq_some_iff.1 hj).1
        obtain ⟨me2, q1, q2⟩ := hleft.getElem? j (List.getElem?_eq_getElem hjl)
        rw [hj] at q1; cases q1
        refine ⟨(left es seen)[j], List.getElem_mem hjl, ?_⟩
        have x2 := st1.setObj hr rfl hmu (c' := .mapIter (some f.b) since (seen.push me.born) clock) (o' := .mapIter (some m) since (seen.push me.born) clock) ⟨h4, some f.b, rfl, hmn, f, hf, rfl⟩
        rw [q2.born] at x2
        refine ⟨.tuple #[.bool true, me.key, me.val], _, μ, ?_, x1.trans x2, ?_⟩
        · rw [hpre]
          simp only [Sem.run_bind, hch, Result.andThen_ok, hget, hci, run_setObj h3' (fun _ _ _ => by simp), Sem.run_pure, q2.born]
        · exact .tuple (.cons (.bool _) (.cons (by rw [q2.key]; exact .of_flat _ _ q2.kflat) (.cons q2.val .nil)))
noncomputable def aNext (x : Value) (isString : Bool) (h : AHeap) : Option (Value × AHeap) :=
  match x with
  | .pointer (some ⟨r, 0, none⟩) => match h.get r, isString with
    | some (.strIter s pos), true => bif Nat.ble (pos + 1) s.size then
        some (.tuple #[.bool true, .int .i64 pos, .int .i32 (Utf8.decode s pos).1], h.set r (.strIter s (pos + (Utf8.decode s pos).2)))
      else some (.tuple #[.bool false], h)
    | some (.mapIter none _ _ _), false => some (.tuple #[.bool false], h)
    | some (.mapIter (some m) since seen last), false => match h.get m with
      | some (.map es clock) => bif !seen.isEmpty && !es.isEmpty && es.all (fun e => decide (e.born ≥ last)) then none else
        match left es seen with
        | [] => some (.tuple #[.bool false], h)
        | [e] => bif Nat.ble (e.born + 1) since then some (.tuple #[.bool true, e.key, e.val], h.set r (.mapIter (some m) since (seen.push e.born) clock)) else none
        | _ => none
      | _ => none
    | _, _ => none
  | _ => none
theorem next_good (st : StRel μ h w) {x x' v : Value} {b : Bool} (hx : VRel μ h.next x x') (ty : TypeId) (ha : aNext x b h = some (v, h')) : GoodV P μ h w (Instr.next x' b ty) v h' := by
  unfold aNext at ha
  split at ha
  · rename_i r
    split at ha
    · rename_i s pos hg
      have hx0 := hx
      cases hx with
      | ptr hlt hm =>
        rename_i e
        obtain ⟨_, e', c, h2, h3, h4, rfl⟩ := st.live r _ hg
        rw [hm] at h2; cases h2
        have e0 : e.d + 0 = 0 := by omega
        rw [e0]
        cases hb : Nat.ble (pos + 1) s.size
        · rw [hb, cond_false] at ha
          simp only [Option.some.injEq, Prod.mk.injEq] at ha
          obtain ⟨rfl, rfl⟩ := ha
          have hlt2 : ¬ pos < s.size := fun hl => by rw [Nat.ble_eq_true_of_le hl] at hb; cases hb
          refine ⟨.tuple #[.bool false], w, μ, ?_, Ext.refl st, .tuple (.cons (.bool _) .nil)⟩
          simp only [Instr.next, Sem.run_bind, run_getObj h3 (fun _ _ _ => by simp), Result.andThen_ok, hlt2, if_false, Sem.run_pure]
        · rw [hb, cond_true] at ha
          simp only [Option.some.injEq, Prod.mk.injEq] at ha
          obtain ⟨rfl, rfl⟩ := ha
          have hlt2 : pos < s.size := Nat.le_of_ble_eq_true hb
          refine ⟨.tuple #[.bool true, .int .i64 pos, .int .i32 (Utf8.decode s pos).1], _, μ, ?_, st.setObj hg rfl hm (c' := .stringIter s (pos + (Utf8.decode s pos).2)) ⟨h4, rfl⟩, .tuple (.cons (.bool _) (.cons (.int _ _) (.cons (.int _ _) .nil)))⟩
          simp only [Instr.next, Sem.run_bind, run_getObj h3 (fun _ _ _ => by simp), Result.andThen_ok, hlt2, if_true, Sem.run_pure, run_setObj h3 (fun _ _ _ => by simp), goInt]
    · rename_i hg
      cases hx with
      | ptr hlt hm =>
        rename_i e
        simp only [Option.some.injEq, Prod.mk.injEq] at ha
        obtain ⟨rfl, rfl⟩ := ha
        obtain ⟨_, e', c, h2, h3, h4, m', rfl, h5⟩ := st.live r _ hg
        rw [hm] at h2; cases h2
        have e0 : e.d + 0 = 0 := by omega
        rw [e0]
        cases m' with
        | some _ => exact h5.elim
        | none =>
          refine ⟨.tuple #[.bool false], w, μ, ?_, Ext.refl st, .tuple (.cons (.bool _) .nil)⟩
          simp only [Instr.next, Sem.run_bind, run_getObj h3 (fun _ _ _ => by simp), Result.andThen_ok, Sem.run_pure]
    · rename_i m since seen last hg
      split at ha
      · rename_i es clock hgm
        cases hc : !seen.isEmpty && !es.isEmpty && es.all (fun e => decide (e.born ≥ last))
        · rw [hc, cond_false] at ha
          split at ha
          · rename_i hl
            simp only [Option.some.injEq, Prod.mk.injEq] at ha
            obtain ⟨rfl, rfl⟩ := ha
            rcases next_map (P := P) st hg hgm hc hx ty with ⟨_, hgood⟩ | ⟨e, he, _⟩
            · exact hgood
            · rw [hl] at he; cases he
          · rename_i e hl
            cases hb : Nat.ble (e.born + 1) since
            · rw [hb, cond_false] at ha; cases ha
            · rw [hb, cond_true] at ha
              simp only [Option.some.injEq, Prod.mk.injEq] at ha
              obtain ⟨rfl, rfl⟩ := ha
              have hlt : e.born < since := Nat.le_of_ble_eq_true hb
              rcases next_map (P := P) st hg hgm hc hx ty with ⟨hno, _⟩ | ⟨e', he, hgood⟩
              · rw [hl] at hno; simp [hlt] at hno
              · rw [hl] at he; simp at he; subst he; exact hgood
          · cases ha
        · rw [hc, cond_true] at ha; cases ha
      · cases ha
    · cases ha
  · cases ha
noncomputable def aEntry (x : Value) (h : AHeap) : Option Value :=
  match x with
  | .pointer (some ⟨r, 0, none⟩) => match h.get r with
    | some (.mapIter (some m) _ seen stepped) => match h.get m, seen.back? with
      | some (.map es clock), some stamp => bif Nat.beq clock stepped then match es.find? (fun e => e.born == stamp) with
        | some e => some (.tuple #[e.key, e.val])
        | none => none
        else none
      | _, _ => none
    | _ => none
  | _ => none
theorem EsRel.find {n : Nat} (p : Nat → Bool) : ∀ {l : List AEnt} {l' : List MapEntry}, EsRel μ n l l' → ∀ {e : AEnt}, l.find? (fun e => p e.born) = some e → ∃ m, l'.find? (fun e => p e.born) = some m ∧ ERel μ n e m
  | _, _, .nil, e, he => by simp at he
  | _, _, .cons (e := e0) (m := m0) h0 t, e, he => by
    simp only [List.find?_cons, h0.born] at he ⊢
    cases hp : p e0.born
    · rw [hp] at he; simpa using t.find p (by simpa using he)
    · rw [hp] at he; simp at he; subst he; exact ⟨m0, by simp, h0⟩
theorem entry_good (st : StRel μ h w) {x x' v : Value} (hx : VRel μ h.next x x') (ha : aEntry x h = some v) : ∃ v', (Instr.entry x').run P w = .ok v' w ∧ VRel μ h.next v v' := by
  unfold aEntry at ha
  split at ha
  · rename_i r
    split at ha
    · rename_i m since seen stepped hg
      split at ha
      · rename_i es clock stamp hgm hst
        cases hb : Nat.beq clock stepped
        · rw [hb, cond_false] at ha; cases ha
        · rw [hb, cond_true] at ha
          have e1 := Nat.eq_of_beq_eq_true hb
          split at ha
          · rename_i e hf
            cases ha
            cases hx with
            | ptr hlt hm =>
              rename_i en
              obtain ⟨_, e', c, h2, h3, h4, m', rfl, h5⟩ := st.live r _ hg
              rw [hm] at h2; cases h2
              have e0 : en.d + 0 = 0 := by omega
              rw [e0]
              cases m' with
              | none => exact h5.elim
              | some b =>
                obtain ⟨hmn, f, hf2, rfl⟩ := h5
                obtain ⟨ms, g1, g2, g3⟩ := st.getMap hgm hf2
                obtain ⟨me, q1, q2⟩ := g2.find (fun b => b == stamp) hf
                have q1' : ms.find? (fun e => e.born == stamp) = some me := by rw [← Array.find?_toList]; exact q1
                have hcl : (clock != stepped) = false := by simp [e1]
                refine ⟨.tuple #[me.key, me.val], ?_, .tuple (.cons (by rw [q2.key]; exact .of_flat _ _ q2.kflat) (.cons q2.val .nil))⟩
                simp only [Instr.entry, Sem.run_bind, run_getObj h3 (fun _ _ _ => by simp), Result.andThen_ok, hst, run_getObj g1 (fun _ _ _ => by simp), hcl, Bool.false_eq_true, if_false, q1', Sem.run_pure]
          · cases ha
      · cases ha
    · cases ha
  · cases ha
end ops
mutual
theorem VRel.narrow {μ₀ μ : Emb} {n m : Nat} : ∀ {v x y : Value}, VRel μ₀ n v x → VRel μ m v y → VRel μ n v y
  | _, _, _, .bool b, .bool _ => .bool b
  | _, _, _, .int k i, .int _ _ => .int k i
  | _, _, _, .float k x, .float _ _ => .float k x
  | _, _, _, .complex k x y, .complex _ _ _ => .complex k x y
  | _, _, _, .string s, .string _ => .string s
  | _, _, _, .ptr0, .ptr0 => .ptr0
  | _, _, _, .ptr hr _, .ptr _ hm => .ptr hr hm
  | _, _, _, .slice0, .slice0 => .slice0
  | _, _, _, .sliceK hr _, .sliceK _ hm => .sliceK hr hm
  | _, _, _, .sliceK hr _, .sliceKZ _ hm => .sliceKZ hr hm
  | _, _, _, .sliceU hr _ _ _, .sliceU _ hm a b => .sliceU hr hm a b
  | _, _, _, .sliceU hr _ _ _, .sliceZ _ hm => .sliceZ hr hm
  | _, _, _, .sliceZ hr _, .sliceU _ hm a b => .sliceU hr hm a b
  | _, _, _, .sliceZ hr _, .sliceZ _ hm => .sliceZ hr hm
  | _, _, _, .sliceKZ hr _, .sliceK _ hm => .sliceK hr hm
  | _, _, _, .sliceKZ hr _, .sliceKZ _ hm => .sliceKZ hr hm
  | _, _, _, .map0, .map0 => .map0
  | _, _, _, .map hr _, .map _ hm => .map hr hm
  | _, _, _, .func hf h1 h2, .func hf' g1 g2 => .func hf (LRel.narrow h1 g1) (LRel.narrow h2 g2)
  | _, _, _, .func hf _ _, .yield _ _ => absurd rfl (hf _)
  | _, _, _, .yield _ _, .func hf _ _ => absurd rfl (hf _)
  | _, _, _, .yield hr _, .yield _ hm => .yield hr hm
  | _, _, _, .nilFunc, .nilFunc => .nilFunc
  | _, _, _, .iface h, .iface g => .iface (VRel.narrow h g)
  | _, _, _, .nilIface, .nilIface => .nilIface
  | _, _, _, .agg h, .agg g => .agg (LRel.narrow h g)
  | _, _, _, .tuple h, .tuple g => .tuple (LRel.narrow h g)
theorem LRel.narrow {μ₀ μ : Emb} {n m : Nat} : ∀ {v x y : List Value}, LRel μ₀ n v x → LRel μ m v y → LRel μ n v y
  | _, _, _, .nil, .nil => .nil
  | _, _, _, .cons h t, .cons g s => .cons (VRel.narrow h g) (LRel.narrow t s)
end
noncomputable def BV (n : Nat) (v : Value) : Prop := ∃ μ x, VRel μ n v x
theorem BV.flat {n : Nat} {v : Value} (h : Ab.flat v = true) : BV n v := ⟨fun _ => none, v, .of_flat _ _ h⟩
noncomputable def BO (n : Nat) : AObj → Prop
  | .cells vs _ => ∀ v ∈ vs, BV n v
  | .ro vs => ∀ v ∈ vs, BV n v
  | .map es _ => ∀ e ∈ es, BV n e.val
  | .mapIter m _ _ _ => ∀ r, m = some r → r < n
  | .strIter _ _ => True
  | .loop l => ∀ t v, l.tmps.get t = some v → BV n v
  | .tcells vs _ => ∀ v ∈ vs, BV n v
  | .umap _ => True
theorem ActRel.narrow {μ : Emb} {n m : Nat} {a : Tr Value} {tmps : Array Value} (hb : ∀ t v, a.get t = some v → BV n v) (h : ActRel μ m a tmps) : ActRel μ n a tmps := fun t v hv =>
  let ⟨v', h1, h2⟩ := h t v hv
  let ⟨_, _, h3⟩ := hb t v hv
  ⟨v', h1, h3.narrow h2⟩
theorem EsRel.narrow {μ : Emb} {n m : Nat} : ∀ {l : List AEnt} {l' : List MapEntry}, (∀ e ∈ l, BV n e.val) → EsRel μ m l l' → EsRel μ n l l'
  | _, _, _, .nil => .nil
  | _, _, hb, .cons h t => .cons ⟨h.key, h.kflat, let ⟨_, _, g⟩ := hb _ List.mem_cons_self; g.narrow h.val, h.born⟩ (t.narrow fun e he => hb e (List.mem_cons_of_mem _ he))
theorem ORel.narrow {μ : Emb} {n m : Nat} {e : Ent} {c : Obj} {o : AObj} (hb : BO n o) (h : ORel μ m e c o) : ORel μ n e c o := by
  cases o with
  | cells vs sz =>
    obtain ⟨h1, cs, t, fz, h2, h3, h4, h5, h6⟩ := h
    refine ⟨h1, cs, t, fz, h2, h3, h4, h5, fun i v hv => ?_⟩
    obtain ⟨v', g1, g2⟩ := h6 i v hv
    obtain ⟨_, _, g3⟩ := hb v (List.mem_of_getElem? hv)
    exact ⟨v', g1, g3.narrow g2⟩
  | ro vs =>
    obtain ⟨cs, t, fz, h2, h6⟩ := h
    refine ⟨cs, t, fz, h2, fun i v hv => ?_⟩
    obtain ⟨v', g1, g2⟩ := h6 i v hv
    obtain ⟨_, _, g3⟩ := hb v (List.mem_of_getElem? hv)
    exact ⟨v', g1, g3.narrow g2⟩
  | map es clock => obtain ⟨h0, ms, h1, h2⟩ := h; exact ⟨h0, ms, h1, h2.narrow hb⟩
  | mapIter mm since seen stepped =>
    obtain ⟨h0, m', h1, h2⟩ := h
    refine ⟨h0, m', h1, ?_⟩
    cases mm <;> cases m' <;> first | exact h2 | skip
    obtain ⟨a, f, b, c⟩ := h2
    exact ⟨hb _ rfl, f, b, c⟩
  | strIter s pos => exact h
  | loop l =>
    obtain ⟨h0, r, h1, h2, h3, h4, h7, h5, h6⟩ := h
    exact ⟨h0, r, h1, h2, h3, h4, h7, h5.narrow hb, h6⟩
  | umap es => exact h
  | tcells vs T =>
    obtain ⟨h1, h0, cs, t, fz, h2, h3, h4, h5, h6⟩ := h
    refine ⟨h1, h0, cs, t, fz, h2, h3, h4, h5, fun i v hv => ?_⟩
    obtain ⟨v', g1, g2⟩ := h6 i v hv
    obtain ⟨_, _, g3⟩ := hb v (List.mem_of_getElem? hv)
    exact ⟨v', g1, g3.narrow g2⟩
theorem ORel.below {μ : Emb} {n : Nat} {e : Ent} {c : Obj} {o : AObj} (h : ORel μ n e c o) : BO n o := by
  cases o with
  | cells vs sz =>
    obtain ⟨h1, cs, t, fz, h2, h3, h4, h5, h6⟩ := h
    intro v hv
    obtain ⟨i, hi⟩ := List.getElem?_of_mem hv
    obtain ⟨v', _, g⟩ := h6 i v hi
    exact ⟨μ, v', g⟩
  | ro vs =>
    obtain ⟨cs, t, fz, h2, h6⟩ := h
    intro v hv
    obtain ⟨i, hi⟩ := List.getElem?_of_mem hv
    obtain ⟨v', _, g⟩ := h6 i v hi
    exact ⟨μ, v', g⟩
  | map es clock =>
    obtain ⟨h0, ms, h1, h2⟩ := h
    intro e he
    obtain ⟨i, hi⟩ := List.getElem?_of_mem he
    obtain ⟨m, _, g⟩ := h2.getElem? i hi
    exact ⟨μ, _, g.val⟩
  | mapIter mm since seen stepped =>
    obtain ⟨h0, m', h1, h2⟩ := h
    intro r hr
    subst hr
    cases m' with
    | none => exact h2.elim
    | some b => exact h2.1
  | strIter s pos => trivial
  | loop l =>
    obtain ⟨h0, r, h1, h2, h3, h4, h7, h5, h6⟩ := h
    intro t v hv
    obtain ⟨v', _, g⟩ := h5 t v hv
    exact ⟨μ, v', g⟩
  | umap es => trivial
  | tcells vs T =>
    obtain ⟨h1, h0, cs, t, fz, h2, h3, h4, h5, h6⟩ := h
    intro v hv
    obtain ⟨i, hi⟩ := List.getElem?_of_mem hv
    obtain ⟨v', _, g⟩ := h6 i v hi
    exact ⟨μ, v', g⟩
theorem Ext.old {μ μ' : Emb} {h h' H : AHeap} {w w' : World} (st : StRel μ h w) (x : Ext μ h w μ' h' w') (hn : H.next = h.next) (hget : ∀ r o, H.get r = some o → r < h.next ∧ h'.get r = some o ∧ (h.get r = some o ∨ BO h.next o)) : Ext μ h w μ H w' := by
  have hl : ∀ r o, H.get r = some o → ∃ e c, μ r = some e ∧ μ' r = some e ∧ w'.heap[e.b]? = some c ∧ ORel μ h.next e c o := by
    intro r o hr
    obtain ⟨h1, h2, h3⟩ := hget r o hr
    obtain ⟨_, e, c, g1, g2, g3⟩ := x.st.live r o h2
    have hb : BO h.next o := by
      rcases h3 with h3 | h3
      · obtain ⟨_, e0, c0, k1, k2, k3⟩ := st.live r o h3; exact k3.below
      · exact h3
    refine ⟨e, c, by rw [← x.agree r h1]; exact g1, g1, g2, ?_⟩
    exact (g3.narrow hb).mono (fun q hq => (x.agree q hq).symm) (Nat.le_refl _)
  refine ⟨by omega, Agree.refl _ _, x.size, x.os, x.output, fun b hb hf => ?_, fun b hb hf r o e hr hm => ?_, ⟨fun r o hr => ?_, fun r q o p e f hr ho hq hm hn' hbb => ?_⟩⟩
  · obtain ⟨y1, y2⟩ := x.frame b hb hf
    refine ⟨y1, fun r o e hr ho hm => ?_⟩
    obtain ⟨h1, h2, _⟩ := hget r o hr
    exact y2 r o e h2 ho (by rw [x.agree r h1]; exact hm)
  · obtain ⟨h1, h2, _⟩ := hget r o hr
    exact x.free b hb hf r o e h2 (by rw [x.agree r h1]; exact hm)
  · obtain ⟨e, c, g1, _, g2, g3⟩ := hl r o hr
    exact ⟨by rw [hn]; exact (hget r o hr).1, e, c, g1, g2, by rw [hn]; exact g3⟩
  · obtain ⟨h1, h2, _⟩ := hget r o hr
    obtain ⟨h3, h4, _⟩ := hget q p hq
    exact x.st.apart r q o p e f h2 ho h4 (by rw [x.agree r h1]; exact hm) (by rw [x.agree q h3]; exact hn') hbb
theorem Ext.newOne {μ μ' : Emb} {h h' H : AHeap} {w w' : World} (st : StRel μ h w) (x : Ext μ h w μ' h' w') (hn : H.next = h.next) (hget : ∀ r o, H.get r = some o → r < h.next ∧ h'.get r = some o ∧ (h.get r = some o ∨ BO h.next o))
    {r2 : Nat} {o2 : AObj} (hr2 : h'.get r2 = some o2) (hge : h.next ≤ r2) (hb2 : BO h.next o2) : ∃ e, μ' r2 = some e ∧ Ext μ h w (μ.upd h.next e) (H.new o2) w' := by
  have x0 := Ext.old st x hn hget
  obtain ⟨_, e, c, g1, g2, g3⟩ := x.st.live r2 o2 hr2
  refine ⟨e, g1, ?_⟩
  have hag : Agree h.next μ (μ.upd h.next e) := Agree.upd μ e (Nat.le_refl _)
  have ho2 : ORel (μ.upd h.next e) (h.next + 1) e c o2 := ((g3.narrow hb2).mono (fun q hq => by rw [Emb.upd_ne _ _ (by omega)]; exact (x.agree q hq).symm) (by omega))
  have gN : ∀ q, (H.new o2).get q = if h.next = q then some o2 else H.get q := fun q => by rw [AHeap.get_new, hn]
  refine ⟨by simp; omega, hag, x.size, x.os, x.output, fun b hb hf => ⟨(x0.frame b hb hf).1, ?_⟩, fun b hb hf q o f hq hm => ?_, ⟨?_, ?_⟩⟩
  · intro q o f hq ho hm
    rw [gN] at hq
    split at hq
    · rename_i e1; subst e1; cases hq; rw [Emb.upd_same] at hm; cases hm
      exact (x.frame b hb hf).2 r2 o2 e hr2 ho g1
    · rename_i e1
      rw [Emb.upd_ne _ _ (Ne.symm e1)] at hm
      exact (x0.frame b hb hf).2 q o f hq ho hm
  · rw [gN] at hq
    split at hq
    · rename_i e1; subst e1; cases hq; rw [Emb.upd_same] at hm; cases hm
      exact x.free b hb hf r2 o2 e hr2 g1
    · rename_i e1
      rw [Emb.upd_ne _ _ (Ne.symm e1)] at hm
      exact x0.free b hb hf q o f hq hm
  · intro q o hq
    rw [gN] at hq
    split at hq
    · rename_i e1; subst e1; cases hq
      exact ⟨by simp; omega, e, c, Emb.upd_same _ _ _, g2, by simp only [AHeap.next_new, hn]; exact ho2⟩
    · rename_i e1
      obtain ⟨k1, f, c', k2, k3, k4⟩ := x0.st.live q o hq
      exact ⟨by simp; omega, f, c', by rw [Emb.upd_ne _ _ (Ne.symm e1)]; exact k2, k3, k4.mono (by rw [hn]; exact hag) (by simp)⟩
  · intro q s o p f g hq ho hs hm hg' hbb
    rw [gN] at hq hs
    have hold : ∀ {q o}, H.get q = some o → ∀ {f}, (μ.upd h.next e) q = some f → μ q = some f ∧ μ' q = some f ∧ h'.get q = some o ∧ q < h.next := by
      intro q o hq f hm
      obtain ⟨h1, h2, _⟩ := hget q o hq
      rw [Emb.upd_ne _ _ (by omega)] at hm
      exact ⟨hm, by rw [x.agree q h1]; exact hm, h2, h1⟩
    split at hq <;> split at hs
    · omega
    · rename_i e1 e2
      subst e1; cases hq; rw [Emb.upd_same] at hm; cases hm
      obtain ⟨_, k2, k3, k4⟩ := hold hs hg'
      have := x.st.apart r2 s o2 p e g hr2 ho k3 g1 k2 hbb
      omega
    · rename_i e1 e2
      subst e2; cases hs; rw [Emb.upd_same] at hg'; cases hg'
      obtain ⟨_, k2, k3, k4⟩ := hold hq hm
      have := x.st.apart q r2 o o2 f e k3 ho hr2 k2 g1 hbb
      omega
    · obtain ⟨k1, _, _, _⟩ := hold hq hm
      obtain ⟨k2, _, _, _⟩ := hold hs hg'
      exact x0.st.apart q s o p f g hq ho hs k1 k2 hbb
end Go.Ab
namespace Go.Ab
set_option linter.unusedSimpArgs false
set_option linter.unusedVariables false
noncomputable def EdgesIn (ops : Array Oper) (X : Nat → Bool) (j : Nat) : Prop := ∀ o, ops[j]? = some o → ∀ e ∈ o.after, Region.binds .any e = true → X e.on = true
noncomputable def Closed (ops : Array Oper) (X : Nat → Bool) : Prop := ∀ j, X j = true → EdgesIn ops X j
noncomputable def Known (ops : Array Oper) (p j : Nat) : Prop := ∀ X, Closed ops X → EdgesIn ops X j → X p = true
inductive Kind where
  | skip
  | quiet
  | change (s : Nat)
  | late (s : Nat)
noncomputable def Kind.no : Kind → Option Nat
  | .change s => some s
  | .late s => some s
  | _ => none
noncomputable def May (ops : Array Oper) (K : Nat → Nat → Prop) (kd : Nat → Kind) (j t : Nat) : Prop :=
  (∀ i s, i < ops.size → (kd i).no = some s → K i j → s < t) ∧ (∀ i s, i < ops.size → (kd i).no = some s → K j i → t ≤ s)
noncomputable def NewV (rv : Nat → Value) : Prop :=
  (∃ off, ∀ n, rv n = .pointer (some ⟨n, off, none⟩)) ∨ (∃ off len cap, ∀ n, rv n = .slice (some ⟨n, off, none⟩) len cap) ∨ (∀ n, rv n = .map (some n))
theorem NewV.move {rv : Nat → Value} (hn : NewV rv) {μ μ2 : Emb} {n' m' n : Nat} {e : Ent} {v' : Value} (hv : VRel μ m' (rv n') v') (he : μ n' = some e) : VRel (μ2.upd n e) (n + 1) (rv n) v' := by
  rcases hn with ⟨off, hr⟩ | ⟨off, len, cap, hr⟩ | hr
  · rw [hr] at hv ⊢
    cases hv with
    | ptr hlt hm => rw [he] at hm; cases hm; exact .ptr (by omega) (Emb.upd_same _ _ _)
  · rw [hr] at hv ⊢
    cases hv with
    | sliceK hlt hm => rw [he] at hm; cases hm; exact .sliceK (by omega) (Emb.upd_same _ _ _)
    | sliceU hlt hm hl hc => rw [he] at hm; cases hm; exact .sliceU (by omega) (Emb.upd_same _ _ _) hl hc
    | sliceZ hlt hm => rw [he] at hm; cases hm; exact .sliceZ (by omega) (Emb.upd_same _ _ _)
    | sliceKZ hlt hm => rw [he] at hm; cases hm; exact .sliceKZ (by omega) (Emb.upd_same _ _ _)
  · rw [hr] at hv ⊢
    cases hv with
    | map hlt hm => rw [he] at hm; cases hm; exact .map (by omega) (Emb.upd_same _ _ _)
structure DRun (P : Program) (cx : Cx) (ops : Array Oper) (K : Nat → Nat → Prop) (a : Tr Value) (v : Nat → Value) (kd : Nat → Kind) (H : Nat → AHeap) (m : Nat) : Prop where
  kno : ∀ i j, K i j → Known ops i j
  back : ∀ (j : Nat) (o : Oper), ops[j]? = some o → ∀ e ∈ o.after, Region.binds .any e = true → e.on < j
  inj : ∀ (i j : Nat) (o p : Oper) (d : Tmp), ops[i]? = some o → ops[j]? = some p → o.dst = some d → p.dst = some d → i = j
  dlt : ∀ (i : Nat) (o : Oper) (d : Tmp), ops[i]? = some o → o.dst = some d → d < cx.nt
  all : ∀ s, s < m → ∃ i, i < ops.size ∧ (kd i).no = some s
  uniq : ∀ i j s, i < ops.size → j < ops.size → (kd i).no = some s → (kd j).no = some s → i = j
  lts : ∀ i s, i < ops.size → (kd i).no = some s → s < m
  prev : ∀ j s, j < ops.size → kd j = .change s → ∀ i s', i < ops.size → (kd i).no = some s' → s' < s → Known ops i j
  below : ∀ j i s, j < ops.size → i < ops.size → kd i = .late s → K i j → ∀ i' s', i' < ops.size → (kd i').no = some s' → s' < s → K i' j
  one : ∀ (j : Nat) (o : Oper), ops[j]? = some o → ∃ pa : Tr Value,
    (∀ d u, pa.get d = some u → (∃ i p, ops[i]? = some p ∧ p.dst = some d ∧ K i j ∧ u = v i) ∨ (a.get d = some u ∧ ∀ (i : Nat) (p : Oper), ops[i]? = some p → p.dst = some d → i = j ∨ Known ops j i)) ∧
    isDefer o.op = false ∧
    match kd j with
    | .skip => aguard ops pa o = some false ∧ v j = .tuple #[]
    | .quiet => aguard ops pa o = some true ∧ (∀ t, t ≤ m → May ops K kd j t → OpWp P o (aopnd pa) (H t) fun u h' => u = v j ∧ h' = H t)
    | .change s => aguard ops pa o = some true ∧ OpWp P o (aopnd pa) (H s) (fun u h' => u = v j ∧ h' = H (s + 1))
    | .late s => aguard ops pa o = some true ∧ ∃ rv ob, NewV rv ∧ v j = rv (H s).next ∧ H (s + 1) = (H s).new ob ∧ ob.own = true ∧ (∀ (μ : Emb) (n : Nat) (ρ' : Operand → Value), OpRel μ n (aopnd pa) ρ' → BO n ob) ∧ ∀ h, OpWp P o (aopnd pa) h fun u h' => u = rv h.next ∧ h' = h.new ob
structure Pend (H : Nat → AHeap) (v : Nat → Value) (μ0 : Emb) (w0 : World) (t : Nat) (μ : Emb) (w : World) (tmps : Array Value) (i : Nat) (o : Oper) (s : Nat) (e : Ent) : Prop where
  blk : ∃ c ob, w.heap[e.b]? = some c ∧ H (s + 1) = (H s).new ob ∧ ORel μ (H t).next e c ob
  free : ∀ r p f, (H t).get r = some p → μ r = some f → f.b ≠ e.b
  f1 : ∀ b, b < w0.heap.size → (∀ r o f, (H 0).get r = some o → o.own = true → μ0 r = some f → f.b ≠ b) → e.b ≠ b
  f2 : ∀ b, b < w0.heap.size → (∀ r o f, (H 0).get r = some o → μ0 r = some f → f.b ≠ b) → e.b ≠ b
  val : ∀ d, o.dst = some d → ∃ v', tmps[d]? = some v' ∧ ∀ μ2, VRel (Emb.upd μ2 (H s).next e) ((H s).next + 1) (v i) v'
structure DInv (ops : Array Oper) (a : Tr Value) (v : Nat → Value) (kd : Nat → Kind) (H : Nat → AHeap) (m : Nat) (μ0 : Emb) (w0 : World) (X : Nat → Bool) (t : Nat) (μ : Emb) (w : World) (tmps : Array Value) (pe : Nat → Ent) : Prop where
  closed : Closed ops X
  le : t ≤ m
  cnt : ∀ i s, i < ops.size → kd i = .change s → (X i = true ↔ s < t)
  lat : ∀ i s, i < ops.size → kd i = .late s → s < t → X i = true
  done : ∀ (i : Nat) (o : Oper) (d : Tmp), ops[i]? = some o → o.dst = some d → X i = true → (∀ s, kd i = .late s → s < t) → ∃ v', tmps[d]? = some v' ∧ VRel μ (H t).next (v i) v'
  old : ∀ d u, a.get d = some u → (∀ (i : Nat) (o : Oper), ops[i]? = some o → o.dst = some d → X i = false) → ∃ v', tmps[d]? = some v' ∧ VRel μ (H t).next u v'
  ext : Ext μ0 (H 0) w0 μ (H t) w
  pend : ∀ i o s, ops[i]? = some o → kd i = .late s → X i = true → t ≤ s → Pend H v μ0 w0 t μ w tmps i o s (pe i)
  apart : ∀ i i' s s', i < ops.size → i' < ops.size → kd i = .late s → kd i' = .late s' → X i = true → X i' = true → t ≤ s → t ≤ s' → i ≠ i' → (pe i).b ≠ (pe i').b
noncomputable def Sat (ops : Array Oper) (kd : Nat → Kind) (X : Nat → Bool) (t : Nat) : Prop := ∀ i, i < ops.size → kd i = .late t → X i = false
section
variable {P : Program} {cx : Cx} {ops : Array Oper} {K : Nat → Nat → Prop} {a : Tr Value} {v : Nat → Value} {kd : Nat → Kind} {H : Nat → AHeap} {m : Nat} {μ0 : Emb} {w0 : World}
noncomputable def upd (X : Nat → Bool) (j : Nat) : Nat → Bool := fun i => if i = j then true else X i
theorem closed_upd {X : Nat → Bool} {j : Nat} (hX : Closed ops X) (he : EdgesIn ops X j) : Closed ops (upd X j) := by
  intro i hi o ho e hem hb
  unfold upd
  split
  · rfl
  · by_cases hij : i = j
    · subst hij; exact he o ho e hem hb
    · have : X i = true := by simpa [upd, hij] using hi
      exact hX i this o ho e hem hb
theorem adopt_one (D : DRun P cx ops K a v kd H m) {X : Nat → Bool} {t : Nat} {μ : Emb} {w : World} {tmps : Array Value} {pe : Nat → Ent} (I : DInv ops a v kd H m μ0 w0 X t μ w tmps pe) {i : Nat} (hi : i < ops.size) (hk : kd i = .late t) (hx : X i = true) :
    DInv ops a v kd H m μ0 w0 X (t + 1) (μ.upd (H t).next (pe i)) w tmps pe := by
  obtain ⟨o, ho⟩ : ∃ o, ops[i]? = some o := ⟨_, Array.getElem?_eq_getElem hi⟩
  have hno : (kd i).no = some t := by rw [hk]; rfl
  have hP := I.pend i o t ho hk hx (Nat.le_refl _)
  obtain ⟨c, ob, b1, b2, b3⟩ := hP.blk
  have hag : Agree (H t).next μ (μ.upd (H t).next (pe i)) := Agree.upd μ _ (Nat.le_refl _)
  have hn1 : (H (t + 1)).next = (H t).next + 1 := by rw [b2]; rfl
  have ob3 : ORel (μ.upd (H t).next (pe i)) ((H t).next + 1) (pe i) c ob := b3.mono hag (by omega)
  refine ⟨I.closed, D.lts i t hi hno, fun i' s hi' hk' => ?_, fun i' s hi' hk' hs => ?_, fun i' o' d ho' hd hx' hl => ?_, fun d u hu hno' => ?_, ?_, fun i' o' s ho' hk' hx' hs => ?_, fun i1 i2 s1 s2 h1 h2 k1 k2 x1 x2 l1 l2 hne => I.apart i1 i2 s1 s2 h1 h2 k1 k2 x1 x2 (by omega) (by omega) hne⟩
  · rw [I.cnt i' s hi' hk']
    constructor
    · intro h; omega
    · intro h
      rcases Nat.lt_or_ge s t with h' | h'
      · exact h'
      · have : s = t := by omega
        subst this
        have := D.uniq i' i s hi' hi (by rw [hk']; rfl) hno
        subst this; rw [hk] at hk'; cases hk'
  · rcases Nat.lt_or_ge s t with h' | h'
    · exact I.lat i' s hi' hk' h'
    · have : s = t := by omega
      subst this
      have := D.uniq i' i s hi' hi (by rw [hk']; rfl) hno
      subst this; exact hx
  · rw [hn1]
    by_cases e : i' = i
    · subst e
      rw [ho] at ho'; cases ho'
      obtain ⟨v', g1, g2⟩ := hP.val d hd
      exact ⟨v', g1, g2 μ⟩
    · obtain ⟨v', g1, g2⟩ := I.done i' o' d ho' hd hx' fun s hs => by
        have := hl s hs
        rcases Nat.lt_or_ge s t with h' | h'
        · exact h'
        · have e2 : s = t := by omega
          subst e2
          exact (e (D.uniq i' i s (Array.getElem?_eq_some_iff.1 ho').1 hi (by rw [hs]; rfl) hno)).elim
      exact ⟨v', g1, g2.mono hag (by omega)⟩
  · obtain ⟨v', g1, g2⟩ := I.old d u hu hno'
    exact ⟨v', g1, by rw [hn1]; exact g2.mono hag (by omega)⟩
  · rw [b2]
    exact I.ext.adoptE (pe i) ob b1 hP.free hP.f1 hP.f2 ob3
  · have hQ := I.pend i' o' s ho' hk' hx' (by omega)
    have hi' := (Array.getElem?_eq_some_iff.1 ho').1
    have hne : i' ≠ i := fun e => by subst e; rw [hk] at hk'; cases hk'; omega
    obtain ⟨c', ob', d1, d2, d3⟩ := hQ.blk
    refine ⟨⟨c', ob', d1, d2, by rw [hn1]; exact d3.mono hag (by omega)⟩, fun r p f hr hm => ?_, hQ.f1, hQ.f2, hQ.val⟩
    rw [b2, AHeap.get_new] at hr
    split at hr
    · rename_i e; subst e; rw [Emb.upd_same] at hm; cases hm
      exact I.apart i i' t s hi hi' hk hk' hx hx' (Nat.le_refl _) (by omega) (fun e => hne e.symm)
    · rename_i e; rw [Emb.upd_ne _ _ (Ne.symm e)] at hm; exact hQ.free r p f hr hm
theorem saturate (D : DRun P cx ops K a v kd H m) : ∀ (q : Nat) {X : Nat → Bool} {t : Nat} {μ : Emb} {w : World} {tmps : Array Value} {pe : Nat → Ent}, m - t ≤ q → DInv ops a v kd H m μ0 w0 X t μ w tmps pe → ∃ t' μ', DInv ops a v kd H m μ0 w0 X t' μ' w tmps pe ∧ Sat ops kd X t' := by
  intro q
  induction q with
  | zero =>
    intro X t μ w tmps pe hq I
    refine ⟨t, μ, I, fun i hi hk => ?_⟩
    have := D.lts i t hi (by rw [hk]; rfl)
    omega
  | succ q ih =>
    intro X t μ w tmps pe hq I
    by_cases h : ∃ i, i < ops.size ∧ kd i = .late t ∧ X i = true
    · obtain ⟨i, hi, hk, hx⟩ := h
      exact ih (by omega) (adopt_one D I hi hk hx)
    · refine ⟨t, μ, I, fun i hi hk => ?_⟩
      cases hx : X i with
      | false => rfl
      | true => exact (h ⟨i, hi, hk, hx⟩).elim
theorem drawn_step (D : DRun P cx ops K a v kd H m) {X : Nat → Bool} {t : Nat} {μ : Emb} {tmps : Array Value} {defers : List Deferred} {rd : RK} {w : World} {pe : Nat → Ent} {k : List Item} {cs : List Frame} {j : Nat} {rest : List Nat} {o : Oper}
    (I : DInv ops a v kd H m μ0 w0 X t μ w tmps pe) (S : Sat ops kd X t) (hsz : tmps.size = cx.nt) (ho : ops[j]? = some o) (hj : X j = false) (hed : EdgesIn ops X j) :
    ∃ t' μ' tmps' w' pe', DInv ops a v kd H m μ0 w0 (upd X j) t' μ' w' tmps' pe' ∧ Sat ops kd (upd X j) t' ∧ tmps'.size = cx.nt ∧
      Steps P (lone (frame cx.fn rd tmps defers (.inRegion ops (j :: rest) :: k)) cs w) (lone (frame cx.fn rd tmps' defers (.inRegion ops rest :: k)) cs w') := by
  obtain ⟨pa, hpa, hdf, hk⟩ := D.one j o ho
  have hjlt : j < ops.size := (Array.getElem?_eq_some_iff.1 ho).1
  have st := I.ext.st
  -- who stands behind j has not been carried out
  have later : ∀ i, Known ops j i → X i = false := by
    intro i hi
    cases hx : X i with
    | false => rfl
    | true => have := hi X I.closed (I.closed i hx); rw [this] at hj; cases hj
  -- if all up to s have been carried out, they are in the view
  have upto : ∀ s, (∀ i s', i < ops.size → (kd i).no = some s' → s' ≤ s → X i = true) → s < m → s < t := by
    intro s hall hsm
    rcases Nat.lt_or_ge s t with h | h
    · exact h
    · exfalso
      obtain ⟨i, hil, hki⟩ := D.all t (by omega)
      have hx := hall i t hil hki h
      cases hkd : kd i with
      | skip => rw [hkd] at hki; cases hki
      | quiet => rw [hkd] at hki; cases hki
      | change s' =>
        rw [hkd] at hki; cases hki
        have := (I.cnt i t hil hkd).1 hx; omega
      | late s' =>
        rw [hkd] at hki; cases hki
        have := S i hil hkd; rw [hx] at this; cases this
  -- what j hangs on is in the view
  have known : ∀ i s, i < ops.size → (kd i).no = some s → K i j → s < t := by
    intro i s hil hki hkn
    cases hkd : kd i with
    | skip => rw [hkd] at hki; cases hki
    | quiet => rw [hkd] at hki; cases hki
    | change s' =>
      rw [hkd] at hki; cases hki
      exact (I.cnt i s hil hkd).1 (D.kno i j hkn X I.closed hed)
    | late s' =>
      rw [hkd] at hki; cases hki
      refine upto s (fun i' s' hi' hs' hle => ?_) (D.lts i s hil (by rw [hkd]; rfl))
      by_cases e : s' = s
      · subst e
        have := D.uniq i' i s' hi' hil hs' (by rw [hkd]; rfl)
        subst this; exact D.kno _ _ hkn X I.closed hed
      · exact D.kno _ _ (D.below j i s hjlt hil hkd hkn i' s' hi' hs' (by omega)) X I.closed hed
  have act : ActRel μ (H t).next pa tmps := by
    intro d u hu
    rcases hpa d u hu with ⟨i, p, hp, hd, hkn, rfl⟩ | ⟨hau, hl⟩
    · exact I.done i p d hp hd (D.kno _ _ hkn X I.closed hed) fun s hs => known i s (Array.getElem?_eq_some_iff.1 hp).1 (by rw [hs]; rfl) hkn
    · refine I.old d u hau fun i p hp hd => ?_
      rcases hl i p hp hd with rfl | hl
      · exact hj
      · exact later i hl
  have psz : ∀ u', (put tmps o.dst u').size = cx.nt := fun u' => by cases hod : o.dst <;> simp [put, hsz]
  have keepd : ∀ (u' : Value) (i : Nat) (p : Oper) (d : Tmp), ops[i]? = some p → p.dst = some d → i ≠ j → (put tmps o.dst u')[d]? = tmps[d]? := by
    intro u' i p d hp hd hij
    cases hod : o.dst with
    | none => rfl
    | some d' =>
      have : d' ≠ d := fun e => hij (D.inj i j p o d hp ho hd (by rw [hod, e]))
      simp only [put]; rw [Array.getElem?_setIfInBounds_ne this]
  have keepo : ∀ (u' : Value) (d : Tmp), (∀ (i : Nat) (p : Oper), ops[i]? = some p → p.dst = some d → upd X j i = false) → (put tmps o.dst u')[d]? = tmps[d]? := by
    intro u' d hno
    cases hod : o.dst with
    | none => rfl
    | some d' =>
      have : d' ≠ d := fun e => by
        have := hno j o ho (by rw [hod, e])
        simp [upd] at this
      simp only [put]; rw [Array.getElem?_setIfInBounds_ne this]
  have updX : ∀ i, i ≠ j → upd X j i = X i := fun i hij => by simp [upd, hij]
  -- what waits goes on waiting
  have pend' : ∀ (t' : Nat) (μ' : Emb) (w' : World) (u' : Value), t ≤ t' → Ext μ (H t) w μ' (H t') w' → ∀ i o' s, ops[i]? = some o' → i ≠ j → kd i = .late s → X i = true → t' ≤ s → Pend H v μ0 w0 t' μ' w' (put tmps o.dst u') i o' s (pe i) := by
    intro t' μ' w' u' htt hx i o' s ho' hij hks hxi hs
    have hQ := I.pend i o' s ho' hks hxi (by omega)
    obtain ⟨c', ob', d1, d2, d3⟩ := hQ.blk
    have hfr := hx.frame (pe i).b (lt_of_heap d1) fun r p f hr hp hm => hQ.free r p f hr hm
    refine ⟨⟨c', ob', by rw [hfr.1]; exact d1, d2, d3.mono hx.agree hx.next⟩, hx.free (pe i).b (lt_of_heap d1) hQ.free, hQ.f1, hQ.f2, fun d hd => ?_⟩
    obtain ⟨v', g1, g2⟩ := hQ.val d hd
    exact ⟨v', by rw [keepd u' i o' d ho' hd hij]; exact g1, g2⟩
  -- what is known behind a step that is no late one
  have after : ∀ (t' : Nat) (μ' : Emb) (w' : World) (u' : Value), t ≤ t' → (∀ s, kd j ≠ .late s) → Ext μ (H t) w μ' (H t') w' → VRel μ' (H t').next (v j) u' → t' ≤ m → (∀ i s, i < ops.size → kd i = .change s → (upd X j i = true ↔ s < t')) → (∀ i s, i < ops.size → kd i = .late s → s < t' → s < t) →
      DInv ops a v kd H m μ0 w0 (upd X j) t' μ' w' (put tmps o.dst u') pe := by
    intro t' μ' w' u' htt hnl hx hv hle hcnt hlt
    refine ⟨closed_upd I.closed hed, hle, hcnt, fun i s hi hks hs => ?_, fun i p d hp hd hi hl => ?_, fun d u hau hno => ?_, I.ext.trans hx, fun i o' s ho' hks hxi hs => ?_, fun i1 i2 s1 s2 h1 h2 k1 k2 x1 x2 l1 l2 hne => ?_⟩
    · have hij : i ≠ j := fun e => by subst e; exact hnl s hks
      rw [updX i hij]; exact I.lat i s hi hks (hlt i s hi hks hs)
    · by_cases hij : i = j
      · subst hij
        rw [ho] at hp; cases hp
        have hlt : d < tmps.size := by rw [hsz]; exact D.dlt i o d ho hd
        exact ⟨u', by simp [put, hd, hlt], hv⟩
      · have hxi : X i = true := by simpa [upd, hij] using hi
        obtain ⟨v', h1, h2⟩ := I.done i p d hp hd hxi fun s hs => hlt i s (Array.getElem?_eq_some_iff.1 hp).1 hs (hl s hs)
        exact ⟨v', by rw [keepd u' i p d hp hd hij]; exact h1, h2.mono hx.agree hx.next⟩
    · obtain ⟨v', h1, h2⟩ := I.old d u hau fun i p hp hd => by
        have := hno i p hp hd
        unfold upd at this
        split at this
        · cases this
        · exact this
      exact ⟨v', by rw [keepo u' d hno]; exact h1, h2.mono hx.agree hx.next⟩
    · have hij : i ≠ j := fun e => by subst e; exact hnl s hks
      exact pend' t' μ' w' u' htt hx i o' s ho' hij hks (by rw [updX i hij] at hxi; exact hxi) hs
    · have n1 : i1 ≠ j := fun e => by subst e; exact hnl s1 k1
      have n2 : i2 ≠ j := fun e => by subst e; exact hnl s2 k2
      rw [updX i1 n1] at x1; rw [updX i2 n2] at x2
      exact I.apart i1 i2 s1 s2 h1 h2 k1 k2 x1 x2 (by omega) (by omega) hne
  have fin : ∀ {t' : Nat} {μ' : Emb} {w' : World} {tmps' : Array Value} {pe' : Nat → Ent}, DInv ops a v kd H m μ0 w0 (upd X j) t' μ' w' tmps' pe' → tmps'.size = cx.nt → Steps P (lone (frame cx.fn rd tmps defers (.inRegion ops (j :: rest) :: k)) cs w) (lone (frame cx.fn rd tmps' defers (.inRegion ops rest :: k)) cs w') →
      ∃ t' μ' tmps' w' pe', DInv ops a v kd H m μ0 w0 (upd X j) t' μ' w' tmps' pe' ∧ Sat ops kd (upd X j) t' ∧ tmps'.size = cx.nt ∧
        Steps P (lone (frame cx.fn rd tmps defers (.inRegion ops (j :: rest) :: k)) cs w) (lone (frame cx.fn rd tmps' defers (.inRegion ops rest :: k)) cs w') := by
    intro t' μ' w' tmps' pe' I' hs' hst
    obtain ⟨t2, μ2, I2, S2⟩ := saturate D (m - t') (Nat.le_refl _) I'
    exact ⟨t2, μ2, tmps', w', pe', I2, S2, hs', hst⟩
  have same : ∀ i s, i < ops.size → kd i = .change s → (∀ s', kd j ≠ .change s') → (upd X j i = true ↔ s < t) := by
    intro i s hi hks hne
    have : i ≠ j := fun e => by subst e; exact hne s hks
    simp only [upd, this, if_false]
    exact I.cnt i s hi hks
  cases hkd : kd j with
  | skip =>
    rw [hkd] at hk
    obtain ⟨hg, hv⟩ := hk
    have hw := aguard_wanted act hg
    refine fin (after t μ w undef (Nat.le_refl _) (fun s => by rw [hkd]; simp) (Ext.refl st) (by rw [hv]; exact .tuple .nil) I.le (fun i s hi hks => same i s hi hks fun s' e => by rw [hkd] at e; cases e) (fun _ _ _ _ h => h)) (psz _) (.one ?_)
    have := st_op_skip (P := P) (fn := cx.fn) (rd := rd) (tmps := tmps) (defers := defers) (k := k) (cs := cs) (w := w) (ops := ops) (i := j) (rest := rest) (by simp [ho, hw])
    rw [this, ho]; rfl
  | quiet =>
    rw [hkd] at hk
    obtain ⟨hg, hop⟩ := hk
    have hw := aguard_wanted act hg
    have hmay : May ops K kd j t := by
      refine ⟨known, fun i s hil hks hkn => ?_⟩
      have hx := later i (D.kno _ _ hkn)
      rcases Nat.lt_or_ge s t with h | h
      · exfalso
        cases hki : kd i with
        | skip => rw [hki] at hks; cases hks
        | quiet => rw [hki] at hks; cases hks
        | change s' => rw [hki] at hks; cases hks; have := (I.cnt i s hil hki).2 h; rw [hx] at this; cases this
        | late s' => rw [hki] at hks; cases hks; have := I.lat i s hil hki h; rw [hx] at this; cases this
      · exact h
    obtain ⟨nx, w1, mm, u, u', h', μ', w', e1, e2, e3, ⟨rfl, rfl⟩, e6, e7⟩ := hop t I.le hmay μ (opnd tmps) w (frame cx.fn rd tmps defers (.inRegion ops (j :: rest) :: k)) cs act.opnd st
    refine fin (after t μ' w' u' (Nat.le_refl _) (fun s => by rw [hkd]; simp) e6 e7 I.le (fun i s hi hks => same i s hi hks fun s' e => by rw [hkd] at e; cases e) (fun _ _ _ _ h => h)) (psz _) (.head (st_op_push ho hw hdf e1 e2) ?_)
    rw [finish_region, ho] at e3
    exact e3
  | change s =>
    rw [hkd] at hk
    obtain ⟨hg, hop⟩ := hk
    have hw := aguard_wanted act hg
    have hsm : s < m := D.lts j s hjlt (by rw [hkd]; rfl)
    have hst : s = t := by
      have hns : ¬ s < t := fun h => by rw [(I.cnt j s hjlt hkd).2 h] at hj; cases hj
      rcases Nat.lt_or_ge t s with h | h
      · have := upto (s - 1) (fun i s' hi hs' hle => (D.prev j s hjlt hkd i s' hi hs' (by omega)) X I.closed hed) (by omega)
        omega
      · omega
    subst hst
    obtain ⟨nx, w1, mm, u, u', h', μ', w', e1, e2, e3, ⟨rfl, rfl⟩, e6, e7⟩ := hop μ (opnd tmps) w (frame cx.fn rd tmps defers (.inRegion ops (j :: rest) :: k)) cs act.opnd st
    refine fin (after (s + 1) μ' w' u' (by omega) (fun s => by rw [hkd]; simp) e6 e7 (by omega) (fun i s' hi hks => by
      by_cases hij : i = j
      · subst hij; rw [hkd] at hks; cases hks; simp [upd]
      · simp only [upd, hij, if_false]
        rw [I.cnt i s' hi hks]
        constructor
        · intro h; omega
        · intro h
          rcases Nat.lt_or_ge s' s with h' | h'
          · exact h'
          · exfalso; have : s' = s := by omega
            subst this; exact hij (D.uniq i j s' hi hjlt (by rw [hks]; rfl) (by rw [hkd]; rfl))) (fun i s' hi hks hs => by
      rcases Nat.lt_or_ge s' s with h' | h'
      · exact h'
      · exfalso; have : s' = s := by omega
        subst this
        have := D.uniq i j s' hi hjlt (by rw [hks]; rfl) (by rw [hkd]; rfl)
        subst this; rw [hkd] at hks; cases hks)) (psz _) (.head (st_op_push ho hw hdf e1 e2) ?_)
    rw [finish_region, ho] at e3
    exact e3
  | late s =>
    rw [hkd] at hk
    obtain ⟨hg, rv, ob, hnv, hvj, hH, hown, hbo, hop⟩ := hk
    have hw := aguard_wanted act hg
    have hts : t ≤ s := by
      rcases Nat.lt_or_ge s t with h | h
      · have := I.lat j s hjlt hkd h; rw [hj] at this; cases this
      · exact h
    obtain ⟨nx, w1, mm, u, u', h', μ', w', e1, e2, e3, ⟨rfl, rfl⟩, e6, e7⟩ := hop (H t) μ (opnd tmps) w (frame cx.fn rd tmps defers (.inRegion ops (j :: rest) :: k)) cs act.opnd st
    have hbo' : BO (H t).next ob := hbo μ _ _ act.opnd
    have hgn : ((H t).new ob).get (H t).next = some ob := by rw [AHeap.get_new, if_pos rfl]
    obtain ⟨_, e, c, g1, g2, g3⟩ := e6.st.live (H t).next ob hgn
    have xo : Ext μ (H t) w μ (H t) w' := Ext.old st e6 rfl fun r o hr => ⟨(st.live r o hr).1, by rw [AHeap.get_new, if_neg (by have := (st.live r o hr).1; omega)]; exact hr, .inl hr⟩
    have hor : ORel μ (H t).next e c ob := (g3.narrow hbo').mono (fun q hq => (e6.agree q hq).symm) (Nat.le_refl _)
    have hfree : ∀ r p f, (H t).get r = some p → μ r = some f → f.b ≠ e.b := by
      intro r p f hr hm hb
      have hlt := (st.live r p hr).1
      have := e6.st.apart (H t).next r ob p e f hgn hown (by rw [AHeap.get_new, if_neg (by omega)]; exact hr) g1 (by rw [e6.agree r hlt]; exact hm) hb.symm
      omega
    have hval : ∀ d, o.dst = some d → ∃ v', (put tmps o.dst u')[d]? = some v' ∧ ∀ μ2, VRel (Emb.upd μ2 (H s).next e) ((H s).next + 1) (v j) v' := by
      intro d hd
      have hlt : d < tmps.size := by rw [hsz]; exact D.dlt j o d ho hd
      refine ⟨u', by simp [put, hd, hlt], fun μ2 => ?_⟩
      rw [hvj]; exact hnv.move e7 g1
    refine fin (pe' := fun q => if q = j then e else pe q) (t' := t) (μ' := μ) (w' := w') (tmps' := put tmps o.dst u') ?_ (psz _) (.head (st_op_push ho hw hdf e1 e2) ?_)
    · refine ⟨closed_upd I.closed hed, I.le, fun i s' hi hks => same i s' hi hks (fun s' e => by rw [hkd] at e; cases e), fun i s' hi hks hs => ?_, fun i p d hp hd hi hl => ?_, fun d u hau hno => ?_, I.ext.trans xo, fun i o' s' ho' hks hxi hs => ?_, fun i1 i2 s1 s2 h1 h2 k1 k2 x1 x2 l1 l2 hne => ?_⟩
      · have hij : i ≠ j := fun e => by subst e; rw [hkd] at hks; cases hks; omega
        rw [updX i hij]; exact I.lat i s' hi hks hs
      · have hij : i ≠ j := fun e => by subst e; have := hl s hkd; omega
        obtain ⟨v', h1, h2⟩ := I.done i p d hp hd (by rw [updX i hij] at hi; exact hi) hl
        exact ⟨v', by rw [keepd u' i p d hp hd hij]; exact h1, h2⟩
      · obtain ⟨v', h1, h2⟩ := I.old d u hau fun i p hp hd => by
          have := hno i p hp hd
          unfold upd at this
          split at this
          · cases this
          · exact this
        exact ⟨v', by rw [keepo u' d hno]; exact h1, h2⟩
      · by_cases hij : i = j
        · subst hij
          rw [ho] at ho'; cases ho'
          rw [hkd] at hks; cases hks
          rw [if_pos rfl]
          refine ⟨⟨c, ob, g2, hH, hor⟩, hfree, fun b hb hf => ?_, fun b hb hf => ?_, hval⟩
          · have y := (I.ext.frame b hb hf).2
            exact (e6.frame b (Nat.lt_of_lt_of_le hb I.ext.size) y).2 (H t).next ob e hgn hown g1
          · exact e6.free b (Nat.lt_of_lt_of_le hb I.ext.size) (I.ext.free b hb hf) (H t).next ob e hgn g1
        · rw [if_neg hij]
          exact pend' t μ w' u' (Nat.le_refl _) xo i o' s' ho' hij hks (by rw [updX i hij] at hxi; exact hxi) hs
      · have key : ∀ i s', i < ops.size → i ≠ j → kd i = .late s' → upd X j i = true → t ≤ s' → (pe i).b ≠ e.b := by
          intro i s' hil hij hks hxi hs
          rw [updX i hij] at hxi
          obtain ⟨o', ho'⟩ : ∃ o', ops[i]? = some o' := ⟨_, Array.getElem?_eq_getElem hil⟩
          have hQ := I.pend i o' s' ho' hks hxi hs
          obtain ⟨c', ob', d1, d2, d3⟩ := hQ.blk
          exact fun h => (e6.free (pe i).b (lt_of_heap d1) hQ.free (H t).next ob e hgn g1) h.symm
        show (if i1 = j then e else pe i1).b ≠ (if i2 = j then e else pe i2).b
        by_cases n1 : i1 = j
        · have n2 : i2 ≠ j := fun e => hne (n1.trans e.symm)
          rw [if_pos n1, if_neg n2]; exact fun h => key i2 s2 h2 n2 k2 x2 l2 h.symm
        · by_cases n2 : i2 = j
          · rw [if_pos n2, if_neg n1]; exact key i1 s1 h1 n1 k1 x1 l1
          · rw [if_neg n1, if_neg n2]
            exact I.apart i1 i2 s1 s2 h1 h2 k1 k2 (by rw [updX i1 n1] at x1; exact x1) (by rw [updX i2 n2] at x2; exact x2) l1 l2 hne
    · rw [finish_region, ho] at e3
      exact e3
theorem ready_eq (listed : Array Bool) : ((List.range ops.size).filter fun i => !listed.getD i true && ((ops[i]?).map (·.after.all fun e => !Region.binds .any e || listed.getD e.on false)).getD false) = Region.ready .any ops listed := rfl
theorem drawn_all (D : DRun P cx ops K a v kd H m) : ∀ (fuel tape : Nat) (listed : Array Bool) (t : Nat) (μ : Emb) (tmps : Array Value) (defers : List Deferred) (rd : RK) (w : World) (pe : Nat → Ent) (k : List Item) (cs : List Frame),
    listed.size = ops.size → (listed.toList.countP (fun b => !b)) = fuel → DInv ops a v kd H m μ0 w0 (fun i => listed.getD i false) t μ w tmps pe → Sat ops kd (fun i => listed.getD i false) t → tmps.size = cx.nt →
    ∃ μ' tmps' w' pe', DInv ops a v kd H m μ0 w0 (fun i => decide (i < ops.size)) m μ' w' tmps' pe' ∧ tmps'.size = cx.nt ∧
      Steps P (lone (frame cx.fn rd tmps defers (.inRegion ops (Region.linearise.go .any ops fuel tape listed []) :: k)) cs w) (lone (frame cx.fn rd tmps' defers k) cs w') := by
  intro fuel
  induction fuel with
  | zero =>
    intro tape listed t μ tmps defers rd w pe k cs hsize hcount I S hsz
    have hall : ∀ i, i < ops.size → listed.getD i false = true := by
      intro i hi
      have h0 : i < listed.size := by omega
      have := List.countP_eq_zero.1 hcount (listed[i]) (by simp)
      simp only [Array.getD_eq_getD_getElem?, Array.getElem?_eq_getElem h0, Option.getD_some]
      simpa using this
    have hX : (fun i => listed.getD i false) = fun i => decide (i < ops.size) := by
      funext i
      by_cases hi : i < ops.size
      · simp [hall i hi, hi]
      · have : ¬ i < listed.size := by omega
        simp [Array.getD_eq_getD_getElem?, Array.getElem?_eq_none (Nat.le_of_not_lt this), hi]
    have htm : t = m := by
      rcases Nat.lt_or_ge t m with h | h
      · obtain ⟨i, hi, hk⟩ := D.all t h
        exfalso
        cases hkd : kd i with
        | skip => rw [hkd] at hk; cases hk
        | quiet => rw [hkd] at hk; cases hk
        | change s => rw [hkd] at hk; cases hk; have := (I.cnt i t hi hkd).1 (hall i hi); omega
        | late s => rw [hkd] at hk; cases hk; have := S i hi hkd; simp only [hall i hi] at this; cases this
      · have := I.le; omega
    subst htm
    rw [hX] at I
    refine ⟨μ, tmps, w, pe, I, hsz, .one ?_⟩
    simp only [Region.linearise.go, List.reverse_nil]
    exact st_region_end
  | succ fuel ih =>
    intro tape listed t μ tmps defers rd w pe k cs hsize hcount I S hsz
    -- somebody is ready: the first that has not been listed
    have hsome : ∃ i, i ∈ Region.ready .any ops listed := by
      have hex : ∃ i, i < ops.size ∧ listed.getD i true = false := by
        have : 0 < listed.toList.countP (fun b => !b) := by omega
        obtain ⟨b, hb1, hb2⟩ := List.countP_pos_iff.1 this
        obtain ⟨i, hi⟩ := List.getElem?_of_mem hb1
        have hlt := (List.getElem?_eq_some_iff.1 hi).1
        simp only [Array.length_toList] at hlt
        rw [Array.getElem?_toList] at hi
        exact ⟨i, by omega, by simp only [Array.getD_eq_getD_getElem?, hi, Option.getD_some]; simpa using hb2⟩
      have hmin : ∀ q, (∃ i, i < q ∧ i < ops.size ∧ listed.getD i true = false) → ∃ i, i < ops.size ∧ listed.getD i true = false ∧ ∀ i', i' < i → listed.getD i' true = true := by
        intro q
        induction q with
        | zero => rintro ⟨i, hi, _⟩; omega
        | succ q ihq =>
          rintro ⟨i, hi, hio, hil⟩
          by_cases hex2 : ∃ i', i' < q ∧ i' < ops.size ∧ listed.getD i' true = false
          · exact ihq hex2
          · refine ⟨i, hio, hil, fun i' hi' => ?_⟩
            cases hx : listed.getD i' true with
            | true => rfl
            | false => exact (hex2 ⟨i', by omega, by omega, hx⟩).elim
      obtain ⟨i0, hi0, hl0⟩ := hex
      obtain ⟨i, hio, hil, hbelow⟩ := hmin (i0 + 1) ⟨i0, by omega, hi0, hl0⟩
      obtain ⟨o, ho⟩ : ∃ o, ops[i]? = some o := ⟨_, Array.getElem?_eq_getElem hio⟩
      refine ⟨i, mem_ready.2 ⟨hil, o, ho, fun e he hb => ?_⟩⟩
      have hlt := D.back i o ho e he hb
      have := hbelow e.on hlt
      have hls : e.on < listed.size := by omega
      simp only [Array.getD_eq_getD_getElem?, Array.getElem?_eq_getElem hls, Option.getD_some] at this ⊢
      exact this
    -- the one that is taken
    have hgo : ∃ i tape', i ∈ Region.ready .any ops listed ∧ Region.linearise.go .any ops (fuel + 1) tape listed [] = i :: Region.linearise.go .any ops fuel tape' (listed.setIfInBounds i true) [] := by
      simp only [Region.linearise.go, ready_eq]
      have hlen : 0 < (Region.ready .any ops listed).length := by
        obtain ⟨i, hi⟩ := hsome
        exact List.length_pos_of_mem hi
      have hmod : tape % (Region.ready .any ops listed).length < (Region.ready .any ops listed).length := Nat.mod_lt _ hlen
      rw [List.getElem?_eq_getElem hmod]
      refine ⟨_, tape / (Region.ready .any ops listed).length, List.getElem_mem hmod, ?_⟩
      simp only
      rw [linearise_go_acc .any ops fuel _ _ [_]]
      rfl
    obtain ⟨j, tape', hjr, hgo⟩ := hgo
    obtain ⟨hjl, o, ho, hje⟩ := mem_ready.1 hjr
    have hjlt : j < ops.size := (Array.getElem?_eq_some_iff.1 ho).1
    have hjls : j < listed.size := by omega
    have hjf : listed[j] = false := by
      simpa only [Array.getD_eq_getD_getElem?, Array.getElem?_eq_getElem hjls, Option.getD_some] using hjl
    have hj0 : listed.getD j false = false := by simp only [Array.getD_eq_getD_getElem?, Array.getElem?_eq_getElem hjls, Option.getD_some, hjf]
    rw [hgo]
    obtain ⟨t', μ', tmps', w', pe', I', S', s1, s6⟩ := drawn_step D (rest := Region.linearise.go .any ops fuel tape' (listed.setIfInBounds j true) []) (k := k) (cs := cs) (defers := defers) (rd := rd) I S hsz ho hj0
      (fun p hp e he hb => by rw [ho] at hp; cases hp; exact hje e he hb)
    have hX : upd (fun i => listed.getD i false) j = fun i => (listed.setIfInBounds j true).getD i false := by
      funext i
      simp only [upd]
      by_cases hij : i = j
      · subst hij; simp [Array.getD_eq_getD_getElem?, hjls]
      · simp only [hij, if_false, Array.getD_eq_getD_getElem?]
        rw [Array.getElem?_setIfInBounds_ne (Ne.symm hij)]
    rw [hX] at I' S'
    have hcount' : ((listed.setIfInBounds j true).toList.countP fun b => !b) = fuel := by
      rw [Array.toList_setIfInBounds]
      have hjl' : j < listed.toList.length := by simpa using hjls
      rw [List.countP_set hjl']
      have : listed.toList[j] = false := by simpa using hjf
      simp [this, hcount]
    obtain ⟨μ2, tmps2, w2, pe2, I2, r1, r6⟩ := ih tape' (listed.setIfInBounds j true) t' μ' tmps' defers rd w' pe' k cs (by simpa using hsize) hcount' I' S' s1
    exact ⟨μ2, tmps2, w2, pe2, I2, r1, s6.trans r6⟩
theorem CWp.drawn (hmix : P.follows .mixedOrders = true) (D : DRun P cx ops K a v kd H m) {id : Nat} {aF : Tr Value} {Q : AExit → Tr Value → AHeap → Prop}
    (hF : ∀ d u, aF.get d = some u → (∃ i p, ops[i]? = some p ∧ p.dst = some d ∧ u = v i) ∨ (a.get d = some u ∧ ∀ (i : Nat) (p : Oper), ops[i]? = some p → p.dst ≠ some d)) (hQ : Q .normal aF (H m)) : CWp P cx (.region id ops true) a (H 0) Q := by
  intro μ base tmps defers rd w k cs p
  have hsched : ∀ t, Region.schedule (P.follows .mixedOrders) ops t = Region.linearise.go .any ops ops.size t (Array.replicate ops.size false) [] := fun t => by simp [Region.schedule, hmix, Region.linearise]
  have hfalse : (fun i => (Array.replicate ops.size false).getD i false) = fun _ => false := by
    funext i
    simp only [Array.getD_eq_getD_getElem?, Array.getElem?_replicate]
    split <;> rfl
  have x0 := Ext.same (w' := { w with drawn := w.drawn + 1 }) p.st rfl rfl rfl
  have I : DInv ops a v kd H m μ { w with drawn := w.drawn + 1 } (fun i => (Array.replicate ops.size false).getD i false) 0 μ { w with drawn := w.drawn + 1 } tmps (fun _ => ⟨0, 0, 0, 0⟩) := by
    rw [hfalse]
    exact ⟨fun j hj => by simp at hj, Nat.zero_le _, fun i s _ _ => by simp, fun i s _ _ h => by omega, fun i o d _ _ hx => by simp at hx, fun d u hu _ => p.act d u hu, Ext.refl x0.st, fun i o s _ _ hx => by simp at hx, fun i i' s s' _ _ _ _ hx => by simp at hx⟩
  have S : Sat ops kd (fun i => (Array.replicate ops.size false).getD i false) 0 := by rw [hfalse]; exact fun _ _ _ => rfl
  obtain ⟨μ', tmps', w', pe', I', r1, r6⟩ := drawn_all D ops.size (w.tape w.drawn (.order cx.fn id)) (Array.replicate ops.size false) 0 μ tmps defers rd { w with drawn := w.drawn + 1 } _ k cs (by simp) (by simp [List.countP_replicate])
    I S p.size
  have r5 := x0.trans I'.ext
  have p' := p.ext r5
  refine ⟨.normal, aF, H m, μ', tmps', defers, w', hQ, ⟨fun d u hu => ?_, r1, p'.rdr, p'.dok, p.dno, p.dge, p'.bsz, p'.st⟩, r5, .head st_region_draw ?_⟩
  · rcases hF d u hu with ⟨i, o, ho, hd, rfl⟩ | ⟨hau, hno⟩
    · exact I'.done i o d ho hd (by simpa using (Array.getElem?_eq_some_iff.1 ho).1) fun s hs => D.lts i s (Array.getElem?_eq_some_iff.1 ho).1 (by rw [hs]; rfl)
    · exact I'.old d u hau fun i o ho hd => (hno i o ho hd).elim
  · rw [hsched]; exact r6
end
end Go.Ab
namespace Go.Ab
set_option linter.unusedSimpArgs false
set_option linter.unusedVariables false
section ops
variable {P : Program} {T : Tr TI}
noncomputable def keep (h : AHeap) : Option Value → Option (Value × AHeap)
  | some v => some (v, h)
  | none => none
noncomputable def unit : Option AHeap → Option (Value × AHeap)
  | some h => some (.tuple #[], h)
  | none => none
noncomputable def aparts (ρ : Operand → Option Value) : List (Nat × Operand) → Option (List (Nat × Value))
  | [] => some []
  | (i, x) :: xs => match ρ x, aparts ρ xs with
    | some v, some l => some ((i, v) :: l)
    | _, _ => none
noncomputable def aPure (P : Program) (ok : Bool) (s : Sem Value) : Option Value :=
  bif ok then match pureRun P s with
    | some v => bif flat v then some v else none
    | none => none
  else none
noncomputable def oopnd (ρ : Operand → Option Value) : Option Operand → Option (Option Value)
  | none => some none
  | some x => match ρ x with
    | some v => some (some v)
    | none => none
noncomputable def aNilCheck : Value → Option Value
  | .pointer (some a) => some (.pointer (some a))
  | .func (.func f) a c => some (.func (.func f) a c)
  | .func (.yield l) a c => some (.func (.yield l) a c)
  | _ => none
noncomputable def noYield : Fn → Bool
  | .yield _ => false
  | _ => true
noncomputable def isIface : TypeDesc → Bool
  | .interface _ => true
  | _ => false
noncomputable def aAssert (T : Tr TI) (asserted : TypeId) (ck : Bool) (x : Value) : Option Value :=
  match T.get asserted with
  | none => none
  | some ti => bif isIface ti.und then none else
    match x with
    | .nilIface => bif ck then match ti.zero with
        | some z => bif flat z then some (.tuple #[z, .bool false]) else none
        | none => none
      else none
    | .iface t v => bif Nat.beq t asserted then some (bif ck then .tuple #[v, .bool true] else v)
      else bif ck then match ti.zero with
        | some z => bif flat z then some (.tuple #[z, .bool false]) else none
        | none => none
      else none
    | _ => none
theorem assert_good (ok : TyOK P T) {μ : Emb} {n : Nat} {asserted xt : TypeId} {ck : Bool} {x x' v : Value} (hx : VRel μ n x x') (ha : aAssert T asserted ck x = some v) (w : World) :
    ∃ v', (Instr.typeAssert x' xt asserted ck).run P w = .ok v' w ∧ VRel μ n v v' := by
  unfold aAssert at ha
  split at ha
  · cases ha
  · rename_i ti ht
    cases hi : isIface ti.und
    · rw [hi, cond_false] at ha
      have hz : ∀ {v}, (match ti.zero with
        | some z => bif flat z then some (Value.tuple #[z, .bool false]) else none
        | none => none) = some v → ∃ z, ti.zero = some z ∧ flat z = true ∧ v = .tuple #[z, .bool false] := by
        intro v h
        split at h
        · rename_i z hz
          cases hf : flat z
          · rw [hf, cond_false] at h; cases h
          · rw [hf, cond_true] at h; cases h; exact ⟨z, hz, hf, rfl⟩
        · cases h
      have hu : ∀ {α : Type} (f g : α), (match ti.und with | .interface _ => f | _ => g) = g := by
        intro α f g
        cases hd : ti.und <;> first | rfl | (rw [hd] at hi; cases hi)
      cases hx with
      | nilIface =>
        cases ck with
        | false => cases ha
        | true =>
          obtain ⟨z, h1, h2, rfl⟩ := hz ha
          refine ⟨.tuple #[z, .bool false], ?_, .tuple (.cons (.of_flat _ _ h2) (.cons (.bool _) .nil))⟩
          simp only [Instr.typeAssert, Sem.run_bind, run_underlying ok ht, Result.andThen_ok]
          cases hd : ti.und <;> first | (rw [hd] at hi; cases hi; done) | simp only [if_true, Sem.run_bind, run_zeroValue ok ht w h1, Result.andThen_ok, Sem.run_pure]
      | iface hv =>
        rename_i t u u'
        simp only at ha
        cases hb : Nat.beq t asserted with
        | true =>
          rw [hb, cond_true] at ha
          have := Nat.eq_of_beq_eq_true hb
          subst this
          cases ck with
          | false =>
            cases ha
            refine ⟨u', ?_, hv⟩
            simp only [Instr.typeAssert, Sem.run_bind, run_underlying ok ht, Result.andThen_ok]
            cases hd : ti.und <;> first | (rw [hd] at hi; cases hi; done) | simp [Sem.run_pure]
          | true =>
            cases ha
            refine ⟨.tuple #[u', .bool true], ?_, .tuple (.cons hv (.cons (.bool _) .nil))⟩
            simp only [Instr.typeAssert, Sem.run_bind, run_underlying ok ht, Result.andThen_ok]
            cases hd : ti.und <;> first | (rw [hd] at hi; cases hi; done) | simp [Sem.run_pure]
        | false =>
          rw [hb, cond_false] at ha
          have hne : ¬ t = asserted := fun e => by subst e; rw [show Nat.beq t t = true from Nat.beq_refl t] at hb; cases hb
          cases ck with
          | false => cases ha
          | true =>
            obtain ⟨z, h1, h2, rfl⟩ := hz ha
            refine ⟨.tuple #[z, .bool false], ?_, .tuple (.cons (.of_flat _ _ h2) (.cons (.bool _) .nil))⟩
            simp only [Instr.typeAssert, Sem.run_bind, run_underlying ok ht, Result.andThen_ok]
            cases hd : ti.und <;> first | (rw [hd] at hi; cases hi; done) | simp only [if_neg hne, if_true, Sem.run_bind, run_zeroValue ok ht w h1, Result.andThen_ok, Sem.run_pure]
      | _ => cases ha
    · rw [hi, cond_true] at ha; cases ha
noncomputable def aCapOf (T : Tr TI) (argTypes : Array TypeId) (x : Value) : Option Value :=
  match argTypes.toList with
  | t :: _ => match T.get t with
    | some ti => match ti.und, x with
      | .slice _, .slice none 0 0 => some (.int .i64 0)
      | .slice _, .slice (some _) _ (c + 1) => some (.int .i64 c)
      | _, _ => none
    | none => none
  | [] => none
theorem cap_good (ok : TyOK P T) {μ : Emb} {n : Nat} {argTypes : Array TypeId} (ty : TypeId) {x x' v : Value} (w : World) (hx : VRel μ n x x') (ha : aCapOf T argTypes x = some v) :
    ∃ v', (Builtin.cap_ argTypes ty #[x']).run P w = .ok v' w ∧ VRel μ n v v' := by
  unfold aCapOf at ha
  split at ha
  · rename_i t rest hat
    have h0 : argTypes[0]? = some t := by rw [← Array.getElem?_toList, hat]; rfl
    split at ha
    · rename_i ti ht
      split at ha
      · rename_i e hti
        cases ha
        cases hx
        exact ⟨.int .i64 0, by simp only [Builtin.cap_, h0, List.getElem?_toArray, List.getElem?_cons_zero, Sem.run_bind, run_underlying ok ht, hti, Result.andThen_ok, Sem.run_pure, goInt]; rfl, .int _ _⟩
      · rename_i e a l c hti
        cases ha
        cases hx with
        | sliceK hr hm => exact ⟨.int .i64 c, by simp only [Builtin.cap_, h0, List.getElem?_toArray, List.getElem?_cons_zero, Sem.run_bind, run_underlying ok ht, hti, Result.andThen_ok, Sem.run_pure, goInt], .int _ _⟩
        | sliceKZ hr hm => exact ⟨.int .i64 0, by simp only [Builtin.cap_, h0, List.getElem?_toArray, List.getElem?_cons_zero, Sem.run_bind, run_underlying ok ht, hti, Result.andThen_ok, Sem.run_pure, goInt]; rfl, .int _ _⟩
      · cases ha
    · cases ha
  · cases ha
noncomputable def aAppendZ (T : Tr TI) (argTypes : Array TypeId) (s x : Value) (h : AHeap) : Option (Value × AHeap) :=
  match argTypes.toList, s, x with
  | [t, u], .slice none 0 0, .int _ nx => match T.get t, T.get u with
    | some ti, some ui => match ti.und, ui.und with
      | .slice elem, .int _ => match T.get elem with
        | some ei => match ei.zero with
          | some z =>
            if (z.cells.toList.all flat1 = true ∧ z.cells.size = ei.size ∧ 1 ≤ ei.size ∧ 1 ≤ ei.bytes) ∧ (1 ≤ nx ∧ nx ≤ 16777216) ∧ (2 * nx.toNat + 256) * ei.bytes ≤ 281474976710656 then
              some (.slice (some ⟨h.next, 0, none⟩) nx.toNat 0, h.new (.cells (zeros z.cells.toList nx.toNat) ei.size))
            else none
          | none => none
        | none => none
      | _, _ => none
    | _, _ => none
  | _, _, _ => none
theorem appendZ_good (ok : TyOK P T) {μ : Emb} {h h' : AHeap} {w : World} (st : StRel μ h w) {argTypes : Array TypeId} (ty : TypeId) {s s' x x' v : Value} (hs : VRel μ h.next s s') (hx : VRel μ h.next x x')
    (ha : aAppendZ T argTypes s x h = some (v, h')) : GoodV P μ h w (Builtin.append_ argTypes ty #[s', x']) v h' := by
  unfold aAppendZ at ha
  split at ha
  · rename_i t u k nx hat
    cases hs
    cases hx
    have h0 : argTypes[0]? = some t := by rw [← Array.getElem?_toList, hat]; rfl
    have h1 : argTypes[1]? = some u := by rw [← Array.getElem?_toList, hat]; rfl
    split at ha
    · rename_i ti ui ht hu
      split at ha
      · rename_i elem k2 hti hui
        split at ha
        · rename_i ei he
          split at ha
          · rename_i z hz
            split at ha
            · rename_i hc
              obtain ⟨⟨c1, c2, c3, c4⟩, ⟨c5, c6⟩, c7⟩ := hc
              simp only [Option.some.injEq, Prod.mk.injEq] at ha
              obtain ⟨rfl, rfl⟩ := ha
              obtain ⟨n, rfl⟩ := Int.eq_ofNat_of_zero_le (a := nx) (by omega)
              simp only [Int.toNat_natCast] at c7 ⊢
              obtain ⟨i, hi0, hi2, hi3, hi4, _⟩ := ok.ok _ _ he
              have hi1 : ∀ w : World, (typeInfo elem).run P w = .ok i w := fun w' => by simp [typeInfo, hi0]
              have wl : IntKind.i64.wrap (n : Int) = (n : Int) := by
                simp only [IntKind.wrap, IntKind.bits, IntKind.signed]; simp; omega
              have hb : n * i.bytes ≤ 281474976710656 := by
                rw [hi3]
                exact Nat.le_trans (Nat.mul_le_mul_right _ (by omega)) c7
              have hl0 : ¬ ((n : Int) < 0) := by omega
              have hl1 : ¬ ((n : Int) * (i.bytes : Int) > 2 ^ 48) := by
                have : ((n * i.bytes : Nat) : Int) ≤ 281474976710656 := by omega
                rw [Int.natCast_mul] at this; omega
              have hns : ¬ n * ei.size = 0 := by
                intro e
                rcases Nat.mul_eq_zero.1 e with e | e <;> omega
              have hcap : ¬ Builtin.nextslicecap n 0 * i.bytes > 2 ^ 48 := by
                have e : Builtin.nextslicecap n 0 = n := by simp only [Builtin.nextslicecap]; rw [if_pos (by omega)]
                rw [e]; omega
              have hnz : ¬ i.bytes = 0 := by rw [hi3]; omega
              have hle : ¬ n ≤ 0 := by omega
              have hmx : ¬ ((n : Int) > IntKind.i64.max) := by
                simp only [IntKind.max, IntKind.bits, IntKind.signed]; simp; omega
              generalize hq : (Question.appendCap n 0 elem).cut (w.tape w.drawn (Question.appendCap n 0 elem)) = ncap
              have hge : n ≤ ncap := by rw [← hq]; simp [Question.cut]
              have e8 : (Builtin.zeroCells z.cells n).size = n * ei.size := by simp [Builtin.zeroCells, c2]
              obtain ⟨μ', e1, e2⟩ := append_new (at_ := ⟨elem, ei.size, ei.bytes, z.cells.toList⟩) (cs := #[] ++ Builtin.zeroCells z.cells n ++ Builtin.zeroCells z.cells (ncap - n)) (need := n) (ncap := ncap) (vs := zeros z.cells.toList n) st (by
                have e9 : (Builtin.zeroCells z.cells n).toList = zeros z.cells.toList n := by simp only [Builtin.zeroCells]; exact zeros_eq _ _
                rw [Array.toList_append, Array.toList_append, e9, List.nil_append, List.take_left]
                exact LRel.of_flat1 _ _ (zeros_flat c1 _)) (by rw [zeros_length, Array.length_toList, c2]) (by
                simp only [Array.size_append, Builtin.zeroCells, Array.size_map, Array.size_range, c2]
                rw [Array.size_empty, Nat.zero_add, ← Nat.add_mul]; congr 1; omega) hge
              refine ⟨_, _, μ', ?_, e1, e2⟩
              simp only [Builtin.append_, h0, h1, List.getElem?_toArray, List.getElem?_cons_zero, List.getElem?_cons_succ, Sem.run_bind, run_underlying ok ht, hti, Result.andThen_ok, run_sizeOf ok he]
              simp only [Result.andThen_ok, Sem.run_pure, run_underlying ok hu, hui, if_true, asInt, asIntOf, wl, Sem.run_ite, hl0, if_false, hi1, hl1, Int.toNat_natCast, Sem.run_bind, hns, Nat.zero_add, hle, hmx, false_and, hcap, run_choose, Question.forced, hq, run_askRoom, Builtin.firstCells, run_zeroValue ok he _ hz, Go.newRow, run_newObj, Bool.not_true, Bool.false_eq_true]
            · cases ha
          · cases ha
        · cases ha
      · cases ha
    · cases ha
  · cases ha
noncomputable def aBuiltin (P : Program) (T : Tr TI) (b : Builtin) (ats : Array TypeId) (ty : TypeId) (vs : List Value) (h : AHeap) : Option (Value × AHeap) :=
  match b, vs with
  | .append, [s, x] => match aAppend T ats s x h with
    | some r => some r
    | none => aAppendZ T ats s x h
  | .copy, [d, s] => aCopy T ats d s h
  | .clear, [x] => unit (aClear T ats x h)
  | .delete, [m, k] => unit (aDelete P T ats m k h)
  | .len, [x] => keep h (aLenOf T ats x h)
  | .cap, [x] => keep h (aCapOf T ats x)
  | .max, vs => keep h (aPure P (vs.all flat) (Builtin.max_ ats ty vs.toArray))
  | .min, vs => keep h (aPure P (vs.all flat) (Builtin.min_ ats ty vs.toArray))
  | _, _ => none
noncomputable def aop (P : Program) (T : Tr TI) (o : Oper) (ρ : Operand → Option Value) (h : AHeap) : Option (Value × AHeap) :=
  match o.op with
  | .move x => keep h (ρ x)
  | .assign x => keep h (ρ x)
  | .pick c a b => match ρ c with
    | some (.bool t) => keep h (bif t then ρ a else ρ b)
    | _ => none
  | .alloc t => aAlloc T t h
  | .box _ x => match ρ x with
    | some v => some (aBox v h)
    | none => none
  | .build t parts => match aparts ρ parts.toList with
    | some ps => keep h (aBuild T t ps)
    | none => none
  | .buildSlice t len parts => match aparts ρ parts.toList with
    | some ps => aBuildSlice T t len ps h
    | none => none
  | .load t x => match ρ x with
    | some v => keep h (aLoad T t v h)
    | none => none
  | .store t x y => match ρ x, ρ y with
    | some a, some v => unit (aStore T t a v h)
    | _, _ => none
  | .nilCheck x => match ρ x with
    | some v => keep h (aNilCheck v)
    | none => none
  | .binOp op t x y _ => match ρ x, ρ y with
    | some a, some b => keep h (aBin P T op t x y a b)
    | _, _ => none
  | .unOp op _ x => match ρ x with
    | some v => keep h (aPure P (flat v) (Op.unary op v))
    | none => none
  | .convert src dst x => match ρ x with
    | some v => match aConv T src dst v h with
      | some r => some r
      | none => keep h (aPure P (flat v) (convert src dst v))
    | none => none
  | .makeInterface t x => match ρ x, T.get t with
    | some v, some ti => bif isIface ti.und then none else some (.iface t v, h)
    | _, _ => none
  | .makeFunc fn first cap => match aopnds ρ first.toList, aopnds ρ cap.toList with
    | some a, some c => bif noYield fn then some (.func fn a.toArray c.toArray, h) else none
    | _, _ => none
  | .makeMap _ none => some (aMakeMap h)
  | .makeSlice t l c => match ρ l, ρ c with
    | some a, some b => aMakeSlice T t a b h
    | _, _ => none
  | .slice t x lo hi mx => match ρ x, oopnd ρ lo, oopnd ρ hi, oopnd ρ mx with
    | some v, some l, some r, some m => keep h (aSlice T t v l r m h)
    | _, _, _, _ => none
  | .fieldAddr s x f => match ρ x with
    | some v => keep h (aFieldAddr T s v f)
    | none => none
  | .field t x f => match ρ x with
    | some v => keep h (aField T t v f)
    | none => none
  | .indexAddr t x i => match ρ x, ρ i with
    | some v, some j => keep h (aIndexAddr T t v j)
    | _, _ => none
  | .index t x i => match ρ x, ρ i with
    | some v, some j => keep h (aIndex T t v j)
    | _, _ => none
  | .lookup t x i c => match ρ x, ρ i with
    | some v, some k => keep h (aLookup P T t v k c h)
    | _, _ => none
  | .mapUpdate t m k x => match ρ m, ρ k, ρ x with
    | some a, some b, some v => unit (aMapUpdate P T t a b v h)
    | _, _, _ => none
  | .insert t m k x => match ρ m, ρ k, ρ x with
    | some a, some b, some v => unit (aMapUpdate P T t a b v h)
    | _, _, _ => none
  | .range t x => match ρ x with
    | some v => aRange T t v h
    | none => none
  | .next x s => match ρ x with
    | some v => aNext v s h
    | none => none
  | .entry x => match ρ x with
    | some v => keep h (aEntry v h)
    | none => none
  | .extract x i => match ρ x with
    | some v => keep h (aExtract v i)
    | none => none
  | .call ⟨.builtin b, xs, ats⟩ => match aopnds ρ xs.toList with
    | some vs => aBuiltin P T b ats o.type vs h
    | none => none
  | .typeAssert x _ asserted ck => match ρ x with
    | some v => keep h (aAssert T asserted ck v)
    | none => none
  | _ => none
theorem keep_some {h h' : AHeap} {x : Option Value} {v : Value} (hk : keep h x = some (v, h')) : x = some v ∧ h' = h := by
  cases x <;> simp only [keep, Option.some.injEq, Prod.mk.injEq] at hk <;> first | (cases hk; done) | exact ⟨by rw [hk.1], hk.2.symm⟩
theorem unit_some {h' : AHeap} {x : Option AHeap} {v : Value} (hk : unit x = some (v, h')) : x = some h' ∧ v = .tuple #[] := by
  cases x <;> simp only [unit, Option.some.injEq, Prod.mk.injEq] at hk <;> first | (cases hk; done) | exact ⟨by rw [hk.2], hk.1.symm⟩
theorem aPure_some {ok : Bool} {s : Sem Value} {v : Value} (ha : aPure P ok s = some v) : ok = true ∧ pureRun P s = some v ∧ flat v = true := by
  unfold aPure at ha
  cases ok
  · cases ha
  · simp only [cond_true] at ha
    split at ha
    · rename_i u hu
      cases hf : flat u
      · rw [hf, cond_false] at ha; cases ha
      · rw [hf, cond_true] at ha; cases ha; exact ⟨rfl, hu, hf⟩
    · cases ha
theorem aparts_rel {μ : Emb} {n : Nat} {ρ : Operand → Option Value} {ρ' : Operand → Value} (hρ : OpRel μ n ρ ρ') : ∀ {xs : List (Nat × Operand)} {vs : List (Nat × Value)}, aparts ρ xs = some vs → PRel μ n vs (xs.map fun x => (x.1, ρ' x.2))
  | [], vs, h => by simp only [aparts, Option.some.injEq] at h; subst h; exact .nil
  | (i, x) :: xs, vs, h => by
    simp only [aparts] at h
    split at h
    · rename_i v l h1 h2; cases h; exact .cons (hρ x v h1) (aparts_rel hρ h2)
    · cases h
theorem oopnd_rel {μ : Emb} {n : Nat} {ρ : Operand → Option Value} {ρ' : Operand → Value} (hρ : OpRel μ n ρ ρ') {x : Option Operand} {v : Option Value} (h : oopnd ρ x = some v) : OV μ n v (x.map ρ') := by
  cases x with
  | none => simp only [oopnd, Option.some.injEq] at h; subst h; trivial
  | some x =>
    simp only [oopnd] at h
    split at h
    · rename_i u hu; cases h; exact hρ x u hu
    · cases h
theorem LRel.flat_eq {μ : Emb} {n : Nat} : ∀ {l l' : List Value}, LRel μ n l l' → l.all flat = true → l' = l
  | _, _, .nil, _ => rfl
  | _, _, .cons h t, hf => by
    simp only [List.all_cons, Bool.and_eq_true] at hf
    rw [h.flat_eq hf.1, LRel.flat_eq t hf.2]
theorem LRel.two {μ : Emb} {n : Nat} {x y : Value} {a : Array Value} (h : LRel μ n [x, y] a.toList) : ∃ x' y', a = #[x', y'] ∧ VRel μ n x x' ∧ VRel μ n y y' := by
  generalize hl : a.toList = l at h
  cases h with
  | cons h1 t => cases t with
    | cons h2 t => cases t; exact ⟨_, _, Array.toList_inj.1 hl, h1, h2⟩
theorem LRel.one {μ : Emb} {n : Nat} {x : Value} {a : Array Value} (h : LRel μ n [x] a.toList) : ∃ x', a = #[x'] ∧ VRel μ n x x' := by
  generalize hl : a.toList = l at h
  cases h with
  | cons h1 t => cases t; exact ⟨_, Array.toList_inj.1 hl, h1⟩
theorem builtin_good (ok : TyOK P T) {μ : Emb} {h h' : AHeap} {w : World} (st : StRel μ h w) {b : Builtin} {ats : Array TypeId} {ty : TypeId} {cn : Array Bool} {vs : List Value} {vs' : Array Value} {v : Value} (hv : LRel μ h.next vs vs'.toList)
    (ha : aBuiltin P T b ats ty vs h = some (v, h')) {K : Value → AHeap → Prop} (hk : K v h') (c : Frame) (cs : List Frame) : Lands P μ h w (builtin b ats ty cn vs') c cs K := by
  unfold aBuiltin at ha
  split at ha
  · obtain ⟨x', y', rfl, h1, h2⟩ := hv.two
    split at ha
    · rename_i r hr
      cases ha
      exact Lands.value (append_good ok st ty h1 h2 hr) hk
    · exact Lands.value (appendZ_good ok st ty h1 h2 ha) hk
  · obtain ⟨x', y', rfl, h1, h2⟩ := hv.two
    exact Lands.value (copy_good ok st ty h1 h2 ha) hk
  · obtain ⟨x', rfl, h1⟩ := hv.one
    obtain ⟨h0, rfl⟩ := unit_some ha
    exact Lands.value (clear_good ok st ty h1 h0) hk
  · obtain ⟨x', y', rfl, h1, h2⟩ := hv.two
    obtain ⟨h0, rfl⟩ := unit_some ha
    exact Lands.value (delete_good ok st ty h1 h2 h0) hk
  · obtain ⟨x', rfl, h1⟩ := hv.one
    obtain ⟨h0, rfl⟩ := keep_some ha
    exact Lands.value (.of_same st (len_good ok st ty h1 h0)) hk
  · obtain ⟨x', rfl, h1⟩ := hv.one
    obtain ⟨h0, rfl⟩ := keep_some ha
    exact Lands.value (.of_same st (cap_good ok ty w h1 h0)) hk
  · obtain ⟨h0, rfl⟩ := keep_some ha
    obtain ⟨h1, h2, h3⟩ := aPure_some h0
    have e : vs' = vs.toArray := by rw [← hv.flat_eq h1]
    subst e
    exact Lands.value (pure_good st h2 h3) hk
  · obtain ⟨h0, rfl⟩ := keep_some ha
    obtain ⟨h1, h2, h3⟩ := aPure_some h0
    have e : vs' = vs.toArray := by rw [← hv.flat_eq h1]
    subst e
    exact Lands.value (pure_good st h2 h3) hk
  · cases ha
set_option maxHeartbeats 2000000 in
theorem aop_sound (ok : TyOK P T) {o : Oper} {ρ : Operand → Option Value} {h h' : AHeap} {v : Value} (ha : aop P T o ρ h = some (v, h')) {K : Value → AHeap → Prop} (hk : K v h') : OpWp P o ρ h K := by
  intro μ ρ' w c cs hρ st
  obtain ⟨dst, op, ty, pos, after, guard⟩ := o
  have val : ∀ v', VRel μ h.next v v' → h' = h → Lands P μ h w (pure (.value v')) c cs K := by
    rintro v' hv rfl
    exact ⟨.value v', w, _, v, v', h', μ, w, rfl, rfl, .refl _ _, hk, Ext.refl st, hv⟩
  cases op with
  | move x => obtain ⟨h1, h2⟩ := keep_some ha; exact val _ (hρ x v h1) h2
  | assign x => obtain ⟨h1, h2⟩ := keep_some ha; exact val _ (hρ x v h1) h2
  | pick x y z =>
    simp only [aop] at ha
    split at ha
    · rename_i t ht
      obtain ⟨h1, rfl⟩ := keep_some ha
      have hc := hρ x _ ht
      have hx : ρ' x = .bool t := by cases hx : ρ' x <;> rw [hx] at hc <;> cases hc; rfl
      refine ⟨.value (if t then ρ' y else ρ' z), w, _, v, _, h', μ, w, by simp only [execOp, hx, asBool, Sem.run_bind, Sem.run_pure, Result.andThen_ok], rfl, .refl _ _, hk, Ext.refl st, ?_⟩
      cases t
      · exact hρ z v h1
      · exact hρ y v h1
    · cases ha
  | alloc t =>
    simp only [execOp]
    exact Lands.value (alloc_good ok st ha) hk
  | box t x =>
    simp only [aop] at ha
    split at ha
    · rename_i u hu
      simp only [Option.some.injEq] at ha
      have := box_good (P := P) st t (hρ x u hu)
      rw [ha] at this
      simp only [execOp]; exact Lands.value this hk
    · cases ha
  | build t parts =>
    simp only [aop] at ha
    split at ha
    · rename_i ps hp
      obtain ⟨h1, rfl⟩ := keep_some ha
      have := aparts_rel hρ hp
      simp only [execOp]; exact Lands.value (.of_same st (build_good (ps' := parts.map fun (i, x) => (i, ρ' x)) ok (by simpa using this) h1 w)) hk
    · cases ha
  | buildSlice t len parts =>
    simp only [aop] at ha
    split at ha
    · rename_i ps hp
      have := aparts_rel hρ hp
      simp only [execOp]; exact Lands.value (buildSlice_good (ps' := parts.map fun (i, x) => (i, ρ' x)) ok st (by simpa using this) ha) hk
    · cases ha
  | load t x =>
    simp only [aop] at ha
    split at ha
    · rename_i u hu
      obtain ⟨h1, rfl⟩ := keep_some ha
      simp only [execOp]; exact Lands.value (.of_same st (load_good ok st (hρ x u hu) h1)) hk
    · cases ha
  | store t x y =>
    simp only [aop] at ha
    split at ha
    · rename_i u z hu hz
      obtain ⟨h1, rfl⟩ := unit_some ha
      simp only [execOp]; exact Lands.unit (store_good ok st (hρ x u hu) (hρ y z hz) h1) hk
    · cases ha
  | nilCheck x =>
    simp only [aop] at ha
    split at ha
    · rename_i u hu
      obtain ⟨h1, h2⟩ := keep_some ha
      have hx := hρ x u hu
      unfold aNilCheck at h1
      simp only [execOp]
      generalize ρ' x = y at hx
      split at h1
      · cases h1; cases hx with
        | ptr hlt hm => exact val _ (.ptr hlt hm) h2
      · cases h1; cases hx with
        | func a b d => exact val _ (.func a b d) h2
      · cases h1; cases hx with
        | func a b d => exact val _ (.func a b d) h2
        | yield a b => exact val _ (.yield a b) h2
      · cases h1
    · cases ha
  | binOp op t x y u =>
    simp only [aop] at ha
    split at ha
    · rename_i a b hx hy
      obtain ⟨h1, rfl⟩ := keep_some ha
      simp only [execOp]; exact Lands.value (bin_good ok st x y (hρ x a hx) (hρ y b hy) h1) hk
    · cases ha
  | unOp op t x =>
    simp only [aop] at ha
    split at ha
    · rename_i u hu
      obtain ⟨h1, rfl⟩ := keep_some ha
      obtain ⟨g1, g2, g3⟩ := aPure_some h1
      have e := (hρ x u hu).flat_eq g1
      simp only [execOp, e]
      exact Lands.value (pure_good st g2 g3) hk
    · cases ha
  | convert src dst' x =>
    simp only [aop] at ha
    split at ha
    · rename_i u hu
      split at ha
      · rename_i r hr
        cases ha
        simp only [execOp]; exact Lands.value (conv_good ok st (hρ x u hu) hr) hk
      · obtain ⟨h1, rfl⟩ := keep_some ha
        obtain ⟨g1, g2, g3⟩ := aPure_some h1
        have e := (hρ x u hu).flat_eq g1
        simp only [execOp, e]
        exact Lands.value (pure_good st g2 g3) hk
    · cases ha
  | makeInterface t x =>
    simp only [aop] at ha
    split at ha
    · rename_i u ti hu ht
      cases hi : isIface ti.und
      · rw [hi, cond_false] at ha
        simp only [Option.some.injEq, Prod.mk.injEq] at ha
        obtain ⟨rfl, rfl⟩ := ha
        simp only [execOp]; refine Lands.value (.of_same st ⟨.iface t (ρ' x), ?_, .iface (hρ x u hu)⟩) hk
        simp only [Instr.makeInterface, Sem.run_bind, run_underlying ok ht, Result.andThen_ok]
        split
        · rename_i e; rw [e] at hi; cases hi
        · rfl
      · rw [hi, cond_true] at ha; cases ha
    · cases ha
  | makeFunc fn first cap =>
    simp only [aop] at ha
    split at ha
    · rename_i a b h1 h2
      cases hy : noYield fn
      · rw [hy, cond_false] at ha; cases ha
      · rw [hy, cond_true] at ha
        simp only [Option.some.injEq, Prod.mk.injEq] at ha
        obtain ⟨rfl, rfl⟩ := ha
        simp only [execOp]; refine Lands.value (.of_same st ⟨.func fn (first.map ρ') (cap.map ρ'), rfl, .func (fun l e => by subst e; cases hy) ?_ ?_⟩) hk
        · simpa using aopnds_rel hρ h1
        · simpa using aopnds_rel hρ h2
    · cases ha
  | makeMap t r =>
    cases r with
    | some _ => cases ha
    | none =>
      simp only [aop, Option.some.injEq] at ha
      have := makeMap_good (P := P) st (t := t) (r := none) (r' := none) trivial rfl
      rw [ha] at this
      simp only [execOp]; exact Lands.value this hk
  | makeSlice t x y =>
    simp only [aop] at ha
    split at ha
    · rename_i a b hx hy
      simp only [execOp]; exact Lands.value (makeSlice_good ok st (hρ x a hx) (hρ y b hy) ha) hk
    · cases ha
  | slice t x lo hi mx =>
    simp only [aop] at ha
    split at ha
    · rename_i u l r m hu h1 h2 h3
      obtain ⟨g1, rfl⟩ := keep_some ha
      simp only [execOp]; exact Lands.value (.of_same st (slice_good ok st (hρ x u hu) (oopnd_rel hρ h1) (oopnd_rel hρ h2) (oopnd_rel hρ h3) g1)) hk
    · cases ha
  | fieldAddr s x f =>
    simp only [aop] at ha
    split at ha
    · rename_i u hu
      obtain ⟨g1, rfl⟩ := keep_some ha
      simp only [execOp]; exact Lands.value (.of_same st (fieldAddr_good ok (hρ x u hu) g1 w)) hk
    · cases ha
  | field t x f =>
    simp only [aop] at ha
    split at ha
    · rename_i u hu
      obtain ⟨g1, rfl⟩ := keep_some ha
      simp only [execOp]; exact Lands.value (.of_same st (field_good ok (hρ x u hu) g1 w)) hk
    · cases ha
  | indexAddr t x i =>
    simp only [aop] at ha
    split at ha
    · rename_i u j hu hj
      obtain ⟨g1, rfl⟩ := keep_some ha
      simp only [execOp]; exact Lands.value (.of_same st (indexAddr_good ok (hρ x u hu) (hρ i j hj) g1 w)) hk
    · cases ha
  | index t x i =>
    simp only [aop] at ha
    split at ha
    · rename_i u j hu hj
      obtain ⟨g1, rfl⟩ := keep_some ha
      simp only [execOp]; exact Lands.value (.of_same st (index_good ok (hρ x u hu) (hρ i j hj) g1 w)) hk
    · cases ha
  | lookup t x i co =>
    simp only [aop] at ha
    split at ha
    · rename_i u j hu hj
      obtain ⟨g1, rfl⟩ := keep_some ha
      simp only [execOp]; exact Lands.value (.of_same st (lookup_good ok st (hρ x u hu) (hρ i j hj) g1)) hk
    · cases ha
  | mapUpdate t m k x =>
    simp only [aop] at ha
    split at ha
    · rename_i a b d ha' hb hd
      obtain ⟨g1, rfl⟩ := unit_some ha
      simp only [execOp]; exact Lands.unit (mapUpdate_good ok st (hρ m a ha') (hρ k b hb) (hρ x d hd) g1) hk
    · cases ha
  | insert t m k x =>
    simp only [aop] at ha
    split at ha
    · rename_i a b d ha' hb hd
      obtain ⟨g1, rfl⟩ := unit_some ha
      simp only [execOp]; exact Lands.unit (mapUpdate_good ok st (hρ m a ha') (hρ k b hb) (hρ x d hd) g1) hk
    · cases ha
  | range t x =>
    simp only [aop] at ha
    split at ha
    · rename_i u hu
      simp only [execOp]; exact Lands.value (range_good ok st (hρ x u hu) ha) hk
    · cases ha
  | next x s =>
    simp only [aop] at ha
    split at ha
    · rename_i u hu
      simp only [execOp]; exact Lands.value (next_good st (hρ x u hu) ty ha) hk
    · cases ha
  | entry x =>
    simp only [aop] at ha
    split at ha
    · rename_i u hu
      obtain ⟨g1, rfl⟩ := keep_some ha
      simp only [execOp]; exact Lands.value (.of_same st (entry_good st (hρ x u hu) g1)) hk
    · cases ha
  | extract x i =>
    simp only [aop] at ha
    split at ha
    · rename_i u hu
      obtain ⟨g1, rfl⟩ := keep_some ha
      simp only [execOp]; exact Lands.value (.of_same st (extract_good (hρ x u hu) g1 w)) hk
    · cases ha
  | typeAssert x xt asserted ck =>
    simp only [aop] at ha
    split at ha
    · rename_i u hu
      obtain ⟨g1, rfl⟩ := keep_some ha
      simp only [execOp]; exact Lands.value (.of_same st (assert_good ok (hρ x u hu) g1 w)) hk
    · cases ha
  | call cl =>
    obtain ⟨callee, xs, ats⟩ := cl
    cases callee with
    | builtin b =>
      simp only [aop] at ha
      split at ha
      · rename_i vs hvs
        simp only [execOp, resolve, pure_bind, invoke]
        exact builtin_good ok st (by simpa using aopnds_rel hρ hvs) ha hk c cs
      · cases ha
    | value f => cases ha
    | invoke f m => cases ha
  | _ => cases ha
end ops
end Go.Ab
namespace Go.Ab
set_option linter.unusedSimpArgs false
set_option linter.unusedVariables false
noncomputable def veq1 : Value → Value → Bool
  | .bool a, .bool b => a == b
  | .int k a, .int l b => decide (k = l) && decide (a = b)
  | .string a, .string b => decide (a.data.toList = b.data.toList)
  | .pointer a, .pointer b => decide (a = b)
  | .slice a m c, .slice b n d => decide (a = b) && (Nat.beq m n && Nat.beq c d)
  | .map a, .map b => decide (a = b)
  | .nilFunc, .nilFunc => true
  | .nilIface, .nilIface => true
  | _, _ => false
noncomputable def veqL (f : Value → Value → Bool) : List Value → List Value → Bool
  | [], [] => true
  | a :: l, b :: m => f a b && veqL f l m
  | _, _ => false
noncomputable def veqUp (f : Value → Value → Bool) : Value → Value → Bool
  | .agg a, .agg b => veqL f a.toList b.toList
  | .tuple a, .tuple b => veqL f a.toList b.toList
  | .func (.func g) a c, .func (.func k) b d => Nat.beq g k && (veqL f a.toList b.toList && veqL f c.toList d.toList)
  | .iface t v, .iface u w => Nat.beq t u && f v w
  | a, b => veq1 a b
noncomputable def veq (a b : Value) : Bool := veqUp (veqUp (veqUp veq1)) a b
theorem veq1_eq {a b : Value} (h : veq1 a b = true) : a = b := by
  unfold veq1 at h
  split at h
  · simp only [beq_iff_eq] at h; rw [h]
  · simp only [Bool.and_eq_true, decide_eq_true_eq] at h; rw [h.1, h.2]
  · simp only [decide_eq_true_eq] at h; congr 1; rename_i x y; cases x; cases y; congr 1; exact Array.toList_inj.1 h
  · simp only [decide_eq_true_eq] at h; rw [h]
  · simp only [Bool.and_eq_true, decide_eq_true_eq] at h; rw [h.1, Nat.eq_of_beq_eq_true h.2.1, Nat.eq_of_beq_eq_true h.2.2]
  · simp only [decide_eq_true_eq] at h; rw [h]
  · rfl
  · rfl
  · cases h
theorem veqL_eq {f : Value → Value → Bool} (hf : ∀ {a b : Value}, f a b = true → a = b) : ∀ {a b : List Value}, veqL f a b = true → a = b
  | [], [], _ => rfl
  | [], _ :: _, h => by cases h
  | _ :: _, [], h => by cases h
  | a :: l, b :: m, h => by simp only [veqL, Bool.and_eq_true] at h; rw [hf h.1, veqL_eq hf h.2]
theorem veqUp_eq {f : Value → Value → Bool} (hf : ∀ {a b : Value}, f a b = true → a = b) {a b : Value} (h : veqUp f a b = true) : a = b := by
  unfold veqUp at h
  split at h
  · rw [Array.toList_inj.1 (veqL_eq hf h)]
  · rw [Array.toList_inj.1 (veqL_eq hf h)]
  · simp only [Bool.and_eq_true] at h
    rw [Nat.eq_of_beq_eq_true h.1, Array.toList_inj.1 (veqL_eq hf h.2.1), Array.toList_inj.1 (veqL_eq hf h.2.2)]
  · simp only [Bool.and_eq_true] at h
    rw [Nat.eq_of_beq_eq_true h.1, hf h.2]
  · exact veq1_eq h
theorem veq_eq {a b : Value} (h : veq a b = true) : a = b := veqUp_eq (veqUp_eq (veqUp_eq veq1_eq)) h
noncomputable def strBytes (T : Tr TI) (src dst : TypeId) : Bool :=
  match T.get src, T.get dst with
  | some si, some di => match si.und, di.und with
    | .string, .slice _ => true
    | _, _ => false
  | _, _ => true
noncomputable def memKind (T : Tr TI) : Op → Nat
  | .move _ | .assign _ | .pick .. | .build .. | .nilCheck _ | .binOp .. | .unOp .. | .makeInterface .. | .makeFunc .. | .fieldAddr .. | .field .. | .indexAddr .. | .index .. | .extract .. => 0
  | .load .. | .lookup .. | .slice .. | .entry _ => 1
  | .call ⟨.builtin .len, _, _⟩ | .call ⟨.builtin .min, _, _⟩ | .call ⟨.builtin .max, _, _⟩ => 1
  | .convert src dst _ => bif strBytes T src dst then 2 else 1
  | _ => 2
section
variable {P : Program} {T : Tr TI}
theorem keep_any {h h' : AHeap} {x : Option Value} {v : Value} (hk : keep h x = some (v, h')) : h' = h ∧ ∀ h2, keep h2 x = some (v, h2) := by
  obtain ⟨rfl, rfl⟩ := keep_some hk; exact ⟨rfl, fun _ => rfl⟩
set_option maxHeartbeats 1000000 in
theorem aop_free {o : Oper} {ρ : Operand → Option Value} {h h' : AHeap} {v : Value} (hm : memKind T o.op = 0) (ha : aop P T o ρ h = some (v, h')) : h' = h ∧ ∀ h2, aop P T o ρ h2 = some (v, h2) := by
  obtain ⟨dst, op, ty, pos, after, guard⟩ := o
  cases op <;> simp only [memKind] at hm <;> first | (cases hm; done) | skip
  case move x => exact keep_any ha
  case assign x => exact keep_any ha
  case pick a b c =>
    simp only [aop] at ha ⊢
    split at ha
    · exact keep_any ha
    · cases ha
  case build t ps =>
    simp only [aop] at ha ⊢
    split at ha
    · exact keep_any ha
    · cases ha
  case nilCheck x =>
    simp only [aop] at ha ⊢
    split at ha
    · exact keep_any ha
    · cases ha
  case binOp =>
    simp only [aop] at ha ⊢
    split at ha
    · exact keep_any ha
    · cases ha
  case unOp =>
    simp only [aop] at ha ⊢
    split at ha
    · exact keep_any ha
    · cases ha
  case convert src dst x =>
    cases hs : strBytes T src dst <;> rw [hs] at hm <;> cases hm
  case makeInterface t x =>
    simp only [aop] at ha ⊢
    split at ha
    · rename_i u ti _ _
      cases hi : isIface ti.und
      · rw [hi, cond_false] at ha
        simp only [Option.some.injEq, Prod.mk.injEq] at ha
        obtain ⟨rfl, rfl⟩ := ha
        exact ⟨rfl, fun _ => rfl⟩
      · rw [hi, cond_true] at ha; cases ha
    · cases ha
  case makeFunc fn a c =>
    simp only [aop] at ha ⊢
    split at ha
    · cases hi : noYield fn
      · rw [hi, cond_false] at ha; cases ha
      · rw [hi, cond_true] at ha
        simp only [Option.some.injEq, Prod.mk.injEq] at ha
        obtain ⟨rfl, rfl⟩ := ha
        exact ⟨rfl, fun _ => rfl⟩
    · cases ha
  case fieldAddr =>
    simp only [aop] at ha ⊢
    split at ha
    · exact keep_any ha
    · cases ha
  case field =>
    simp only [aop] at ha ⊢
    split at ha
    · exact keep_any ha
    · cases ha
  case indexAddr =>
    simp only [aop] at ha ⊢
    split at ha
    · exact keep_any ha
    · cases ha
  case index =>
    simp only [aop] at ha ⊢
    split at ha
    · exact keep_any ha
    · cases ha
  case extract =>
    simp only [aop] at ha ⊢
    split at ha
    · exact keep_any ha
    · cases ha
  case call c =>
    obtain ⟨callee, xs, ats⟩ := c
    cases callee with
    | builtin b => cases b <;> simp only [] at hm <;> cases hm
    | value f => cases hm
    | invoke f m => cases hm
set_option maxHeartbeats 1000000 in
theorem aop_read {o : Oper} {ρ : Operand → Option Value} {h h' : AHeap} {v : Value} (hm : memKind T o.op = 1) (ha : aop P T o ρ h = some (v, h')) : h' = h := by
  obtain ⟨dst, op, ty, pos, after, guard⟩ := o
  cases op <;> simp only [memKind] at hm <;> first | (cases hm; done) | skip
  case load t x =>
    simp only [aop] at ha
    split at ha
    · exact (keep_any ha).1
    · cases ha
  case convert src dst x =>
    simp only [aop] at ha
    split at ha
    · rename_i u hu
      split at ha
      · rename_i r hr
        cases ha
        unfold aConv at hr
        unfold strBytes at hm
        split at hr
        · rename_i si di h1 h2
          rw [h1, h2] at hm
          simp only at hm
          split at hr
          · rename_i h3 h4
            rw [h3, h4] at hm
            cases hm
          · split at hr
            · split at hr
              · simp only [Option.some.injEq, Prod.mk.injEq] at hr; exact hr.2.symm
              · cases hr
            · cases hr
          · cases hr
        · cases hr
      · exact (keep_any ha).1
    · cases ha
  case slice =>
    simp only [aop] at ha
    split at ha
    · exact (keep_any ha).1
    · cases ha
  case lookup =>
    simp only [aop] at ha
    split at ha
    · exact (keep_any ha).1
    · cases ha
  case entry =>
    simp only [aop] at ha
    split at ha
    · exact (keep_any ha).1
    · cases ha
  case call c =>
    obtain ⟨callee, xs, ats⟩ := c
    cases callee with
    | builtin b =>
      simp only [aop] at ha
      split at ha
      · cases b <;> simp only [] at hm <;> first | (cases hm; done) | skip
        · unfold aBuiltin at ha
          split at ha <;> first | (rename_i e _; cases e; done) | (rename_i e; cases e; done) | exact (keep_any ha).1 | cases ha
        · unfold aBuiltin at ha
          split at ha <;> first | (rename_i e _; cases e; done) | (rename_i e; cases e; done) | exact (keep_any ha).1 | cases ha
        · unfold aBuiltin at ha
          split at ha <;> first | (rename_i e _; cases e; done) | (rename_i e; cases e; done) | exact (keep_any ha).1 | cases ha
      · cases ha
    | value f => cases hm
    | invoke f m => cases hm
end
noncomputable def isNew : Op → Bool
  | .alloc _ => true
  | .box _ _ => true
  | .buildSlice _ _ _ => true
  | .makeMap _ none => true
  | .makeSlice _ _ _ => true
  | _ => false
theorem aop_new {P : Program} {T : Tr TI} {o : Oper} {ρ : Operand → Option Value} {h h' : AHeap} {v : Value} (hm : isNew o.op = true) (ha : aop P T o ρ h = some (v, h')) :
    ∃ rv ob, NewV rv ∧ v = rv h.next ∧ h' = h.new ob ∧ ob.own = true ∧ (∀ h2, aop P T o ρ h2 = some (rv h2.next, h2.new ob)) ∧ ∀ (μ : Emb) (n : Nat) (ρ' : Operand → Value), OpRel μ n ρ ρ' → BO n ob := by
  obtain ⟨dst, op, ty, pos, after, guard⟩ := o
  cases op <;> simp only [isNew] at hm <;> first | (cases hm; done) | skip
  case alloc t =>
    simp only [aop, aAlloc] at ha ⊢
    split at ha
    · rename_i ti ht
      split at ha
      · rename_i z hz
        cases hf : z.cells.toList.all flat1
        · rw [hf, cond_false] at ha; cases ha
        · rw [hf, cond_true] at ha
          simp only [Option.some.injEq, Prod.mk.injEq] at ha
          obtain ⟨rfl, rfl⟩ := ha
          cases hsp : selfPtr T t
          · refine ⟨fun n => .pointer (some ⟨n, 0, none⟩), .cells z.cells.toList 1, .inl ⟨0, fun _ => rfl⟩, rfl, rfl, rfl, fun h2 => by simp only [cond_true, hsp, cond_false], fun μ n ρ' _ => ?_⟩
            intro x hx
            exact BV.flat (by
              have := List.all_eq_true.1 hf x hx
              unfold flat; cases x <;> first | exact this | cases this)
          · refine ⟨fun n => .pointer (some ⟨n, 0, none⟩), .tcells z.cells.toList t, .inl ⟨0, fun _ => rfl⟩, rfl, rfl, rfl, fun h2 => by simp only [cond_true, hsp], fun μ n ρ' _ => ?_⟩
            intro x hx
            exact BV.flat (by
              have := List.all_eq_true.1 hf x hx
              unfold flat; cases x <;> first | exact this | cases this)
      · cases ha
    · cases ha
  case box t x =>
    simp only [aop] at ha ⊢
    split at ha
    · rename_i u hu
      simp only [aBox, Option.some.injEq, Prod.mk.injEq] at ha
      obtain ⟨rfl, rfl⟩ := ha
      refine ⟨fun n => .pointer (some ⟨n, 0, none⟩), _, .inl ⟨0, fun _ => rfl⟩, rfl, rfl, rfl, fun h2 => rfl, fun μ n ρ' hρ => ?_⟩
      intro y hy
      have := (hρ x u hu).cells
      obtain ⟨k, hk⟩ := List.getElem?_of_mem hy
      obtain ⟨y', _, h2⟩ := this.getElem? k hk
      exact ⟨μ, y', h2⟩
    · cases ha
  case buildSlice t len parts =>
    simp only [aop] at ha ⊢
    split at ha
    · rename_i ps hps
      unfold aBuildSlice at ha ⊢
      split at ha
      · rename_i ti ht
        split at ha
        · rename_i elem hu
          split at ha
          · rename_i ei he
            split at ha
            · rename_i z hz
              cases hb : z.cells.toList.all flat1 && (Nat.ble (len * ei.size) 16777216 && Nat.beq z.cells.size ei.size)
              · rw [hb, cond_false] at ha; cases ha
              · rw [hb, cond_true] at ha
                split at ha
                · rename_i r hr
                  simp only [Option.some.injEq, Prod.mk.injEq] at ha
                  obtain ⟨rfl, rfl⟩ := ha
                  refine ⟨fun n => .slice (some ⟨n, 0, none⟩) len (len + 1), _, .inr (.inl ⟨0, len, len + 1, fun _ => rfl⟩), rfl, rfl, rfl, fun h2 => by rw [cond_true], fun μ n ρ' hρ => ?_⟩
                  intro y hy
                  simp only [Bool.and_eq_true] at hb
                  have hl0 : LRel μ n (zeros z.cells.toList len) (zeros z.cells.toList len).toArray.toList := by
                    simp only [List.toList_toArray]; exact LRel.of_flat1 _ _ (zeros_flat hb.1 _)
                  obtain ⟨r', _, h2⟩ := fill_good (fun i => some (i * ei.size, ei.size)) (aparts_rel hρ hps) hl0 hr
                  obtain ⟨k, hk⟩ := List.getElem?_of_mem hy
                  obtain ⟨y', _, h3⟩ := h2.getElem? k hk
                  exact ⟨μ, y', h3⟩
                · cases ha
            · cases ha
          · cases ha
        · cases ha
      · cases ha
    · cases ha
  case makeSlice t l c =>
    simp only [aop] at ha ⊢
    split at ha
    · rename_i lv cv hl hc
      unfold aMakeSlice at ha ⊢
      split at ha
      · rename_i ti k1 l1 k2 c1 ht
        split at ha
        · rename_i elem hu
          split at ha
          · rename_i ei he
            split at ha
            · rename_i z hz
              split at ha
              · rename_i hif
                simp only [Option.some.injEq, Prod.mk.injEq] at ha
                obtain ⟨rfl, rfl⟩ := ha
                refine ⟨fun n => .slice (some ⟨n, 0, none⟩) l1.toNat (c1.toNat + 1), _, .inr (.inl ⟨0, l1.toNat, c1.toNat + 1, fun _ => rfl⟩), rfl, rfl, rfl, fun h2 => by simp only [ht, hu, he, hz, if_pos hif], fun μ n ρ' _ => ?_⟩
                intro y hy
                have := List.all_eq_true.1 (zeros_flat hif.1 _) y hy
                exact BV.flat (by unfold flat; cases y <;> first | exact this | cases this)
              · cases ha
            · cases ha
          · cases ha
        · cases ha
      · cases ha
    · cases ha
  case makeMap t x =>
    cases x with
    | some _ => cases hm
    | none =>
      simp only [aop, aMakeMap, Option.some.injEq, Prod.mk.injEq] at ha ⊢
      obtain ⟨rfl, rfl⟩ := ha
      exact ⟨fun n => .map (some n), _, .inr (.inr fun _ => rfl), rfl, rfl, rfl, fun h2 => ⟨rfl, rfl⟩, fun μ n ρ' _ e he => by cases he⟩
structure DSt where
  i : Nat
  a : Tr Value
  W : Tr Nat
  R : Tr Nat
  M : Tr Nat
  hist : List (Nat × Bool × AHeap)
  reads : List (Nat × Oper × Tr Value × Value)
  h : AHeap
noncomputable def dMask (M : Tr Nat) (j : Nat) : List Edge → Nat → Option Nat
  | [], m => some m
  | e :: es, m => bif Region.binds .any e then
      (bif Nat.ble (e.on + 1) j then match M.get e.on with
        | some k => dMask M j es (Nat.lor (Nat.lor m (Nat.shiftLeft 1 e.on)) k)
        | none => none
      else none)
    else dMask M j es m
noncomputable def tmpsOf : List Operand → List Tmp
  | [] => []
  | .tmp t :: xs => t :: tmpsOf xs
  | _ :: xs => tmpsOf xs
noncomputable def needs (ops : Array Oper) (o : Oper) : List Tmp :=
  match o.guard with
  | none => tmpsOf o.op.operands.toList
  | some (j, _) => match (ops[j]?).bind (·.dst) with
    | some d => d :: tmpsOf o.op.operands.toList
    | none => tmpsOf o.op.operands.toList
noncomputable def dAct (a0 a : Tr Value) (W : Tr Nat) (mk : Nat) : List Tmp → Tr Value → Option (Tr Value)
  | [], pa => some pa
  | t :: ts, pa => match W.get t with
    | none => match a0.get t with
      | some u => dAct a0 a W mk ts (pa.put t (some u))
      | none => dAct a0 a W mk ts pa
    | some i => bif Nat.testBit mk i then match a.get t with
        | some u => dAct a0 a W mk ts (pa.put t (some u))
        | none => none
      else none
noncomputable def dReads (W : Tr Nat) (j : Nat) : List Tmp → Tr Nat → Tr Nat
  | [], R => R
  | t :: ts, R => match W.get t with
    | none => dReads W j ts (R.put t (some (Nat.lor ((R.get t).getD 0) (Nat.shiftLeft 1 j))))
    | some _ => dReads W j ts R
noncomputable def dDst (nt : Nat) (W R : Tr Nat) (j mk : Nat) : Option Tmp → Bool
  | none => true
  | some d => Nat.ble (d + 1) nt && ((W.get d).isNone && (match R.get d with
    | none => true
    | some r => Nat.beq (Nat.lor r (Nat.lor mk (Nat.shiftLeft 1 j))) (Nat.lor mk (Nat.shiftLeft 1 j))))
noncomputable def sameAt (P : Program) (T : Tr TI) (o : Oper) (pa : Tr Value) (v : Value) (h : AHeap) : Bool :=
  match aop P T o (aopnd pa) h with
  | some (u, _) => veq u v
  | none => false
noncomputable def dHist (P : Program) (T : Tr TI) (o : Oper) (pa : Tr Value) (v : Value) (mk : Nat) : List (Nat × Bool × AHeap) → Bool
  | [] => true
  | (c, _, hb) :: r => Nat.testBit mk c || (sameAt P T o pa v hb && dHist P T o pa v mk r)
noncomputable def dAll (mk : Nat) : List (Nat × Bool × AHeap) → Bool
  | [] => true
  | (c, _, _) :: r => Nat.testBit mk c && dAll mk r
noncomputable def dBelow (mk : Nat) : List (Nat × Bool × AHeap) → Bool
  | [] => true
  | (c, l, _) :: r => (bif l && Nat.testBit mk c then dAll mk r else true) && dBelow mk r
noncomputable def dFin (σ : DSt) (o : Oper) (nd : List Tmp) (mk : Nat) (v : Value) (hist : List (Nat × Bool × AHeap)) (reads : List (Nat × Oper × Tr Value × Value)) (h : AHeap) : DSt :=
  { i := σ.i + 1, a := (match o.dst with | some d => σ.a.put d (some v) | none => σ.a), W := (match o.dst with | some d => σ.W.put d (some σ.i) | none => σ.W), R := dReads σ.W σ.i nd σ.R, M := σ.M.put σ.i (some mk), hist, reads, h }
noncomputable def dStep (P : Program) (T : Tr TI) (op : Oper → (Operand → Option Value) → AHeap → Option (Value × AHeap)) (ops : Array Oper) (nt : Nat) (a0 : Tr Value) (σ : DSt) (o : Oper) : Option DSt :=
  match dMask σ.M σ.i o.after.toList 0 with
  | none => none
  | some mk => match dAct a0 σ.a σ.W mk (needs ops o) .leaf with
    | none => none
    | some pa => bif (dDst nt σ.W (dReads σ.W σ.i (needs ops o) σ.R) σ.i mk o.dst && !isDefer o.op) && dBelow mk σ.hist then
        match aguard ops pa o with
        | none => none
        | some false => some (dFin σ o (needs ops o) mk (.tuple #[]) σ.hist σ.reads σ.h)
        | some true => match memKind T o.op with
          | 0 => match aop P T o (aopnd pa) σ.h with
            | some (v, _) => some (dFin σ o (needs ops o) mk v σ.hist σ.reads σ.h)
            | none => none
          | 1 => match aop P T o (aopnd pa) σ.h with
            | some (v, _) => bif dHist P T o pa v mk σ.hist then some (dFin σ o (needs ops o) mk v σ.hist ((σ.i, o, pa, v) :: σ.reads) σ.h) else none
            | none => none
          | _ => bif dAll mk σ.hist then match op o (aopnd pa) σ.h with
            | some (v, h') => bif σ.reads.all (fun x => Nat.testBit mk x.1 || sameAt P T x.2.1 x.2.2.1 x.2.2.2 h') then some (dFin σ o (needs ops o) mk v ((σ.i, false, σ.h) :: σ.hist) σ.reads h') else none
            | none => none
            else bif isNew o.op then match aop P T o (aopnd pa) σ.h with
              | some (v, h') => bif σ.reads.all (fun x => Nat.testBit mk x.1 || sameAt P T x.2.1 x.2.2.1 x.2.2.2 h') then some (dFin σ o (needs ops o) mk v ((σ.i, true, σ.h) :: σ.hist) σ.reads h') else none
              | none => none
            else none
      else none
noncomputable def dRun (P : Program) (T : Tr TI) (op : Oper → (Operand → Option Value) → AHeap → Option (Value × AHeap)) (ops : Array Oper) (nt : Nat) (a0 : Tr Value) : List Oper → DSt → Option DSt
  | [], σ => some σ
  | o :: os, σ => match dStep P T op ops nt a0 σ o with
    | some σ' => dRun P T op ops nt a0 os σ'
    | none => none
noncomputable def evDrawn (P : Program) (T : Tr TI) (op : Oper → (Operand → Option Value) → AHeap → Option (Value × AHeap)) (ops : Array Oper) (nt : Nat) (a : Tr Value) (h : AHeap) : Option (Tr Value × AHeap) :=
  match dRun P T op ops nt a ops.toList ⟨0, a, .leaf, .leaf, .leaf, [], [], h⟩ with
  | some σ => some (σ.a, σ.h)
  | none => none
end Go.Ab
