/-
  The operations of a program under the view: maps, and what goes through them.
-/
import Derived.Test.YtebheelmgcggmaaGreatAb8
namespace Go.Ab
set_option linter.unusedSimpArgs false
set_option linter.unusedVariables false
section ops
variable {P : Program} {T : Tr TI} {μ : Emb} {h h' : AHeap} {w : World}
theorem EsRel.getElem? {n : Nat} : ∀ {l : List AEnt} {l' : List MapEntry}, EsRel μ n l l' → ∀ (i : Nat) {e : AEnt}, l[i]? = some e → ∃ m, l'[i]? = some m ∧ ERel μ n e m
  | _, _, .nil, i, e, he => by simp at he
  | _, _, .cons h t, 0, e, he => by simp at he; subst he; exact ⟨_, by simp, h⟩
  | _, _, .cons h t, i + 1, e, he => by simp at he; obtain ⟨m, h1, h2⟩ := t.getElem? i he; exact ⟨m, by simpa using h1, h2⟩
theorem EsRel.append {n : Nat} : ∀ {l m : List AEnt} {l' m' : List MapEntry}, EsRel μ n l l' → EsRel μ n m m' → EsRel μ n (l ++ m) (l' ++ m')
  | _, _, _, _, .nil, h => h
  | _, _, _, _, .cons h t, hm => .cons h (t.append hm)
theorem EsRel.eraseIdx {n : Nat} : ∀ {l : List AEnt} {l' : List MapEntry} (i : Nat), EsRel μ n l l' → EsRel μ n (l.eraseIdx i) (l'.eraseIdx i)
  | _, _, _, .nil => .nil
  | _, _, 0, .cons _ t => t
  | _, _, i + 1, .cons h t => .cons h (t.eraseIdx i)
theorem EsRel.set {n : Nat} : ∀ {l : List AEnt} {l' : List MapEntry} (i : Nat) {e : AEnt} {m : MapEntry}, EsRel μ n l l' → ERel μ n e m → EsRel μ n (l.set i e) (l'.set i m)
  | _, _, _, _, _, .nil, _ => .nil
  | _, _, 0, _, _, .cons _ t, he => .cons he t
  | _, _, i + 1, _, _, .cons h t, he => .cons h (t.set i he)
noncomputable def aFindNow (kind : TypeDesc) (k : Value) : List AEnt → Nat → Option (Option (Nat × Value))
  | [], _ => some none
  | e :: es, i => match Instr.sameNow kind k e.key with
    | some true => some (some (i, e.val))
    | some false => aFindNow kind k es (i + 1)
    | none => none
noncomputable def aFindAsk (P : Program) (kt : TypeId) (k : Value) : List AEnt → Nat → Option (Option (Nat × Value))
  | [], _ => some none
  | e :: es, i => match pureRun P (Op.equal kt k e.key) with
    | some true => some (some (i, e.val))
    | some false => aFindAsk P kt k es (i + 1)
    | none => none
noncomputable def aFind (P : Program) (T : Tr TI) (kt : TypeId) (k : Value) (es : List AEnt) : Option (Option (Nat × Value)) :=
  match T.get kt with
  | some ki => match aFindNow ki.und k es 0 with
    | some r => some r
    | none => aFindAsk P kt k es 0
  | none => none
noncomputable def FRel (μ : Emb) (n : Nat) : Option (Nat × Value) → Option (Nat × Value) → Prop
  | none, none => True
  | some (i, v), some (j, v') => i = j ∧ VRel μ n v v'
  | _, _ => False
theorem findNow_good {n : Nat} (kind : TypeDesc) (k : Value) : ∀ {es : List AEnt} {ms : List MapEntry} (i : Nat), EsRel μ n es ms →
    (∀ r, aFindNow kind k es i = some r → ∃ r', Instr.findNow kind k ms i = some r' ∧ FRel μ n r r') ∧ (aFindNow kind k es i = none → Instr.findNow kind k ms i = none)
  | _, _, i, .nil => ⟨fun r hr => by simp only [aFindNow, Option.some.injEq] at hr; subst hr; exact ⟨none, rfl, trivial⟩, fun h => by simp [aFindNow] at h⟩
  | _, _, i, .cons (e := e) (m := m) h t => by
    have ih := findNow_good kind k (i + 1) t
    simp only [aFindNow, Instr.findNow, h.key]
    cases hs : Instr.sameNow kind k e.key with
    | none => exact ⟨fun r hr => by simp at hr, fun _ => rfl⟩
    | some b =>
      cases b with
      | true => exact ⟨fun r hr => by simp only [Option.some.injEq] at hr; subst hr; exact ⟨_, rfl, rfl, h.val⟩, fun hh => by simp at hh⟩
      | false => exact ih
theorem findAsk_good {n : Nat} (kt : TypeId) (k : Value) (w : World) : ∀ {es : List AEnt} {ms : List MapEntry} (i : Nat) {r : Option (Nat × Value)}, EsRel μ n es ms → aFindAsk P kt k es i = some r →
    ∃ r', (Instr.findAsking kt k ms i).run P w = .ok r' w ∧ FRel μ n r r'
  | _, _, i, r, .nil, hr => by simp only [aFindAsk, Option.some.injEq] at hr; subst hr; exact ⟨none, rfl, trivial⟩
  | _, _, i, r, .cons (e := e) (m := m) h t, hr => by
    simp only [aFindAsk] at hr
    split at hr
    · rename_i hp
      simp only [Option.some.injEq] at hr; subst hr
      refine ⟨some (i, m.val), ?_, rfl, h.val⟩
      simp only [Instr.findAsking, h.key, Sem.run_bind, pureRun_run _ w hp, Result.andThen_ok, if_true, Sem.run_pure]
    · rename_i hp
      obtain ⟨r', h1, h2⟩ := findAsk_good kt k w (i + 1) t hr
      refine ⟨r', ?_, h2⟩
      simp only [Instr.findAsking, h.key, Sem.run_bind, pureRun_run _ w hp, Result.andThen_ok, Bool.false_eq_true, if_false, h1]
    · cases hr
theorem find_good (ok : TyOK P T) {n : Nat} {kt : TypeId} {k : Value} {es : List AEnt} {ms : List MapEntry} {r : Option (Nat × Value)} (he : EsRel μ n es ms) (ha : aFind P T kt k es = some r) (w : World) :
    ∃ r', (Instr.findKey kt k ms).run P w = .ok r' w ∧ FRel μ n r r' := by
  unfold aFind at ha
  split at ha
  · rename_i ki hk
    split at ha
    · rename_i r0 hr
      cases ha
      obtain ⟨r', h1, h2⟩ := (findNow_good ki.und k 0 he).1 _ hr
      exact ⟨r', by simp only [Instr.findKey, Sem.run_bind, run_underlying ok hk, Result.andThen_ok, h1, Sem.run_pure], h2⟩
    · rename_i hr
      have h0 := (findNow_good ki.und k 0 he).2 hr
      obtain ⟨r', h1, h2⟩ := findAsk_good kt k w 0 he ha
      exact ⟨r', by simp only [Instr.findKey, Sem.run_bind, run_underlying ok hk, Result.andThen_ok, h0, h1], h2⟩
  · cases ha
noncomputable def keyOk (P : Program) (empty : Bool) (kt : TypeId) (k : Value) : Bool := flat k && (pureRun P (Instr.checkKey empty 10000 kt k)).isSome
theorem keyOk_run {empty : Bool} {kt : TypeId} {k k' : Value} {n : Nat} (hk : VRel μ n k k') (h : keyOk P empty kt k = true) (w : World) : k' = k ∧ (Instr.checkKey empty 10000 kt k).run P w = .ok () w ∧ flat k = true := by
  simp only [keyOk, Bool.and_eq_true, Option.isSome_iff_exists] at h
  obtain ⟨h1, u, h2⟩ := h
  exact ⟨hk.flat_eq h1, pureRun_run _ w h2, h1⟩
theorem EsRel.isEmpty {n : Nat} {es : List AEnt} {ms : Array MapEntry} (he : EsRel μ n es ms.toList) : ms.isEmpty = es.isEmpty := by
  have := he.length
  simp only [Array.length_toList] at this
  cases es with
  | nil => simp at this; simp [this]
  | cons a l => simp at this ⊢; intro h; rw [h] at this; simp at this
noncomputable def aMakeMap (h : AHeap) : Value × AHeap := (.map (some h.next), h.new (.map [] 0))
theorem makeMap_good (st : StRel μ h w) {t : TypeId} {r r' : Option Value} (hr : OV μ h.next r r') (hok : r = none) : GoodV P μ h w (Instr.makeMap t r') (aMakeMap h).1 (aMakeMap h).2 := by
  subst hok
  cases r' with
  | some _ => exact hr.elim
  | none =>
    refine ⟨.map (some w.heap.size), _, _, ?_, Ext.new st (.map #[] 0) ⟨w.heap.size, 0, 0, 0⟩ (.map [] 0) rfl ⟨rfl, #[], rfl, .nil⟩, ?_⟩
    · simp only [Instr.makeMap, Sem.run_bind, run_newObj, Result.andThen_ok, Sem.run_pure]
    · exact VRel.map (by simp [aMakeMap]) (Emb.upd_same _ _ _)
noncomputable def mapTypes (T : Tr TI) (t : TypeId) : Option (TypeId × TypeId) :=
  match T.get t with
  | some ti => match ti.und with
    | .map k e => some (k, e)
    | _ => none
  | none => none
theorem mapTypes_run (ok : TyOK P T) {t k e : TypeId} (hm : mapTypes T t = some (k, e)) (w : World) : (underlying t).run P w = .ok (.map k e) w := by
  unfold mapTypes at hm
  split at hm
  · rename_i ti ht
    split at hm
    · rename_i hu; cases hm; rw [run_underlying ok ht, hu]
    · cases hm
  · cases hm
noncomputable def aEntries (h : AHeap) (m : Value) : Option (List AEnt) :=
  match m with
  | .map none => some []
  | .map (some r) => match h.get r with
    | some (.map es _) => some es
    | _ => none
  | _ => none
noncomputable def aLookup (P : Program) (T : Tr TI) (t : TypeId) (m k : Value) (ok : Bool) (h : AHeap) : Option Value :=
  match mapTypes T t, aEntries h m with
  | some (kt, et), some es => bif keyOk P es.isEmpty kt k then match aFind P T kt k es, T.get et with
    | some (some (_, v)), _ => some (bif ok then .tuple #[v, .bool true] else v)
    | some none, some ei => match ei.zero with
      | some z => bif flat z then some (bif ok then .tuple #[z, .bool false] else z) else none
      | none => none
    | _, _ => none
    else none
  | _, _ => none
theorem lookup_good (ok : TyOK P T) (st : StRel μ h w) {t : TypeId} {m m' k k' v : Value} {c : Bool} (hm : VRel μ h.next m m') (hk : VRel μ h.next k k') (ha : aLookup P T t m k c h = some v) :
    ∃ v', (Instr.lookup t m' k' c).run P w = .ok v' w ∧ VRel μ h.next v v' := by
  unfold aLookup at ha
  split at ha
  · rename_i kt et es hmt hes
    cases hko : keyOk P es.isEmpty kt k
    · rw [hko, cond_false] at ha; cases ha
    · rw [hko, cond_true] at ha
      obtain ⟨rfl, hck, hkf⟩ := keyOk_run hk hko w
      have hms : ∃ ms : Array MapEntry, EsRel μ h.next es ms.toList ∧ ((m' = .map none ∧ ms = #[]) ∨ ∃ b clock, m' = .map (some b) ∧ w.heap[b]? = some (.map ms clock)) := by
        unfold aEntries at hes
        split at hes
        · cases hes; cases hm; exact ⟨#[], .nil, .inl ⟨rfl, rfl⟩⟩
        · rename_i r
          split at hes
          · rename_i es' clock hg
            cases hes
            cases hm with
            | map hlt hmm =>
              obtain ⟨ms, g1, g2, g3⟩ := st.getMap hg hmm
              exact ⟨ms, g2, .inr ⟨_, _, rfl, g1⟩⟩
          · cases hes
        · cases hes
      obtain ⟨ms, hrel, hK⟩ := hms
      have hemp := hrel.isEmpty
      clear hm hes
      split at ha
      · rename_i i v0 et' hf
        obtain ⟨r', f1, f2⟩ := find_good ok hrel hf w
        cases r' with
        | none => exact f2.elim
        | some p =>
          obtain ⟨j, v'⟩ := p
          obtain ⟨_, f3⟩ := f2
          cases ha
          refine ⟨if c then .tuple #[v', .bool true] else v', ?_, ?_⟩
          · rcases hK with ⟨rfl, rfl⟩ | ⟨b, clock, rfl, g1⟩
            · rw [← hemp] at hck
              simp only [Instr.lookup, Sem.run_bind, mapTypes_run ok hmt, Result.andThen_ok, Sem.run_pure, hck, f1]
            · rw [← hemp] at hck
              simp only [Instr.lookup, Sem.run_bind, mapTypes_run ok hmt, Result.andThen_ok, run_getObj g1 (fun _ _ _ => by simp), Sem.run_pure, hck, f1]
          · cases c
            · exact f3
            · exact .tuple (.cons f3 (.cons (.bool _) .nil))
      · rename_i ei hf hei
        obtain ⟨r', f1, f2⟩ := find_good ok hrel hf w
        cases r' with
        | some p => exact f2.elim
        | none =>
          split at ha
          · rename_i z hz
            cases hfz : flat z
            · rw [hfz, cond_false] at ha; cases ha
            · rw [hfz, cond_true] at ha
              cases ha
              refine ⟨if c then .tuple #[z, .bool false] else z, ?_, ?_⟩
              · rcases hK with ⟨rfl, rfl⟩ | ⟨b, clock, rfl, g1⟩
                · rw [← hemp] at hck
                  simp only [Instr.lookup, Sem.run_bind, mapTypes_run ok hmt, Result.andThen_ok, Sem.run_pure, hck, f1, run_zeroValue ok hei w hz]
                · rw [← hemp] at hck
                  simp only [Instr.lookup, Sem.run_bind, mapTypes_run ok hmt, Result.andThen_ok, run_getObj g1 (fun _ _ _ => by simp), Sem.run_pure, hck, f1, run_zeroValue ok hei w hz]
              · cases c
                · exact .of_flat _ _ hfz
                · exact .tuple (.cons (.of_flat _ _ hfz) (.cons (.bool _) .nil))
          · cases ha
      · cases ha
  · cases ha
noncomputable def aMapUpdate (P : Program) (T : Tr TI) (t : TypeId) (m k v : Value) (h : AHeap) : Option AHeap :=
  match mapTypes T t, m with
  | some (kt, _), .map (some r) => match h.get r with
    | some (.map es clock) => bif keyOk P false kt k then match aFind P T kt k es with
      | some (some (i, _)) => match es[i]? with
        | some e => bif Instr.sameBits 10000 e.key k then some (h.set r (.map (es.set i ⟨k, v, e.born⟩) clock)) else none
        | none => none
      | some none => some (h.set r (.map (es ++ [⟨k, v, clock⟩]) (clock + 1)))
      | none => none
      else none
    | _ => none
  | _, _ => none
theorem modify_toList (a : Array MapEntry) (i : Nat) (f : MapEntry → MapEntry) {m : MapEntry} (hm : a.toList[i]? = some m) : (a.modify i f).toList = a.toList.set i (f m) := by
  apply List.ext_getElem?
  intro j
  rw [Array.getElem?_toList, Array.getElem?_modify, List.getElem?_set]
  rw [Array.getElem?_toList] at hm ⊢
  by_cases hij : i = j
  · subst hij
    rw [if_pos rfl, if_pos rfl, hm, if_pos]
    · rfl
    · exact (Array.getElem?_eq_some_iff.1 hm).1
  · rw [if_neg hij, if_neg hij]
theorem mapUpdate_good (ok : TyOK P T) (st : StRel μ h w) {t : TypeId} {m m' k k' v v' : Value} (hm : VRel μ h.next m m') (hk : VRel μ h.next k k') (hv : VRel μ h.next v v') (ha : aMapUpdate P T t m k v h = some h') :
    GoodU P μ h w (Instr.mapUpdate t m' k' v') h' := by
  unfold aMapUpdate at ha
  split at ha
  · rename_i kt et r hmt
    split at ha
    · rename_i es clock hg
      cases hko : keyOk P false kt k
      · rw [hko, cond_false] at ha; cases ha
      · rw [hko, cond_true] at ha
        obtain ⟨rfl, hck, hkf⟩ := keyOk_run hk hko w
        cases hm with
        | map hlt hmm =>
          rename_i e
          obtain ⟨ms, g1, g2, g3⟩ := st.getMap hg hmm
          have gO := run_getObj (P := P) g1 (fun _ _ _ => by simp)
          have gS : ∀ o', (Go.setObj e.b o').run P w = .ok () { w with heap := w.heap.setIfInBounds e.b o' } := fun o' => run_setObj g1 (fun _ _ _ => by simp)
          split at ha
          · rename_i i v0 hf
            obtain ⟨r', f1, f2⟩ := find_good ok g2 hf w
            cases r' with
            | none => exact f2.elim
            | some p =>
              obtain ⟨j, v1⟩ := p
              obtain ⟨rfl, _⟩ := f2
              split at ha
              · rename_i en hen
                cases hsb : Instr.sameBits 10000 en.key k'
                · rw [hsb, cond_false] at ha; cases ha
                · rw [hsb, cond_true] at ha
                  cases ha
                  obtain ⟨mm, q1, q2⟩ := g2.getElem? _ hen
                  have hmk : ((ms[i]?).map (·.key)).getD k' = en.key := by rw [← Array.getElem?_toList, q1]; exact q2.key
                  refine ⟨_, μ, ?_, st.setObj hg rfl hmm (c' := .map (ms.modify i fun e => { e with key := k', val := v' }) clock) ⟨g3, _, rfl, ?_⟩⟩
                  · simp only [Instr.mapUpdate, Sem.run_bind, mapTypes_run ok hmt, Result.andThen_ok, gO, hck, f1, hmk, Instr.keyThatStays, hsb, if_true, Sem.run_pure, gS]
                  · rw [modify_toList _ _ _ q1]
                    exact g2.set _ ⟨rfl, hkf, hv, q2.born⟩
              · cases ha
          · rename_i hf
            cases ha
            obtain ⟨r', f1, f2⟩ := find_good ok g2 hf w
            cases r' with
            | some p => exact f2.elim
            | none =>
              refine ⟨_, μ, ?_, st.setObj hg rfl hmm (c' := .map (ms.push { key := k', val := v', born := clock }) (clock + 1)) ⟨g3, _, rfl, ?_⟩⟩
              · simp only [Instr.mapUpdate, Sem.run_bind, mapTypes_run ok hmt, Result.andThen_ok, gO, hck, f1, gS]
              · rw [Array.toList_push]; exact g2.append (.cons ⟨rfl, hkf, hv, rfl⟩ .nil)
          · cases ha
    · cases ha
  · cases ha
noncomputable def aDelete (P : Program) (T : Tr TI) (argTypes : Array TypeId) (m k : Value) (h : AHeap) : Option AHeap :=
  match argTypes.toList with
  | t :: _ => match mapTypes T t, m with
    | some (kt, _), .map none => bif keyOk P true kt k then some h else none
    | some (kt, _), .map (some r) => match h.get r with
      | some (.map es clock) => bif keyOk P es.isEmpty kt k then match aFind P T kt k es with
        | some (some (i, _)) => some (h.set r (.map (es.eraseIdx i) clock))
        | some none => some (h.set r (.map es clock))
        | none => none
        else none
      | _ => none
    | _, _ => none
  | [] => none
theorem delete_good (ok : TyOK P T) (st : StRel μ h w) {argTypes : Array TypeId} (ty : TypeId) {m m' k k' : Value} (hm : VRel μ h.next m m') (hk : VRel μ h.next k k') (ha : aDelete P T argTypes m k h = some h') :
    GoodV P μ h w (Builtin.delete_ argTypes ty #[m', k']) (.tuple #[]) h' := by
  unfold aDelete at ha
  split at ha
  · rename_i t rest hat
    have h0 : argTypes[0]? = some t := by rw [← Array.getElem?_toList, hat]; rfl
    split at ha
    · rename_i kt et hmt
      cases hko : keyOk P true kt k
      · rw [hko, cond_false] at ha; cases ha
      · rw [hko, cond_true] at ha
        cases ha
        obtain ⟨rfl, hck, hkf⟩ := keyOk_run hk hko w
        cases hm
        exact ⟨.tuple #[], w, μ, by simp only [Builtin.delete_, h0, List.getElem?_toArray, List.getElem?_cons_zero, List.getElem?_cons_succ, Sem.run_bind, mapTypes_run ok hmt, Result.andThen_ok, hck, Sem.run_pure], Ext.refl st, .tuple .nil⟩
    · rename_i kt et r hmt
      split at ha
      · rename_i es clock hg
        cases hko : keyOk P es.isEmpty kt k
        · rw [hko, cond_false] at ha; cases ha
        · rw [hko, cond_true] at ha
          obtain ⟨rfl, hck, hkf⟩ := keyOk_run hk hko w
          cases hm with
          | map hlt hmm =>
            rename_i e
            obtain ⟨ms, g1, g2, g3⟩ := st.getMap hg hmm
            have gO := run_getObj (P := P) g1 (fun _ _ _ => by simp)
            have gS : ∀ o', (Go.setObj e.b o').run P w = .ok () { w with heap := w.heap.setIfInBounds e.b o' } := fun o' => run_setObj g1 (fun _ _ _ => by simp)
            have hemp := g2.isEmpty
            split at ha
            · rename_i i v0 hf
              cases ha
              obtain ⟨r', f1, f2⟩ := find_good ok g2 hf w
              cases r' with
              | none => exact f2.elim
              | some p =>
                obtain ⟨j, v1⟩ := p
                obtain ⟨rfl, _⟩ := f2
                refine ⟨.tuple #[], _, μ, ?_, st.setObj hg rfl hmm (c' := .map (ms.eraseIdxIfInBounds i) clock) ⟨g3, _, rfl, ?_⟩, .tuple .nil⟩
                · simp only [Builtin.delete_, h0, List.getElem?_toArray, List.getElem?_cons_zero, List.getElem?_cons_succ, Sem.run_bind, mapTypes_run ok hmt, Result.andThen_ok, gO, hemp, hck, f1, gS, Sem.run_pure]
                · have : (ms.eraseIdxIfInBounds i).toList = ms.toList.eraseIdx i := by simp
                  rw [this]; exact g2.eraseIdx i
            · rename_i hf
              cases ha
              obtain ⟨r', f1, f2⟩ := find_good ok g2 hf w
              cases r' with
              | some p => exact f2.elim
              | none =>
                refine ⟨.tuple #[], _, μ, ?_, st.setObj hg rfl hmm (c' := .map ms clock) ⟨g3, _, rfl, g2⟩, .tuple .nil⟩
                simp only [Builtin.delete_, h0, List.getElem?_toArray, List.getElem?_cons_zero, List.getElem?_cons_succ, Sem.run_bind, mapTypes_run ok hmt, Result.andThen_ok, gO, hemp, hck, f1, gS, Sem.run_pure]
            · cases ha
      · cases ha
    · cases ha
  · cases ha
end ops
end Go.Ab
