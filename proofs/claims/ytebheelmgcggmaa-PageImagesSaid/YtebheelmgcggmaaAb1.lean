/-
  An abstract view of the model's memory: rows by number, each lying somewhere in the world. What a value, a row, a world is under such a view; what a step may change.
-/
import Derived.Calls
namespace Go.Ab
set_option linter.unusedSimpArgs false
set_option linter.unusedVariables false
inductive Tr (α : Type) where
  | leaf : Tr α
  | node (l : Tr α) (v : Option α) (r : Tr α) : Tr α
namespace Tr
variable {α : Type}
def get : Tr α → Nat → Option α
  | .leaf, _ => none
  | .node _ v _, 0 => v
  | .node l _ r, n + 1 => bif Nat.beq (Nat.mod n 2) 0 then l.get (Nat.div n 2) else r.get (Nat.div n 2)
def sing (x : Option α) : Nat → Nat → Tr α
  | 0, _ => .leaf
  | _ + 1, 0 => .node .leaf x .leaf
  | f + 1, n + 1 => bif Nat.beq (Nat.mod n 2) 0 then .node (sing x f (Nat.div n 2)) none .leaf else .node .leaf none (sing x f (Nat.div n 2))
def put : Tr α → Nat → Option α → Tr α
  | .leaf, n, x => sing x (n + 1) n
  | .node l _ r, 0, x => .node l x r
  | .node l v r, n + 1, x => bif Nat.beq (Nat.mod n 2) 0 then .node (l.put (Nat.div n 2) x) v r else .node l v (r.put (Nat.div n 2) x)
theorem get_sing_same (x : Option α) : ∀ (f n : Nat), n < f → (sing x f n).get n = x
  | 0, n, h => absurd h (Nat.not_lt_zero n)
  | f + 1, 0, _ => rfl
  | f + 1, n + 1, h => by
    have hd : Nat.div n 2 < f := by show n / 2 < f; omega
    simp only [sing]
    cases hb : Nat.beq (Nat.mod n 2) 0
    · simp only [cond_false, get, hb]; exact get_sing_same x f _ hd
    · simp only [cond_true, get, hb]; exact get_sing_same x f _ hd
theorem par {n m : Nat} (hb : Nat.beq (Nat.mod n 2) 0 = Nat.beq (Nat.mod m 2) 0) (hd : Nat.div n 2 = Nat.div m 2) : n = m := by
  have h1 : n / 2 = m / 2 := hd
  have h2 : Nat.beq (n % 2) 0 = Nat.beq (m % 2) 0 := hb
  rcases Nat.mod_two_eq_zero_or_one n with a | a <;> rcases Nat.mod_two_eq_zero_or_one m with b | b <;> rw [a, b] at h2 <;> first | omega | (simp at h2)
theorem get_sing_ne (x : Option α) : ∀ (f n m : Nat), n ≠ m → (sing x f n).get m = none
  | 0, _, _, _ => rfl
  | f + 1, 0, m, h => by
    cases m with
    | zero => exact absurd rfl h
    | succ m => simp only [sing, get]; cases Nat.beq (Nat.mod m 2) 0 <;> rfl
  | f + 1, n + 1, m, h => by
    cases m with
    | zero => simp only [sing]; cases Nat.beq (Nat.mod n 2) 0 <;> rfl
    | succ m =>
      simp only [sing]
      cases hb : Nat.beq (Nat.mod n 2) 0 <;> cases hc : Nat.beq (Nat.mod m 2) 0
      · simp only [cond_false, get, hc]
        exact get_sing_ne x f _ _ fun e => h (by rw [par (hb.trans hc.symm) e])
      · simp only [cond_false, cond_true, get, hc]
      · simp only [cond_false, cond_true, get, hc]
      · simp only [cond_true, get, hc]
        exact get_sing_ne x f _ _ fun e => h (by rw [par (hb.trans hc.symm) e])
theorem get_put_same (x : Option α) : ∀ (t : Tr α) (n : Nat), (t.put n x).get n = x
  | .leaf, n => get_sing_same x _ n (Nat.lt_succ_self n)
  | .node l v r, 0 => rfl
  | .node l v r, n + 1 => by
    simp only [put]
    cases hb : Nat.beq (Nat.mod n 2) 0
    · simp only [cond_false, get, hb]; exact get_put_same x r _
    · simp only [cond_true, get, hb]; exact get_put_same x l _
theorem get_put_ne (x : Option α) : ∀ (t : Tr α) (n m : Nat), n ≠ m → (t.put n x).get m = t.get m
  | .leaf, n, m, h => get_sing_ne x _ n m h
  | .node l v r, 0, m, h => by
    cases m with
    | zero => exact absurd rfl h
    | succ m => rfl
  | .node l v r, n + 1, m, h => by
    cases m with
    | zero => simp only [put]; cases Nat.beq (Nat.mod n 2) 0 <;> rfl
    | succ m =>
      simp only [put]
      cases hb : Nat.beq (Nat.mod n 2) 0 <;> cases hc : Nat.beq (Nat.mod m 2) 0
      · simp only [cond_false, get, hc]
        exact get_put_ne x r _ _ fun e => h (by rw [par (hb.trans hc.symm) e])
      · simp only [cond_false, cond_true, get, hc]
      · simp only [cond_false, cond_true, get, hc]
      · simp only [cond_true, get, hc]
        exact get_put_ne x l _ _ fun e => h (by rw [par (hb.trans hc.symm) e])
theorem get_put (x : Option α) (t : Tr α) (n m : Nat) : (t.put n x).get m = if n = m then x else t.get m := by
  by_cases h : n = m
  · subst h; rw [if_pos rfl, get_put_same]
  · rw [if_neg h, get_put_ne x t n m h]
end Tr
structure ALoop where
  state : LoopState
  pending : Option Code
  fn : FuncId
  nt : Nat
  tmps : Tr Value
  params : Array Tmp
  assign : Code
  body : Code
structure AEnt where
  key : Value
  val : Value
  born : Nat
inductive AObj where
  | cells (vs : List Value) (sz : Nat)
  | ro (vs : List Value)
  | map (es : List AEnt) (clock : Nat)
  | mapIter (m : Option Nat) (since : Nat) (seen : Array Nat) (stepped : Nat)
  | strIter (s : ByteArray) (pos : Nat)
  | loop (l : ALoop)
def AObj.own : AObj → Bool
  | .ro _ => false
  | _ => true
structure AHeap where
  next : Nat
  rows : Tr AObj
namespace AHeap
def get (h : AHeap) (r : Nat) : Option AObj := h.rows.get r
def set (h : AHeap) (r : Nat) (o : AObj) : AHeap := { h with rows := h.rows.put r (some o) }
def kill (h : AHeap) (r : Nat) : AHeap := { h with rows := h.rows.put r none }
def new (h : AHeap) (o : AObj) : AHeap := { next := h.next + 1, rows := h.rows.put h.next (some o) }
theorem get_set (h : AHeap) (r q : Nat) (o : AObj) : (h.set r o).get q = if r = q then some o else h.get q := Tr.get_put _ _ _ _
theorem get_kill (h : AHeap) (r q : Nat) : (h.kill r).get q = if r = q then none else h.get q := Tr.get_put _ _ _ _
theorem get_new (h : AHeap) (q : Nat) (o : AObj) : (h.new o).get q = if h.next = q then some o else h.get q := Tr.get_put _ _ _ _
@[simp] theorem next_set (h : AHeap) (r : Nat) (o : AObj) : (h.set r o).next = h.next := rfl
@[simp] theorem next_kill (h : AHeap) (r : Nat) : (h.kill r).next = h.next := rfl
@[simp] theorem next_new (h : AHeap) (o : AObj) : (h.new o).next = h.next + 1 := rfl
end AHeap
structure Ent where
  b : Nat
  d : Nat
  ext : Nat
  sz : Nat
def Emb : Type := Nat → Option Ent
mutual
inductive VRel (μ : Emb) (n : Nat) : Value → Value → Prop
  | bool (b : Bool) : VRel μ n (.bool b) (.bool b)
  | int (k : IntKind) (i : Int) : VRel μ n (.int k i) (.int k i)
  | float (k : FloatKind) (x : Nat) : VRel μ n (.float k x) (.float k x)
  | complex (k : FloatKind) (x y : Nat) : VRel μ n (.complex k x y) (.complex k x y)
  | string (s : ByteArray) : VRel μ n (.string s) (.string s)
  | ptr0 : VRel μ n (.pointer none) (.pointer none)
  | ptr {r off : Nat} {e : Ent} (hr : r < n) (hm : μ r = some e) : VRel μ n (.pointer (some ⟨r, off, none⟩)) (.pointer (some ⟨e.b, e.d + off, none⟩))
  | slice0 : VRel μ n (.slice none 0 0) (.slice none 0 0)
  | sliceK {r off len c : Nat} {e : Ent} (hr : r < n) (hm : μ r = some e) : VRel μ n (.slice (some ⟨r, off, none⟩) len (c + 1)) (.slice (some ⟨e.b, e.d + off, none⟩) len c)
  | sliceU {r off len cap : Nat} {e : Ent} (hr : r < n) (hm : μ r = some e) (hl : len ≤ cap) (hc : off + cap * e.sz ≤ e.ext) :
      VRel μ n (.slice (some ⟨r, off, none⟩) len 0) (.slice (some ⟨e.b, e.d + off, none⟩) len cap)
  | sliceZ {r off x : Nat} {sp : Option Nat} {e : Ent} (hr : r < n) (hm : μ r = some e) : VRel μ n (.slice (some ⟨r, off, none⟩) 0 0) (.slice (some ⟨e.b, x, sp⟩) 0 0)
  | sliceKZ {r off x : Nat} {sp : Option Nat} {e : Ent} (hr : r < n) (hm : μ r = some e) : VRel μ n (.slice (some ⟨r, off, none⟩) 0 1) (.slice (some ⟨e.b, x, sp⟩) 0 0)
  | map0 : VRel μ n (.map none) (.map none)
  | map {r : Nat} {e : Ent} (hr : r < n) (hm : μ r = some e) : VRel μ n (.map (some r)) (.map (some e.b))
  | func {f : Fn} {a a' c c' : Array Value} (hf : ∀ l, f ≠ .yield l) (ha : LRel μ n a.toList a'.toList) (hc : LRel μ n c.toList c'.toList) : VRel μ n (.func f a c) (.func f a' c')
  | yield {l : Nat} {e : Ent} (hr : l < n) (hm : μ l = some e) : VRel μ n (.func (.yield l) #[] #[]) (.func (.yield e.b) #[] #[])
  | nilFunc : VRel μ n .nilFunc .nilFunc
  | iface {t : TypeId} {v v' : Value} (h : VRel μ n v v') : VRel μ n (.iface t v) (.iface t v')
  | nilIface : VRel μ n .nilIface .nilIface
  | agg {a a' : Array Value} (h : LRel μ n a.toList a'.toList) : VRel μ n (.agg a) (.agg a')
  | tuple {a a' : Array Value} (h : LRel μ n a.toList a'.toList) : VRel μ n (.tuple a) (.tuple a')
inductive LRel (μ : Emb) (n : Nat) : List Value → List Value → Prop
  | nil : LRel μ n [] []
  | cons {v v' : Value} {l l' : List Value} (h : VRel μ n v v') (t : LRel μ n l l') : LRel μ n (v :: l) (v' :: l')
end
def Agree (n : Nat) (μ μ' : Emb) : Prop := ∀ r, r < n → μ' r = μ r
theorem Agree.refl (n : Nat) (μ : Emb) : Agree n μ μ := fun _ _ => rfl
theorem Agree.mono {n m : Nat} {μ μ' : Emb} (h : Agree m μ μ') (hn : n ≤ m) : Agree n μ μ' := fun r hr => h r (by omega)
theorem Agree.trans {n m : Nat} {μ μ' μ'' : Emb} (h : Agree n μ μ') (h' : Agree m μ' μ'') (hn : n ≤ m) : Agree n μ μ'' :=
  fun r hr => (h' r (by omega)).trans (h r hr)
mutual
theorem VRel.mono {μ μ' : Emb} {n m : Nat} (ha : Agree n μ μ') (hn : n ≤ m) : ∀ {v v' : Value}, VRel μ n v v' → VRel μ' m v v'
  | _, _, .bool b => .bool b
  | _, _, .int k i => .int k i
  | _, _, .float k x => .float k x
  | _, _, .complex k x y => .complex k x y
  | _, _, .string s => .string s
  | _, _, .ptr0 => .ptr0
  | _, _, .ptr hr hm => .ptr (by omega) ((ha _ hr).trans hm)
  | _, _, .slice0 => .slice0
  | _, _, .sliceK hr hm => .sliceK (by omega) ((ha _ hr).trans hm)
  | _, _, .sliceU hr hm hl hc => .sliceU (by omega) ((ha _ hr).trans hm) hl hc
  | _, _, .sliceZ hr hm => .sliceZ (by omega) ((ha _ hr).trans hm)
  | _, _, .sliceKZ hr hm => .sliceKZ (by omega) ((ha _ hr).trans hm)
  | _, _, .map0 => .map0
  | _, _, .map hr hm => .map (by omega) ((ha _ hr).trans hm)
  | _, _, .func hf h1 h2 => .func hf (LRel.mono ha hn h1) (LRel.mono ha hn h2)
  | _, _, .yield hr hm => .yield (by omega) ((ha _ hr).trans hm)
  | _, _, .nilFunc => .nilFunc
  | _, _, .iface h => .iface (VRel.mono ha hn h)
  | _, _, .nilIface => .nilIface
  | _, _, .agg h => .agg (LRel.mono ha hn h)
  | _, _, .tuple h => .tuple (LRel.mono ha hn h)
theorem LRel.mono {μ μ' : Emb} {n m : Nat} (ha : Agree n μ μ') (hn : n ≤ m) : ∀ {l l' : List Value}, LRel μ n l l' → LRel μ' m l l'
  | _, _, .nil => .nil
  | _, _, .cons h t => .cons (VRel.mono ha hn h) (LRel.mono ha hn t)
end
namespace LRel
variable {μ : Emb} {n : Nat}
theorem length : ∀ {l l' : List Value}, LRel μ n l l' → l.length = l'.length
  | _, _, .nil => rfl
  | _, _, .cons _ t => by simp [length t]
theorem getElem? : ∀ {l l' : List Value}, LRel μ n l l' → ∀ (i : Nat) {v : Value}, l[i]? = some v → ∃ v', l'[i]? = some v' ∧ VRel μ n v v'
  | _, _, .nil, i, v, h => by simp at h
  | _, _, .cons h t, i, v, hv => by
    cases i with
    | zero => simp at hv; subst hv; exact ⟨_, by simp, h⟩
    | succ i => simp at hv; obtain ⟨v', h1, h2⟩ := getElem? t i hv; exact ⟨v', by simpa using h1, h2⟩
theorem of_getElem? : ∀ {l l' : List Value}, l.length = l'.length → (∀ (i : Nat) (v v' : Value), l[i]? = some v → l'[i]? = some v' → VRel μ n v v') → LRel μ n l l'
  | [], [], _, _ => .nil
  | [], _ :: _, h, _ => by simp at h
  | _ :: _, [], h, _ => by simp at h
  | v :: l, v' :: l', h, hv => .cons (hv 0 v v' (by simp) (by simp)) (of_getElem? (by simpa using h) fun i a b ha hb => hv (i + 1) a b (by simpa using ha) (by simpa using hb))
theorem append : ∀ {l l' m m' : List Value}, LRel μ n l l' → LRel μ n m m' → LRel μ n (l ++ m) (l' ++ m')
  | _, _, _, _, .nil, h => h
  | _, _, _, _, .cons h t, hm => .cons h (append t hm)
theorem take : ∀ {l l' : List Value} (k : Nat), LRel μ n l l' → LRel μ n (l.take k) (l'.take k)
  | _, _, _, .nil => by simp; exact .nil
  | _, _, k, .cons h t => by
    cases k with
    | zero => simp; exact .nil
    | succ k => simp; exact .cons h (take k t)
theorem drop : ∀ {l l' : List Value} (k : Nat), LRel μ n l l' → LRel μ n (l.drop k) (l'.drop k)
  | _, _, _, .nil => by simp; exact .nil
  | _, _, k, .cons h t => by
    cases k with
    | zero => simp; exact .cons h t
    | succ k => simp; exact drop k t
theorem set : ∀ {l l' : List Value} (i : Nat) {v v' : Value}, LRel μ n l l' → VRel μ n v v' → LRel μ n (l.set i v) (l'.set i v')
  | _, _, _, _, _, .nil, _ => by simp; exact .nil
  | _, _, i, _, _, .cons h t, hv => by
    cases i with
    | zero => simp; exact .cons hv t
    | succ i => simp; exact .cons h (set i t hv)
end LRel
def flat1 : Value → Bool
  | .bool _ | .int _ _ | .float _ _ | .complex _ _ _ | .string _ | .pointer none | .slice none 0 0 | .map none | .nilFunc | .nilIface => true
  | _ => false
def flat : Value → Bool
  | .agg cs => cs.toList.all flat1
  | .tuple cs => cs.toList.all flat1
  | v => flat1 v
theorem VRel.flat1_eq {μ : Emb} {n : Nat} {v v' : Value} (h : VRel μ n v v') (hf : flat1 v = true) : v' = v := by
  cases h <;> first | rfl | simp [flat1] at hf
theorem LRel.flat1_eq {μ : Emb} {n : Nat} : ∀ {l l' : List Value}, LRel μ n l l' → l.all flat1 = true → l' = l
  | _, _, .nil, _ => rfl
  | _, _, .cons h t, hf => by
    simp only [List.all_cons, Bool.and_eq_true] at hf
    rw [h.flat1_eq hf.1, LRel.flat1_eq t hf.2]
theorem VRel.flat_eq {μ : Emb} {n : Nat} {v v' : Value} (h : VRel μ n v v') (hf : flat v = true) : v' = v := by
  cases h with
  | agg h => exact congrArg Value.agg (Array.toList_inj.1 (h.flat1_eq (by simpa [flat] using hf)))
  | tuple h => exact congrArg Value.tuple (Array.toList_inj.1 (h.flat1_eq (by simpa [flat] using hf)))
  | _ => first | rfl | simp [flat, flat1] at hf
theorem VRel.of_flat1 (μ : Emb) (n : Nat) {v : Value} (hf : flat1 v = true) : VRel μ n v v := by
  unfold flat1 at hf
  split at hf <;> first | constructor | simp at hf
theorem LRel.of_flat1 (μ : Emb) (n : Nat) : ∀ {l : List Value}, l.all flat1 = true → LRel μ n l l
  | [], _ => .nil
  | v :: l, hf => by
    simp only [List.all_cons, Bool.and_eq_true] at hf
    exact .cons (.of_flat1 μ n hf.1) (LRel.of_flat1 μ n hf.2)
theorem VRel.of_flat (μ : Emb) (n : Nat) {v : Value} (hf : flat v = true) : VRel μ n v v := by
  unfold flat at hf
  split at hf
  · exact .agg (.of_flat1 μ n hf)
  · exact .tuple (.of_flat1 μ n hf)
  · exact .of_flat1 μ n hf
end Go.Ab
