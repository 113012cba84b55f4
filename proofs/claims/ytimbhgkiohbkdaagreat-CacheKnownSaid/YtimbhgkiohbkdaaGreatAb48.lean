/-
  The evaluator once more, written so that the kernel copies little: a closed recursor for each choice, and what comes behind handed on. It is the same function. (Printed by gen48.py.) The evaluator compiled: each operand, operation, region and code becomes a closed function in a box, once. (Printed by gen49.py.)
-/
import Derived.Test.YtimbhgkiohbkdaaGreatAb42
import Derived.Test.YtimbhgkiohbkdaaGreatAb17
namespace Go.Ab
namespace Tr
noncomputable def selV1 : D8 → N8 (Option Value) → Option Value := @D8.rec (fun _ => N8 (Option Value) → Option Value) (fun t => t.c0) (fun t => t.c1) (fun t => t.c2) (fun t => t.c3) (fun t => t.c4) (fun t => t.c5) (fun t => t.c6) (fun t => t.c7)
noncomputable def updV1 : D8 → (Option Value → Option Value) → N8 (Option Value) → N8 (Option Value) := @D8.rec (fun _ => (Option Value → Option Value) → N8 (Option Value) → N8 (Option Value)) (fun f t => @N8.rec (Option Value) (fun _ => (Option Value → Option Value) → N8 (Option Value)) (fun c0 c1 c2 c3 c4 c5 c6 c7 f => ⟨f c0, c1, c2, c3, c4, c5, c6, c7⟩) t f) (fun f t => @N8.rec (Option Value) (fun _ => (Option Value → Option Value) → N8 (Option Value)) (fun c0 c1 c2 c3 c4 c5 c6 c7 f => ⟨c0, f c1, c2, c3, c4, c5, c6, c7⟩) t f) (fun f t => @N8.rec (Option Value) (fun _ => (Option Value → Option Value) → N8 (Option Value)) (fun c0 c1 c2 c3 c4 c5 c6 c7 f => ⟨c0, c1, f c2, c3, c4, c5, c6, c7⟩) t f) (fun f t => @N8.rec (Option Value) (fun _ => (Option Value → Option Value) → N8 (Option Value)) (fun c0 c1 c2 c3 c4 c5 c6 c7 f => ⟨c0, c1, c2, f c3, c4, c5, c6, c7⟩) t f) (fun f t => @N8.rec (Option Value) (fun _ => (Option Value → Option Value) → N8 (Option Value)) (fun c0 c1 c2 c3 c4 c5 c6 c7 f => ⟨c0, c1, c2, c3, f c4, c5, c6, c7⟩) t f) (fun f t => @N8.rec (Option Value) (fun _ => (Option Value → Option Value) → N8 (Option Value)) (fun c0 c1 c2 c3 c4 c5 c6 c7 f => ⟨c0, c1, c2, c3, c4, f c5, c6, c7⟩) t f) (fun f t => @N8.rec (Option Value) (fun _ => (Option Value → Option Value) → N8 (Option Value)) (fun c0 c1 c2 c3 c4 c5 c6 c7 f => ⟨c0, c1, c2, c3, c4, c5, f c6, c7⟩) t f) (fun f t => @N8.rec (Option Value) (fun _ => (Option Value → Option Value) → N8 (Option Value)) (fun c0 c1 c2 c3 c4 c5 c6 c7 f => ⟨c0, c1, c2, c3, c4, c5, c6, f c7⟩) t f)
noncomputable def selV2 : D8 → N8 (N8 (Option Value)) → N8 (Option Value) := @D8.rec (fun _ => N8 (N8 (Option Value)) → N8 (Option Value)) (fun t => t.c0) (fun t => t.c1) (fun t => t.c2) (fun t => t.c3) (fun t => t.c4) (fun t => t.c5) (fun t => t.c6) (fun t => t.c7)
noncomputable def updV2 : D8 → (N8 (Option Value) → N8 (Option Value)) → N8 (N8 (Option Value)) → N8 (N8 (Option Value)) := @D8.rec (fun _ => (N8 (Option Value) → N8 (Option Value)) → N8 (N8 (Option Value)) → N8 (N8 (Option Value))) (fun f t => @N8.rec (N8 (Option Value)) (fun _ => (N8 (Option Value) → N8 (Option Value)) → N8 (N8 (Option Value))) (fun c0 c1 c2 c3 c4 c5 c6 c7 f => ⟨f c0, c1, c2, c3, c4, c5, c6, c7⟩) t f) (fun f t => @N8.rec (N8 (Option Value)) (fun _ => (N8 (Option Value) → N8 (Option Value)) → N8 (N8 (Option Value))) (fun c0 c1 c2 c3 c4 c5 c6 c7 f => ⟨c0, f c1, c2, c3, c4, c5, c6, c7⟩) t f) (fun f t => @N8.rec (N8 (Option Value)) (fun _ => (N8 (Option Value) → N8 (Option Value)) → N8 (N8 (Option Value))) (fun c0 c1 c2 c3 c4 c5 c6 c7 f => ⟨c0, c1, f c2, c3, c4, c5, c6, c7⟩) t f) (fun f t => @N8.rec (N8 (Option Value)) (fun _ => (N8 (Option Value) → N8 (Option Value)) → N8 (N8 (Option Value))) (fun c0 c1 c2 c3 c4 c5 c6 c7 f => ⟨c0, c1, c2, f c3, c4, c5, c6, c7⟩) t f) (fun f t => @N8.rec (N8 (Option Value)) (fun _ => (N8 (Option Value) → N8 (Option Value)) → N8 (N8 (Option Value))) (fun c0 c1 c2 c3 c4 c5 c6 c7 f => ⟨c0, c1, c2, c3, f c4, c5, c6, c7⟩) t f) (fun f t => @N8.rec (N8 (Option Value)) (fun _ => (N8 (Option Value) → N8 (Option Value)) → N8 (N8 (Option Value))) (fun c0 c1 c2 c3 c4 c5 c6 c7 f => ⟨c0, c1, c2, c3, c4, f c5, c6, c7⟩) t f) (fun f t => @N8.rec (N8 (Option Value)) (fun _ => (N8 (Option Value) → N8 (Option Value)) → N8 (N8 (Option Value))) (fun c0 c1 c2 c3 c4 c5 c6 c7 f => ⟨c0, c1, c2, c3, c4, c5, f c6, c7⟩) t f) (fun f t => @N8.rec (N8 (Option Value)) (fun _ => (N8 (Option Value) → N8 (Option Value)) → N8 (N8 (Option Value))) (fun c0 c1 c2 c3 c4 c5 c6 c7 f => ⟨c0, c1, c2, c3, c4, c5, c6, f c7⟩) t f)
noncomputable def selV3 : D8 → N8 (N8 (N8 (Option Value))) → N8 (N8 (Option Value)) := @D8.rec (fun _ => N8 (N8 (N8 (Option Value))) → N8 (N8 (Option Value))) (fun t => t.c0) (fun t => t.c1) (fun t => t.c2) (fun t => t.c3) (fun t => t.c4) (fun t => t.c5) (fun t => t.c6) (fun t => t.c7)
noncomputable def updV3 : D8 → (N8 (N8 (Option Value)) → N8 (N8 (Option Value))) → N8 (N8 (N8 (Option Value))) → N8 (N8 (N8 (Option Value))) := @D8.rec (fun _ => (N8 (N8 (Option Value)) → N8 (N8 (Option Value))) → N8 (N8 (N8 (Option Value))) → N8 (N8 (N8 (Option Value)))) (fun f t => @N8.rec (N8 (N8 (Option Value))) (fun _ => (N8 (N8 (Option Value)) → N8 (N8 (Option Value))) → N8 (N8 (N8 (Option Value)))) (fun c0 c1 c2 c3 c4 c5 c6 c7 f => ⟨f c0, c1, c2, c3, c4, c5, c6, c7⟩) t f) (fun f t => @N8.rec (N8 (N8 (Option Value))) (fun _ => (N8 (N8 (Option Value)) → N8 (N8 (Option Value))) → N8 (N8 (N8 (Option Value)))) (fun c0 c1 c2 c3 c4 c5 c6 c7 f => ⟨c0, f c1, c2, c3, c4, c5, c6, c7⟩) t f) (fun f t => @N8.rec (N8 (N8 (Option Value))) (fun _ => (N8 (N8 (Option Value)) → N8 (N8 (Option Value))) → N8 (N8 (N8 (Option Value)))) (fun c0 c1 c2 c3 c4 c5 c6 c7 f => ⟨c0, c1, f c2, c3, c4, c5, c6, c7⟩) t f) (fun f t => @N8.rec (N8 (N8 (Option Value))) (fun _ => (N8 (N8 (Option Value)) → N8 (N8 (Option Value))) → N8 (N8 (N8 (Option Value)))) (fun c0 c1 c2 c3 c4 c5 c6 c7 f => ⟨c0, c1, c2, f c3, c4, c5, c6, c7⟩) t f) (fun f t => @N8.rec (N8 (N8 (Option Value))) (fun _ => (N8 (N8 (Option Value)) → N8 (N8 (Option Value))) → N8 (N8 (N8 (Option Value)))) (fun c0 c1 c2 c3 c4 c5 c6 c7 f => ⟨c0, c1, c2, c3, f c4, c5, c6, c7⟩) t f) (fun f t => @N8.rec (N8 (N8 (Option Value))) (fun _ => (N8 (N8 (Option Value)) → N8 (N8 (Option Value))) → N8 (N8 (N8 (Option Value)))) (fun c0 c1 c2 c3 c4 c5 c6 c7 f => ⟨c0, c1, c2, c3, c4, f c5, c6, c7⟩) t f) (fun f t => @N8.rec (N8 (N8 (Option Value))) (fun _ => (N8 (N8 (Option Value)) → N8 (N8 (Option Value))) → N8 (N8 (N8 (Option Value)))) (fun c0 c1 c2 c3 c4 c5 c6 c7 f => ⟨c0, c1, c2, c3, c4, c5, f c6, c7⟩) t f) (fun f t => @N8.rec (N8 (N8 (Option Value))) (fun _ => (N8 (N8 (Option Value)) → N8 (N8 (Option Value))) → N8 (N8 (N8 (Option Value)))) (fun c0 c1 c2 c3 c4 c5 c6 c7 f => ⟨c0, c1, c2, c3, c4, c5, c6, f c7⟩) t f)
noncomputable def selV4 : D8 → N8 (N8 (N8 (N8 (Option Value)))) → N8 (N8 (N8 (Option Value))) := @D8.rec (fun _ => N8 (N8 (N8 (N8 (Option Value)))) → N8 (N8 (N8 (Option Value)))) (fun t => t.c0) (fun t => t.c1) (fun t => t.c2) (fun t => t.c3) (fun t => t.c4) (fun t => t.c5) (fun t => t.c6) (fun t => t.c7)
noncomputable def updV4 : D8 → (N8 (N8 (N8 (Option Value))) → N8 (N8 (N8 (Option Value)))) → N8 (N8 (N8 (N8 (Option Value)))) → N8 (N8 (N8 (N8 (Option Value)))) := @D8.rec (fun _ => (N8 (N8 (N8 (Option Value))) → N8 (N8 (N8 (Option Value)))) → N8 (N8 (N8 (N8 (Option Value)))) → N8 (N8 (N8 (N8 (Option Value))))) (fun f t => @N8.rec (N8 (N8 (N8 (Option Value)))) (fun _ => (N8 (N8 (N8 (Option Value))) → N8 (N8 (N8 (Option Value)))) → N8 (N8 (N8 (N8 (Option Value))))) (fun c0 c1 c2 c3 c4 c5 c6 c7 f => ⟨f c0, c1, c2, c3, c4, c5, c6, c7⟩) t f) (fun f t => @N8.rec (N8 (N8 (N8 (Option Value)))) (fun _ => (N8 (N8 (N8 (Option Value))) → N8 (N8 (N8 (Option Value)))) → N8 (N8 (N8 (N8 (Option Value))))) (fun c0 c1 c2 c3 c4 c5 c6 c7 f => ⟨c0, f c1, c2, c3, c4, c5, c6, c7⟩) t f) (fun f t => @N8.rec (N8 (N8 (N8 (Option Value)))) (fun _ => (N8 (N8 (N8 (Option Value))) → N8 (N8 (N8 (Option Value)))) → N8 (N8 (N8 (N8 (Option Value))))) (fun c0 c1 c2 c3 c4 c5 c6 c7 f => ⟨c0, c1, f c2, c3, c4, c5, c6, c7⟩) t f) (fun f t => @N8.rec (N8 (N8 (N8 (Option Value)))) (fun _ => (N8 (N8 (N8 (Option Value))) → N8 (N8 (N8 (Option Value)))) → N8 (N8 (N8 (N8 (Option Value))))) (fun c0 c1 c2 c3 c4 c5 c6 c7 f => ⟨c0, c1, c2, f c3, c4, c5, c6, c7⟩) t f) (fun f t => @N8.rec (N8 (N8 (N8 (Option Value)))) (fun _ => (N8 (N8 (N8 (Option Value))) → N8 (N8 (N8 (Option Value)))) → N8 (N8 (N8 (N8 (Option Value))))) (fun c0 c1 c2 c3 c4 c5 c6 c7 f => ⟨c0, c1, c2, c3, f c4, c5, c6, c7⟩) t f) (fun f t => @N8.rec (N8 (N8 (N8 (Option Value)))) (fun _ => (N8 (N8 (N8 (Option Value))) → N8 (N8 (N8 (Option Value)))) → N8 (N8 (N8 (N8 (Option Value))))) (fun c0 c1 c2 c3 c4 c5 c6 c7 f => ⟨c0, c1, c2, c3, c4, f c5, c6, c7⟩) t f) (fun f t => @N8.rec (N8 (N8 (N8 (Option Value)))) (fun _ => (N8 (N8 (N8 (Option Value))) → N8 (N8 (N8 (Option Value)))) → N8 (N8 (N8 (N8 (Option Value))))) (fun c0 c1 c2 c3 c4 c5 c6 c7 f => ⟨c0, c1, c2, c3, c4, c5, f c6, c7⟩) t f) (fun f t => @N8.rec (N8 (N8 (N8 (Option Value)))) (fun _ => (N8 (N8 (N8 (Option Value))) → N8 (N8 (N8 (Option Value)))) → N8 (N8 (N8 (N8 (Option Value))))) (fun c0 c1 c2 c3 c4 c5 c6 c7 f => ⟨c0, c1, c2, c3, c4, c5, c6, f c7⟩) t f)
noncomputable def selV5 : D8 → N8 (N8 (N8 (N8 (N8 (Option Value))))) → N8 (N8 (N8 (N8 (Option Value)))) := @D8.rec (fun _ => N8 (N8 (N8 (N8 (N8 (Option Value))))) → N8 (N8 (N8 (N8 (Option Value))))) (fun t => t.c0) (fun t => t.c1) (fun t => t.c2) (fun t => t.c3) (fun t => t.c4) (fun t => t.c5) (fun t => t.c6) (fun t => t.c7)
noncomputable def updV5 : D8 → (N8 (N8 (N8 (N8 (Option Value)))) → N8 (N8 (N8 (N8 (Option Value))))) → N8 (N8 (N8 (N8 (N8 (Option Value))))) → N8 (N8 (N8 (N8 (N8 (Option Value))))) := @D8.rec (fun _ => (N8 (N8 (N8 (N8 (Option Value)))) → N8 (N8 (N8 (N8 (Option Value))))) → N8 (N8 (N8 (N8 (N8 (Option Value))))) → N8 (N8 (N8 (N8 (N8 (Option Value)))))) (fun f t => @N8.rec (N8 (N8 (N8 (N8 (Option Value))))) (fun _ => (N8 (N8 (N8 (N8 (Option Value)))) → N8 (N8 (N8 (N8 (Option Value))))) → N8 (N8 (N8 (N8 (N8 (Option Value)))))) (fun c0 c1 c2 c3 c4 c5 c6 c7 f => ⟨f c0, c1, c2, c3, c4, c5, c6, c7⟩) t f) (fun f t => @N8.rec (N8 (N8 (N8 (N8 (Option Value))))) (fun _ => (N8 (N8 (N8 (N8 (Option Value)))) → N8 (N8 (N8 (N8 (Option Value))))) → N8 (N8 (N8 (N8 (N8 (Option Value)))))) (fun c0 c1 c2 c3 c4 c5 c6 c7 f => ⟨c0, f c1, c2, c3, c4, c5, c6, c7⟩) t f) (fun f t => @N8.rec (N8 (N8 (N8 (N8 (Option Value))))) (fun _ => (N8 (N8 (N8 (N8 (Option Value)))) → N8 (N8 (N8 (N8 (Option Value))))) → N8 (N8 (N8 (N8 (N8 (Option Value)))))) (fun c0 c1 c2 c3 c4 c5 c6 c7 f => ⟨c0, c1, f c2, c3, c4, c5, c6, c7⟩) t f) (fun f t => @N8.rec (N8 (N8 (N8 (N8 (Option Value))))) (fun _ => (N8 (N8 (N8 (N8 (Option Value)))) → N8 (N8 (N8 (N8 (Option Value))))) → N8 (N8 (N8 (N8 (N8 (Option Value)))))) (fun c0 c1 c2 c3 c4 c5 c6 c7 f => ⟨c0, c1, c2, f c3, c4, c5, c6, c7⟩) t f) (fun f t => @N8.rec (N8 (N8 (N8 (N8 (Option Value))))) (fun _ => (N8 (N8 (N8 (N8 (Option Value)))) → N8 (N8 (N8 (N8 (Option Value))))) → N8 (N8 (N8 (N8 (N8 (Option Value)))))) (fun c0 c1 c2 c3 c4 c5 c6 c7 f => ⟨c0, c1, c2, c3, f c4, c5, c6, c7⟩) t f) (fun f t => @N8.rec (N8 (N8 (N8 (N8 (Option Value))))) (fun _ => (N8 (N8 (N8 (N8 (Option Value)))) → N8 (N8 (N8 (N8 (Option Value))))) → N8 (N8 (N8 (N8 (N8 (Option Value)))))) (fun c0 c1 c2 c3 c4 c5 c6 c7 f => ⟨c0, c1, c2, c3, c4, f c5, c6, c7⟩) t f) (fun f t => @N8.rec (N8 (N8 (N8 (N8 (Option Value))))) (fun _ => (N8 (N8 (N8 (N8 (Option Value)))) → N8 (N8 (N8 (N8 (Option Value))))) → N8 (N8 (N8 (N8 (N8 (Option Value)))))) (fun c0 c1 c2 c3 c4 c5 c6 c7 f => ⟨c0, c1, c2, c3, c4, c5, f c6, c7⟩) t f) (fun f t => @N8.rec (N8 (N8 (N8 (N8 (Option Value))))) (fun _ => (N8 (N8 (N8 (N8 (Option Value)))) → N8 (N8 (N8 (N8 (Option Value))))) → N8 (N8 (N8 (N8 (N8 (Option Value)))))) (fun c0 c1 c2 c3 c4 c5 c6 c7 f => ⟨c0, c1, c2, c3, c4, c5, c6, f c7⟩) t f)
noncomputable def selV6 : D8 → N8 (N8 (N8 (N8 (N8 (N8 (Option Value)))))) → N8 (N8 (N8 (N8 (N8 (Option Value))))) := @D8.rec (fun _ => N8 (N8 (N8 (N8 (N8 (N8 (Option Value)))))) → N8 (N8 (N8 (N8 (N8 (Option Value)))))) (fun t => t.c0) (fun t => t.c1) (fun t => t.c2) (fun t => t.c3) (fun t => t.c4) (fun t => t.c5) (fun t => t.c6) (fun t => t.c7)
noncomputable def updV6 : D8 → (N8 (N8 (N8 (N8 (N8 (Option Value))))) → N8 (N8 (N8 (N8 (N8 (Option Value)))))) → N8 (N8 (N8 (N8 (N8 (N8 (Option Value)))))) → N8 (N8 (N8 (N8 (N8 (N8 (Option Value)))))) := @D8.rec (fun _ => (N8 (N8 (N8 (N8 (N8 (Option Value))))) → N8 (N8 (N8 (N8 (N8 (Option Value)))))) → N8 (N8 (N8 (N8 (N8 (N8 (Option Value)))))) → N8 (N8 (N8 (N8 (N8 (N8 (Option Value))))))) (fun f t => @N8.rec (N8 (N8 (N8 (N8 (N8 (Option Value)))))) (fun _ => (N8 (N8 (N8 (N8 (N8 (Option Value))))) → N8 (N8 (N8 (N8 (N8 (Option Value)))))) → N8 (N8 (N8 (N8 (N8 (N8 (Option Value))))))) (fun c0 c1 c2 c3 c4 c5 c6 c7 f => ⟨f c0, c1, c2, c3, c4, c5, c6, c7⟩) t f) (fun f t => @N8.rec (N8 (N8 (N8 (N8 (N8 (Option Value)))))) (fun _ => (N8 (N8 (N8 (N8 (N8 (Option Value))))) → N8 (N8 (N8 (N8 (N8 (Option Value)))))) → N8 (N8 (N8 (N8 (N8 (N8 (Option Value))))))) (fun c0 c1 c2 c3 c4 c5 c6 c7 f => ⟨c0, f c1, c2, c3, c4, c5, c6, c7⟩) t f) (fun f t => @N8.rec (N8 (N8 (N8 (N8 (N8 (Option Value)))))) (fun _ => (N8 (N8 (N8 (N8 (N8 (Option Value))))) → N8 (N8 (N8 (N8 (N8 (Option Value)))))) → N8 (N8 (N8 (N8 (N8 (N8 (Option Value))))))) (fun c0 c1 c2 c3 c4 c5 c6 c7 f => ⟨c0, c1, f c2, c3, c4, c5, c6, c7⟩) t f) (fun f t => @N8.rec (N8 (N8 (N8 (N8 (N8 (Option Value)))))) (fun _ => (N8 (N8 (N8 (N8 (N8 (Option Value))))) → N8 (N8 (N8 (N8 (N8 (Option Value)))))) → N8 (N8 (N8 (N8 (N8 (N8 (Option Value))))))) (fun c0 c1 c2 c3 c4 c5 c6 c7 f => ⟨c0, c1, c2, f c3, c4, c5, c6, c7⟩) t f) (fun f t => @N8.rec (N8 (N8 (N8 (N8 (N8 (Option Value)))))) (fun _ => (N8 (N8 (N8 (N8 (N8 (Option Value))))) → N8 (N8 (N8 (N8 (N8 (Option Value)))))) → N8 (N8 (N8 (N8 (N8 (N8 (Option Value))))))) (fun c0 c1 c2 c3 c4 c5 c6 c7 f => ⟨c0, c1, c2, c3, f c4, c5, c6, c7⟩) t f) (fun f t => @N8.rec (N8 (N8 (N8 (N8 (N8 (Option Value)))))) (fun _ => (N8 (N8 (N8 (N8 (N8 (Option Value))))) → N8 (N8 (N8 (N8 (N8 (Option Value)))))) → N8 (N8 (N8 (N8 (N8 (N8 (Option Value))))))) (fun c0 c1 c2 c3 c4 c5 c6 c7 f => ⟨c0, c1, c2, c3, c4, f c5, c6, c7⟩) t f) (fun f t => @N8.rec (N8 (N8 (N8 (N8 (N8 (Option Value)))))) (fun _ => (N8 (N8 (N8 (N8 (N8 (Option Value))))) → N8 (N8 (N8 (N8 (N8 (Option Value)))))) → N8 (N8 (N8 (N8 (N8 (N8 (Option Value))))))) (fun c0 c1 c2 c3 c4 c5 c6 c7 f => ⟨c0, c1, c2, c3, c4, c5, f c6, c7⟩) t f) (fun f t => @N8.rec (N8 (N8 (N8 (N8 (N8 (Option Value)))))) (fun _ => (N8 (N8 (N8 (N8 (N8 (Option Value))))) → N8 (N8 (N8 (N8 (N8 (Option Value)))))) → N8 (N8 (N8 (N8 (N8 (N8 (Option Value))))))) (fun c0 c1 c2 c3 c4 c5 c6 c7 f => ⟨c0, c1, c2, c3, c4, c5, c6, f c7⟩) t f)
noncomputable def atV : TPath → N8 (N8 (Option Value)) → N8 (N8 (N8 (N8 (Option Value)))) → N8 (N8 (N8 (N8 (N8 (N8 (Option Value)))))) → (Nat → Option Value) → Option Value := @TPath.rec (fun _ => N8 (N8 (Option Value)) → N8 (N8 (N8 (N8 (Option Value)))) → N8 (N8 (N8 (N8 (N8 (N8 (Option Value)))))) → (Nat → Option Value) → Option Value) (fun d0 d1 s _ _ _ => selV1 d1 (selV2 d0 s)) (fun d0 d1 d2 d3 _ b _ _ => selV1 d3 (selV2 d2 (selV3 d1 (selV4 d0 b)))) (fun d0 d1 d2 d3 d4 d5 _ _ c _ => selV1 d5 (selV2 d4 (selV3 d3 (selV4 d2 (selV5 d1 (selV6 d0 c)))))) (fun n _ _ _ r => r n)
noncomputable def toV : TPath → Option Value → N8 (N8 (Option Value)) → N8 (N8 (N8 (N8 (Option Value)))) → N8 (N8 (N8 (N8 (N8 (N8 (Option Value)))))) → (Nat → Option Value) → Tr Value := @TPath.rec (fun _ => Option Value → N8 (N8 (Option Value)) → N8 (N8 (N8 (N8 (Option Value)))) → N8 (N8 (N8 (N8 (N8 (N8 (Option Value)))))) → (Nat → Option Value) → Tr Value) (fun d0 d1 x s b c r => .full (updV2 d0 (updV1 d1 (fun _ => x)) s) b c r) (fun d0 d1 d2 d3 x s b c r => .full s (updV4 d0 (updV3 d1 (updV2 d2 (updV1 d3 (fun _ => x)))) b) c r) (fun d0 d1 d2 d3 d4 d5 x s b c r => .full s b (updV6 d0 (updV5 d1 (updV4 d2 (updV3 d3 (updV2 d4 (updV1 d5 (fun _ => x)))))) c) r) (fun n x s b c r => .full s b c (fun m => @Bool.rec (fun _ => Option Value) (r m) x (Nat.beq n m)))
noncomputable def getV : Tr Value → Nat → Option Value := @Tr.rec Value (fun _ => Nat → Option Value) (fun s b c r n => atV (TPath.of n) s b c r)
noncomputable def putV : Tr Value → Nat → Option Value → Tr Value := @Tr.rec Value (fun _ => Nat → Option Value → Tr Value) (fun s b c r n x => toV (TPath.of n) x s b c r)
theorem getV_eq : getV = @get Value := rfl
theorem putV_eq : putV = @put Value := rfl
end Tr
end Go.Ab
namespace Go.Ab.Nx
open Go.Ab
set_option linter.unusedSimpArgs false
set_option linter.unusedVariables false
noncomputable abbrev RF := Option (Tr Value × AHeap)
noncomputable abbrev KF := Value → AHeap → RF
noncomputable def outK : Option (Value × AHeap) → KF → RF := @Option.rec (Value × AHeap) (fun _ => KF → RF) (fun _ => none) (@Prod.rec Value AHeap (fun _ => KF → RF) (fun v h k => k v h))
noncomputable def valK : Option Value → KF → AHeap → RF := @Option.rec Value (fun _ => KF → AHeap → RF) (fun _ _ => none) (fun v k h => k v h)
theorem valK_eq (x : Option Value) (k : KF) (h : AHeap) : valK x k h = outK (keep h x) k := by cases x <;> rfl
noncomputable def opndF : Operand → Tr Value → Option Value :=
  @Operand.rec (fun _ => Tr Value → Option Value) (fun t a => Tr.getV a t) (fun v _ => @Bool.rec (fun _ => Option Value) none (some v) (flat v)) (fun _ _ => none) (fun f _ => some (.func (.func f) #[] #[]))
theorem opndF_at (a : Tr Value) (x : Operand) : opndF x a = aopnd a x := by
  cases x with
  | tmp t => exact congrFun (congrFun Tr.getV_eq a) t
  | const v => show @Bool.rec (fun _ => Option Value) none (some v) (flat v) = bif flat v then some v else none; cases flat v <;> rfl
  | global g => rfl
  | func f => rfl
theorem opndF_eq (a : Tr Value) : (fun x => opndF x a) = aopnd a := funext (opndF_at a)
noncomputable def nthF : List Value → Nat → Option Value := @List.rec Value (fun _ => Nat → Option Value) (fun _ => none) (fun v _ ih n => @Nat.rec (fun _ => Option Value) (some v) (fun m _ => ih m) n)
theorem nthF_eq : ∀ (l : List Value) (n : Nat), nthF l n = l[n]?
  | [], n => by simp; rfl
  | v :: l, 0 => by simp; rfl
  | v :: l, n + 1 => by rw [List.getElem?_cons_succ, ← nthF_eq l n]; rfl
noncomputable def consO : Option (List Value) → Value → Option (List Value) := @Option.rec (List Value) (fun _ => Value → Option (List Value)) (fun _ => none) (fun l v => some (v :: l))
theorem consO_eq (x : Option (List Value)) (v : Value) : consO x v = x.map (v :: ·) := by cases x <;> rfl
noncomputable def cutF : List Value → Nat → Nat → Option (List Value) := @List.rec Value (fun _ => Nat → Nat → Option (List Value))
  (fun off n => @Nat.rec (fun _ => Option (List Value)) (@Nat.rec (fun _ => Option (List Value)) (some []) (fun _ _ => none) n) (fun _ _ => none) off)
  (fun v _ ih off n => @Nat.rec (fun _ => Option (List Value)) (@Nat.rec (fun _ => Option (List Value)) (some []) (fun m _ => consO (ih 0 m) v) n) (fun m _ => ih m n) off)
theorem cutF_eq : ∀ (vs : List Value) (off n : Nat), cutF vs off n = cellsOf vs off n
  | [], 0, 0 => rfl
  | [], 0, n + 1 => by unfold cellsOf; rw [show Nat.ble (0 + (n + 1)) ([] : List Value).length = false by rw [Nat.zero_add]; rfl]; rfl
  | [], off + 1, n => by unfold cellsOf; rw [show Nat.ble (off + 1 + n) ([] : List Value).length = false by rw [show off + 1 + n = (off + n) + 1 by omega]; rfl]; rfl
  | v :: vs, 0, 0 => by unfold cellsOf; rw [show Nat.ble (0 + 0) (v :: vs).length = true from rfl]; rfl
  | v :: vs, 0, n + 1 => by
    show consO (cutF vs 0 n) v = _
    rw [cutF_eq vs 0 n, consO_eq]
    unfold cellsOf
    rw [show Nat.ble (0 + (n + 1)) (v :: vs).length = Nat.ble (0 + n) vs.length by rw [Nat.zero_add, Nat.zero_add]; rfl]
    cases Nat.ble (0 + n) vs.length <;> rfl
  | v :: vs, off + 1, n => by
    show cutF vs off n = _
    rw [cutF_eq vs off n]
    unfold cellsOf
    rw [show Nat.ble (off + 1 + n) (v :: vs).length = Nat.ble (off + n) vs.length by rw [show off + 1 + n = (off + n) + 1 by omega]; rfl]
    rfl
noncomputable def splF : List Value → Nat → List Value → Option (List Value) := @List.rec Value (fun _ => Nat → List Value → Option (List Value))
  (fun off xs => @Nat.rec (fun _ => Option (List Value)) (@List.rec Value (fun _ => Option (List Value)) (some []) (fun _ _ _ => none) xs) (fun _ _ => none) off)
  (fun v tl ih off xs => @Nat.rec (fun _ => Option (List Value)) (@List.rec Value (fun _ => Option (List Value)) (some (v :: tl)) (fun x ys _ => consO (ih 0 ys) x) xs) (fun m _ => consO (ih m xs) v) off)
theorem splF_eq : ∀ (vs : List Value) (off : Nat) (xs : List Value), splF vs off xs = bif Nat.ble (off + xs.length) vs.length then some (splice vs off xs) else none
  | [], 0, [] => rfl
  | [], 0, x :: xs => by rw [show Nat.ble (0 + (x :: xs).length) ([] : List Value).length = false by rw [Nat.zero_add]; rfl]; rfl
  | [], off + 1, xs => by rw [show Nat.ble (off + 1 + xs.length) ([] : List Value).length = false by rw [show off + 1 + xs.length = (off + xs.length) + 1 by omega]; rfl]; rfl
  | v :: vs, 0, [] => by rw [show Nat.ble (0 + ([] : List Value).length) (v :: vs).length = true from rfl]; rfl
  | v :: vs, 0, x :: xs => by
    show consO (splF vs 0 xs) x = _
    rw [splF_eq vs 0 xs, consO_eq]
    rw [show Nat.ble (0 + (x :: xs).length) (v :: vs).length = Nat.ble (0 + xs.length) vs.length by rw [Nat.zero_add, Nat.zero_add]; rfl]
    cases Nat.ble (0 + xs.length) vs.length <;> rfl
  | v :: vs, off + 1, xs => by
    show consO (splF vs off xs) v = _
    rw [splF_eq vs off xs, consO_eq]
    rw [show Nat.ble (off + 1 + xs.length) (v :: vs).length = Nat.ble (off + xs.length) vs.length by rw [show off + 1 + xs.length = (off + xs.length) + 1 by omega]; rfl]
    cases Nat.ble (off + xs.length) vs.length
    · rfl
    · cases xs with
      | nil => simp [splice]
      | cons x xs => rfl
noncomputable def lenF : List Value → Nat → Bool := @List.rec Value (fun _ => Nat → Bool) (fun n => Nat.beq n 0) (fun _ _ ih n => @Nat.rec (fun _ => Bool) false (fun m _ => ih m) n)
theorem lenF_eq : ∀ (l : List Value) (n : Nat), lenF l n = Nat.beq l.length n
  | [], 0 => rfl
  | [], n + 1 => rfl
  | v :: l, 0 => rfl
  | v :: l, n + 1 => by rw [show Nat.beq (v :: l).length (n + 1) = Nat.beq l.length n from rfl, ← lenF_eq l n]; rfl
noncomputable def lenLeF : List Value → Nat → Bool := @List.rec Value (fun _ => Nat → Bool) (fun _ => true) (fun _ _ ih n => @Nat.rec (fun _ => Bool) false (fun m _ => ih m) n)
theorem lenLeF_eq : ∀ (l : List Value) (n : Nat), lenLeF l n = Nat.ble l.length n
  | [], n => by rw [show ([] : List Value).length = 0 from rfl]; cases n <;> rfl
  | v :: l, 0 => rfl
  | v :: l, n + 1 => by rw [show Nat.ble (v :: l).length (n + 1) = Nat.ble l.length n from rfl, ← lenLeF_eq l n]; rfl
noncomputable def appF : List Value → List Value → List Value := @List.rec Value (fun _ => List Value → List Value) (fun ys => ys) (fun x _ ih ys => x :: ih ys)
theorem appF_eq : ∀ xs ys, appF xs ys = xs ++ ys
  | [], ys => rfl
  | x :: xs, ys => by show x :: appF xs ys = _; rw [appF_eq xs ys]; rfl
noncomputable def app2F : List Value → List Value → List Value := @List.rec Value (fun _ => List Value → List Value) (fun xs => xs) (fun y ys _ xs => appF xs (y :: ys))
theorem app2F_eq (xs ys : List Value) : app2F ys xs = xs ++ ys := by
  cases ys with
  | nil => exact (List.append_nil xs).symm
  | cons y ys => exact appF_eq xs (y :: ys)
noncomputable def cellsL : Value → List Value := @Value.rec (fun _ => List Value) (fun _ => Unit) (fun _ => Unit) (fun b => [.bool b]) (fun k n => [.int k n]) (fun k b => [.float k b]) (fun k r i => [.complex k r i]) (fun s => [.string s]) (fun q => [.pointer q]) (fun q l c => [.slice q l c]) (fun r => [.map r]) (fun r => [.chan r]) (fun f u v _ _ => [.func f u v]) [.nilFunc] (fun t v _ => [.iface t v]) [.nilIface] (fun cs _ => cs.toList) (fun vs _ => [.tuple vs]) (fun _ _ => ()) () (fun _ _ _ _ => ())
theorem cellsL_eq (v : Value) : cellsL v = v.cells.toList := by cases v <;> rfl
noncomputable def oneV : Value → Bool := @Value.rec (fun _ => Bool) (fun _ => Unit) (fun _ => Unit) (fun _ => true) (fun _ _ => true) (fun _ _ => true) (fun _ _ _ => true) (fun _ => true) (fun _ => true) (fun _ _ _ => true) (fun _ => true) (fun _ => true) (fun _ _ _ _ _ => true) (true) (fun _ _ _ => true) (true) (fun _ _ => false) (fun _ _ => false) (fun _ _ => ()) () (fun _ _ _ _ => ())
theorem oneV_eq (v : Value) : oneV v = v.oneCell' := by cases v <;> rfl
noncomputable def onesF : List Value → Bool := @List.rec Value (fun _ => Bool) true (fun v _ ih => @Bool.rec (fun _ => Bool) false ih (oneV v))
theorem onesF_eq : ∀ l, onesF l = oneCells l
  | [] => rfl
  | v :: l => by
    show @Bool.rec (fun _ => Bool) false (onesF l) (oneV v) = _
    rw [onesF_eq l, oneV_eq]; unfold oneCells; rw [List.all_cons]; cases v.oneCell' <;> rfl
noncomputable def rowR : Option AObj → Option (List Value) := @Option.rec AObj (fun _ => Option (List Value)) none (@AObj.rec (fun _ => Option (List Value)) (fun vs _ => some vs) (fun vs => some vs) (fun _ _ => none) (fun _ _ _ _ => none) (fun _ _ => none) (fun _ => none) (fun vs _ => some vs) (fun _ => none))
theorem rowR_eq (h : AHeap) (r : Nat) : rowR (Tr.getO (AHeap.rows h) r) = rowOf h r := by
  unfold rowOf
  show rowR (h.get r) = _
  cases h.get r with
  | none => rfl
  | some o => cases o <;> rfl
noncomputable def loadOne : List Value → TI → Nat → AHeap → KF → RF := fun vs _ off h k => valK (nthF vs off) k h
noncomputable def loadAgg : List Value → TI → Nat → AHeap → KF → RF := fun vs ti off h k => (@Option.rec (List Value) (fun _ => KF → AHeap → RF) (fun _ _ => none) (fun l k h => k (.agg ⟨l⟩) h)) (cutF vs off (TI.size ti)) k h
noncomputable def loadC : List Value → TI → Nat → AHeap → KF → RF := fun vs ti off h k => (@Bool.rec (fun _ => List Value → TI → Nat → AHeap → KF → RF) loadOne loadAgg) (TI.agg ti) vs ti off h k
noncomputable def loadT : TI → Nat → Nat → AHeap → KF → RF := fun ti r off h k => (@Option.rec (List Value) (fun _ => TI → Nat → AHeap → KF → RF) (fun _ _ _ _ => none) loadC) (rowR (Tr.getO (AHeap.rows h) r)) ti off h k
noncomputable def loadA : Nat → Nat → Tr TI → TypeId → AHeap → KF → RF := fun r off T t h k => (@Option.rec TI (fun _ => Nat → Nat → AHeap → KF → RF) (fun _ _ _ _ => none) loadT) (Tr.get T t) r off h k
noncomputable def loadK : Value → Tr TI → TypeId → AHeap → KF → RF := @Value.rec (fun _ => Tr TI → TypeId → AHeap → KF → RF) (fun _ => Unit) (fun _ => Unit) (fun _ _ _ _ _ => none) (fun _ _ _ _ _ _ => none) (fun _ _ _ _ _ _ => none) (fun _ _ _ _ _ _ _ => none) (fun _ _ _ _ _ => none) (@Option.rec Addr (fun _ => Tr TI → TypeId → AHeap → KF → RF) (fun _ _ _ _ => none) (@Addr.rec (fun _ => Tr TI → TypeId → AHeap → KF → RF) (fun r off sp => (@Option.rec Nat (fun _ => Nat → Nat → Tr TI → TypeId → AHeap → KF → RF) loadA (fun _ _ _ _ _ _ _ => none)) sp r off))) (fun _ _ _ _ _ _ _ => none) (fun _ _ _ _ _ => none) (fun _ _ _ _ _ => none) (fun _ _ _ _ _ _ _ _ _ => none) (fun _ _ _ _ => none) (fun _ _ _ _ _ _ _ => none) (fun _ _ _ _ => none) (fun _ _ _ _ _ _ => none) (fun _ _ _ _ _ _ => none) (fun _ _ => ()) () (fun _ _ _ _ => ())
theorem loadK_eq (T : Tr TI) (t : TypeId) (x : Value) (h : AHeap) (k : KF) : loadK x T t h k = outK (keep h (aLoad T t x h)) k := by
  cases x with
  | pointer q =>
    cases q with
    | none => rfl
    | some ad =>
      obtain ⟨r, off, sp⟩ := ad
      cases sp with
      | some s => rfl
      | none =>
        show loadA r off T t h k = outK (keep h (match T.get t, rowOf h r with
          | some ti, some vs => bif ti.agg then (cellsOf vs off ti.size).map (fun l => Value.agg l.toArray) else vs[off]?
          | _, _ => none)) k
        unfold loadA
        rw [← rowR_eq]
        cases T.get t with
        | none => rfl
        | some ti =>
          show (@Option.rec (List Value) (fun _ => TI → Nat → AHeap → KF → RF) (fun _ _ _ _ => none) loadC) (rowR (Tr.getO (AHeap.rows h) r)) ti off h k = _
          cases rowR (Tr.getO (AHeap.rows h) r) with
          | none => rfl
          | some vs =>
            show loadC vs ti off h k = outK (keep h (bif ti.agg then (cellsOf vs off ti.size).map (fun l => Value.agg l.toArray) else vs[off]?)) k
            unfold loadC
            cases ti.agg with
            | false =>
              show valK (nthF vs off) k h = outK (keep h vs[off]?) k
              rw [nthF_eq, valK_eq]
            | true =>
              show (@Option.rec (List Value) (fun _ => KF → AHeap → RF) (fun _ _ => none) (fun l k h => k (.agg ⟨l⟩) h)) (cutF vs off (TI.size ti)) k h = outK (keep h ((cellsOf vs off ti.size).map (fun l => Value.agg l.toArray))) k
              rw [cutF_eq]; cases cellsOf vs off ti.size <;> rfl
  | _ => rfl
noncomputable def storeW : List Value → Nat → Nat → AHeap → KF → RF := fun xs r off h k => (@Option.rec AObj (fun _ => List Value → Nat → Nat → AHeap → KF → RF) (fun _ _ _ _ _ => none) (@AObj.rec (fun _ => List Value → Nat → Nat → AHeap → KF → RF) (fun vs sz xs r off h k => (@Option.rec (List Value) (fun _ => Nat → Nat → List Value → AHeap → KF → RF) (fun _ _ _ _ _ => none) (fun row sz r xs h k => @Bool.rec (fun _ => RF) none (k (.tuple #[]) (h.set r (.cells row sz))) (onesF xs))) (splF vs off xs) sz r xs h k) (fun _ _ _ _ _ _ => none) (fun _ _ _ _ _ _ _ => none) (fun _ _ _ _ _ _ _ _ _ => none) (fun _ _ _ _ _ _ _ => none) (fun _ _ _ _ _ _ => none) (fun vs sz xs r off h k => (@Option.rec (List Value) (fun _ => Nat → Nat → List Value → AHeap → KF → RF) (fun _ _ _ _ _ => none) (fun row sz r xs h k => @Bool.rec (fun _ => RF) none (k (.tuple #[]) (h.set r (.tcells row sz))) (onesF xs))) (splF vs off xs) sz r xs h k) (fun _ _ _ _ _ _ => none))) (Tr.getO (AHeap.rows h) r) xs r off h k
theorem storeW_eq (xs : List Value) (r off : Nat) (h : AHeap) (k : KF) : storeW xs r off h k = outK (unit (writeRow h r off xs)) k := by
  unfold storeW writeRow
  show (@Option.rec AObj (fun _ => List Value → Nat → Nat → AHeap → KF → RF) (fun _ _ _ _ _ => none) (@AObj.rec (fun _ => List Value → Nat → Nat → AHeap → KF → RF) (fun vs sz xs r off h k => (@Option.rec (List Value) (fun _ => Nat → Nat → List Value → AHeap → KF → RF) (fun _ _ _ _ _ => none) (fun row sz r xs h k => @Bool.rec (fun _ => RF) none (k (.tuple #[]) (h.set r (.cells row sz))) (onesF xs))) (splF vs off xs) sz r xs h k) (fun _ _ _ _ _ _ => none) (fun _ _ _ _ _ _ _ => none) (fun _ _ _ _ _ _ _ _ _ => none) (fun _ _ _ _ _ _ _ => none) (fun _ _ _ _ _ _ => none) (fun vs sz xs r off h k => (@Option.rec (List Value) (fun _ => Nat → Nat → List Value → AHeap → KF → RF) (fun _ _ _ _ _ => none) (fun row sz r xs h k => @Bool.rec (fun _ => RF) none (k (.tuple #[]) (h.set r (.tcells row sz))) (onesF xs))) (splF vs off xs) sz r xs h k) (fun _ _ _ _ _ _ => none))) (h.get r) xs r off h k = _
  cases h.get r with
  | none => rfl
  | some o =>
    cases o with
    | cells vs sz =>
      show (@Option.rec (List Value) (fun _ => Nat → Nat → List Value → AHeap → KF → RF) (fun _ _ _ _ _ => none) (fun row sz r xs h k => @Bool.rec (fun _ => RF) none (k (.tuple #[]) (h.set r (.cells row sz))) (onesF xs))) (splF vs off xs) sz r xs h k = outK (unit (bif Nat.ble (off + xs.length) vs.length && oneCells xs then some (h.set r (.cells (splice vs off xs) sz)) else none)) k
      rw [splF_eq]
      cases Nat.ble (off + xs.length) vs.length with
      | false => rfl
      | true =>
        show @Bool.rec (fun _ => RF) none (k (.tuple #[]) (h.set r (.cells (splice vs off xs) sz))) (onesF xs) = _
        rw [onesF_eq]; cases oneCells xs <;> rfl
    | tcells vs sz =>
      show (@Option.rec (List Value) (fun _ => Nat → Nat → List Value → AHeap → KF → RF) (fun _ _ _ _ _ => none) (fun row sz r xs h k => @Bool.rec (fun _ => RF) none (k (.tuple #[]) (h.set r (.tcells row sz))) (onesF xs))) (splF vs off xs) sz r xs h k = outK (unit (bif Nat.ble (off + xs.length) vs.length && oneCells xs then some (h.set r (.tcells (splice vs off xs) sz)) else none)) k
      rw [splF_eq]
      cases Nat.ble (off + xs.length) vs.length with
      | false => rfl
      | true =>
        show @Bool.rec (fun _ => RF) none (k (.tuple #[]) (h.set r (.tcells (splice vs off xs) sz))) (onesF xs) = _
        rw [onesF_eq]; cases oneCells xs <;> rfl
    | _ => rfl
noncomputable def storeA : Nat → Nat → Tr TI → TypeId → Value → AHeap → KF → RF := fun r off T t v h k => (@Option.rec TI (fun _ => Value → Nat → Nat → AHeap → KF → RF) (fun _ _ _ _ _ => none) (fun ti v r off h k => @Bool.rec (fun _ => List Value → Nat → Nat → AHeap → KF → RF) (fun _ _ _ _ _ => none) storeW (lenF (cellsL v) (TI.size ti)) (cellsL v) r off h k)) (Tr.get T t) v r off h k
noncomputable def storeK : Value → Tr TI → TypeId → Value → AHeap → KF → RF := @Value.rec (fun _ => Tr TI → TypeId → Value → AHeap → KF → RF) (fun _ => Unit) (fun _ => Unit) (fun _ _ _ _ _ _ => none) (fun _ _ _ _ _ _ _ => none) (fun _ _ _ _ _ _ _ => none) (fun _ _ _ _ _ _ _ _ => none) (fun _ _ _ _ _ _ => none) (@Option.rec Addr (fun _ => Tr TI → TypeId → Value → AHeap → KF → RF) (fun _ _ _ _ _ => none) (@Addr.rec (fun _ => Tr TI → TypeId → Value → AHeap → KF → RF) (fun r off sp => (@Option.rec Nat (fun _ => Nat → Nat → Tr TI → TypeId → Value → AHeap → KF → RF) storeA (fun _ _ _ _ _ _ _ _ => none)) sp r off))) (fun _ _ _ _ _ _ _ _ => none) (fun _ _ _ _ _ _ => none) (fun _ _ _ _ _ _ => none) (fun _ _ _ _ _ _ _ _ _ _ => none) (fun _ _ _ _ _ => none) (fun _ _ _ _ _ _ _ _ => none) (fun _ _ _ _ _ => none) (fun _ _ _ _ _ _ _ => none) (fun _ _ _ _ _ _ _ => none) (fun _ _ => ()) () (fun _ _ _ _ => ())
theorem storeK_eq (T : Tr TI) (t : TypeId) (x v : Value) (h : AHeap) (k : KF) : storeK x T t v h k = outK (unit (aStore T t x v h)) k := by
  cases x with
  | pointer q =>
    cases q with
    | none => rfl
    | some ad =>
      obtain ⟨r, off, sp⟩ := ad
      cases sp with
      | some s => rfl
      | none =>
        show storeA r off T t v h k = outK (unit (match T.get t with
          | some ti => bif Nat.beq v.cells.size ti.size then writeRow h r off v.cells.toList else none
          | _ => none)) k
        unfold storeA
        cases T.get t with
        | none => rfl
        | some ti =>
          show @Bool.rec (fun _ => List Value → Nat → Nat → AHeap → KF → RF) (fun _ _ _ _ _ => none) storeW (lenF (cellsL v) (TI.size ti)) (cellsL v) r off h k = outK (unit (bif Nat.beq v.cells.size ti.size then writeRow h r off v.cells.toList else none)) k
          rw [lenF_eq, cellsL_eq]
          show @Bool.rec (fun _ => List Value → Nat → Nat → AHeap → KF → RF) (fun _ _ _ _ _ => none) storeW (Nat.beq v.cells.size ti.size) v.cells.toList r off h k = _
          cases Nat.beq v.cells.size ti.size with
          | false => rfl
          | true => exact storeW_eq _ _ _ _ _
  | _ => rfl
noncomputable def foff (T : Tr TI) (s : TypeId) (f : Nat) : Option Nat :=
  match T.get s with
  | some ti => match ti.und with
    | .struct fields => match fields[f]? with
      | some fd => match T.get fd.type with
        | some fi => bif Nat.beq fi.size 0 then none else some fd.offset
        | none => none
      | none => none
    | _ => none
  | none => none
noncomputable def fieldA : Nat → Nat → Tr TI → TypeId → Nat → AHeap → KF → RF := fun r off T s f h k => (@Option.rec Nat (fun _ => Nat → Nat → AHeap → KF → RF) (fun _ _ _ _ => none) (fun d r off h k => k (.pointer (some ⟨r, Nat.add off d, none⟩)) h)) (foff T s f) r off h k
noncomputable def fieldK : Value → Tr TI → TypeId → Nat → AHeap → KF → RF := @Value.rec (fun _ => Tr TI → TypeId → Nat → AHeap → KF → RF) (fun _ => Unit) (fun _ => Unit) (fun _ _ _ _ _ _ => none) (fun _ _ _ _ _ _ _ => none) (fun _ _ _ _ _ _ _ => none) (fun _ _ _ _ _ _ _ _ => none) (fun _ _ _ _ _ _ => none) (@Option.rec Addr (fun _ => Tr TI → TypeId → Nat → AHeap → KF → RF) (fun _ _ _ _ _ => none) (@Addr.rec (fun _ => Tr TI → TypeId → Nat → AHeap → KF → RF) (fun r off sp => (@Option.rec Nat (fun _ => Nat → Nat → Tr TI → TypeId → Nat → AHeap → KF → RF) fieldA (fun _ _ _ _ _ _ _ _ => none)) sp r off))) (fun _ _ _ _ _ _ _ _ => none) (fun _ _ _ _ _ _ => none) (fun _ _ _ _ _ _ => none) (fun _ _ _ _ _ _ _ _ _ _ => none) (fun _ _ _ _ _ => none) (fun _ _ _ _ _ _ _ _ => none) (fun _ _ _ _ _ => none) (fun _ _ _ _ _ _ _ => none) (fun _ _ _ _ _ _ _ => none) (fun _ _ => ()) () (fun _ _ _ _ => ())
theorem fieldK_eq (T : Tr TI) (s : TypeId) (x : Value) (f : Nat) (h : AHeap) (k : KF) : fieldK x T s f h k = outK (keep h (aFieldAddr T s x f)) k := by
  cases x with
  | pointer q =>
    cases q with
    | none => rfl
    | some ad =>
      obtain ⟨r, off, sp⟩ := ad
      cases sp with
      | some s => rfl
      | none =>
        have e : aFieldAddr T s (.pointer (some ⟨r, off, none⟩)) f = (foff T s f).map fun d => .pointer (some ⟨r, off + d, none⟩) := by
          simp only [aFieldAddr, foff]
          cases T.get s with
          | none => rfl
          | some ti =>
            obtain ⟨tsz, tby, und, tz⟩ := ti
            cases und with
            | struct fields =>
              show (match fields[f]? with
                | some fd => match T.get fd.type with
                  | some fi => bif Nat.beq fi.size 0 then none else some (Value.pointer (some ⟨r, off + fd.offset, none⟩))
                  | none => none
                | none => none) = (match fields[f]? with
                | some fd => match T.get fd.type with
                  | some fi => bif Nat.beq fi.size 0 then none else some fd.offset
                  | none => none
                | none => none).map fun d => .pointer (some ⟨r, off + d, none⟩)
              cases fields[f]? with
              | none => rfl
              | some fd =>
                simp only
                cases T.get fd.type with
                | none => rfl
                | some fi => simp only; cases Nat.beq fi.size 0 <;> rfl
            | _ => rfl
        rw [e]
        show fieldA r off T s f h k = _
        unfold fieldA
        cases foff T s f <;> rfl
  | _ => rfl
noncomputable def esz (T : Tr TI) (t : TypeId) : Option Nat :=
  match T.get t with
  | some ti => match ti.und with
    | .slice e => match T.get e with
      | some ei => some ei.size
      | none => none
    | _ => none
  | none => none
noncomputable def fastIA : Nat → Nat → Nat → Nat → Nat → Option Value := fun r off len i sz => @Bool.rec (fun _ => Option Value) none (some (.pointer (some ⟨r, Nat.add off (Nat.mul i sz), none⟩))) (Nat.ble (Nat.succ i) len)
noncomputable def fastIS : Value → Nat → Nat → Option Value := @Value.rec (fun _ => Nat → Nat → Option Value) (fun _ => Unit) (fun _ => Unit) (fun _ _ _ => none) (fun _ _ _ _ => none) (fun _ _ _ _ => none) (fun _ _ _ _ _ => none) (fun _ _ _ => none) (fun _ _ _ => none) (fun q len _ i sz => (@Option.rec Addr (fun _ => Nat → Nat → Nat → Option Value) (fun _ _ _ => none) (@Addr.rec (fun _ => Nat → Nat → Nat → Option Value) (fun r off sp => (@Option.rec Nat (fun _ => Nat → Nat → Nat → Nat → Nat → Option Value) fastIA (fun _ _ _ _ _ _ => none)) sp r off))) q len i sz) (fun _ _ _ => none) (fun _ _ _ => none) (fun _ _ _ _ _ _ _ => none) (fun _ _ => none) (fun _ _ _ _ _ => none) (fun _ _ => none) (fun _ _ _ _ => none) (fun _ _ _ _ => none) (fun _ _ => ()) () (fun _ _ _ _ => ())
noncomputable def fastI : Value → Value → Option Nat → Option Value := @Value.rec (fun _ => Value → Option Nat → Option Value) (fun _ => Unit) (fun _ => Unit) (fun _ _ _ => none) (fun _ n => (@Int.rec (fun _ => Value → Option Nat → Option Value) (fun i x z => (@Option.rec Nat (fun _ => Value → Nat → Option Value) (fun _ _ => none) (fun sz x i => fastIS x i sz)) z x i) (fun _ _ _ => none)) n) (fun _ _ _ _ => none) (fun _ _ _ _ _ => none) (fun _ _ _ => none) (fun _ _ _ => none) (fun _ _ _ _ _ => none) (fun _ _ _ => none) (fun _ _ _ => none) (fun _ _ _ _ _ _ _ => none) (fun _ _ => none) (fun _ _ _ _ _ => none) (fun _ _ => none) (fun _ _ _ _ => none) (fun _ _ _ _ => none) (fun _ _ => ()) () (fun _ _ _ _ => ())
theorem fastI_eq {T : Tr TI} {t : TypeId} {x i v : Value} (he : fastI i x (esz T t) = some v) : aIndexAddr T t x i = some v := by
  cases i with
  | int ki n =>
    cases n with
    | negSucc n => cases he
    | ofNat n =>
      cases hz : esz T t with
      | none => rw [hz] at he; cases he
      | some sz =>
        rw [hz] at he
        change fastIS x n sz = some v at he
        cases x with
        | slice q len cap =>
          cases q with
          | none => cases he
          | some ad =>
            obtain ⟨r, off, sp⟩ := ad
            cases sp with
            | some s => cases he
            | none =>
              change fastIA r off len n sz = some v at he
              unfold fastIA at he
              cases hb : Nat.ble (Nat.succ n) len with
              | false => rw [hb] at he; cases he
              | true =>
                rw [hb] at he
                have hlt : n < len := Nat.le_of_ble_eq_true hb
                cases he
                unfold esz at hz
                unfold aIndexAddr
                cases hT : T.get t with
                | none => rw [hT] at hz; cases hz
                | some ti =>
                  rw [hT] at hz
                  simp only at hz ⊢
                  split at hz
                  · rename_i e hu
                    simp only [hu]
                    split at hz
                    · rename_i ei hE
                      cases hz
                      simp only [hE]
                      rw [if_pos ⟨Int.natCast_nonneg n, Int.ofNat_lt.mpr hlt⟩]
                      rfl
                    · cases hz
                  · cases hz
        | _ => cases he
  | _ => cases he
noncomputable def indexK (T : Tr TI) (t : TypeId) (x i : Value) (h : AHeap) (k : KF) : RF := (@Option.rec Value (fun _ => Tr TI → TypeId → Value → Value → AHeap → KF → RF) (fun T t x i h k => valK (aIndexAddr T t x i) k h) (fun v _ _ _ _ h k => k v h)) (fastI i x (esz T t)) T t x i h k
theorem indexK_eq (T : Tr TI) (t : TypeId) (x i : Value) (h : AHeap) (k : KF) : indexK T t x i h k = outK (keep h (aIndexAddr T t x i)) k := by
  unfold indexK
  cases he : fastI i x (esz T t) with
  | none => exact valK_eq _ _ _
  | some v => rw [fastI_eq he]; rfl
noncomputable def extK : Value → Nat → AHeap → KF → RF := @Value.rec (fun _ => Nat → AHeap → KF → RF) (fun _ => Unit) (fun _ => Unit) (fun _ _ _ _ => none) (fun _ _ _ _ _ => none) (fun _ _ _ _ _ => none) (fun _ _ _ _ _ _ => none) (fun _ _ _ _ => none) (fun _ _ _ _ => none) (fun _ _ _ _ _ _ => none) (fun _ _ _ _ => none) (fun _ _ _ _ => none) (fun _ _ _ _ _ _ _ _ => none) (fun _ _ _ => none) (fun _ _ _ _ _ _ => none) (fun _ _ _ => none) (fun _ _ _ _ _ => none) (fun vs _ i h k => valK (nthF vs.toList i) k h) (fun _ _ => ()) () (fun _ _ _ _ => ())
theorem extK_eq (x : Value) (i : Nat) (h : AHeap) (k : KF) : extK x i h k = outK (keep h (aExtract x i)) k := by
  cases x with
  | tuple vs => show valK (nthF vs.toList i) k h = outK (keep h vs.toList[i]?) k; rw [nthF_eq, valK_eq]
  | _ => rfl
noncomputable def nilK : Value → AHeap → KF → RF := @Value.rec (fun _ => AHeap → KF → RF) (fun _ => Unit) (fun _ => Unit) (fun _ _ _ => none) (fun _ _ _ _ => none) (fun _ _ _ _ => none) (fun _ _ _ _ _ => none) (fun _ _ _ => none) (@Option.rec Addr (fun _ => AHeap → KF → RF) (fun _ _ => none) (fun ad h k => k (.pointer (some ad)) h)) (fun _ _ _ _ _ => none) (fun _ _ _ => none) (fun _ _ _ => none) (fun f u v _ _ => (@Fn.rec (fun _ => Array Value → Array Value → AHeap → KF → RF) (fun f u v h k => k (.func (.func f) u v) h) (fun _ _ _ _ _ => none) (fun _ _ _ _ _ _ => none) (fun _ _ _ _ _ _ _ _ => none) (fun l u v h k => k (.func (.yield l) u v) h)) f u v) (fun _ _ => none) (fun _ _ _ _ _ => none) (fun _ _ => none) (fun _ _ _ _ => none) (fun _ _ _ _ => none) (fun _ _ => ()) () (fun _ _ _ _ => ())
theorem nilK_eq (x : Value) (h : AHeap) (k : KF) : nilK x h k = outK (keep h (aNilCheck x)) k := by
  cases x with
  | pointer q => cases q <;> rfl
  | func f u v => cases f <;> rfl
  | _ => rfl
noncomputable def mxF : IntKind → Nat := @IntKind.rec (fun _ => Nat) 127 32767 2147483647 9223372036854775807 255 65535 4294967295 18446744073709551615
noncomputable def knF : IntKind → Nat := @IntKind.rec (fun _ => Nat) 0 1 2 3 4 5 6 7
theorem knF_inj {a b : IntKind} (h : Nat.beq (knF a) (knF b) = true) : a = b := by cases a <;> cases b <;> first | rfl | cases h
theorem wrap_mx {k : IntKind} {n : Nat} (h : Nat.ble n (mxF k) = true) : k.wrap (Int.ofNat n) = Int.ofNat n := by
  have h : n ≤ mxF k := Nat.le_of_ble_eq_true h
  have e : (Int.ofNat n : Int) = (n : Int) := rfl
  rw [e]
  cases k <;> simp only [mxF] at h <;> simp [IntKind.wrap, IntKind.bits, IntKind.signed] <;> omega
noncomputable def chkF : IntKind → Nat → Option Value := fun k r => @Bool.rec (fun _ => Option Value) none (some (.int k (.ofNat r))) (Nat.ble r (mxF k))
noncomputable def intF : BinOp → IntKind → Nat → Nat → Option Value := @BinOp.rec (fun _ => IntKind → Nat → Nat → Option Value)
  (fun k m n => chkF k (Nat.add m n)) (fun k m n => @Bool.rec (fun _ => Option Value) none (chkF k (Nat.sub m n)) (Nat.ble n m)) (fun k m n => chkF k (Nat.mul m n)) (fun _ _ _ => none) (fun _ _ _ => none) (fun _ _ _ => none) (fun _ _ _ => none) (fun _ _ _ => none) (fun _ _ _ => none) (fun _ _ _ => none) (fun _ _ _ => none)
  (fun _ m n => some (.bool (Nat.beq m n))) (fun _ m n => some (.bool (@Bool.rec (fun _ => Bool) true false (Nat.beq m n)))) (fun _ m n => some (.bool (Nat.ble (Nat.succ m) n))) (fun _ m n => some (.bool (Nat.ble m n))) (fun _ m n => some (.bool (Nat.ble (Nat.succ n) m))) (fun _ m n => some (.bool (Nat.ble n m)))
noncomputable def fastB2 : Value → Nat → IntKind → BinOp → Option Value := @Value.rec (fun _ => Nat → IntKind → BinOp → Option Value) (fun _ => Unit) (fun _ => Unit) (fun _ _ _ _ => none) (fun k' n => (@Int.rec (fun _ => IntKind → Nat → IntKind → BinOp → Option Value) (fun n k' m k op => @Bool.rec (fun _ => BinOp → IntKind → Nat → Nat → Option Value) (fun _ _ _ _ => none) intF (Nat.beq (knF k) (knF k')) op k m n) (fun _ _ _ _ _ => none)) n k') (fun _ _ _ _ _ => none) (fun _ _ _ _ _ _ => none) (fun _ _ _ _ => none) (fun _ _ _ _ => none) (fun _ _ _ _ _ _ => none) (fun _ _ _ _ => none) (fun _ _ _ _ => none) (fun _ _ _ _ _ _ _ _ => none) (fun _ _ _ => none) (fun _ _ _ _ _ _ => none) (fun _ _ _ => none) (fun _ _ _ _ _ => none) (fun _ _ _ _ _ => none) (fun _ _ => ()) () (fun _ _ _ _ => ())
noncomputable def fastB : Value → Value → BinOp → Option Value := @Value.rec (fun _ => Value → BinOp → Option Value) (fun _ => Unit) (fun _ => Unit) (fun _ _ _ => none) (fun k m => (@Int.rec (fun _ => IntKind → Value → BinOp → Option Value) (fun m k y op => fastB2 y m k op) (fun _ _ _ _ => none)) m k) (fun _ _ _ _ => none) (fun _ _ _ _ _ => none) (fun _ _ _ => none) (fun _ _ _ => none) (fun _ _ _ _ _ => none) (fun _ _ _ => none) (fun _ _ _ => none) (fun _ _ _ _ _ _ _ => none) (fun _ _ => none) (fun _ _ _ _ _ => none) (fun _ _ => none) (fun _ _ _ _ => none) (fun _ _ _ _ => none) (fun _ _ => ()) () (fun _ _ _ _ => ())
theorem int_beq (m n : Nat) : (Int.ofNat m == Int.ofNat n) = Nat.beq m n := by
  cases h : Nat.beq m n with
  | true => have := Nat.eq_of_beq_eq_true h; subst this; exact beq_self_eq_true _
  | false => have : m ≠ n := Nat.ne_of_beq_eq_false h; simp only [beq_eq_false_iff_ne, ne_eq]; intro e; exact this (Int.ofNat.inj e)
theorem int_le (m n : Nat) : decide (Int.ofNat m ≤ Int.ofNat n) = Nat.ble m n := by
  cases h : Nat.ble m n with
  | true => have := Nat.le_of_ble_eq_true h; exact decide_eq_true (Int.ofNat_le.mpr this)
  | false => exact decide_eq_false (fun e => by have := Nat.ble_eq_true_of_le (Int.ofNat_le.mp e); rw [h] at this; cases this)
theorem int_lt (m n : Nat) : decide (Int.ofNat m < Int.ofNat n) = Nat.ble (Nat.succ m) n := by
  cases h : Nat.ble (Nat.succ m) n with
  | true => have := Nat.le_of_ble_eq_true h; exact decide_eq_true (Int.ofNat_lt.mpr this)
  | false => exact decide_eq_false (fun e => by have := Nat.ble_eq_true_of_le (Int.ofNat_lt.mp e); rw [h] at this; cases this)
theorem guard_int {op : BinOp} {t : TypeId} {xo yo : Operand} {k k' : IntKind} {a b : Int} : eqGuard op t xo yo (.int k a) (.int k' b) = pure () := by
  cases op <;> rfl
theorem aBin_pure {P : Program} {T : Tr TI} {op : BinOp} {t : TypeId} {xo yo : Operand} {k : IntKind} {a b : Int} {u : Value} (hb : binOp op t (.int k a) (.int k b) = pure u) (hf : flat u = true) : aBin P T op t xo yo (.int k a) (.int k b) = some u := by
  have e : (do eqGuard op t xo yo (.int k a) (.int k b); binOp op t (.int k a) (.int k b)) = (pure u : Sem Value) := by
    rw [guard_int, hb]; rfl
  unfold aBin
  rw [e, show flat (.int k a) = true from rfl, show flat (.int k b) = true from rfl]
  rw [show pureRun P (pure u) = some u from rfl]
  simp only [Bool.and_self, cond_true, hf]
theorem bin_add {t : TypeId} {k : IntKind} {a b : Int} : binOp .add t (.int k a) (.int k b) = pure (.int k (k.wrap (a + b))) := by simp [binOp, Op.intArith]
theorem bin_sub {t : TypeId} {k : IntKind} {a b : Int} : binOp .sub t (.int k a) (.int k b) = pure (.int k (k.wrap (a - b))) := by simp [binOp, Op.intArith]
theorem bin_mul {t : TypeId} {k : IntKind} {a b : Int} : binOp .mul t (.int k a) (.int k b) = pure (.int k (k.wrap (a * b))) := by simp [binOp, Op.intArith]
theorem bin_eql {t : TypeId} {k : IntKind} {a b : Int} : binOp .eql t (.int k a) (.int k b) = pure (.bool (a == b)) := by simp [binOp, Op.intCmp]
theorem bin_neq {t : TypeId} {k : IntKind} {a b : Int} : binOp .neq t (.int k a) (.int k b) = pure (.bool (a != b)) := by simp [binOp, Op.intCmp]
theorem bin_lss {t : TypeId} {k : IntKind} {a b : Int} : binOp .lss t (.int k a) (.int k b) = pure (.bool (decide (a < b))) := by simp [binOp, Op.intCmp]
theorem bin_leq {t : TypeId} {k : IntKind} {a b : Int} : binOp .leq t (.int k a) (.int k b) = pure (.bool (decide (a ≤ b))) := by simp [binOp, Op.intCmp]
theorem bin_gtr {t : TypeId} {k : IntKind} {a b : Int} : binOp .gtr t (.int k a) (.int k b) = pure (.bool (decide (b < a))) := by simp [binOp, Op.intCmp]
theorem bin_geq {t : TypeId} {k : IntKind} {a b : Int} : binOp .geq t (.int k a) (.int k b) = pure (.bool (decide (b ≤ a))) := by simp [binOp, Op.intCmp]
theorem fastB_eq {P : Program} {T : Tr TI} {op : BinOp} {t : TypeId} {xo yo : Operand} {x y v : Value} (he : fastB x y op = some v) : aBin P T op t xo yo x y = some v := by
  cases x with
  | int k m =>
    cases m with
    | negSucc m => cases he
    | ofNat m =>
      change fastB2 y m k op = some v at he
      cases y with
      | int k' n =>
        cases n with
        | negSucc n => cases he
        | ofNat n =>
          change @Bool.rec (fun _ => BinOp → IntKind → Nat → Nat → Option Value) (fun _ _ _ _ => none) intF (Nat.beq (knF k) (knF k')) op k m n = some v at he
          cases hk : Nat.beq (knF k) (knF k') with
          | false => rw [hk] at he; cases he
          | true =>
            rw [hk] at he
            have := knF_inj hk
            subst this
            change intF op k m n = some v at he
            have chk : ∀ {z : Int} {r : Nat}, z = Int.ofNat r → chkF k r = some v → k.wrap z = Int.ofNat r ∧ v = .int k (Int.ofNat r) := by
              intro z r hz hc
              unfold chkF at hc
              cases hb : Nat.ble r (mxF k) with
              | false => rw [hb] at hc; cases hc
              | true => rw [hb] at hc; cases hc; exact ⟨by rw [hz]; exact wrap_mx hb, rfl⟩
            cases op with
            | add =>
              obtain ⟨h1, rfl⟩ := chk (z := Int.ofNat m + Int.ofNat n) (r := Nat.add m n) rfl he
              exact aBin_pure (by rw [bin_add, h1]) rfl
            | sub =>
              change @Bool.rec (fun _ => Option Value) none (chkF k (Nat.sub m n)) (Nat.ble n m) = some v at he
              cases hb : Nat.ble n m with
              | false => rw [hb] at he; cases he
              | true =>
                rw [hb] at he
                have hle : n ≤ m := Nat.le_of_ble_eq_true hb
                obtain ⟨h1, rfl⟩ := chk (z := Int.ofNat m - Int.ofNat n) (r := Nat.sub m n) (by show (m : Int) - (n : Int) = ((m - n : Nat) : Int); omega) he
                exact aBin_pure (by rw [bin_sub, h1]) rfl
            | mul =>
              obtain ⟨h1, rfl⟩ := chk (z := Int.ofNat m * Int.ofNat n) (r := Nat.mul m n) rfl he
              exact aBin_pure (by rw [bin_mul, h1]) rfl
            | eql => cases he; exact aBin_pure (by rw [bin_eql, int_beq]) rfl
            | neq => cases he; exact aBin_pure (by rw [bin_neq]; show pure (Value.bool (!(Int.ofNat m == Int.ofNat n))) = _; rw [int_beq]; cases Nat.beq m n <;> rfl) rfl
            | lss => cases he; exact aBin_pure (by rw [bin_lss, int_lt]) rfl
            | leq => cases he; exact aBin_pure (by rw [bin_leq, int_le]) rfl
            | gtr => cases he; exact aBin_pure (by rw [bin_gtr, int_lt]) rfl
            | geq => cases he; exact aBin_pure (by rw [bin_geq, int_le]) rfl
            | _ => cases he
      | _ => cases he
  | _ => cases he
noncomputable def binK (P : Program) (T : Tr TI) (op : BinOp) (t : TypeId) (xo yo : Operand) (x y : Value) (h : AHeap) (k : KF) : RF := (@Option.rec Value (fun _ => Program → Tr TI → BinOp → TypeId → Operand → Operand → Value → Value → AHeap → KF → RF) (fun P T op t xo yo x y h k => valK (aBin P T op t xo yo x y) k h) (fun v _ _ _ _ _ _ _ _ h k => k v h)) (fastB x y op) P T op t xo yo x y h k
theorem binK_eq (P : Program) (T : Tr TI) (op : BinOp) (t : TypeId) (xo yo : Operand) (x y : Value) (h : AHeap) (k : KF) : binK P T op t xo yo x y h k = outK (keep h (aBin P T op t xo yo x y)) k := by
  unfold binK
  cases he : fastB x y op with
  | none => exact valK_eq _ _ _
  | some v => rw [fastB_eq he]; rfl
noncomputable abbrev OpR := Env → CodeF → TypeId → (Operand → Option Value) → AHeap → Option (Value × AHeap)
noncomputable def callF : Callee → Array Operand → Array TypeId → OpR :=
  @Callee.rec (fun _ => Array Operand → Array TypeId → OpR)
    (fun f xs _ E code _ ρ h => match ρ f, aopnds ρ xs.toList with
      | some fv, some vs => evVal E code fv vs h
      | _, _ => none)
    (fun _ _ _ _ _ _ _ _ _ => none)
    (fun b xs ats E _ ty ρ h => match aopnds ρ xs.toList with
      | some vs => aBuiltin E.P E.T b ats ty vs h
      | none => none)
noncomputable def opF : Op → OpR :=
  @Op.rec (fun _ => OpR)
    (fun x _ _ _ ρ h => keep h (ρ x))
    (fun x _ _ _ ρ h => keep h (ρ x))
    (fun c a b _ _ _ ρ h => match ρ c with
      | some (.bool t) => keep h (bif t then ρ a else ρ b)
      | _ => none)
    (fun t E _ _ _ h => aAlloc E.T t h)
    (fun _ x _ _ _ ρ h => match ρ x with
      | some v => some (aBox v h)
      | none => none)
    (fun t parts E _ _ ρ h => match aparts ρ parts.toList with
      | some ps => keep h (aBuild E.T t ps)
      | none => none)
    (fun t len parts E _ _ ρ h => match aparts ρ parts.toList with
      | some ps => aBuildSlice E.T t len ps h
      | none => none)
    (fun t m k x E _ _ ρ h => match ρ m, ρ k, ρ x with
      | some a, some b, some v => unit (aMapUpdate E.P E.T t a b v h)
      | _, _, _ => none)
    (fun t x E _ _ ρ h => match ρ x with
      | some v => keep h (aLoad E.T t v h)
      | none => none)
    (fun t x y E _ _ ρ h => match ρ x, ρ y with
      | some a, some v => unit (aStore E.T t a v h)
      | _, _ => none)
    (fun _ _ _ _ _ _ => none)
    (fun _ _ _ _ _ _ => none)
    (fun x _ _ _ ρ h => match ρ x with
      | some v => keep h (aNilCheck v)
      | none => none)
    (fun op t x y _ E _ _ ρ h => match ρ x, ρ y with
      | some a, some b => keep h (aBin E.P E.T op t x y a b)
      | _, _ => none)
    (fun op _ x E _ _ ρ h => match ρ x with
      | some v => keep h (aPure E.P (flat v) (Op.unary op v))
      | none => none)
    (fun src dst x E _ _ ρ h => match ρ x with
      | some v => match aConv E.T src dst v h with
        | some r => some r
        | none => keep h (aPure E.P (flat v) (convert src dst v))
      | none => none)
    (fun _ _ _ _ _ _ _ => none)
    (fun t x E _ _ ρ h => match ρ x, E.T.get t with
      | some v, some ti => bif isIface ti.und then none else some (.iface t v, h)
      | _, _ => none)
    (fun fn first cap _ _ _ ρ h => match aopnds ρ first.toList, aopnds ρ cap.toList with
      | some a, some c => bif noYield fn then some (.func fn a.toArray c.toArray, h) else none
      | _, _ => none)
    (fun _ r _ _ _ _ h => match r with
      | none => some (aMakeMap h)
      | some _ => none)
    (fun _ _ _ _ _ _ _ => none)
    (fun t l c E _ _ ρ h => match ρ l, ρ c with
      | some a, some b => aMakeSlice E.T t a b h
      | _, _ => none)
    (fun t x lo hi mx E _ _ ρ h => match ρ x, oopnd ρ lo, oopnd ρ hi, oopnd ρ mx with
      | some v, some l, some r, some m => keep h (aSlice E.T t v l r m h)
      | _, _, _, _ => none)
    (fun s x f E _ _ ρ h => match ρ x with
      | some v => keep h (aFieldAddr E.T s v f)
      | none => none)
    (fun t x f E _ _ ρ h => match ρ x with
      | some v => keep h (aField E.T t v f)
      | none => none)
    (fun t x i E _ _ ρ h => match ρ x, ρ i with
      | some v, some j => keep h (aIndexAddr E.T t v j)
      | _, _ => none)
    (fun t x i E _ _ ρ h => match ρ x, ρ i with
      | some v, some j => keep h (aIndex E.T t v j)
      | _, _ => none)
    (fun t x i c E _ _ ρ h => match ρ x, ρ i with
      | some v, some k => keep h (aLookup E.P E.T t v k c h)
      | _, _ => none)
    (fun t m k x E _ _ ρ h => match ρ m, ρ k, ρ x with
      | some a, some b, some v => unit (aMapUpdate E.P E.T t a b v h)
      | _, _, _ => none)
    (fun _ _ _ _ _ _ _ _ => none)
    (fun _ _ _ _ _ _ _ _ _ => none)
    (fun t x E _ _ ρ h => match ρ x with
      | some v => aRange E.T t v h
      | none => none)
    (fun x s _ _ _ ρ h => match ρ x with
      | some v => aNext v s h
      | none => none)
    (fun x _ _ _ ρ h => match ρ x with
      | some v => keep h (aEntry v h)
      | none => none)
    (fun x _ asserted ck E _ _ ρ h => match ρ x with
      | some v => keep h (aAssert E.T asserted ck v)
      | none => none)
    (fun x i _ _ _ ρ h => match ρ x with
      | some v => keep h (aExtract v i)
      | none => none)
    (fun c E code ty ρ h => callF c.callee c.args c.argTypes E code ty ρ h)
    (fun _ _ _ _ _ _ => none)
    (fun _ _ _ _ _ _ => none)
    (fun _ _ _ _ _ _ => none)
    (fun _ _ _ _ _ _ _ => none)
    (fun _ _ _ _ _ _ _ _ => none)
    (fun _ _ _ _ _ _ _ => none)
theorem opF_eq (E : Env) (code : CodeF) : (fun (o : Oper) ρ h => opF o.op E code o.type ρ h) = evOp E code := by
  funext o ρ h
  obtain ⟨dst, op, ty, pos, after, guard⟩ := o
  cases op <;> first | rfl | skip
  · rename_i r; cases r <;> rfl
  · rename_i c; obtain ⟨callee, xs, ats⟩ := c; cases callee <;> rfl
noncomputable abbrev AF := Env → CodeF → TypeId → Tr Value → AHeap → KF → RF
noncomputable def loadO : Option Value → Tr TI → TypeId → AHeap → KF → RF := @Option.rec Value (fun _ => Tr TI → TypeId → AHeap → KF → RF) (fun _ _ _ _ => none) loadK
noncomputable def storeO : Option Value → Option Value → Tr TI → TypeId → AHeap → KF → RF := @Option.rec Value (fun _ => Option Value → Tr TI → TypeId → AHeap → KF → RF) (fun _ _ _ _ _ => none) (fun x y T t h k => (@Option.rec Value (fun _ => Value → Tr TI → TypeId → AHeap → KF → RF) (fun _ _ _ _ _ => none) (fun y x T t h k => storeK x T t y h k)) y x T t h k)
noncomputable def fieldO : Option Value → Tr TI → TypeId → Nat → AHeap → KF → RF := @Option.rec Value (fun _ => Tr TI → TypeId → Nat → AHeap → KF → RF) (fun _ _ _ _ _ => none) fieldK
noncomputable def indexO : Option Value → Option Value → Tr TI → TypeId → AHeap → KF → RF := @Option.rec Value (fun _ => Option Value → Tr TI → TypeId → AHeap → KF → RF) (fun _ _ _ _ _ => none) (fun x y T t h k => (@Option.rec Value (fun _ => Value → Tr TI → TypeId → AHeap → KF → RF) (fun _ _ _ _ _ => none) (fun y x T t h k => indexK T t x y h k)) y x T t h k)
noncomputable def extO : Option Value → Nat → AHeap → KF → RF := @Option.rec Value (fun _ => Nat → AHeap → KF → RF) (fun _ _ _ => none) extK
noncomputable def nilO : Option Value → AHeap → KF → RF := @Option.rec Value (fun _ => AHeap → KF → RF) (fun _ _ => none) nilK
noncomputable def binO : Option Value → Option Value → Program → Tr TI → BinOp → TypeId → Operand → Operand → AHeap → KF → RF := @Option.rec Value (fun _ => Option Value → Program → Tr TI → BinOp → TypeId → Operand → Operand → AHeap → KF → RF) (fun _ _ _ _ _ _ _ _ _ => none) (fun x y P T op t xo yo h k => (@Option.rec Value (fun _ => Value → Program → Tr TI → BinOp → TypeId → Operand → Operand → AHeap → KF → RF) (fun _ _ _ _ _ _ _ _ _ => none) (fun y x P T op t xo yo h k => binK P T op t xo yo x y h k)) y x P T op t xo yo h k)
noncomputable def pickO : Option Value → Operand → Operand → Tr Value → AHeap → KF → RF := @Option.rec Value (fun _ => Operand → Operand → Tr Value → AHeap → KF → RF) (fun _ _ _ _ _ => none) (@Value.rec (fun _ => Operand → Operand → Tr Value → AHeap → KF → RF) (fun _ => Unit) (fun _ => Unit) (fun b x y a h k => @Bool.rec (fun _ => RF) (valK (opndF y a) k h) (valK (opndF x a) k h) b) (fun _ _ _ _ _ _ _ => none) (fun _ _ _ _ _ _ _ => none) (fun _ _ _ _ _ _ _ _ => none) (fun _ _ _ _ _ _ => none) (fun _ _ _ _ _ _ => none) (fun _ _ _ _ _ _ _ _ => none) (fun _ _ _ _ _ _ => none) (fun _ _ _ _ _ _ => none) (fun _ _ _ _ _ _ _ _ _ _ => none) (fun _ _ _ _ _ => none) (fun _ _ _ _ _ _ _ _ => none) (fun _ _ _ _ _ => none) (fun _ _ _ _ _ _ _ => none) (fun _ _ _ _ _ _ _ => none) (fun _ _ => ()) () (fun _ _ _ _ => ()))
noncomputable def cons2 : Option Value → Option (List Value) → Option (List Value) := @Option.rec Value (fun _ => Option (List Value) → Option (List Value)) (fun _ => none) (fun v l => consO l v)
noncomputable def opndsF : List Operand → Tr Value → Option (List Value) := @List.rec Operand (fun _ => Tr Value → Option (List Value)) (fun _ => some []) (fun x _ ih a => cons2 (opndF x a) (ih a))
theorem opndsF_eq (a : Tr Value) : ∀ xs, opndsF xs a = aopnds (fun x => opndF x a) xs
  | [] => rfl
  | x :: xs => by
    show cons2 (opndF x a) (opndsF xs a) = (match opndF x a, aopnds (fun x => opndF x a) xs with
      | some v, some l => some (v :: l)
      | _, _ => none)
    rw [opndsF_eq a xs]
    cases opndF x a with
    | none => rfl
    | some v => cases aopnds (fun x => opndF x a) xs <;> rfl
noncomputable def entryF : List Value → Nat → Tr Value → Tr Value := @List.rec Value (fun _ => Nat → Tr Value → Tr Value) (fun _ t => t) (fun v _ ih i t => ih (Nat.succ i) (Tr.putV t i (some v)))
theorem entryF_eq : ∀ vs i t, entryF vs i t = entry vs i t
  | [], i, t => rfl
  | v :: vs, i, t => by rw [entry, ← entryF_eq vs (i + 1), ← Tr.putV_eq]; rfl
noncomputable abbrev RS := Option (AExit × Tr Value × AHeap)
noncomputable abbrev OV := Option (Value × AHeap)
noncomputable def rK : Option Value → AHeap → OV := @Option.rec Value (fun _ => AHeap → OV) (fun _ => none) (fun v h => some (v, h))
noncomputable def exK : AExit → Tr Value → AHeap → Env → Func → OV := @AExit.rec (fun _ => Tr Value → AHeap → Env → Func → OV) (fun a h E fn => rK (aRet E.T fn a h) h) (fun _ _ _ _ _ => none) (fun a h E fn => rK (aRet E.T fn a h) h)
noncomputable def retK : RS → Env → Func → OV := @Option.rec (AExit × Tr Value × AHeap) (fun _ => Env → Func → OV) (fun _ _ => none) (@Prod.rec AExit (Tr Value × AHeap) (fun _ => Env → Func → OV) (fun e p E fn => (@Prod.rec (Tr Value) AHeap (fun _ => AExit → Env → Func → OV) (fun a h e E fn => exK e a h E fn)) p e E fn))
noncomputable def bodyK : Option Code → Func → FuncId → Env → CodeF → List Value → AHeap → OV := @Option.rec Code (fun _ => Func → FuncId → Env → CodeF → List Value → AHeap → OV) (fun _ _ _ _ _ _ => none) (fun c fn f E code args h => (@Bool.rec (fun _ => Code → Func → FuncId → Env → CodeF → List Value → AHeap → OV) (fun _ _ _ _ _ _ _ => none) (fun c fn f E code args h => retK (code ⟨f, fn.ntmps, none⟩ c (entryF args 0 .leaf) h) E fn)) (lenLeF args fn.ntmps) c fn f E code args h)
noncomputable def funK : Option Func → FuncId → Env → CodeF → List Value → AHeap → OV := @Option.rec Func (fun _ => FuncId → Env → CodeF → List Value → AHeap → OV) (fun _ _ _ _ _ => none) (fun fn f E code args h => bodyK fn.body fn f E code args h)
noncomputable def sumK : OV → FuncId → Env → CodeF → List Value → AHeap → OV := @Option.rec (Value × AHeap) (fun _ => FuncId → Env → CodeF → List Value → AHeap → OV) (fun f E code args h => funK (Tr.get E.F f) f E code args h) (fun p _ _ _ _ _ => some p)
noncomputable def evCallF : FuncId → Env → CodeF → List Value → AHeap → OV := fun f E code args h => sumK (E.S f args h) f E code args h
theorem evCallF_eq (f : FuncId) (E : Env) (code : CodeF) (args : List Value) (h : AHeap) : evCallF f E code args h = evCall E code f args h := by
  show sumK (E.S f args h) f E code args h = (match E.S f args h with
  | some r => some r
  | none => match E.F.get f with
    | some fn => match fn.body with
      | some c => bif Nat.ble args.length fn.ntmps then match code ⟨f, fn.ntmps, none⟩ c (entry args 0 .leaf) h with
          | some (.normal, a', h') => match aRet E.T fn a' h' with
            | some v => some (v, h')
            | none => none
          | some (.ret, a', h') => match aRet E.T fn a' h' with
            | some v => some (v, h')
            | none => none
          | _ => none
        else none
      | none => none
    | none => none)
  cases E.S f args h with
  | some r => rfl
  | none =>
    simp only
    show funK (E.F.get f) f E code args h = _
    cases E.F.get f with
    | none => rfl
    | some fn =>
      simp only
      show bodyK fn.body fn f E code args h = _
      cases fn.body with
      | none => rfl
      | some c =>
        simp only
        show @Bool.rec (fun _ => Code → Func → FuncId → Env → CodeF → List Value → AHeap → OV) (fun _ _ _ _ _ _ _ => none) (fun c fn f E code args h => retK (code ⟨f, fn.ntmps, none⟩ c (entryF args 0 .leaf) h) E fn) (lenLeF args fn.ntmps) c fn f E code args h = _
        rw [lenLeF_eq]
        cases Nat.ble args.length fn.ntmps with
        | false => rfl
        | true =>
          show retK (code ⟨f, fn.ntmps, none⟩ c (entryF args 0 .leaf) h) E fn = _
          rw [entryF_eq]
          simp only [cond_true]
          rcases code ⟨f, fn.ntmps, none⟩ c (entry args 0 .leaf) h with _ | ⟨e, a', h'⟩
          · rfl
          · cases e with
            | normal => show rK (aRet E.T fn a' h') h' = _; simp only; cases aRet E.T fn a' h' <;> rfl
            | exit i => rfl
            | ret => show rK (aRet E.T fn a' h') h' = _; simp only; cases aRet E.T fn a' h' <;> rfl
noncomputable def evValF : Value → List Value → Env → CodeF → AHeap → OV := @Value.rec (fun _ => List Value → Env → CodeF → AHeap → OV) (fun _ => Unit) (fun _ => Unit) (fun _ _ _ _ _ => none) (fun _ _ _ _ _ _ => none) (fun _ _ _ _ _ _ => none) (fun _ _ _ _ _ _ _ => none) (fun _ _ _ _ _ => none) (fun _ _ _ _ _ => none) (fun _ _ _ _ _ _ _ => none) (fun _ _ _ _ _ => none) (fun _ _ _ _ _ => none) (fun f u v _ _ => (@Fn.rec (fun _ => Array Value → Array Value → List Value → Env → CodeF → AHeap → OV) (fun f u v vs E code h => evCallF f E code (appF u.toList (app2F v.toList vs)) h) (fun _ _ _ _ _ _ _ => none) (fun _ _ _ _ _ _ _ _ => none) (fun _ _ _ _ _ _ _ _ _ _ => none) (fun l u v vs E code h => bif u.isEmpty && v.isEmpty then evYield code l vs h else none)) f u v) (fun _ _ _ _ => none) (fun _ _ _ _ _ _ _ => none) (fun _ _ _ _ => none) (fun _ _ _ _ _ _ => none) (fun _ _ _ _ _ _ => none) (fun _ _ => ()) () (fun _ _ _ _ => ())
theorem evValF_eq (fv : Value) (vs : List Value) (E : Env) (code : CodeF) (h : AHeap) : evValF fv vs E code h = evVal E code fv vs h := by
  cases fv with
  | func f u v =>
    cases f with
    | func f =>
      show evCallF f E code (appF u.toList (app2F v.toList vs)) h = evCall E code f (u.toList ++ vs ++ v.toList) h
      rw [evCallF_eq, appF_eq, app2F_eq, List.append_assoc]
    | _ => rfl
  | _ => rfl
noncomputable def callV : Option Value → Option (List Value) → Env → CodeF → AHeap → KF → RF := @Option.rec Value (fun _ => Option (List Value) → Env → CodeF → AHeap → KF → RF) (fun _ _ _ _ _ => none) (fun fv vs E code h k => (@Option.rec (List Value) (fun _ => Value → Env → CodeF → AHeap → KF → RF) (fun _ _ _ _ _ => none) (fun vs fv E code h k => outK (evValF fv vs E code h) k)) vs fv E code h k)
noncomputable def callK : Callee → Array Operand → Array TypeId → AF := @Callee.rec (fun _ => Array Operand → Array TypeId → AF) (fun f xs _ E code _ a h k => callV (opndF f a) (opndsF xs.toList a) E code h k) (fun _ _ _ _ _ _ _ _ _ _ => none) (fun b xs ats E code ty a h k => outK (callF (.builtin b) xs ats E code ty (fun x => opndF x a) h) k)
noncomputable def callC : Call → AF := @Call.rec (fun _ => AF) callK
noncomputable def opK : Op → AF := @Op.rec (fun _ => AF) (fun x E code ty a h k => valK (opndF x a) k h) (fun x E code ty a h k => valK (opndF x a) k h) (fun c x y E code ty a h k => pickO (opndF c a) x y a h k) (fun t E code ty a h k => outK (opF (.alloc t) E code ty (fun x => opndF x a) h) k) (fun t x E code ty a h k => outK (opF (.box t x) E code ty (fun x => opndF x a) h) k) (fun t ps E code ty a h k => outK (opF (.build t ps) E code ty (fun x => opndF x a) h) k) (fun t n ps E code ty a h k => outK (opF (.buildSlice t n ps) E code ty (fun x => opndF x a) h) k) (fun t m ky x E code ty a h k => outK (opF (.insert t m ky x) E code ty (fun x => opndF x a) h) k) (fun t x E code ty a h k => loadO (opndF x a) E.T t h k) (fun t x y E code ty a h k => storeO (opndF x a) (opndF y a) E.T t h k) (fun g E code ty a h k => outK (opF (.ready g) E code ty (fun x => opndF x a) h) k) (fun g E code ty a h k => outK (opF (.waits g) E code ty (fun x => opndF x a) h) k) (fun x E code ty a h k => nilO (opndF x a) h k) (fun op t x y yt E code ty a h k => binO (opndF x a) (opndF y a) E.P E.T op t x y h k) (fun op t x E code ty a h k => outK (opF (.unOp op t x) E code ty (fun x => opndF x a) h) k) (fun s d x E code ty a h k => outK (opF (.convert s d x) E code ty (fun x => opndF x a) h) k) (fun d x E code ty a h k => outK (opF (.sliceToArrayPointer d x) E code ty (fun x => opndF x a) h) k) (fun t x E code ty a h k => outK (opF (.makeInterface t x) E code ty (fun x => opndF x a) h) k) (fun f u v E code ty a h k => outK (opF (.makeFunc f u v) E code ty (fun x => opndF x a) h) k) (fun t r E code ty a h k => outK (opF (.makeMap t r) E code ty (fun x => opndF x a) h) k) (fun t x E code ty a h k => outK (opF (.makeChan t x) E code ty (fun x => opndF x a) h) k) (fun t x y E code ty a h k => outK (opF (.makeSlice t x y) E code ty (fun x => opndF x a) h) k) (fun t x lo hi mx E code ty a h k => outK (opF (.slice t x lo hi mx) E code ty (fun x => opndF x a) h) k) (fun s x f E code ty a h k => fieldO (opndF x a) E.T s f h k) (fun t x f E code ty a h k => outK (opF (.field t x f) E code ty (fun x => opndF x a) h) k) (fun t x i E code ty a h k => indexO (opndF x a) (opndF i a) E.T t h k) (fun t x i E code ty a h k => outK (opF (.index t x i) E code ty (fun x => opndF x a) h) k) (fun t x i ck E code ty a h k => outK (opF (.lookup t x i ck) E code ty (fun x => opndF x a) h) k) (fun t m ky x E code ty a h k => outK (opF (.mapUpdate t m ky x) E code ty (fun x => opndF x a) h) k) (fun t m ky E code ty a h k => outK (opF (.mapEntry t m ky) E code ty (fun x => opndF x a) h) k) (fun t m s x E code ty a h k => outK (opF (.entryStore t m s x) E code ty (fun x => opndF x a) h) k) (fun t x E code ty a h k => outK (opF (.range t x) E code ty (fun x => opndF x a) h) k) (fun x s E code ty a h k => outK (opF (.next x s) E code ty (fun x => opndF x a) h) k) (fun x E code ty a h k => outK (opF (.entry x) E code ty (fun x => opndF x a) h) k) (fun x t u ck E code ty a h k => outK (opF (.typeAssert x t u ck) E code ty (fun x => opndF x a) h) k) (fun x i E code ty a h k => extO (opndF x a) i h k) callC (fun c E code ty a h k => outK (opF (.go c) E code ty (fun x => opndF x a) h) k) (fun c E code ty a h k => outK (opF (.defer c) E code ty (fun x => opndF x a) h) k) (fun x E code ty a h k => outK (opF (.panic x) E code ty (fun x => opndF x a) h) k) (fun x y E code ty a h k => outK (opF (.send x y) E code ty (fun x => opndF x a) h) k) (fun t x ck E code ty a h k => outK (opF (.recv t x ck) E code ty (fun x => opndF x a) h) k) (fun cs b E code ty a h k => outK (opF (.select cs b) E code ty (fun x => opndF x a) h) k)
theorem opK_eq (op : Op) (E : Env) (code : CodeF) (ty : TypeId) (a : Tr Value) (h : AHeap) (k : KF) : opK op E code ty a h k = outK (opF op E code ty (fun x => opndF x a) h) k := by
  cases op with
  | move x => exact valK_eq _ _ _
  | assign x => exact valK_eq _ _ _
  | pick c x y =>
    show pickO (opndF c a) x y a h k = outK (match opndF c a with
      | some (.bool t) => keep h (bif t then opndF x a else opndF y a)
      | _ => none) k
    cases opndF c a with
    | none => rfl
    | some v => cases v with
      | bool b => cases b <;> exact valK_eq _ _ _
      | _ => rfl
  | load t x =>
    show loadO (opndF x a) E.T t h k = outK (match opndF x a with
      | some v => keep h (aLoad E.T t v h)
      | none => none) k
    cases opndF x a with
    | none => rfl
    | some v => exact loadK_eq _ _ _ _ _
  | store t x y =>
    show storeO (opndF x a) (opndF y a) E.T t h k = outK (match opndF x a, opndF y a with
      | some v, some w => unit (aStore E.T t v w h)
      | _, _ => none) k
    cases opndF x a with
    | none => rfl
    | some v => cases opndF y a with
      | none => rfl
      | some w => exact storeK_eq _ _ _ _ _ _
  | nilCheck x =>
    show nilO (opndF x a) h k = outK (match opndF x a with
      | some v => keep h (aNilCheck v)
      | none => none) k
    cases opndF x a with
    | none => rfl
    | some v => exact nilK_eq _ _ _
  | binOp op t x y yt =>
    show binO (opndF x a) (opndF y a) E.P E.T op t x y h k = outK (match opndF x a, opndF y a with
      | some v, some w => keep h (aBin E.P E.T op t x y v w)
      | _, _ => none) k
    cases opndF x a with
    | none => rfl
    | some v => cases opndF y a with
      | none => rfl
      | some w => exact binK_eq _ _ _ _ _ _ _ _ _ _
  | fieldAddr s x f =>
    show fieldO (opndF x a) E.T s f h k = outK (match opndF x a with
      | some v => keep h (aFieldAddr E.T s v f)
      | none => none) k
    cases opndF x a with
    | none => rfl
    | some v => exact fieldK_eq _ _ _ _ _ _
  | indexAddr t x i =>
    show indexO (opndF x a) (opndF i a) E.T t h k = outK (match opndF x a, opndF i a with
      | some v, some w => keep h (aIndexAddr E.T t v w)
      | _, _ => none) k
    cases opndF x a with
    | none => rfl
    | some v => cases opndF i a with
      | none => rfl
      | some w => exact indexK_eq _ _ _ _ _ _
  | extract x i =>
    show extO (opndF x a) i h k = outK (match opndF x a with
      | some v => keep h (aExtract v i)
      | none => none) k
    cases opndF x a with
    | none => rfl
    | some v => exact extK_eq _ _ _ _
  | call c =>
    obtain ⟨callee, xs, ats⟩ := c
    cases callee with
    | value f =>
      show callV (opndF f a) (opndsF xs.toList a) E code h k = outK (match opndF f a, aopnds (fun x => opndF x a) xs.toList with
        | some fv, some vs => evVal E code fv vs h
        | _, _ => none) k
      rw [opndsF_eq]
      cases opndF f a with
      | none => rfl
      | some fv => cases aopnds (fun x => opndF x a) xs.toList with
        | none => rfl
        | some vs => show outK (evValF fv vs E code h) k = outK (evVal E code fv vs h) k; rw [evValF_eq]
    | invoke r m => rfl
    | builtin b => rfl
  | _ => rfl
noncomputable def gdst (ops : Array Oper) (j : Nat) : Option Tmp := (ops[j]?).bind (·.dst)
noncomputable def boolV : Option Value → Bool → Option Bool := @Option.rec Value (fun _ => Bool → Option Bool) (fun _ => none) (@Value.rec (fun _ => Bool → Option Bool) (fun _ => Unit) (fun _ => Unit) (fun b want => some (@Bool.rec (fun _ => Bool → Bool) (@Bool.rec (fun _ => Bool) true false) (@Bool.rec (fun _ => Bool) false true) b want)) (fun _ _ _ => some false) (fun _ _ _ => some false) (fun _ _ _ _ => some false) (fun _ _ => some false) (fun _ _ => some false) (fun _ _ _ _ => some false) (fun _ _ => some false) (fun _ _ => some false) (fun _ _ _ _ _ _ => some false) (fun _ => some false) (fun _ _ _ _ => some false) (fun _ => some false) (fun _ _ _ => some false) (fun _ _ _ => some false) (fun _ _ => ()) () (fun _ _ _ _ => ()))
noncomputable def guardF : Option Tmp → Bool → Tr Value → Option Bool := @Option.rec Tmp (fun _ => Bool → Tr Value → Option Bool) (fun _ _ => some false) (fun d want a => boolV (Tr.getV a d) want)
theorem guard_eq (ops : Array Oper) (a : Tr Value) (dst : Option Tmp) (op : Op) (ty : TypeId) (pos : String) (after : Array Edge) (j : Nat) (want : Bool) : guardF (gdst ops j) want a = aguard ops a ⟨dst, op, ty, pos, after, some (j, want)⟩ := by
  show guardF (gdst ops j) want a = (match (ops[j]?).bind (·.dst) with
    | none => some false
    | some d => match a.get d with
      | some (.bool b) => some (b == want)
      | some _ => some false
      | none => none)
  unfold gdst
  cases (ops[j]?).bind (·.dst) with
  | none => rfl
  | some d =>
    show boolV (Tr.getV a d) want = (match a.get d with
      | some (.bool b) => some (b == want)
      | some _ => some false
      | none => none)
    rw [Tr.getV_eq]
    cases a.get d with
    | none => rfl
    | some v => cases v with
      | bool b => cases b <;> cases want <;> rfl
      | _ => rfl
noncomputable def regK : RF → RS := @Option.rec (Tr Value × AHeap) (fun _ => RS) none (fun p => some (.normal, p))
noncomputable def blkE : AExit → (Tr Value × AHeap) → Nat → RS := @AExit.rec (fun _ => (Tr Value × AHeap) → Nat → RS) (fun p _ => some (.normal, p)) (fun i p id => some (@Bool.rec (fun _ => AExit) (.exit i) .normal (Nat.beq i id), p)) (fun p _ => some (.ret, p))
noncomputable def blkK : RS → Nat → RS := @Option.rec (AExit × Tr Value × AHeap) (fun _ => Nat → RS) (fun _ => none) (@Prod.rec AExit (Tr Value × AHeap) (fun _ => Nat → RS) blkE)
end Go.Ab.Nx
namespace Go.Ab.Nx.Zx
open Go.Ab Go.Ab.Nx
set_option linter.unusedSimpArgs false
set_option linter.unusedVariables false
set_option maxRecDepth 100000
noncomputable abbrev ZV := Option (Value × AHeap)
noncomputable abbrev CallV := Value → List Value → AHeap → ZV
structure BO where
  run : Tr Value → Option Value
structure BL where
  run : Tr Value → Option (List Value)
structure BP where
  run : Value → Tr Value → Tr Value
structure BI where
  run : IntKind → Nat → Nat → Option Value
structure BF where
  run : CallV → Tr Value → AHeap → KF → RF
structure BR where
  run : CallV → Tr Value → AHeap → RF
structure BC where
  run : Option Nat → CallV → Tr Value → AHeap → RS
noncomputable def gs1 : D8 → ((N8 (Option Value) → Option Value) → BO) → BO := @D8.rec (fun _ => ((N8 (Option Value) → Option Value) → BO) → BO) (fun K => K (fun t => t.c0)) (fun K => K (fun t => t.c1)) (fun K => K (fun t => t.c2)) (fun K => K (fun t => t.c3)) (fun K => K (fun t => t.c4)) (fun K => K (fun t => t.c5)) (fun K => K (fun t => t.c6)) (fun K => K (fun t => t.c7))
theorem gs1_eq (d : D8) (K : (N8 (Option Value) → Option Value) → BO) : gs1 d K = K (Tr.selV1 d) := by cases d <;> rfl
noncomputable def gs2 : D8 → ((N8 (N8 (Option Value)) → N8 (Option Value)) → BO) → BO := @D8.rec (fun _ => ((N8 (N8 (Option Value)) → N8 (Option Value)) → BO) → BO) (fun K => K (fun t => t.c0)) (fun K => K (fun t => t.c1)) (fun K => K (fun t => t.c2)) (fun K => K (fun t => t.c3)) (fun K => K (fun t => t.c4)) (fun K => K (fun t => t.c5)) (fun K => K (fun t => t.c6)) (fun K => K (fun t => t.c7))
theorem gs2_eq (d : D8) (K : (N8 (N8 (Option Value)) → N8 (Option Value)) → BO) : gs2 d K = K (Tr.selV2 d) := by cases d <;> rfl
noncomputable def gs3 : D8 → ((N8 (N8 (N8 (Option Value))) → N8 (N8 (Option Value))) → BO) → BO := @D8.rec (fun _ => ((N8 (N8 (N8 (Option Value))) → N8 (N8 (Option Value))) → BO) → BO) (fun K => K (fun t => t.c0)) (fun K => K (fun t => t.c1)) (fun K => K (fun t => t.c2)) (fun K => K (fun t => t.c3)) (fun K => K (fun t => t.c4)) (fun K => K (fun t => t.c5)) (fun K => K (fun t => t.c6)) (fun K => K (fun t => t.c7))
theorem gs3_eq (d : D8) (K : (N8 (N8 (N8 (Option Value))) → N8 (N8 (Option Value))) → BO) : gs3 d K = K (Tr.selV3 d) := by cases d <;> rfl
noncomputable def gs4 : D8 → ((N8 (N8 (N8 (N8 (Option Value)))) → N8 (N8 (N8 (Option Value)))) → BO) → BO := @D8.rec (fun _ => ((N8 (N8 (N8 (N8 (Option Value)))) → N8 (N8 (N8 (Option Value)))) → BO) → BO) (fun K => K (fun t => t.c0)) (fun K => K (fun t => t.c1)) (fun K => K (fun t => t.c2)) (fun K => K (fun t => t.c3)) (fun K => K (fun t => t.c4)) (fun K => K (fun t => t.c5)) (fun K => K (fun t => t.c6)) (fun K => K (fun t => t.c7))
theorem gs4_eq (d : D8) (K : (N8 (N8 (N8 (N8 (Option Value)))) → N8 (N8 (N8 (Option Value)))) → BO) : gs4 d K = K (Tr.selV4 d) := by cases d <;> rfl
noncomputable def compGet (t : Nat) : BO := @TPath.rec (fun _ => BO) (fun d0 d1 => gs2 d0 (fun g0 => gs1 d1 (fun g1 => ⟨fun a => g1 (g0 (a.s))⟩))) (fun d0 d1 d2 d3 => gs4 d0 (fun g0 => gs3 d1 (fun g1 => gs2 d2 (fun g2 => gs1 d3 (fun g3 => ⟨fun a => g3 (g2 (g1 (g0 (a.b))))⟩))))) (fun _ _ _ _ _ _ => ⟨fun a => Tr.getV a t⟩) (fun _ => ⟨fun a => Tr.getV a t⟩) (TPath.of t)
theorem compGet_eq (t : Nat) (a : Tr Value) : (compGet t).run a = a.get t := by
  rw [← Tr.getV_eq]
  obtain ⟨s, b, c, r⟩ := a
  show _ = Tr.atV (TPath.of t) s b c r
  unfold compGet
  have e : Tr.getV ⟨s, b, c, r⟩ t = Tr.atV (TPath.of t) s b c r := rfl
  generalize TPath.of t = q at *
  cases q with
  | p2 d0 d1 => show (gs2 d0 fun g0 => gs1 d1 fun g1 => ⟨fun a => g1 (g0 a.s)⟩).run ⟨s, b, c, r⟩ = _; rw [gs2_eq, gs1_eq]; rfl
  | p4 d0 d1 d2 d3 => show (gs4 d0 fun g0 => gs3 d1 fun g1 => gs2 d2 fun g2 => gs1 d3 fun g3 => ⟨fun a => g3 (g2 (g1 (g0 a.b)))⟩).run ⟨s, b, c, r⟩ = _; rw [gs4_eq, gs3_eq, gs2_eq, gs1_eq]; rfl
  | p6 d0 d1 d2 d3 d4 d5 => exact e
  | far n => exact e
noncomputable def ws1 : D8 → ((Option Value → N8 (Option Value) → N8 (Option Value)) → BP) → BP := @D8.rec (fun _ => ((Option Value → N8 (Option Value) → N8 (Option Value)) → BP) → BP) (fun K => K (fun x t => @N8.rec (Option Value) (fun _ => Option Value → N8 (Option Value)) (fun c0 c1 c2 c3 c4 c5 c6 c7 x => ⟨x, c1, c2, c3, c4, c5, c6, c7⟩) t x)) (fun K => K (fun x t => @N8.rec (Option Value) (fun _ => Option Value → N8 (Option Value)) (fun c0 c1 c2 c3 c4 c5 c6 c7 x => ⟨c0, x, c2, c3, c4, c5, c6, c7⟩) t x)) (fun K => K (fun x t => @N8.rec (Option Value) (fun _ => Option Value → N8 (Option Value)) (fun c0 c1 c2 c3 c4 c5 c6 c7 x => ⟨c0, c1, x, c3, c4, c5, c6, c7⟩) t x)) (fun K => K (fun x t => @N8.rec (Option Value) (fun _ => Option Value → N8 (Option Value)) (fun c0 c1 c2 c3 c4 c5 c6 c7 x => ⟨c0, c1, c2, x, c4, c5, c6, c7⟩) t x)) (fun K => K (fun x t => @N8.rec (Option Value) (fun _ => Option Value → N8 (Option Value)) (fun c0 c1 c2 c3 c4 c5 c6 c7 x => ⟨c0, c1, c2, c3, x, c5, c6, c7⟩) t x)) (fun K => K (fun x t => @N8.rec (Option Value) (fun _ => Option Value → N8 (Option Value)) (fun c0 c1 c2 c3 c4 c5 c6 c7 x => ⟨c0, c1, c2, c3, c4, x, c6, c7⟩) t x)) (fun K => K (fun x t => @N8.rec (Option Value) (fun _ => Option Value → N8 (Option Value)) (fun c0 c1 c2 c3 c4 c5 c6 c7 x => ⟨c0, c1, c2, c3, c4, c5, x, c7⟩) t x)) (fun K => K (fun x t => @N8.rec (Option Value) (fun _ => Option Value → N8 (Option Value)) (fun c0 c1 c2 c3 c4 c5 c6 c7 x => ⟨c0, c1, c2, c3, c4, c5, c6, x⟩) t x))
theorem ws1_eq (d : D8) (K : (Option Value → N8 (Option Value) → N8 (Option Value)) → BP) : ws1 d K = K (fun x t => Tr.updV1 d (fun _ => x) t) := by cases d <;> exact congrArg K (funext fun x => funext fun t => by cases t; rfl)
noncomputable def ws2 : D8 → (Option Value → N8 (Option Value) → N8 (Option Value)) → ((Option Value → N8 (N8 (Option Value)) → N8 (N8 (Option Value))) → BP) → BP := @D8.rec (fun _ => (Option Value → N8 (Option Value) → N8 (Option Value)) → ((Option Value → N8 (N8 (Option Value)) → N8 (N8 (Option Value))) → BP) → BP) (fun w K => K (fun x t => @N8.rec (N8 (Option Value)) (fun _ => Option Value → N8 (N8 (Option Value))) (fun c0 c1 c2 c3 c4 c5 c6 c7 x => ⟨w x c0, c1, c2, c3, c4, c5, c6, c7⟩) t x)) (fun w K => K (fun x t => @N8.rec (N8 (Option Value)) (fun _ => Option Value → N8 (N8 (Option Value))) (fun c0 c1 c2 c3 c4 c5 c6 c7 x => ⟨c0, w x c1, c2, c3, c4, c5, c6, c7⟩) t x)) (fun w K => K (fun x t => @N8.rec (N8 (Option Value)) (fun _ => Option Value → N8 (N8 (Option Value))) (fun c0 c1 c2 c3 c4 c5 c6 c7 x => ⟨c0, c1, w x c2, c3, c4, c5, c6, c7⟩) t x)) (fun w K => K (fun x t => @N8.rec (N8 (Option Value)) (fun _ => Option Value → N8 (N8 (Option Value))) (fun c0 c1 c2 c3 c4 c5 c6 c7 x => ⟨c0, c1, c2, w x c3, c4, c5, c6, c7⟩) t x)) (fun w K => K (fun x t => @N8.rec (N8 (Option Value)) (fun _ => Option Value → N8 (N8 (Option Value))) (fun c0 c1 c2 c3 c4 c5 c6 c7 x => ⟨c0, c1, c2, c3, w x c4, c5, c6, c7⟩) t x)) (fun w K => K (fun x t => @N8.rec (N8 (Option Value)) (fun _ => Option Value → N8 (N8 (Option Value))) (fun c0 c1 c2 c3 c4 c5 c6 c7 x => ⟨c0, c1, c2, c3, c4, w x c5, c6, c7⟩) t x)) (fun w K => K (fun x t => @N8.rec (N8 (Option Value)) (fun _ => Option Value → N8 (N8 (Option Value))) (fun c0 c1 c2 c3 c4 c5 c6 c7 x => ⟨c0, c1, c2, c3, c4, c5, w x c6, c7⟩) t x)) (fun w K => K (fun x t => @N8.rec (N8 (Option Value)) (fun _ => Option Value → N8 (N8 (Option Value))) (fun c0 c1 c2 c3 c4 c5 c6 c7 x => ⟨c0, c1, c2, c3, c4, c5, c6, w x c7⟩) t x))
theorem ws2_eq (d : D8) (w : Option Value → N8 (Option Value) → N8 (Option Value)) (K : (Option Value → N8 (N8 (Option Value)) → N8 (N8 (Option Value))) → BP) : ws2 d w K = K (fun x t => Tr.updV2 d (w x) t) := by cases d <;> exact congrArg K (funext fun x => funext fun t => by cases t; rfl)
noncomputable def ws3 : D8 → (Option Value → N8 (N8 (Option Value)) → N8 (N8 (Option Value))) → ((Option Value → N8 (N8 (N8 (Option Value))) → N8 (N8 (N8 (Option Value)))) → BP) → BP := @D8.rec (fun _ => (Option Value → N8 (N8 (Option Value)) → N8 (N8 (Option Value))) → ((Option Value → N8 (N8 (N8 (Option Value))) → N8 (N8 (N8 (Option Value)))) → BP) → BP) (fun w K => K (fun x t => @N8.rec (N8 (N8 (Option Value))) (fun _ => Option Value → N8 (N8 (N8 (Option Value)))) (fun c0 c1 c2 c3 c4 c5 c6 c7 x => ⟨w x c0, c1, c2, c3, c4, c5, c6, c7⟩) t x)) (fun w K => K (fun x t => @N8.rec (N8 (N8 (Option Value))) (fun _ => Option Value → N8 (N8 (N8 (Option Value)))) (fun c0 c1 c2 c3 c4 c5 c6 c7 x => ⟨c0, w x c1, c2, c3, c4, c5, c6, c7⟩) t x)) (fun w K => K (fun x t => @N8.rec (N8 (N8 (Option Value))) (fun _ => Option Value → N8 (N8 (N8 (Option Value)))) (fun c0 c1 c2 c3 c4 c5 c6 c7 x => ⟨c0, c1, w x c2, c3, c4, c5, c6, c7⟩) t x)) (fun w K => K (fun x t => @N8.rec (N8 (N8 (Option Value))) (fun _ => Option Value → N8 (N8 (N8 (Option Value)))) (fun c0 c1 c2 c3 c4 c5 c6 c7 x => ⟨c0, c1, c2, w x c3, c4, c5, c6, c7⟩) t x)) (fun w K => K (fun x t => @N8.rec (N8 (N8 (Option Value))) (fun _ => Option Value → N8 (N8 (N8 (Option Value)))) (fun c0 c1 c2 c3 c4 c5 c6 c7 x => ⟨c0, c1, c2, c3, w x c4, c5, c6, c7⟩) t x)) (fun w K => K (fun x t => @N8.rec (N8 (N8 (Option Value))) (fun _ => Option Value → N8 (N8 (N8 (Option Value)))) (fun c0 c1 c2 c3 c4 c5 c6 c7 x => ⟨c0, c1, c2, c3, c4, w x c5, c6, c7⟩) t x)) (fun w K => K (fun x t => @N8.rec (N8 (N8 (Option Value))) (fun _ => Option Value → N8 (N8 (N8 (Option Value)))) (fun c0 c1 c2 c3 c4 c5 c6 c7 x => ⟨c0, c1, c2, c3, c4, c5, w x c6, c7⟩) t x)) (fun w K => K (fun x t => @N8.rec (N8 (N8 (Option Value))) (fun _ => Option Value → N8 (N8 (N8 (Option Value)))) (fun c0 c1 c2 c3 c4 c5 c6 c7 x => ⟨c0, c1, c2, c3, c4, c5, c6, w x c7⟩) t x))
theorem ws3_eq (d : D8) (w : Option Value → N8 (N8 (Option Value)) → N8 (N8 (Option Value))) (K : (Option Value → N8 (N8 (N8 (Option Value))) → N8 (N8 (N8 (Option Value)))) → BP) : ws3 d w K = K (fun x t => Tr.updV3 d (w x) t) := by cases d <;> exact congrArg K (funext fun x => funext fun t => by cases t; rfl)
noncomputable def ws4 : D8 → (Option Value → N8 (N8 (N8 (Option Value))) → N8 (N8 (N8 (Option Value)))) → ((Option Value → N8 (N8 (N8 (N8 (Option Value)))) → N8 (N8 (N8 (N8 (Option Value))))) → BP) → BP := @D8.rec (fun _ => (Option Value → N8 (N8 (N8 (Option Value))) → N8 (N8 (N8 (Option Value)))) → ((Option Value → N8 (N8 (N8 (N8 (Option Value)))) → N8 (N8 (N8 (N8 (Option Value))))) → BP) → BP) (fun w K => K (fun x t => @N8.rec (N8 (N8 (N8 (Option Value)))) (fun _ => Option Value → N8 (N8 (N8 (N8 (Option Value))))) (fun c0 c1 c2 c3 c4 c5 c6 c7 x => ⟨w x c0, c1, c2, c3, c4, c5, c6, c7⟩) t x)) (fun w K => K (fun x t => @N8.rec (N8 (N8 (N8 (Option Value)))) (fun _ => Option Value → N8 (N8 (N8 (N8 (Option Value))))) (fun c0 c1 c2 c3 c4 c5 c6 c7 x => ⟨c0, w x c1, c2, c3, c4, c5, c6, c7⟩) t x)) (fun w K => K (fun x t => @N8.rec (N8 (N8 (N8 (Option Value)))) (fun _ => Option Value → N8 (N8 (N8 (N8 (Option Value))))) (fun c0 c1 c2 c3 c4 c5 c6 c7 x => ⟨c0, c1, w x c2, c3, c4, c5, c6, c7⟩) t x)) (fun w K => K (fun x t => @N8.rec (N8 (N8 (N8 (Option Value)))) (fun _ => Option Value → N8 (N8 (N8 (N8 (Option Value))))) (fun c0 c1 c2 c3 c4 c5 c6 c7 x => ⟨c0, c1, c2, w x c3, c4, c5, c6, c7⟩) t x)) (fun w K => K (fun x t => @N8.rec (N8 (N8 (N8 (Option Value)))) (fun _ => Option Value → N8 (N8 (N8 (N8 (Option Value))))) (fun c0 c1 c2 c3 c4 c5 c6 c7 x => ⟨c0, c1, c2, c3, w x c4, c5, c6, c7⟩) t x)) (fun w K => K (fun x t => @N8.rec (N8 (N8 (N8 (Option Value)))) (fun _ => Option Value → N8 (N8 (N8 (N8 (Option Value))))) (fun c0 c1 c2 c3 c4 c5 c6 c7 x => ⟨c0, c1, c2, c3, c4, w x c5, c6, c7⟩) t x)) (fun w K => K (fun x t => @N8.rec (N8 (N8 (N8 (Option Value)))) (fun _ => Option Value → N8 (N8 (N8 (N8 (Option Value))))) (fun c0 c1 c2 c3 c4 c5 c6 c7 x => ⟨c0, c1, c2, c3, c4, c5, w x c6, c7⟩) t x)) (fun w K => K (fun x t => @N8.rec (N8 (N8 (N8 (Option Value)))) (fun _ => Option Value → N8 (N8 (N8 (N8 (Option Value))))) (fun c0 c1 c2 c3 c4 c5 c6 c7 x => ⟨c0, c1, c2, c3, c4, c5, c6, w x c7⟩) t x))
theorem ws4_eq (d : D8) (w : Option Value → N8 (N8 (N8 (Option Value))) → N8 (N8 (N8 (Option Value)))) (K : (Option Value → N8 (N8 (N8 (N8 (Option Value)))) → N8 (N8 (N8 (N8 (Option Value))))) → BP) : ws4 d w K = K (fun x t => Tr.updV4 d (w x) t) := by cases d <;> exact congrArg K (funext fun x => funext fun t => by cases t; rfl)
noncomputable def compPut (t : Nat) : BP := @TPath.rec (fun _ => BP) (fun d0 d1 => ws1 d1 (fun w1 => ws2 d0 w1 (fun w0 => ⟨fun v a => @Tr.rec Value (fun _ => Value → Tr Value) (fun s b c r v => ⟨w0 (some v) s, b, c, r⟩) a v⟩))) (fun d0 d1 d2 d3 => ws1 d3 (fun w3 => ws2 d2 w3 (fun w2 => ws3 d1 w2 (fun w1 => ws4 d0 w1 (fun w0 => ⟨fun v a => @Tr.rec Value (fun _ => Value → Tr Value) (fun s b c r v => ⟨s, w0 (some v) b, c, r⟩) a v⟩))))) (fun _ _ _ _ _ _ => ⟨fun v a => Tr.putV a t (some v)⟩) (fun _ => ⟨fun v a => Tr.putV a t (some v)⟩) (TPath.of t)
theorem compPut_eq (t : Nat) (v : Value) (a : Tr Value) : (compPut t).run v a = a.put t (some v) := by
  rw [← Tr.putV_eq]
  obtain ⟨s, b, c, r⟩ := a
  show _ = Tr.toV (TPath.of t) (some v) s b c r
  unfold compPut
  have e : Tr.putV ⟨s, b, c, r⟩ t (some v) = Tr.toV (TPath.of t) (some v) s b c r := rfl
  generalize TPath.of t = q at *
  cases q with
  | p2 d0 d1 => show (ws1 d1 fun w1 => ws2 d0 w1 fun w0 => ⟨fun v a => @Tr.rec Value (fun _ => Value → Tr Value) (fun s b c r v => ⟨w0 (some v) s, b, c, r⟩) a v⟩).run v ⟨s, b, c, r⟩ = _; rw [ws1_eq, ws2_eq]; rfl
  | p4 d0 d1 d2 d3 => show (ws1 d3 fun w3 => ws2 d2 w3 fun w2 => ws3 d1 w2 fun w1 => ws4 d0 w1 fun w0 => ⟨fun v a => @Tr.rec Value (fun _ => Value → Tr Value) (fun s b c r v => ⟨s, w0 (some v) b, c, r⟩) a v⟩).run v ⟨s, b, c, r⟩ = _; rw [ws1_eq, ws2_eq, ws3_eq, ws4_eq]; rfl
  | p6 d0 d1 d2 d3 d4 d5 => exact e
  | far n => exact e
noncomputable def compO : Operand → BO := @Operand.rec (fun _ => BO) compGet (fun v => @Bool.rec (fun _ => BO) ⟨fun _ => none⟩ ⟨fun _ => some v⟩ (flat v)) (fun _ => ⟨fun _ => none⟩) (fun f => ⟨fun _ => some (.func (.func f) #[] #[])⟩)
theorem compO_eq (x : Operand) (a : Tr Value) : (compO x).run a = aopnd a x := by
  cases x with
  | tmp t => exact compGet_eq t a
  | const v => show (@Bool.rec (fun _ => BO) ⟨fun _ => none⟩ ⟨fun _ => some v⟩ (flat v)).run a = bif flat v then some v else none; cases flat v <;> rfl
  | global g => rfl
  | func f => rfl
noncomputable def compOs : List Operand → BL := @List.rec Operand (fun _ => BL) ⟨fun _ => some []⟩ (fun x _ ih => @BO.rec (fun _ => BL) (fun f => @BL.rec (fun _ => BL) (fun g => ⟨fun a => cons2 (f a) (g a)⟩) ih) (compO x))
theorem compOs_eq (a : Tr Value) : ∀ xs, (compOs xs).run a = aopnds (aopnd a) xs
  | [] => rfl
  | x :: xs => by
    show cons2 ((compO x).run a) ((compOs xs).run a) = (match aopnd a x, aopnds (aopnd a) xs with
      | some v, some l => some (v :: l)
      | _, _ => none)
    rw [compOs_eq a xs, compO_eq]
    cases aopnd a x with
    | none => rfl
    | some v => cases aopnds (aopnd a) xs <;> rfl
noncomputable def noC : CodeF := fun _ _ _ _ => none
noncomputable def zOp (E : Env) (call : CallV) (o : Oper) (ρ : Operand → Option Value) (h : AHeap) : Option (Value × AHeap) :=
  match o.op with
  | .call ⟨.value f, xs, _⟩ => match ρ f, aopnds ρ xs.toList with
    | some fv, some vs => call fv vs h
    | _, _ => none
  | _ => aop E.P E.T o ρ h
noncomputable def callZ : Option Value → Option (List Value) → CallV → AHeap → KF → RF := @Option.rec Value (fun _ => Option (List Value) → CallV → AHeap → KF → RF) (fun _ _ _ _ => none) (fun fv vs call h k => (@Option.rec (List Value) (fun _ => Value → CallV → AHeap → KF → RF) (fun _ _ _ _ => none) (fun vs fv call h k => outK (call fv vs h) k)) vs fv call h k)
noncomputable def compBin : BinOp → BI := @BinOp.rec (fun _ => BI) ⟨(fun k m n => chkF k (Nat.add m n))⟩ ⟨(fun k m n => @Bool.rec (fun _ => Option Value) none (chkF k (Nat.sub m n)) (Nat.ble n m))⟩ ⟨(fun k m n => chkF k (Nat.mul m n))⟩ ⟨(fun _ _ _ => none)⟩ ⟨(fun _ _ _ => none)⟩ ⟨(fun _ _ _ => none)⟩ ⟨(fun _ _ _ => none)⟩ ⟨(fun _ _ _ => none)⟩ ⟨(fun _ _ _ => none)⟩ ⟨(fun _ _ _ => none)⟩ ⟨(fun _ _ _ => none)⟩ ⟨(fun _ m n => some (.bool (Nat.beq m n)))⟩ ⟨(fun _ m n => some (.bool (@Bool.rec (fun _ => Bool) true false (Nat.beq m n))))⟩ ⟨(fun _ m n => some (.bool (Nat.ble (Nat.succ m) n)))⟩ ⟨(fun _ m n => some (.bool (Nat.ble m n)))⟩ ⟨(fun _ m n => some (.bool (Nat.ble (Nat.succ n) m)))⟩ ⟨(fun _ m n => some (.bool (Nat.ble n m)))⟩
theorem compBin_eq (op : BinOp) : (compBin op).run = intF op := by cases op <;> rfl
noncomputable def bZ2 : Value → Nat → IntKind → (IntKind → Nat → Nat → Option Value) → Option Value := @Value.rec (fun _ => Nat → IntKind → (IntKind → Nat → Nat → Option Value) → Option Value) (fun _ => Unit) (fun _ => Unit) (fun _ _ _ _ => none) (fun k' n => (@Int.rec (fun _ => IntKind → Nat → IntKind → (IntKind → Nat → Nat → Option Value) → Option Value) (fun n k' m k i => @Bool.rec (fun _ => (IntKind → Nat → Nat → Option Value) → IntKind → Nat → Nat → Option Value) (fun _ _ _ _ => none) (fun i => i) (Nat.beq (knF k) (knF k')) i k m n) (fun _ _ _ _ _ => none)) n k') (fun _ _ _ _ _ => none) (fun _ _ _ _ _ _ => none) (fun _ _ _ _ => none) (fun _ _ _ _ => none) (fun _ _ _ _ _ _ => none) (fun _ _ _ _ => none) (fun _ _ _ _ => none) (fun _ _ _ _ _ _ _ _ => none) (fun _ _ _ => none) (fun _ _ _ _ _ _ => none) (fun _ _ _ => none) (fun _ _ _ _ _ => none) (fun _ _ _ _ _ => none) (fun _ _ => ()) () (fun _ _ _ _ => ())
noncomputable def bZ : Value → Value → (IntKind → Nat → Nat → Option Value) → Option Value := @Value.rec (fun _ => Value → (IntKind → Nat → Nat → Option Value) → Option Value) (fun _ => Unit) (fun _ => Unit) (fun _ _ _ => none) (fun k m => (@Int.rec (fun _ => IntKind → Value → (IntKind → Nat → Nat → Option Value) → Option Value) (fun m k y i => bZ2 y m k i) (fun _ _ _ _ => none)) m k) (fun _ _ _ _ => none) (fun _ _ _ _ _ => none) (fun _ _ _ => none) (fun _ _ _ => none) (fun _ _ _ _ _ => none) (fun _ _ _ => none) (fun _ _ _ => none) (fun _ _ _ _ _ _ _ => none) (fun _ _ => none) (fun _ _ _ _ _ => none) (fun _ _ => none) (fun _ _ _ _ => none) (fun _ _ _ _ => none) (fun _ _ => ()) () (fun _ _ _ _ => ())
theorem bZ_eq (x y : Value) (op : BinOp) : bZ x y (compBin op).run = fastB x y op := by
  rw [compBin_eq]
  cases x with
  | int k m => cases m with
    | ofNat m => cases y with
      | int k' n => cases n with
        | ofNat n =>
          show @Bool.rec (fun _ => (IntKind → Nat → Nat → Option Value) → IntKind → Nat → Nat → Option Value) (fun _ _ _ _ => none) (fun i => i) (Nat.beq (knF k) (knF k')) (intF op) k m n = @Bool.rec (fun _ => BinOp → IntKind → Nat → Nat → Option Value) (fun _ _ _ _ => none) intF (Nat.beq (knF k) (knF k')) op k m n
          cases Nat.beq (knF k) (knF k') <;> rfl
        | negSucc n => rfl
      | _ => rfl
    | negSucc m => rfl
  | _ => rfl
noncomputable def binZ : Option Value → Option Value → (IntKind → Nat → Nat → Option Value) → (Value → Value → Option Value) → AHeap → KF → RF := @Option.rec Value (fun _ => Option Value → (IntKind → Nat → Nat → Option Value) → (Value → Value → Option Value) → AHeap → KF → RF) (fun _ _ _ _ _ => none) (fun x y i s h k => (@Option.rec Value (fun _ => Value → (IntKind → Nat → Nat → Option Value) → (Value → Value → Option Value) → AHeap → KF → RF) (fun _ _ _ _ _ => none) (fun y x i s h k => (@Option.rec Value (fun _ => Value → Value → (Value → Value → Option Value) → AHeap → KF → RF) (fun x y s h k => valK (s x y) k h) (fun v _ _ _ h k => k v h)) (bZ x y i) x y s h k)) y x i s h k)
noncomputable def pickZ : Option Value → (Tr Value → Option Value) → (Tr Value → Option Value) → Tr Value → AHeap → KF → RF := @Option.rec Value (fun _ => (Tr Value → Option Value) → (Tr Value → Option Value) → Tr Value → AHeap → KF → RF) (fun _ _ _ _ _ => none) (@Value.rec (fun _ => (Tr Value → Option Value) → (Tr Value → Option Value) → Tr Value → AHeap → KF → RF) (fun _ => Unit) (fun _ => Unit) (fun b x y a h k => @Bool.rec (fun _ => RF) (valK (y a) k h) (valK (x a) k h) b) (fun _ _ _ _ _ _ _ => none) (fun _ _ _ _ _ _ _ => none) (fun _ _ _ _ _ _ _ _ => none) (fun _ _ _ _ _ _ => none) (fun _ _ _ _ _ _ => none) (fun _ _ _ _ _ _ _ _ => none) (fun _ _ _ _ _ _ => none) (fun _ _ _ _ _ _ => none) (fun _ _ _ _ _ _ _ _ _ _ => none) (fun _ _ _ _ _ => none) (fun _ _ _ _ _ _ _ _ => none) (fun _ _ _ _ _ => none) (fun _ _ _ _ _ _ _ => none) (fun _ _ _ _ _ _ _ => none) (fun _ _ => ()) () (fun _ _ _ _ => ()))
noncomputable def slow (op : Op) (E : Env) (ty : TypeId) (a : Tr Value) (h : AHeap) : ZV := opF op E noC ty (fun x => opndF x a) h
structure BB where
  run : List Value → AHeap → ZV
noncomputable def lenS : Value → Option Value := @Value.rec (fun _ => Option Value) (fun _ => Unit) (fun _ => Unit) (fun _ => none) (fun _ _ => none) (fun _ _ => none) (fun _ _ _ => none) (fun _ => none) (fun _ => none) (fun _ n _ => some (.int .i64 n)) (fun _ => none) (fun _ => none) (fun _ _ _ _ _ => none) (none) (fun _ _ _ => none) (none) (fun _ _ => none) (fun _ _ => none) (fun _ _ => ()) () (fun _ _ _ _ => ())
noncomputable def lenT : Value → Option Value := @Value.rec (fun _ => Option Value) (fun _ => Unit) (fun _ => Unit) (fun _ => none) (fun _ _ => none) (fun _ _ => none) (fun _ _ _ => none) (fun s => some (.int .i64 s.size)) (fun _ => none) (fun _ _ _ => none) (fun _ => none) (fun _ => none) (fun _ _ _ _ _ => none) (none) (fun _ _ _ => none) (none) (fun _ _ => none) (fun _ _ => none) (fun _ _ => ()) () (fun _ _ _ _ => ())
noncomputable def keepZ : Option Value → AHeap → ZV := @Option.rec Value (fun _ => AHeap → ZV) (fun _ => none) (fun v h => some (v, h))
theorem keepZ_eq (x : Option Value) (h : AHeap) : keepZ x h = keep h x := by cases x <;> rfl
noncomputable def one1 : List Value → (Value → AHeap → ZV) → AHeap → ZV := @List.rec Value (fun _ => (Value → AHeap → ZV) → AHeap → ZV) (fun _ _ => none) (fun v l _ f h => (@List.rec Value (fun _ => Value → (Value → AHeap → ZV) → AHeap → ZV) (fun v f h => f v h) (fun _ _ _ _ _ _ => none)) l v f h)
noncomputable def two2 : List Value → (Value → Value → AHeap → ZV) → AHeap → ZV := @List.rec Value (fun _ => (Value → Value → AHeap → ZV) → AHeap → ZV) (fun _ _ => none) (fun v l _ f h => (@List.rec Value (fun _ => Value → (Value → Value → AHeap → ZV) → AHeap → ZV) (fun _ _ _ => none) (fun w l _ v f h => (@List.rec Value (fun _ => Value → Value → (Value → Value → AHeap → ZV) → AHeap → ZV) (fun v w f h => f v w h) (fun _ _ _ _ _ _ _ => none)) l v w f h)) l v f h)
noncomputable def lenC (T : Tr TI) (ats : Array TypeId) : BB :=
  match ats.toList with
  | t :: _ => match T.get t with
    | some ti => match ti.und with
      | .slice _ => ⟨fun vs h => one1 vs (fun x h => keepZ (lenS x) h) h⟩
      | .string => ⟨fun vs h => one1 vs (fun x h => keepZ (lenT x) h) h⟩
      | _ => ⟨fun vs h => one1 vs (fun x h => keepZ (aLenOf T ats x h) h) h⟩
    | none => ⟨fun _ _ => none⟩
  | [] => ⟨fun _ _ => none⟩
noncomputable def orZ : ZV → ZV → ZV := @Option.rec (Value × AHeap) (fun _ => ZV → ZV) (fun y => y) (fun p _ => some p)
noncomputable def bltC (b : Builtin) (P : Program) (T : Tr TI) (ats : Array TypeId) (ty : TypeId) : BB :=
  match b with
  | .len => lenC T ats
  | .append => ⟨fun vs h => two2 vs (fun s x h => orZ (aAppend T ats s x h) (aAppendZ T ats s x h)) h⟩
  | .copy => ⟨fun vs h => two2 vs (fun d s h => aCopy T ats d s h) h⟩
  | .cap => ⟨fun vs h => one1 vs (fun x h => keepZ (aCapOf T ats x) h) h⟩
  | b => ⟨fun vs h => aBuiltin P T b ats ty vs h⟩
theorem one1_eq (vs : List Value) (f : Value → AHeap → ZV) (h : AHeap) : one1 vs f h = match vs with | [x] => f x h | _ => none := by
  rcases vs with _ | ⟨v, _ | ⟨w, l⟩⟩ <;> rfl
theorem two2_eq (vs : List Value) (f : Value → Value → AHeap → ZV) (h : AHeap) : two2 vs f h = match vs with | [x, y] => f x y h | _ => none := by
  rcases vs with _ | ⟨v, _ | ⟨w, _ | ⟨u, l⟩⟩⟩ <;> rfl
theorem lenC_eq (T : Tr TI) (ats : Array TypeId) (vs : List Value) (h : AHeap) : (lenC T ats).run vs h = match vs with | [x] => keep h (aLenOf T ats x h) | _ => none := by
  unfold lenC aLenOf
  cases ats.toList with
  | nil => rcases vs with _ | ⟨v, _ | ⟨w, l⟩⟩ <;> rfl
  | cons t ts =>
    simp only
    cases T.get t with
    | none => rcases vs with _ | ⟨v, _ | ⟨w, l⟩⟩ <;> rfl
    | some ti =>
      obtain ⟨sz, bs, und, zr⟩ := ti
      cases und with
      | slice e =>
        show one1 vs (fun x h => keepZ (lenS x) h) h = _
        rw [one1_eq]
        rcases vs with _ | ⟨v, _ | ⟨w, l⟩⟩
        · rfl
        · simp only; rw [keepZ_eq]; cases v <;> rfl
        · rfl
      | string =>
        show one1 vs (fun x h => keepZ (lenT x) h) h = _
        rw [one1_eq]
        rcases vs with _ | ⟨v, _ | ⟨w, l⟩⟩
        · rfl
        · simp only; rw [keepZ_eq]; cases v <;> rfl
        · rfl
      | _ =>
        refine (one1_eq vs _ h).trans ?_
        rcases vs with _ | ⟨v, _ | ⟨w, l⟩⟩ <;> first | rfl | exact keepZ_eq _ _
theorem bltC_eq (b : Builtin) (P : Program) (T : Tr TI) (ats : Array TypeId) (ty : TypeId) (vs : List Value) (h : AHeap) : (bltC b P T ats ty).run vs h = aBuiltin P T b ats ty vs h := by
  cases b with
  | len =>
    show (lenC T ats).run vs h = _
    rw [lenC_eq]
    rcases vs with _ | ⟨v, _ | ⟨w, l⟩⟩ <;> rfl
  | append =>
    show two2 vs _ h = _
    rw [two2_eq]
    rcases vs with _ | ⟨v, _ | ⟨w, _ | ⟨u, l⟩⟩⟩ <;> first | rfl | skip
    show orZ (aAppend T ats v w h) (aAppendZ T ats v w h) = (match aAppend T ats v w h with
      | some r => some r
      | none => aAppendZ T ats v w h)
    cases aAppend T ats v w h <;> rfl
  | copy => show two2 vs _ h = _; rw [two2_eq]; rcases vs with _ | ⟨v, _ | ⟨w, _ | ⟨u, l⟩⟩⟩ <;> rfl
  | cap => show one1 vs _ h = _; rw [one1_eq]; rcases vs with _ | ⟨v, _ | ⟨w, l⟩⟩ <;> first | rfl | (simp only; rw [keepZ_eq]; rfl)
  | _ => rfl
noncomputable def bltZ : Option (List Value) → (List Value → AHeap → ZV) → AHeap → KF → RF := @Option.rec (List Value) (fun _ => (List Value → AHeap → ZV) → AHeap → KF → RF) (fun _ _ _ => none) (fun vs f h k => outK (f vs h) k)
noncomputable def compCall : Callee → Array Operand → Array TypeId → Env → TypeId → BF := @Callee.rec (fun _ => Array Operand → Array TypeId → Env → TypeId → BF)
  (fun f xs _ _ _ => @BO.rec (fun _ => BF) (fun ff => @BL.rec (fun _ => BF) (fun fl => ⟨fun call a h k => callZ (ff a) (fl a) call h k⟩) (compOs xs.toList)) (compO f))
  (fun _ _ _ _ _ _ => ⟨fun _ _ _ _ => none⟩)
  (fun b xs ats E ty => @BL.rec (fun _ => BF) (fun fl => @BB.rec (fun _ => BF) (fun f => ⟨fun _ a h k => bltZ (fl a) f h k⟩) (bltC b E.P E.T ats ty)) (compOs xs.toList))
noncomputable def compOp : Op → Env → TypeId → BF := @Op.rec (fun _ => Env → TypeId → BF) (fun x E ty => @BO.rec (fun _ => BF) (fun f => ⟨fun _ a h k => valK (f a) k h⟩) (compO x)) (fun x E ty => @BO.rec (fun _ => BF) (fun f => ⟨fun _ a h k => valK (f a) k h⟩) (compO x)) (fun c x y E ty => @BO.rec (fun _ => BF) (fun f => @BO.rec (fun _ => BF) (fun g => @BO.rec (fun _ => BF) (fun m => ⟨fun _ a h k => pickZ (f a) g m a h k⟩) (compO y)) (compO x)) (compO c)) (fun t E ty => ⟨fun _ a h k => outK (slow (.alloc t) E ty a h) k⟩) (fun t x E ty => ⟨fun _ a h k => outK (slow (.box t x) E ty a h) k⟩) (fun t ps E ty => ⟨fun _ a h k => outK (slow (.build t ps) E ty a h) k⟩) (fun t n ps E ty => ⟨fun _ a h k => outK (slow (.buildSlice t n ps) E ty a h) k⟩) (fun t m ky x E ty => ⟨fun _ a h k => outK (slow (.insert t m ky x) E ty a h) k⟩) (fun t x E ty => @BO.rec (fun _ => BF) (fun f => ⟨fun _ a h k => loadO (f a) E.T t h k⟩) (compO x)) (fun t x y E ty => @BO.rec (fun _ => BF) (fun f => @BO.rec (fun _ => BF) (fun g => ⟨fun _ a h k => storeO (f a) (g a) E.T t h k⟩) (compO y)) (compO x)) (fun g E ty => ⟨fun _ a h k => outK (slow (.ready g) E ty a h) k⟩) (fun g E ty => ⟨fun _ a h k => outK (slow (.waits g) E ty a h) k⟩) (fun x E ty => @BO.rec (fun _ => BF) (fun f => ⟨fun _ a h k => nilO (f a) h k⟩) (compO x)) (fun op t x y yt E ty => @BI.rec (fun _ => BF) (fun i => @BO.rec (fun _ => BF) (fun f => @BO.rec (fun _ => BF) (fun g => ⟨fun _ a h k => binZ (f a) (g a) i (fun v w => aBin E.P E.T op t x y v w) h k⟩) (compO y)) (compO x)) (compBin op)) (fun op t x E ty => ⟨fun _ a h k => outK (slow (.unOp op t x) E ty a h) k⟩) (fun s d x E ty => ⟨fun _ a h k => outK (slow (.convert s d x) E ty a h) k⟩) (fun d x E ty => ⟨fun _ a h k => outK (slow (.sliceToArrayPointer d x) E ty a h) k⟩) (fun t x E ty => ⟨fun _ a h k => outK (slow (.makeInterface t x) E ty a h) k⟩) (fun f u v E ty => ⟨fun _ a h k => outK (slow (.makeFunc f u v) E ty a h) k⟩) (fun t r E ty => ⟨fun _ a h k => outK (slow (.makeMap t r) E ty a h) k⟩) (fun t x E ty => ⟨fun _ a h k => outK (slow (.makeChan t x) E ty a h) k⟩) (fun t x y E ty => ⟨fun _ a h k => outK (slow (.makeSlice t x y) E ty a h) k⟩) (fun t x lo hi mx E ty => ⟨fun _ a h k => outK (slow (.slice t x lo hi mx) E ty a h) k⟩) (fun s x fi E ty => @BO.rec (fun _ => BF) (fun f => ⟨fun _ a h k => fieldO (f a) E.T s fi h k⟩) (compO x)) (fun t x f E ty => ⟨fun _ a h k => outK (slow (.field t x f) E ty a h) k⟩) (fun t x i E ty => @BO.rec (fun _ => BF) (fun f => @BO.rec (fun _ => BF) (fun g => ⟨fun _ a h k => indexO (f a) (g a) E.T t h k⟩) (compO i)) (compO x)) (fun t x i E ty => ⟨fun _ a h k => outK (slow (.index t x i) E ty a h) k⟩) (fun t x i ck E ty => ⟨fun _ a h k => outK (slow (.lookup t x i ck) E ty a h) k⟩) (fun t m ky x E ty => ⟨fun _ a h k => outK (slow (.mapUpdate t m ky x) E ty a h) k⟩) (fun t m ky E ty => ⟨fun _ a h k => outK (slow (.mapEntry t m ky) E ty a h) k⟩) (fun t m s x E ty => ⟨fun _ a h k => outK (slow (.entryStore t m s x) E ty a h) k⟩) (fun t x E ty => ⟨fun _ a h k => outK (slow (.range t x) E ty a h) k⟩) (fun x s E ty => ⟨fun _ a h k => outK (slow (.next x s) E ty a h) k⟩) (fun x E ty => ⟨fun _ a h k => outK (slow (.entry x) E ty a h) k⟩) (fun x t u ck E ty => ⟨fun _ a h k => outK (slow (.typeAssert x t u ck) E ty a h) k⟩) (fun x i E ty => @BO.rec (fun _ => BF) (fun f => ⟨fun _ a h k => extO (f a) i h k⟩) (compO x)) (fun c E ty => @Call.rec (fun _ => Env → TypeId → BF) compCall c E ty) (fun c E ty => ⟨fun _ a h k => outK (slow (.go c) E ty a h) k⟩) (fun c E ty => ⟨fun _ a h k => outK (slow (.defer c) E ty a h) k⟩) (fun x E ty => ⟨fun _ a h k => outK (slow (.panic x) E ty a h) k⟩) (fun x y E ty => ⟨fun _ a h k => outK (slow (.send x y) E ty a h) k⟩) (fun t x ck E ty => ⟨fun _ a h k => outK (slow (.recv t x ck) E ty a h) k⟩) (fun cs b E ty => ⟨fun _ a h k => outK (slow (.select cs b) E ty a h) k⟩)
theorem slow_eq (E : Env) (call : CallV) (o : Oper) (a : Tr Value) (h : AHeap) (hn : ∀ f xs ats, o.op ≠ .call ⟨.value f, xs, ats⟩) : slow o.op E o.type a h = zOp E call o (aopnd a) h := by
  have e : opF o.op E noC o.type (fun x => opndF x a) h = evOp E noC o (fun x => opndF x a) h := congrFun (congrFun (congrFun (opF_eq E noC) o) (fun x => opndF x a)) h
  unfold slow
  rw [e, opndF_eq]
  obtain ⟨dst, op, ty, pos, after, guard⟩ := o
  unfold evOp zOp
  cases op with
  | call c =>
    obtain ⟨callee, xs, ats⟩ := c
    cases callee with
    | value f => exact (hn f xs ats rfl).elim
    | _ => rfl
  | _ => rfl
theorem compOp_eq (E : Env) (call : CallV) (o : Oper) (a : Tr Value) (h : AHeap) (k : KF) : (compOp o.op E o.type).run call a h k = outK (zOp E call o (aopnd a) h) k := by
  have sl := slow_eq E call o a h
  obtain ⟨dst, op, ty, pos, after, guard⟩ := o
  have v1 : ∀ x, (compO x).run a = opndF x a := fun x => by rw [compO_eq, opndF_at]
  cases op with
  | call c =>
    obtain ⟨callee, xs, ats⟩ := c
    cases callee with
    | value f =>
      show callZ ((compO f).run a) ((compOs xs.toList).run a) call h k = outK (match aopnd a f, aopnds (aopnd a) xs.toList with
        | some fv, some vs => call fv vs h
        | _, _ => none) k
      rw [compO_eq, compOs_eq]
      cases aopnd a f with
      | none => rfl
      | some fv => cases aopnds (aopnd a) xs.toList <;> rfl
    | invoke r m => rw [← sl (fun _ _ _ e => by cases e)]; rfl
    | builtin b =>
      show bltZ ((compOs xs.toList).run a) (bltC b E.P E.T ats ty).run h k = outK (match aopnds (aopnd a) xs.toList with
        | some vs => aBuiltin E.P E.T b ats ty vs h
        | none => none) k
      rw [compOs_eq]
      cases aopnds (aopnd a) xs.toList with
      | none => rfl
      | some vs => show outK ((bltC b E.P E.T ats ty).run vs h) k = outK (aBuiltin E.P E.T b ats ty vs h) k; rw [bltC_eq]
  | move x => rw [← sl (fun _ _ _ e => by cases e)]; refine Eq.trans ?_ (opK_eq (.move x) E noC ty a h k); show valK ((compO x).run a) k h = valK (opndF x a) k h; rw [v1]
  | assign x => rw [← sl (fun _ _ _ e => by cases e)]; refine Eq.trans ?_ (opK_eq (.assign x) E noC ty a h k); show valK ((compO x).run a) k h = valK (opndF x a) k h; rw [v1]
  | pick c x y =>
    rw [← sl (fun _ _ _ e => by cases e)]
    refine Eq.trans ?_ (opK_eq (.pick c x y) E noC ty a h k)
    show pickZ ((compO c).run a) (compO x).run (compO y).run a h k = pickO (opndF c a) x y a h k
    rw [v1]
    cases opndF c a with
    | none => rfl
    | some v => cases v with
      | bool b => cases b
                  · show valK ((compO y).run a) k h = valK (opndF y a) k h; rw [v1]
                  · show valK ((compO x).run a) k h = valK (opndF x a) k h; rw [v1]
      | _ => rfl
  | load t x => rw [← sl (fun _ _ _ e => by cases e)]; refine Eq.trans ?_ (opK_eq (.load t x) E noC ty a h k); show loadO ((compO x).run a) E.T t h k = loadO (opndF x a) E.T t h k; rw [v1]
  | store t x y => rw [← sl (fun _ _ _ e => by cases e)]; refine Eq.trans ?_ (opK_eq (.store t x y) E noC ty a h k); show storeO ((compO x).run a) ((compO y).run a) E.T t h k = storeO (opndF x a) (opndF y a) E.T t h k; rw [v1, v1]
  | nilCheck x => rw [← sl (fun _ _ _ e => by cases e)]; refine Eq.trans ?_ (opK_eq (.nilCheck x) E noC ty a h k); show nilO ((compO x).run a) h k = nilO (opndF x a) h k; rw [v1]
  | binOp op t x y yt =>
    rw [← sl (fun _ _ _ e => by cases e)]
    refine Eq.trans ?_ (opK_eq (.binOp op t x y yt) E noC ty a h k)
    show binZ ((compO x).run a) ((compO y).run a) (compBin op).run (fun v w => aBin E.P E.T op t x y v w) h k = binO (opndF x a) (opndF y a) E.P E.T op t x y h k
    rw [v1, v1]
    cases opndF x a with
    | none => rfl
    | some v => cases opndF y a with
      | none => rfl
      | some w =>
        show @Option.rec Value (fun _ => Value → Value → (Value → Value → Option Value) → AHeap → KF → RF) (fun x y s h k => valK (s x y) k h) (fun v _ _ _ h k => k v h) (bZ v w (compBin op).run) v w (fun v w => aBin E.P E.T op t x y v w) h k = binK E.P E.T op t x y v w h k
        rw [bZ_eq]
        unfold binK
        cases fastB v w op <;> rfl
  | fieldAddr s x f => rw [← sl (fun _ _ _ e => by cases e)]; refine Eq.trans ?_ (opK_eq (.fieldAddr s x f) E noC ty a h k); show fieldO ((compO x).run a) E.T s f h k = fieldO (opndF x a) E.T s f h k; rw [v1]
  | indexAddr t x i => rw [← sl (fun _ _ _ e => by cases e)]; refine Eq.trans ?_ (opK_eq (.indexAddr t x i) E noC ty a h k); show indexO ((compO x).run a) ((compO i).run a) E.T t h k = indexO (opndF x a) (opndF i a) E.T t h k; rw [v1, v1]
  | extract x i => rw [← sl (fun _ _ _ e => by cases e)]; refine Eq.trans ?_ (opK_eq (.extract x i) E noC ty a h k); show extO ((compO x).run a) i h k = extO (opndF x a) i h k; rw [v1]
  | _ => rw [← sl (fun _ _ _ e => by cases e)]; rfl
noncomputable abbrev KZ := CallV → Tr Value → AHeap → RF
noncomputable def putC : Option Tmp → Nat → BF → BR → BR := @Option.rec Tmp (fun _ => Nat → BF → BR → BR)
  (fun _ bf rest => @BF.rec (fun _ => BR) (fun f => @BR.rec (fun _ => BR) (fun r => ⟨fun call a h => f call a h (fun _ h' => r call a h')⟩) rest) bf)
  (fun d nt bf rest => @Bool.rec (fun _ => BR) ⟨fun _ _ _ => none⟩ (@BF.rec (fun _ => BR) (fun f => @BR.rec (fun _ => BR) (fun r => @BP.rec (fun _ => BR) (fun q => ⟨fun call a h => f call a h (fun v h' => r call (q v a) h')⟩) (compPut d)) rest) bf) (Nat.ble (Nat.succ d) nt))
noncomputable def skipC : Option Tmp → Nat → BR → BR := @Option.rec Tmp (fun _ => Nat → BR → BR)
  (fun _ rest => rest)
  (fun d nt rest => @Bool.rec (fun _ => BR) ⟨fun _ _ _ => none⟩ (@BR.rec (fun _ => BR) (fun r => @BP.rec (fun _ => BR) (fun q => ⟨fun call a h => r call (q (.tuple #[]) a) h⟩) (compPut d)) rest) (Nat.ble (Nat.succ d) nt))
noncomputable def whenZ : Option Bool → KZ → KZ → KZ := @Option.rec Bool (fun _ => KZ → KZ → KZ) (fun _ _ _ _ _ => none) (@Bool.rec (fun _ => KZ → KZ → KZ) (fun _ n call a h => n call a h) (fun y _ call a h => y call a h))
noncomputable def whenC : Option Tmp → Bool → BR → BR → BR := @Option.rec Tmp (fun _ => Bool → BR → BR → BR) (fun _ _ n => n)
  (fun d want y n => @BO.rec (fun _ => BR) (fun g => @BR.rec (fun _ => BR) (fun fy => @BR.rec (fun _ => BR) (fun fn => ⟨fun call a h => whenZ (boolV (g a) want) fy fn call a h⟩) n) y) (compGet d))
noncomputable def guardC : Option (Nat × Bool) → Option Tmp → BF → Array Oper → Nat → BR → BR := @Option.rec (Nat × Bool) (fun _ => Option Tmp → BF → Array Oper → Nat → BR → BR) (fun dst bf _ nt rest => putC dst nt bf rest)
  (@Prod.rec Nat Bool (fun _ => Option Tmp → BF → Array Oper → Nat → BR → BR) (fun j want dst bf ops nt rest => whenC (gdst ops j) want (putC dst nt bf rest) (skipC dst nt rest)))
noncomputable def compOper : Oper → Env → Array Oper → Nat → BR → BR := @Oper.rec (fun _ => Env → Array Oper → Nat → BR → BR) (fun dst op ty _ _ g E ops nt rest => guardC g dst (compOp op E ty) ops nt rest)
noncomputable def compOps : List Oper → Env → Array Oper → Nat → BR := @List.rec Oper (fun _ => Env → Array Oper → Nat → BR) (fun _ _ _ => ⟨fun _ a h => some (a, h)⟩) (fun o _ ih E ops nt => compOper o E ops nt (ih E ops nt))
noncomputable def zOps (E : Env) (call : CallV) (ops : Array Oper) (nt : Nat) : List Oper → Tr Value → AHeap → Option (Tr Value × AHeap)
  | [], a, h => some (a, h)
  | o :: os, a, h => match aguard ops a o with
    | some true => bif isDefer o.op then none else match zOp E call o (aopnd a) h with
      | some (v, h') => match aput nt a o.dst v with
        | some a' => zOps E call ops nt os a' h'
        | none => none
      | none => none
    | some false => match aput nt a o.dst (.tuple #[]) with
      | some a' => zOps E call ops nt os a' h
      | none => none
    | none => none
theorem aput_d {nt : Nat} {a : Tr Value} {d : Tmp} {v : Value} : aput nt a (some d) v = bif Nat.ble (Nat.succ d) nt then some (a.put d (some v)) else none := rfl
noncomputable def aft (nt : Nat) (a : Tr Value) (dst : Option Tmp) (k : Tr Value → AHeap → RF) : Option (Value × AHeap) → RF
  | some (v, h') => match aput nt a dst v with
    | some a' => k a' h'
    | none => none
  | none => none
theorem putC_eq (dst : Option Tmp) (nt : Nat) (bf : BF) (rest : BR) (call : CallV) (a : Tr Value) (h : AHeap) (x : Option (Value × AHeap)) (hx : ∀ k, bf.run call a h k = outK x k) : (putC dst nt bf rest).run call a h = aft nt a dst (rest.run call) x := by
  cases dst with
  | none =>
    show bf.run call a h (fun _ h' => rest.run call a h') = _
    rw [hx]; rcases x with _ | ⟨v, h'⟩ <;> rfl
  | some d =>
    show (@Bool.rec (fun _ => BR) ⟨fun _ _ _ => none⟩ (⟨fun call a h => bf.run call a h (fun v h' => rest.run call ((compPut d).run v a) h')⟩) (Nat.ble (Nat.succ d) nt)).run call a h = _
    have ea : ∀ v, aput nt a (some d) v = bif Nat.ble (Nat.succ d) nt then some (a.put d (some v)) else none := fun _ => rfl
    cases hb : Nat.ble (Nat.succ d) nt with
    | false => rcases x with _ | ⟨v, h'⟩ <;> simp only [aft, ea, hb, cond_false]
    | true =>
      show bf.run call a h (fun v h' => rest.run call ((compPut d).run v a) h') = _
      rw [hx]
      rcases x with _ | ⟨v, h'⟩
      · rfl
      · show rest.run call ((compPut d).run v a) h' = _
        rw [compPut_eq]; simp only [aft, ea, hb, cond_true]
theorem skipC_eq (dst : Option Tmp) (nt : Nat) (rest : BR) (call : CallV) (a : Tr Value) (h : AHeap) : (skipC dst nt rest).run call a h = match aput nt a dst (.tuple #[]) with
    | some a' => rest.run call a' h
    | none => none := by
  cases dst with
  | none => rfl
  | some d =>
    simp only [aput_d]
    show (@Bool.rec (fun _ => BR) ⟨fun _ _ _ => none⟩ (⟨fun call a h => rest.run call ((compPut d).run (.tuple #[]) a) h⟩) (Nat.ble (Nat.succ d) nt)).run call a h = _
    cases Nat.ble (Nat.succ d) nt with
    | false => rfl
    | true => show rest.run call ((compPut d).run (.tuple #[]) a) h = _; rw [compPut_eq]; rfl
theorem isDefer_none (E : Env) (call : CallV) {o : Oper} (hd : isDefer o.op = true) (ρ : Operand → Option Value) (h : AHeap) : zOp E call o ρ h = none := by
  obtain ⟨dst, op, ty, pos, after, guard⟩ := o
  cases op <;> first | (cases hd; done) | rfl
theorem compOps_eq (E : Env) (call : CallV) (ops : Array Oper) (nt : Nat) : ∀ (os : List Oper) (a : Tr Value) (h : AHeap), (compOps os E ops nt).run call a h = zOps E call ops nt os a h
  | [], a, h => rfl
  | o :: os, a, h => by
    have ih := compOps_eq E call ops nt os
    have e1 : (putC o.dst nt (compOp o.op E o.type) (compOps os E ops nt)).run call a h = bif isDefer o.op then none else match zOp E call o (aopnd a) h with
        | some (v, h') => match aput nt a o.dst v with
          | some a' => zOps E call ops nt os a' h'
          | none => none
        | none => none := by
      rw [putC_eq _ _ _ _ _ _ _ _ (compOp_eq E call o a h)]
      have ih' : (compOps os E ops nt).run call = zOps E call ops nt os := by funext a h; exact ih a h
      rw [ih']
      cases hd : isDefer o.op
      · rw [cond_false]; rcases zOp E call o (aopnd a) h with _ | ⟨v, h'⟩ <;> rfl
      · rw [isDefer_none E call hd]; rfl
    have e2 : (skipC o.dst nt (compOps os E ops nt)).run call a h = match aput nt a o.dst (.tuple #[]) with
        | some a' => zOps E call ops nt os a' h
        | none => none := by
      rw [skipC_eq]; simp only [ih]
    rw [zOps, ← e1, ← e2]
    obtain ⟨dst, op, ty, pos, after, guard⟩ := o
    cases guard with
    | none => rfl
    | some g =>
      obtain ⟨j, want⟩ := g
      show (whenC (gdst ops j) want (putC dst nt (compOp op E ty) (compOps os E ops nt)) (skipC dst nt (compOps os E ops nt))).run call a h = _
      rw [← guard_eq ops a dst op ty pos after j want]
      cases gdst ops j with
      | none => rfl
      | some d =>
        show whenZ (boolV ((compGet d).run a) want) (putC dst nt (compOp op E ty) (compOps os E ops nt)).run (skipC dst nt (compOps os E ops nt)).run call a h = (match boolV (Tr.getV a d) want with
          | some true => _
          | some false => _
          | none => none)
        rw [compGet_eq, Tr.getV_eq]
        cases boolV (a.get d) want with
        | none => rfl
        | some b => cases b <;> rfl
noncomputable abbrev Hist := List (Nat × Bool × AHeap)
noncomputable abbrev Lvs := List (Nat × Hist)
noncomputable abbrev Rds := List (Nat × Oper × Tr Value × Value)
noncomputable abbrev DR := CallV → Tr Value → Tr Value → Hist → Lvs → Rds → AHeap → RF
noncomputable abbrev DK := CallV → Tr Value → Tr Value → Tr Value → Hist → Lvs → Rds → AHeap → RF
structure BA where
  run : Tr Value → Tr Value → Tr Value → Option (Tr Value)
structure BD where
  run : DR
structure BK where
  run : DK
noncomputable abbrev AT := Tr Value → Tr Value → Tr Value → Option (Tr Value)
noncomputable def actN : Option Value → (Value → Tr Value → Tr Value) → AT → AT := @Option.rec Value (fun _ => (Value → Tr Value → Tr Value) → AT → AT) (fun _ r a0 a pa => r a0 a pa) (fun u q r a0 a pa => r a0 a (q u pa))
noncomputable def actS : Option Value → (Value → Tr Value → Tr Value) → AT → AT := @Option.rec Value (fun _ => (Value → Tr Value → Tr Value) → AT → AT) (fun _ _ _ _ _ => none) (fun u q r a0 a pa => r a0 a (q u pa))
noncomputable def compAct1 : Option Nat → Nat → Tmp → BA → BA := @Option.rec Nat (fun _ => Nat → Tmp → BA → BA)
  (fun _ t rest => @BO.rec (fun _ => BA) (fun g => @BP.rec (fun _ => BA) (fun q => @BA.rec (fun _ => BA) (fun r => ⟨fun a0 a pa => actN (g a0) q r a0 a pa⟩) rest) (compPut t)) (compGet t))
  (fun i mk t rest => @Bool.rec (fun _ => BA) ⟨fun _ _ _ => none⟩ (@BO.rec (fun _ => BA) (fun g => @BP.rec (fun _ => BA) (fun q => @BA.rec (fun _ => BA) (fun r => ⟨fun a0 a pa => actS (g a) q r a0 a pa⟩) rest) (compPut t)) (compGet t)) (Nat.testBit mk i))
noncomputable def compAct : List Tmp → Tr Nat → Nat → BA := @List.rec Tmp (fun _ => Tr Nat → Nat → BA) (fun _ _ => ⟨fun _ _ pa => some pa⟩) (fun t _ ih W mk => compAct1 (W.get t) mk t (ih W mk))
theorem compAct_eq (a0 a : Tr Value) (W : Tr Nat) (mk : Nat) : ∀ (ts : List Tmp) (pa : Tr Value), (compAct ts W mk).run a0 a pa = dAct a0 a W mk ts pa
  | [], pa => rfl
  | t :: ts, pa => by
    have ih := compAct_eq a0 a W mk ts
    rw [dAct]
    show (compAct1 (W.get t) mk t (compAct ts W mk)).run a0 a pa = _
    cases W.get t with
    | none =>
      show actN ((compGet t).run a0) (compPut t).run (compAct ts W mk).run a0 a pa = _
      rw [compGet_eq]
      cases a0.get t with
      | none => exact ih pa
      | some u => show (compAct ts W mk).run a0 a ((compPut t).run u pa) = _; rw [compPut_eq, ih]
    | some i =>
      show (@Bool.rec (fun _ => BA) ⟨fun _ _ _ => none⟩ ⟨fun a0 a pa => actS ((compGet t).run a) (compPut t).run (compAct ts W mk).run a0 a pa⟩ (Nat.testBit mk i)).run a0 a pa = bif Nat.testBit mk i then (match a.get t with
        | some u => dAct a0 a W mk ts (pa.put t (some u))
        | none => none) else none
      cases Nat.testBit mk i with
      | false => rfl
      | true =>
        show actS ((compGet t).run a) (compPut t).run (compAct ts W mk).run a0 a pa = _
        rw [compGet_eq, cond_true]
        cases a.get t with
        | none => rfl
        | some u => show (compAct ts W mk).run a0 a ((compPut t).run u pa) = _; rw [compPut_eq, ih]
noncomputable def noV : CallV := fun _ _ _ => none
noncomputable def yesR : RF → Bool := @Option.rec (Tr Value × AHeap) (fun _ => Bool) false (fun _ => true)
noncomputable def sameZ (E : Env) (o : Oper) (pa : Tr Value) (v : Value) (h : AHeap) : Bool := yesR (@BF.rec (fun _ => Tr Value → Value → AHeap → RF) (fun f pa v h => f noV pa h (fun u h' => @Bool.rec (fun _ => RF) none (some (pa, h)) (veq u v))) (compOp (Oper.op o) E (Oper.type o)) pa v h)
noncomputable def isCallV : Op → Bool
  | .call ⟨.value _, _, _⟩ => true
  | _ => false
theorem zOp_aop (E : Env) (call : CallV) (o : Oper) (ρ : Operand → Option Value) (h : AHeap) (hc : isCallV o.op = false) : zOp E call o ρ h = aop E.P E.T o ρ h := by
  obtain ⟨dst, op, ty, pos, after, guard⟩ := o
  cases op with
  | call c =>
    obtain ⟨callee, xs, ats⟩ := c
    cases callee with
    | value f => cases hc
    | _ => rfl
  | _ => rfl
theorem callV_aop (P : Program) (T : Tr TI) (o : Oper) (ρ : Operand → Option Value) (h : AHeap) (hc : isCallV o.op = true) : aop P T o ρ h = none := by
  obtain ⟨dst, op, ty, pos, after, guard⟩ := o
  cases op <;> first | (cases hc; done) | skip
  rename_i c
  obtain ⟨callee, xs, ats⟩ := c
  cases callee <;> first | (cases hc; done) | rfl
theorem zOp_noV (E : Env) (o : Oper) (ρ : Operand → Option Value) (h : AHeap) : zOp E noV o ρ h = aop E.P E.T o ρ h := by
  cases hc : isCallV o.op
  · exact zOp_aop E noV o ρ h hc
  · rw [callV_aop _ _ _ _ _ hc]
    obtain ⟨dst, op, ty, pos, after, guard⟩ := o
    cases op <;> first | (cases hc; done) | skip
    rename_i c
    obtain ⟨callee, xs, ats⟩ := c
    cases callee <;> first | (cases hc; done) | skip
    rename_i f
    show (match ρ f, aopnds ρ xs.toList with
      | some fv, some vs => noV fv vs h
      | _, _ => none) = none
    cases ρ f with
    | none => rfl
    | some fv => cases aopnds ρ xs.toList <;> rfl
theorem sameZ_eq (E : Env) (o : Oper) (pa : Tr Value) (v : Value) (h : AHeap) : sameZ E o pa v h = sameAt E.P E.T o pa v h := by
  show yesR ((compOp o.op E o.type).run noV pa h (fun u h' => @Bool.rec (fun _ => RF) none (some (pa, h)) (veq u v))) = (match aop E.P E.T o (aopnd pa) h with
    | some (u, _) => veq u v
    | none => false)
  rw [compOp_eq, zOp_noV]
  rcases aop E.P E.T o (aopnd pa) h with _ | ⟨u, h'⟩
  · rfl
  · show yesR (@Bool.rec (fun _ => RF) none (some (pa, h)) (veq u v)) = veq u v
    cases veq u v <;> rfl
noncomputable def histZ : Hist → Env → Oper → Tr Value → Value → Nat → Bool := @List.rec (Nat × Bool × AHeap) (fun _ => Env → Oper → Tr Value → Value → Nat → Bool) (fun _ _ _ _ _ => true) (fun x _ ih E o pa v mk => @Bool.rec (fun _ => Bool) (@Bool.rec (fun _ => Bool) false (ih E o pa v mk) (sameZ E o pa v x.2.2)) true (Nat.testBit mk x.1))
theorem histZ_eq (E : Env) (o : Oper) (pa : Tr Value) (v : Value) (mk : Nat) : ∀ hs, histZ hs E o pa v mk = dHist E.P E.T o pa v mk hs
  | [] => rfl
  | (c, l, hb) :: r => by
    show @Bool.rec (fun _ => Bool) (@Bool.rec (fun _ => Bool) false (histZ r E o pa v mk) (sameZ E o pa v hb)) true (Nat.testBit mk c) = _
    rw [dHist, histZ_eq E o pa v mk r, sameZ_eq]
    cases Nat.testBit mk c <;> cases sameAt E.P E.T o pa v hb <;> rfl
noncomputable def allZ : Hist → Nat → Bool := @List.rec (Nat × Bool × AHeap) (fun _ => Nat → Bool) (fun _ => true) (fun x _ ih mk => @Bool.rec (fun _ => Bool) false (ih mk) (Nat.testBit mk x.1))
theorem allZ_eq (mk : Nat) : ∀ hs, allZ hs mk = dAll mk hs
  | [] => rfl
  | (c, l, hb) :: r => by
    show @Bool.rec (fun _ => Bool) false (allZ r mk) (Nat.testBit mk c) = _
    rw [dAll, allZ_eq mk r]; cases Nat.testBit mk c <;> rfl
noncomputable def belowZ : Hist → Nat → Bool := @List.rec (Nat × Bool × AHeap) (fun _ => Nat → Bool) (fun _ => true) (fun x r ih mk => @Bool.rec (fun _ => Bool) (ih mk) (@Bool.rec (fun _ => Bool) (ih mk) (@Bool.rec (fun _ => Bool) false (ih mk) (allZ r mk)) (Nat.testBit mk x.1)) x.2.1)
theorem belowZ_eq (mk : Nat) : ∀ hs, belowZ hs mk = dBelow mk hs
  | [] => rfl
  | (c, l, hb) :: r => by
    show @Bool.rec (fun _ => Bool) (belowZ r mk) (@Bool.rec (fun _ => Bool) (belowZ r mk) (@Bool.rec (fun _ => Bool) false (belowZ r mk) (allZ r mk)) (Nat.testBit mk c)) l = _
    rw [dBelow, belowZ_eq mk r, allZ_eq]; cases l <;> cases Nat.testBit mk c <;> cases dAll mk r <;> rfl
noncomputable def puresZ : Lvs → Nat → Bool := @List.rec (Nat × Hist) (fun _ => Nat → Bool) (fun _ => true) (fun x _ ih mk => @Bool.rec (fun _ => Bool) (ih mk) (@Bool.rec (fun _ => Bool) false (ih mk) (allZ x.2 mk)) (Nat.testBit mk x.1))
theorem puresZ_eq (mk : Nat) : ∀ ls, puresZ ls mk = dPures mk ls
  | [] => rfl
  | (i, hs) :: r => by
    show @Bool.rec (fun _ => Bool) (puresZ r mk) (@Bool.rec (fun _ => Bool) false (puresZ r mk) (allZ hs mk)) (Nat.testBit mk i) = _
    rw [dPures, puresZ_eq mk r, allZ_eq]; cases Nat.testBit mk i <;> cases dAll mk hs <;> rfl
noncomputable def readsZ : Rds → Env → Nat → AHeap → Bool := @List.rec (Nat × Oper × Tr Value × Value) (fun _ => Env → Nat → AHeap → Bool) (fun _ _ _ => true) (fun x _ ih E mk h => @Bool.rec (fun _ => Bool) (@Bool.rec (fun _ => Bool) false (ih E mk h) (sameZ E x.2.1 x.2.2.1 x.2.2.2 h)) (ih E mk h) (Nat.testBit mk x.1))
theorem readsZ_eq (E : Env) (mk : Nat) (h : AHeap) : ∀ rs : Rds, readsZ rs E mk h = rs.all (fun x => Nat.testBit mk x.1 || sameAt E.P E.T x.2.1 x.2.2.1 x.2.2.2 h)
  | [] => rfl
  | x :: r => by
    show @Bool.rec (fun _ => Bool) (@Bool.rec (fun _ => Bool) false (readsZ r E mk h) (sameZ E x.2.1 x.2.2.1 x.2.2.2 h)) (readsZ r E mk h) (Nat.testBit mk x.1) = _
    rw [List.all_cons, readsZ_eq E mk h r, sameZ_eq]
    cases Nat.testBit mk x.1 <;> cases sameAt E.P E.T x.2.1 x.2.2.1 x.2.2.2 h <;> rfl
noncomputable def dput : Option Tmp → BP := @Option.rec Tmp (fun _ => BP) ⟨fun _ a => a⟩ compPut
theorem dput_eq (dst : Option Tmp) (v : Value) (a : Tr Value) : (dput dst).run v a = match dst with | some d => a.put d (some v) | none => a := by
  cases dst with
  | none => rfl
  | some d => exact compPut_eq d v a
noncomputable def k0Z (bf : BF) (bp : BP) (rest : BD) : BK := @BF.rec (fun _ => BK) (fun f => @BP.rec (fun _ => BK) (fun q => @BD.rec (fun _ => BK) (fun r => ⟨fun call a0 a pa hist lvs reads h => f call pa h (fun v _ => r call a0 (q v a) hist lvs reads h)⟩) rest) bp) bf
noncomputable def k1Z (E : Env) (o : Oper) (j mk : Nat) (bf : BF) (bp : BP) (rest : BD) : BK := @BF.rec (fun _ => BK) (fun f => @BP.rec (fun _ => BK) (fun q => @BD.rec (fun _ => BK) (fun r => ⟨fun call a0 a pa hist lvs reads h => f call pa h (fun v _ => @Bool.rec (fun _ => RF) none (r call a0 (q v a) hist lvs ((j, o, pa, v) :: reads) h) (histZ hist E o pa v mk))⟩) rest) bp) bf
noncomputable def kcZ (E : Env) (j mk : Nat) (late : Bool) (bf : BF) (bp : BP) (rest : BD) : BK := @BF.rec (fun _ => BK) (fun f => @BP.rec (fun _ => BK) (fun q => @BD.rec (fun _ => BK) (fun r => ⟨fun call a0 a pa hist lvs reads h => f call pa h (fun v h' => @Bool.rec (fun _ => RF) none (@Bool.rec (fun _ => RF) none (r call a0 (q v a) ((j, late, h) :: hist) lvs reads h') (Nat.ble h.next h'.next)) (readsZ reads E mk h'))⟩) rest) bp) bf
noncomputable def noK : BK := ⟨fun _ _ _ _ _ _ _ _ => none⟩
noncomputable def k2Z (E : Env) (op : Op) (j mk : Nat) (bf : BF) (bp : BP) (rest : BD) : BK := @BK.rec (fun _ => BK) (fun x => @BK.rec (fun _ => BK) (fun y => ⟨fun call a0 a pa hist lvs reads h => (@Bool.rec (fun _ => DK) y x) (allZ hist mk) call a0 a pa hist lvs reads h⟩) (@Bool.rec (fun _ => BK) noK (kcZ E j mk true bf bp rest) (isNew op))) (kcZ E j mk false bf bp rest)
noncomputable def kindZ (E : Env) (o : Oper) (j mk : Nat) (bf : BF) (bp : BP) (rest : BD) : BK := @Nat.rec (fun _ => BK) (k0Z bf bp rest) (fun n _ => @Nat.rec (fun _ => BK) (k1Z E o j mk bf bp rest) (fun _ _ => k2Z E o.op j mk bf bp rest) n) (memKind E.T o.op)
noncomputable def kpZ (op : Op) (j : Nat) (bf : BF) (bp : BP) (rest : BD) : BK := @Bool.rec (fun _ => BK) noK (@BF.rec (fun _ => BK) (fun f => @BP.rec (fun _ => BK) (fun q => @BD.rec (fun _ => BK) (fun r => ⟨fun call a0 a pa hist lvs reads h => f call pa h (fun v _ => r call a0 (q v a) hist ((j, hist) :: lvs) reads h)⟩) rest) bp) bf) (isPure op)
noncomputable def skZ (bp : BP) (rest : BD) : BK := @BP.rec (fun _ => BK) (fun q => @BD.rec (fun _ => BK) (fun r => ⟨fun call a0 a _ hist lvs reads h => r call a0 (q (.tuple #[]) a) hist lvs reads h⟩) rest) bp
structure BG where
  run : Tr Value → Option Bool
noncomputable def guardZ : Option (Nat × Bool) → Array Oper → BG := @Option.rec (Nat × Bool) (fun _ => Array Oper → BG) (fun _ => ⟨fun _ => some true⟩) (@Prod.rec Nat Bool (fun _ => Array Oper → BG) (fun j want ops => (@Option.rec Tmp (fun _ => BG) ⟨fun _ => some false⟩ (fun d => @BO.rec (fun _ => BG) (fun g => ⟨fun pa => boolV (g pa) want⟩) (compGet d))) (gdst ops j)))
theorem guardZ_eq (ops : Array Oper) (pa : Tr Value) (o : Oper) : (guardZ o.guard ops).run pa = aguard ops pa o := by
  obtain ⟨dst, op, ty, pos, after, guard⟩ := o
  cases guard with
  | none => rfl
  | some g =>
    obtain ⟨j, want⟩ := g
    rw [← guard_eq ops pa dst op ty pos after j want]
    show ((@Option.rec Tmp (fun _ => BG) ⟨fun _ => some false⟩ (fun d => ⟨fun pa => boolV ((compGet d).run pa) want⟩)) (gdst ops j)).run pa = _
    cases gdst ops j with
    | none => rfl
    | some d => show boolV ((compGet d).run pa) want = boolV (Tr.getV pa d) want; rw [compGet_eq, Tr.getV_eq]
noncomputable def goZ : Option Bool → DK → DK → DK := @Option.rec Bool (fun _ => DK → DK → DK) (fun _ _ _ _ _ _ _ _ _ _ => none) (@Bool.rec (fun _ => DK → DK → DK) (fun _ n call a0 a pa hist lvs reads h => n call a0 a pa hist lvs reads h) (fun y _ call a0 a pa hist lvs reads h => y call a0 a pa hist lvs reads h))
noncomputable def bodyD : Option (Tr Value) → (Tr Value → Option Bool) → Nat → DK → DK → DK → DK → DR := @Option.rec (Tr Value) (fun _ => (Tr Value → Option Bool) → Nat → DK → DK → DK → DK → DR) (fun _ _ _ _ _ _ _ _ _ _ _ _ _ => none)
  (fun pa g mk y n py pn call a0 a hist lvs reads h => (@Bool.rec (fun _ => DK) (goZ (g pa) py pn) (goZ (g pa) y n)) (@Bool.rec (fun _ => Bool) false (puresZ lvs mk) (belowZ hist mk)) call a0 a pa hist lvs reads h)
noncomputable def stepD (E : Env) (ops : Array Oper) (j mk : Nat) (o : Oper) (ba : BA) (rest : BD) : BD :=
  @BA.rec (fun _ => BD) (fun act => @BG.rec (fun _ => BD) (fun g => @BK.rec (fun _ => BD) (fun y => @BK.rec (fun _ => BD) (fun n => @BK.rec (fun _ => BD) (fun py => ⟨fun call a0 a hist lvs reads h => bodyD (act a0 a .leaf) g mk y n py noK.run call a0 a hist lvs reads h⟩) (kpZ o.op j (compOp o.op E o.type) (dput o.dst) rest)) (skZ (dput o.dst) rest)) (kindZ E o j mk (compOp o.op E o.type) (dput o.dst) rest)) (guardZ o.guard ops)) ba
noncomputable def noD : BD := ⟨fun _ _ _ _ _ _ _ => none⟩
noncomputable def compD1 : Option Nat → Env → Array Oper → Nat → Nat → Oper → Nat → Tr Nat → Tr Nat → BD → BD := @Option.rec Nat (fun _ => Env → Array Oper → Nat → Nat → Oper → Nat → Tr Nat → Tr Nat → BD → BD) (fun _ _ _ _ _ _ _ _ _ => noD)
  (fun mk E ops nt j o dn W R rest => @Bool.rec (fun _ => BD) noD (stepD E ops j mk o (compAct (needs ops o) W mk) rest) ((Nat.beq (Nat.lor mk dn) dn && !Nat.testBit dn j) && (dDst nt W (dReads W j (needs ops o) R) j mk o.dst && !isDefer o.op)))
noncomputable def compD : List (Nat × Oper) → Env → Array Oper → Nat → Tr Nat → Nat → Tr Nat → Tr Nat → BD := @List.rec (Nat × Oper) (fun _ => Env → Array Oper → Nat → Tr Nat → Nat → Tr Nat → Tr Nat → BD) (fun _ _ _ _ _ _ _ => ⟨fun _ _ a _ _ _ h => some (a, h)⟩)
  (fun x _ ih E ops nt M dn W R => compD1 (M.get x.1) E ops nt x.1 x.2 dn W R (ih E ops nt M (Nat.lor dn (Nat.shiftLeft 1 x.1)) (match x.2.dst with | some d => W.put d (some x.1) | none => W) (dReads W x.1 (needs ops x.2) R)))
theorem memKind_call (T : Tr TI) (op : Op) (hc : isCallV op = true) : memKind T op = 2 := by
  cases op <;> first | (cases hc; done) | skip
  rename_i c
  obtain ⟨callee, xs, ats⟩ := c
  cases callee <;> first | (cases hc; done) | rfl
theorem not_call_kind {T : Tr TI} {op : Op} {k : Nat} (hk : memKind T op = k) (h2 : k ≠ 2) : isCallV op = false := by
  cases hc : isCallV op
  · rfl
  · exact (h2 (hk.symm.trans (memKind_call T op hc))).elim
theorem not_call_new {op : Op} (h : isNew op = true) : isCallV op = false := by
  cases hc : isCallV op
  · rfl
  · cases op <;> first | (cases hc; done) | (cases h; done)
theorem not_call_pure {op : Op} (h : isPure op = true) : isCallV op = false := by
  cases hc : isCallV op
  · rfl
  · cases op <;> first | (cases hc; done) | (cases h; done)
noncomputable def fin (x : Option DSt) : RF := match x with
  | some σ => some (σ.a, σ.h)
  | none => none
theorem stepD_eq (E : Env) (call : CallV) (ops : Array Oper) (nt : Nat) (a0 : Tr Value) (M : Tr Nat) (j mk : Nat) (o : Oper) (dn : Nat) (a : Tr Value) (W R : Tr Nat) (hist : Hist) (lvs : Lvs) (reads : Rds) (h : AHeap) (rest : BD) (cont : DSt → RF)
    (hm : M.get j = some mk) (hb : (Nat.beq (Nat.lor mk dn) dn && !Nat.testBit dn j) = true) (hd : (dDst nt W (dReads W j (needs ops o) R) j mk o.dst && !isDefer o.op) = true)
    (hr : ∀ a hist lvs reads h, rest.run call a0 a hist lvs reads h = cont ⟨Nat.lor dn (Nat.shiftLeft 1 j), a, (match o.dst with | some d => W.put d (some j) | none => W), dReads W j (needs ops o) R, hist, lvs, reads, h⟩) :
    (stepD E ops j mk o (compAct (needs ops o) W mk) rest).run call a0 a hist lvs reads h = match dStep E.P E.T (zOp E call) ops nt a0 M ⟨dn, a, W, R, hist, lvs, reads, h⟩ j o with
      | some σ => cont σ
      | none => none := by
  show bodyD ((compAct (needs ops o) W mk).run a0 a .leaf) (guardZ o.guard ops).run mk (kindZ E o j mk (compOp o.op E o.type) (dput o.dst) rest).run (skZ (dput o.dst) rest).run (kpZ o.op j (compOp o.op E o.type) (dput o.dst) rest).run noK.run call a0 a hist lvs reads h = _
  rw [compAct_eq]
  unfold dStep
  simp only [hm, hb, cond_true]
  cases dAct a0 a W mk (needs ops o) .leaf with
  | none => rfl
  | some pa =>
    simp only [hd, cond_true]
    show (@Bool.rec (fun _ => DK) (goZ ((guardZ o.guard ops).run pa) (kpZ o.op j (compOp o.op E o.type) (dput o.dst) rest).run noK.run) (goZ ((guardZ o.guard ops).run pa) (kindZ E o j mk (compOp o.op E o.type) (dput o.dst) rest).run (skZ (dput o.dst) rest).run)) (@Bool.rec (fun _ => Bool) false (puresZ lvs mk) (belowZ hist mk)) call a0 a pa hist lvs reads h = _
    rw [guardZ_eq, puresZ_eq, belowZ_eq, show @Bool.rec (fun _ => Bool) false (dPures mk lvs) (dBelow mk hist) = (dBelow mk hist && dPures mk lvs) by cases dBelow mk hist <;> rfl]
    have fl : ∀ (v : Value) (hist : Hist) (lvs : Lvs) (reads : Rds) (h : AHeap) (h0 : AHeap) (hist0 : Hist) (lvs0 : Lvs) (reads0 : Rds), rest.run call a0 ((dput o.dst).run v a) hist lvs reads h = cont (dFin ⟨dn, a, W, R, hist0, lvs0, reads0, h0⟩ j o (needs ops o) v hist lvs reads h) := by
      intro v hist lvs reads h h0 hist0 lvs0 reads0
      rw [hr, dput_eq]; rfl
    cases dBelow mk hist && dPures mk lvs with
    | true =>
      simp only [cond_true]
      show goZ (aguard ops pa o) (kindZ E o j mk (compOp o.op E o.type) (dput o.dst) rest).run (skZ (dput o.dst) rest).run call a0 a pa hist lvs reads h = _
      cases aguard ops pa o with
      | none => rfl
      | some b =>
        cases b with
        | false =>
          show rest.run call a0 ((dput o.dst).run (.tuple #[]) a) hist lvs reads h = _
          exact fl _ _ _ _ _ _ _ _ _
        | true =>
          show (kindZ E o j mk (compOp o.op E o.type) (dput o.dst) rest).run call a0 a pa hist lvs reads h = _
          unfold kindZ
          have cc : ∀ late, (kcZ E j mk late (compOp o.op E o.type) (dput o.dst) rest).run call a0 a pa hist lvs reads h = match zOp E call o (aopnd pa) h with
              | some (v, h') => bif reads.all (fun x => Nat.testBit mk x.1 || sameAt E.P E.T x.2.1 x.2.2.1 x.2.2.2 h') && Nat.ble h.next h'.next then cont (dFin ⟨dn, a, W, R, hist, lvs, reads, h⟩ j o (needs ops o) v ((j, late, h) :: hist) lvs reads h') else none
              | none => none := by
            intro late
            show (compOp o.op E o.type).run call pa h (fun v h' => @Bool.rec (fun _ => RF) none (@Bool.rec (fun _ => RF) none (rest.run call a0 ((dput o.dst).run v a) ((j, late, h) :: hist) lvs reads h') (Nat.ble h.next h'.next)) (readsZ reads E mk h')) = _
            rw [compOp_eq]
            rcases zOp E call o (aopnd pa) h with _ | ⟨v, h'⟩
            · rfl
            · show @Bool.rec (fun _ => RF) none (@Bool.rec (fun _ => RF) none (rest.run call a0 ((dput o.dst).run v a) ((j, late, h) :: hist) lvs reads h') (Nat.ble h.next h'.next)) (readsZ reads E mk h') = _
              rw [readsZ_eq, fl v _ _ _ _ h hist lvs reads]
              simp only
              cases reads.all (fun x => Nat.testBit mk x.1 || sameAt E.P E.T x.2.1 x.2.2.1 x.2.2.2 h') <;> cases Nat.ble h.next h'.next <;> rfl
          cases hk : memKind E.T o.op with
          | zero =>
            show (compOp o.op E o.type).run call pa h (fun v _ => rest.run call a0 ((dput o.dst).run v a) hist lvs reads h) = _
            rw [compOp_eq, zOp_aop E call o _ h (not_call_kind hk (by decide))]
            simp only
            rcases aop E.P E.T o (aopnd pa) h with _ | ⟨v, h'⟩
            · rfl
            · exact fl _ _ _ _ _ _ _ _ _
          | succ k =>
            cases k with
            | zero =>
              show (compOp o.op E o.type).run call pa h (fun v _ => @Bool.rec (fun _ => RF) none (rest.run call a0 ((dput o.dst).run v a) hist lvs ((j, o, pa, v) :: reads) h) (histZ hist E o pa v mk)) = _
              rw [compOp_eq, zOp_aop E call o _ h (not_call_kind hk (by decide))]
              simp only
              rcases aop E.P E.T o (aopnd pa) h with _ | ⟨v, h'⟩
              · rfl
              · show @Bool.rec (fun _ => RF) none (rest.run call a0 ((dput o.dst).run v a) hist lvs ((j, o, pa, v) :: reads) h) (histZ hist E o pa v mk) = _
                rw [histZ_eq, fl v _ _ _ _ h hist lvs reads]
                simp only
                cases dHist E.P E.T o pa v mk hist <;> rfl
            | succ k =>
              show (@Bool.rec (fun _ => DK) (@Bool.rec (fun _ => BK) noK (kcZ E j mk true (compOp o.op E o.type) (dput o.dst) rest) (isNew o.op)).run (kcZ E j mk false (compOp o.op E o.type) (dput o.dst) rest).run) (allZ hist mk) call a0 a pa hist lvs reads h = _
              rw [allZ_eq]
              simp only
              cases dAll mk hist with
              | true =>
                show (kcZ E j mk false (compOp o.op E o.type) (dput o.dst) rest).run call a0 a pa hist lvs reads h = _
                rw [cc, cond_true]
                rcases zOp E call o (aopnd pa) h with _ | ⟨v, h'⟩
                · rfl
                · simp only
                  cases reads.all (fun x => Nat.testBit mk x.1 || sameAt E.P E.T x.2.1 x.2.2.1 x.2.2.2 h') && Nat.ble h.next h'.next <;> rfl
              | false =>
                show (@Bool.rec (fun _ => BK) noK (kcZ E j mk true (compOp o.op E o.type) (dput o.dst) rest) (isNew o.op)).run call a0 a pa hist lvs reads h = _
                rw [cond_false]
                cases hn : isNew o.op with
                | false => rfl
                | true =>
                  show (kcZ E j mk true (compOp o.op E o.type) (dput o.dst) rest).run call a0 a pa hist lvs reads h = _
                  rw [cc, cond_true, zOp_aop E call o _ h (not_call_new hn)]
                  rcases aop E.P E.T o (aopnd pa) h with _ | ⟨v, h'⟩
                  · rfl
                  · simp only
                    cases reads.all (fun x => Nat.testBit mk x.1 || sameAt E.P E.T x.2.1 x.2.2.1 x.2.2.2 h') && Nat.ble h.next h'.next <;> rfl
    | false =>
      simp only [cond_false]
      show goZ (aguard ops pa o) (kpZ o.op j (compOp o.op E o.type) (dput o.dst) rest).run noK.run call a0 a pa hist lvs reads h = _
      cases aguard ops pa o with
      | none => rfl
      | some b =>
        cases b with
        | false => rfl
        | true =>
          show (kpZ o.op j (compOp o.op E o.type) (dput o.dst) rest).run call a0 a pa hist lvs reads h = _
          unfold kpZ
          simp only
          cases hp : isPure o.op with
          | false => rfl
          | true =>
            show (compOp o.op E o.type).run call pa h (fun v _ => rest.run call a0 ((dput o.dst).run v a) hist ((j, hist) :: lvs) reads h) = _
            rw [compOp_eq, zOp_aop E call o _ h (not_call_pure hp), cond_true]
            rcases aop E.P E.T o (aopnd pa) h with _ | ⟨v, h'⟩
            · rfl
            · exact fl _ _ _ _ _ _ _ _ _
theorem compD_eq (E : Env) (call : CallV) (ops : Array Oper) (nt : Nat) (a0 : Tr Value) (M : Tr Nat) : ∀ (l : List (Nat × Oper)) (dn : Nat) (a : Tr Value) (W R : Tr Nat) (hist : Hist) (lvs : Lvs) (reads : Rds) (h : AHeap),
    (compD l E ops nt M dn W R).run call a0 a hist lvs reads h = fin (dRun E.P E.T (zOp E call) ops nt a0 M l ⟨dn, a, W, R, hist, lvs, reads, h⟩)
  | [], dn, a, W, R, hist, lvs, reads, h => rfl
  | (j, o) :: l, dn, a, W, R, hist, lvs, reads, h => by
    show (compD1 (M.get j) E ops nt j o dn W R (compD l E ops nt M (Nat.lor dn (Nat.shiftLeft 1 j)) (match o.dst with | some d => W.put d (some j) | none => W) (dReads W j (needs ops o) R))).run call a0 a hist lvs reads h = _
    rw [dRun]
    cases hm : M.get j with
    | none => unfold dStep; rw [hm]; rfl
    | some mk =>
      show (@Bool.rec (fun _ => BD) noD (stepD E ops j mk o (compAct (needs ops o) W mk) _) ((Nat.beq (Nat.lor mk dn) dn && !Nat.testBit dn j) && (dDst nt W (dReads W j (needs ops o) R) j mk o.dst && !isDefer o.op))).run call a0 a hist lvs reads h = _
      cases hb : (Nat.beq (Nat.lor mk dn) dn && !Nat.testBit dn j) with
      | false => unfold dStep; simp only [hm, hb, cond_false]; rfl
      | true =>
        cases hd : (dDst nt W (dReads W j (needs ops o) R) j mk o.dst && !isDefer o.op) with
        | false => unfold dStep; simp only [hm, hb, hd, cond_false, cond_true]; cases dAct a0 a W mk (needs ops o) .leaf <;> rfl
        | true =>
          show (stepD E ops j mk o (compAct (needs ops o) W mk) _).run call a0 a hist lvs reads h = _
          rw [stepD_eq E call ops nt a0 M j mk o dn a W R hist lvs reads h _ (fun σ => fin (dRun E.P E.T (zOp E call) ops nt a0 M l σ)) hm hb hd (fun a hist lvs reads h => compD_eq E call ops nt a0 M l _ a _ _ hist lvs reads h)]
          cases dStep E.P E.T (zOp E call) ops nt a0 M ⟨dn, a, W, R, hist, lvs, reads, h⟩ j o <;> rfl
noncomputable def dnEnd : List (Nat × Oper) → Nat → Nat := @List.rec (Nat × Oper) (fun _ => Nat → Nat) (fun dn => dn) (fun x _ ih dn => ih (Nat.lor dn (Nat.shiftLeft 1 x.1)))
theorem dStep_dn {P : Program} {T : Tr TI} {op : Oper → (Operand → Option Value) → AHeap → Option (Value × AHeap)} {ops : Array Oper} {nt : Nat} {a0 : Tr Value} {M : Tr Nat} {σ σ' : DSt} {j : Nat} {o : Oper} (hs : dStep P T op ops nt a0 M σ j o = some σ') : σ'.dn = Nat.lor σ.dn (Nat.shiftLeft 1 j) := by
  unfold dStep at hs
  repeat' (first | (cases hs; rfl) | (cases hs; done) | split at hs | (simp only [cond_eq_ite] at hs))
theorem dRun_dn {P : Program} {T : Tr TI} {op : Oper → (Operand → Option Value) → AHeap → Option (Value × AHeap)} {ops : Array Oper} {nt : Nat} {a0 : Tr Value} {M : Tr Nat} : ∀ {l : List (Nat × Oper)} {σ σ' : DSt}, dRun P T op ops nt a0 M l σ = some σ' → σ'.dn = dnEnd l σ.dn
  | [], σ, σ', hs => by cases hs; rfl
  | (j, o) :: l, σ, σ', hs => by
    rw [dRun] at hs
    split at hs
    · rename_i σ1 h1
      rw [dRun_dn hs, dStep_dn h1]; rfl
    · cases hs
noncomputable def fullZ (ops : Array Oper) (l : List (Nat × Oper)) : Bool := Nat.beq (dnEnd l 0) (Nat.sub (Nat.shiftLeft 1 ops.size) 1)
noncomputable def runL (E : Env) (ops : Array Oper) (nt : Nat) (M : Tr Nat) (l : List (Nat × Oper)) : BR := @Bool.rec (fun _ => BR) ⟨fun _ _ _ => none⟩ (@BD.rec (fun _ => BR) (fun r => ⟨fun call a h => r call a a [] [] [] h⟩) (compD l E ops nt M 0 .leaf .leaf)) (fullZ ops l)
noncomputable def orElse : RF → RF → RF := @Option.rec (Tr Value × AHeap) (fun _ => RF → RF) (fun y => y) (fun p _ => some p)
noncomputable def drawM : Option (Tr Nat) → Env → Array Oper → Nat → BR := @Option.rec (Tr Nat) (fun _ => Env → Array Oper → Nat → BR) (fun _ _ _ => ⟨fun _ _ _ => none⟩)
  (fun M E ops nt => @Bool.rec (fun _ => BR) ⟨fun _ _ _ => none⟩ (@BR.rec (fun _ => BR) (fun r => ⟨fun call a h => orElse (r call a h) (@BR.rec (fun _ => CallV → Tr Value → AHeap → RF) (fun r2 call a h => r2 call a h) (runL E ops nt M (lateOrd E.T M (nums ops.toList 0) (nums ops.toList 0) 0 [])) call a h)⟩) (runL E ops nt M (nums ops.toList 0))) (fullZ ops (nums ops.toList 0)))
noncomputable def compDrawn (E : Env) (ops : Array Oper) (nt : Nat) : BR := drawM (dMasks ops.toList 0 .leaf) E ops nt
theorem runL_eq (E : Env) (call : CallV) (ops : Array Oper) (nt : Nat) (M : Tr Nat) (l : List (Nat × Oper)) (a : Tr Value) (h : AHeap) (r : Tr Value × AHeap) (hr : (runL E ops nt M l).run call a h = some r) :
    ∃ σ, dRun E.P E.T (zOp E call) ops nt a M l ⟨0, a, .leaf, .leaf, [], [], [], h⟩ = some σ ∧ Nat.beq σ.dn (Nat.sub (Nat.shiftLeft 1 ops.size) 1) = true ∧ r = (σ.a, σ.h) := by
  unfold runL at hr
  cases hf : fullZ ops l with
  | false => rw [hf] at hr; cases hr
  | true =>
    rw [hf] at hr
    have hr : (compD l E ops nt M 0 .leaf .leaf).run call a a [] [] [] h = some r := hr
    rw [compD_eq] at hr
    cases hd : dRun E.P E.T (zOp E call) ops nt a M l ⟨0, a, .leaf, .leaf, [], [], [], h⟩ with
    | none => rw [hd] at hr; cases hr
    | some σ =>
      rw [hd] at hr
      cases hr
      exact ⟨σ, rfl, by rw [dRun_dn hd]; exact hf, rfl⟩
theorem compDrawn_eq (E : Env) (call : CallV) (ops : Array Oper) (nt : Nat) (a : Tr Value) (h : AHeap) (r : Tr Value × AHeap) (hr : (compDrawn E ops nt).run call a h = some r) : Nx.evDrawn E.P E.T (zOp E call) ops nt a h = some r := by
  unfold compDrawn at hr
  unfold Nx.evDrawn
  cases hM : dMasks ops.toList 0 .leaf with
  | none => rw [hM] at hr; cases hr
  | some M =>
    rw [hM] at hr
    simp only
    have hr : (@Bool.rec (fun _ => BR) ⟨fun _ _ _ => none⟩ (⟨fun call a h => orElse ((runL E ops nt M (nums ops.toList 0)).run call a h) ((runL E ops nt M (lateOrd E.T M (nums ops.toList 0) (nums ops.toList 0) 0 [])).run call a h)⟩) (fullZ ops (nums ops.toList 0))).run call a h = some r := hr
    cases hf : fullZ ops (nums ops.toList 0) with
    | false => rw [hf] at hr; cases hr
    | true =>
      rw [hf] at hr
      have hr : orElse ((runL E ops nt M (nums ops.toList 0)).run call a h) ((runL E ops nt M (lateOrd E.T M (nums ops.toList 0) (nums ops.toList 0) 0 [])).run call a h) = some r := hr
      cases h1 : dRun E.P E.T (zOp E call) ops nt a M (nums ops.toList 0) ⟨0, a, .leaf, .leaf, [], [], [], h⟩ with
      | some σ =>
        have e1 : (runL E ops nt M (nums ops.toList 0)).run call a h = some (σ.a, σ.h) := by
          unfold runL; rw [hf]
          show (compD (nums ops.toList 0) E ops nt M 0 .leaf .leaf).run call a a [] [] [] h = _
          rw [compD_eq, h1]; rfl
        rw [e1] at hr
        cases hr
        have : Nat.beq σ.dn (Nat.sub (Nat.shiftLeft 1 ops.size) 1) = true := by rw [dRun_dn h1]; exact hf
        simp only [this, cond_true]
      | none =>
        have e1 : (runL E ops nt M (nums ops.toList 0)).run call a h = none := by
          unfold runL; rw [hf]
          show (compD (nums ops.toList 0) E ops nt M 0 .leaf .leaf).run call a a [] [] [] h = _
          rw [compD_eq, h1]; rfl
        rw [e1] at hr
        obtain ⟨σ, g1, g2, g3⟩ := runL_eq E call ops nt M _ a h r hr
        simp only [g1, g2, cond_true, g3]
noncomputable def seqZE : AExit → (Tr Value × AHeap) → CallV → (CallV → Tr Value → AHeap → RS) → RS := @AExit.rec (fun _ => (Tr Value × AHeap) → CallV → (CallV → Tr Value → AHeap → RS) → RS) (@Prod.rec (Tr Value) AHeap (fun _ => CallV → (CallV → Tr Value → AHeap → RS) → RS) (fun a h call g => g call a h)) (fun i p _ _ => some (.exit i, p)) (fun p _ _ => some (.ret, p))
noncomputable def seqZ : RS → CallV → (CallV → Tr Value → AHeap → RS) → RS := @Option.rec (AExit × Tr Value × AHeap) (fun _ => CallV → (CallV → Tr Value → AHeap → RS) → RS) (fun _ _ => none) (@Prod.rec AExit (Tr Value × AHeap) (fun _ => CallV → (CallV → Tr Value → AHeap → RS) → RS) seqZE)
theorem seqZ_eq (x : RS) (call : CallV) (g : CallV → Tr Value → AHeap → RS) : seqZ x call g = match x with
    | some (.normal, a', h') => g call a' h'
    | r => r := by
  rcases x with _ | ⟨e, a, h⟩
  · rfl
  · cases e <;> rfl
noncomputable def condZ : Option Value → (Option Nat → CallV → Tr Value → AHeap → RS) → (Option Nat → CallV → Tr Value → AHeap → RS) → Option Nat → CallV → Tr Value → AHeap → RS := @Option.rec Value (fun _ => (Option Nat → CallV → Tr Value → AHeap → RS) → (Option Nat → CallV → Tr Value → AHeap → RS) → Option Nat → CallV → Tr Value → AHeap → RS) (fun _ _ _ _ _ _ => none) (@Value.rec (fun _ => (Option Nat → CallV → Tr Value → AHeap → RS) → (Option Nat → CallV → Tr Value → AHeap → RS) → Option Nat → CallV → Tr Value → AHeap → RS) (fun _ => Unit) (fun _ => Unit) (fun b x y rd call a h => @Bool.rec (fun _ => RS) (y rd call a h) (x rd call a h) b) (fun _ _ _ _ _ _ _ _ => none) (fun _ _ _ _ _ _ _ _ => none) (fun _ _ _ _ _ _ _ _ _ => none) (fun _ _ _ _ _ _ _ => none) (fun _ _ _ _ _ _ _ => none) (fun _ _ _ _ _ _ _ _ _ => none) (fun _ _ _ _ _ _ _ => none) (fun _ _ _ _ _ _ _ => none) (fun _ _ _ _ _ _ _ _ _ _ _ => none) (fun _ _ _ _ _ _ => none) (fun _ _ _ _ _ _ _ _ _ => none) (fun _ _ _ _ _ _ => none) (fun _ _ _ _ _ _ _ _ => none) (fun _ _ _ _ _ _ _ _ => none) (fun _ _ => ()) () (fun _ _ _ _ => ()))
@[irreducible] noncomputable def lim : Nat := 1000000
noncomputable def loopZ : Nat → (Option Nat → CallV → Tr Value → AHeap → RS) → Option Nat → CallV → Tr Value → AHeap → RS := @Nat.rec (fun _ => (Option Nat → CallV → Tr Value → AHeap → RS) → Option Nat → CallV → Tr Value → AHeap → RS) (fun _ _ _ _ _ => none) (fun _ ih f rd call a h => seqZ (f rd call a h) call (fun call a h => ih f rd call a h))
noncomputable def zRange (E : Env) (call : CallV) (cx : Cx) (f : Operand) (params : Array Tmp) (assign body : Code) (a : Tr Value) (h : AHeap) : Option (AExit × Tr Value × AHeap) :=
  match aopnd a f with
  | some fv => bif (match cx.rd with | none => true | some l => loopRow h l) then
      match call fv [.func (.yield h.next) #[] #[]] (h.new (.loop ⟨.ready, none, cx.fn, cx.nt, a, params, assign, body⟩)) with
      | some (_, h2) => match h2.get h.next with
        | some (.loop lp) => match lp.state, jumpExit lp.pending with
          | .busy, _ => none
          | _, some e => some (e, a, h2.kill h.next)
          | _, none => none
        | _ => none
      | none => none
    else none
  | none => none
noncomputable def compC : Code → Env → FuncId → Nat → BC :=
  @Code.rec (fun _ => Env → FuncId → Nat → BC)
    (fun _ _ _ => ⟨fun _ _ a h => some (.normal, a, h)⟩)
    (fun _ ops draw E _ nt => @Bool.rec (fun _ => BC) (@BR.rec (fun _ => BC) (fun r => ⟨fun _ call a h => regK (r call a h)⟩) (compOps ops.toList E ops nt)) (@BR.rec (fun _ => BC) (fun r => ⟨fun _ call a h => regK (r call a h)⟩) (compDrawn E ops nt)) draw)
    (fun _ _ ix iy E f nt => @BC.rec (fun _ => BC) (fun x => @BC.rec (fun _ => BC) (fun y => ⟨fun rd call a h => seqZ (x rd call a h) call (y rd)⟩) (iy E f nt)) (ix E f nt))
    (fun c _ _ ix iy E f nt => @BO.rec (fun _ => BC) (fun fc => @BC.rec (fun _ => BC) (fun x => @BC.rec (fun _ => BC) (fun y => ⟨fun rd call a h => condZ (fc a) x y rd call a h⟩) (iy E f nt)) (ix E f nt)) (compO c))
    (fun id _ ic E f nt => @BC.rec (fun _ => BC) (fun x => ⟨fun rd call a h => blkK (x rd call a h) id⟩) (ic E f nt))
    (fun _ ic E f nt => @BC.rec (fun _ => BC) (fun x => ⟨fun rd call a h => loopZ lim x rd call a h⟩) (ic E f nt))
    (fun fo params assign body _ _ E f nt => ⟨fun rd call a h => zRange E call ⟨f, nt, rd⟩ fo params assign body a h⟩)
    (fun id _ _ _ => ⟨fun _ _ a h => some (.exit id, a, h)⟩)
    (fun _ ic E f nt => ic E f nt)
    (fun _ _ _ _ => ⟨fun _ _ a h => some (.normal, a, h)⟩)
    (fun _ _ _ _ => ⟨fun _ _ _ _ => none⟩)
    (fun _ _ _ => ⟨fun _ _ a h => some (.ret, a, h)⟩)
    (fun _ _ _ _ => ⟨fun _ _ _ _ => none⟩)
noncomputable def zYield (E : Env) (call : CallV) (l : Nat) (vs : List Value) (h : AHeap) : Option (Value × AHeap) :=
  match h.get l with
  | some (.loop lp) => match bindParams lp.nt lp.params.toList vs lp.tmps with
    | some a0 => match (compC lp.assign E lp.fn lp.nt).run (some l) call a0 h with
      | some (.normal, a1, h1) => match h1.get l with
        | some (.loop lp1) => match lp1.state with
          | .ready => match (compC lp.body E lp.fn lp.nt).run (some l) call a1 (h1.set l (.loop (lp1.with .busy lp1.pending))) with
            | some (e, _, h2) => match h2.get l with
              | some (.loop lp2) => some (.bool (roundEnd lp2 e).2, h2.set l (.loop (roundEnd lp2 e).1))
              | _ => none
            | none => none
          | _ => none
        | _ => none
      | _ => none
    | none => none
  | _ => none
structure BV where
  run : Tr Value → AHeap → Option Value
structure BW where
  run : Tr Value → AHeap → Option (List Value)
noncomputable def loadV : Option Value → Tr TI → TypeId → AHeap → Option Value := @Option.rec Value (fun _ => Tr TI → TypeId → AHeap → Option Value) (fun _ _ _ => none) (fun v T t h => aLoad T t v h)
noncomputable def compRes (T : Tr TI) : ResultVar → BV := @ResultVar.rec (fun _ => BV) (fun t => @BO.rec (fun _ => BV) (fun g => ⟨fun a _ => g a⟩) (compGet t)) (fun x t => @BO.rec (fun _ => BV) (fun g => ⟨fun a h => loadV (g a) T t h⟩) (compGet x))
noncomputable def compRess (T : Tr TI) : List ResultVar → BW := @List.rec ResultVar (fun _ => BW) ⟨fun _ _ => some []⟩ (fun x _ ih => @BV.rec (fun _ => BW) (fun f => @BW.rec (fun _ => BW) (fun g => ⟨fun a h => cons2 (f a h) (g a h)⟩) ih) (compRes T x))
noncomputable def retV : Option (List Value) → Option Value := @Option.rec (List Value) (fun _ => Option Value) none (@List.rec Value (fun _ => Option Value) (some (.tuple ⟨[]⟩)) (fun v l _ => @List.rec Value (fun _ => Option Value) (some v) (fun w r _ => some (.tuple ⟨v :: w :: r⟩)) l))
noncomputable def compRet (T : Tr TI) (fn : Func) : BV := @BW.rec (fun _ => BV) (fun f => ⟨fun a h => retV (f a h)⟩) (compRess T fn.results.toList)
theorem compRes_eq (T : Tr TI) (a : Tr Value) (h : AHeap) (x : ResultVar) : (compRes T x).run a h = aResult T a h x := by
  cases x with
  | tmp t => exact compGet_eq t a
  | cell x t =>
    show loadV ((compGet x).run a) T t h = (match a.get x with
      | some v => aLoad T t v h
      | none => none)
    rw [compGet_eq]; cases a.get x <;> rfl
theorem compRess_eq (T : Tr TI) (a : Tr Value) (h : AHeap) : ∀ xs, (compRess T xs).run a h = aResults T a h xs
  | [] => rfl
  | x :: xs => by
    show cons2 ((compRes T x).run a h) ((compRess T xs).run a h) = (match aResult T a h x, aResults T a h xs with
      | some v, some l => some (v :: l)
      | _, _ => none)
    rw [compRes_eq, compRess_eq T a h xs]
    cases aResult T a h x with
    | none => rfl
    | some v => cases aResults T a h xs <;> rfl
theorem compRet_eq (T : Tr TI) (fn : Func) (a : Tr Value) (h : AHeap) : (compRet T fn).run a h = aRet T fn a h := by
  show retV ((compRess T fn.results.toList).run a h) = _
  rw [compRess_eq]
  unfold aRet
  cases aResults T a h fn.results.toList with
  | none => rfl
  | some l => rcases l with _ | ⟨v, _ | ⟨w, l⟩⟩ <;> rfl
structure BE where
  run : List Value → Tr Value → Tr Value
noncomputable def compEnt : Nat → Nat → BE := @Nat.rec (fun _ => Nat → BE) (fun i => ⟨fun vs t => entryF vs i t⟩) (fun _ ih i => @BE.rec (fun _ => BE) (fun r => @BP.rec (fun _ => BE) (fun q => ⟨fun vs t => @List.rec Value (fun _ => Tr Value → Tr Value) (fun t => t) (fun v vs _ t => r vs (q v t)) vs t⟩) (compPut i)) (ih (Nat.succ i)))
theorem compEnt_eq : ∀ (n i : Nat) (vs : List Value) (t : Tr Value), (compEnt n i).run vs t = entry vs i t
  | 0, i, vs, t => entryF_eq vs i t
  | n + 1, i, [], t => rfl
  | n + 1, i, v :: vs, t => by
    show (compEnt n (Nat.succ i)).run vs ((compPut i).run v t) = entry vs (i + 1) (t.put i (some v))
    rw [compEnt_eq n, compPut_eq]
noncomputable def exZ : AExit → Tr Value → AHeap → (Tr Value → AHeap → Option Value) → ZV := @AExit.rec (fun _ => Tr Value → AHeap → (Tr Value → AHeap → Option Value) → ZV) (fun a h f => rK (f a h) h) (fun _ _ _ _ => none) (fun a h f => rK (f a h) h)
noncomputable def retZ : RS → (Tr Value → AHeap → Option Value) → ZV := @Option.rec (AExit × Tr Value × AHeap) (fun _ => (Tr Value → AHeap → Option Value) → ZV) (fun _ => none) (@Prod.rec AExit (Tr Value × AHeap) (fun _ => (Tr Value → AHeap → Option Value) → ZV) (fun e p f => (@Prod.rec (Tr Value) AHeap (fun _ => AExit → (Tr Value → AHeap → Option Value) → ZV) (fun a h e f => exZ e a h f)) p e f))
structure BX where
  run : CallV → List Value → AHeap → ZV
noncomputable def compFn (c : Code) (E : Env) (f : FuncId) (fn : Func) : BX := @BC.rec (fun _ => BX) (fun x => @BV.rec (fun _ => BX) (fun r => @BE.rec (fun _ => BX) (fun e => ⟨fun call args h => retZ (x none call (e args .leaf) h) r⟩) (compEnt 6 0)) (compRet E.T fn)) (compC c E f fn.ntmps)
noncomputable def bodyZ : Option Code → Func → FuncId → Env → CallV → List Value → AHeap → ZV := @Option.rec Code (fun _ => Func → FuncId → Env → CallV → List Value → AHeap → ZV) (fun _ _ _ _ _ _ => none) (fun c fn f E call args h => (@Bool.rec (fun _ => BX → CallV → List Value → AHeap → ZV) (fun _ _ _ _ => none) (@BX.rec (fun _ => CallV → List Value → AHeap → ZV) (fun x call args h => x call args h))) (lenLeF args fn.ntmps) (compFn c E f fn) call args h)
noncomputable def funZ : Option Func → FuncId → Env → CallV → List Value → AHeap → ZV := @Option.rec Func (fun _ => FuncId → Env → CallV → List Value → AHeap → ZV) (fun _ _ _ _ _ => none) (fun fn f E call args h => bodyZ fn.body fn f E call args h)
noncomputable def sumZ : ZV → FuncId → Env → CallV → List Value → AHeap → ZV := @Option.rec (Value × AHeap) (fun _ => FuncId → Env → CallV → List Value → AHeap → ZV) (fun f E call args h => funZ (Tr.get E.F f) f E call args h) (fun p _ _ _ _ _ => some p)
noncomputable def zCall : FuncId → Env → CallV → List Value → AHeap → ZV := fun f E call args h => sumZ (E.S f args h) f E call args h
noncomputable def zVal : Value → List Value → Env → CallV → AHeap → ZV := @Value.rec (fun _ => List Value → Env → CallV → AHeap → ZV) (fun _ => Unit) (fun _ => Unit) (fun _ _ _ _ _ => none) (fun _ _ _ _ _ _ => none) (fun _ _ _ _ _ _ => none) (fun _ _ _ _ _ _ _ => none) (fun _ _ _ _ _ => none) (fun _ _ _ _ _ => none) (fun _ _ _ _ _ _ _ => none) (fun _ _ _ _ _ => none) (fun _ _ _ _ _ => none) (fun f u v _ _ => (@Fn.rec (fun _ => Array Value → Array Value → List Value → Env → CallV → AHeap → ZV) (fun f u v vs E call h => zCall f E call (appF u.toList (app2F v.toList vs)) h) (fun _ _ _ _ _ _ _ => none) (fun _ _ _ _ _ _ _ _ => none) (fun _ _ _ _ _ _ _ _ _ _ => none) (fun l u v vs E call h => bif u.isEmpty && v.isEmpty then zYield E call l vs h else none)) f u v) (fun _ _ _ _ => none) (fun _ _ _ _ _ _ _ => none) (fun _ _ _ _ => none) (fun _ _ _ _ _ _ => none) (fun _ _ _ _ _ _ => none) (fun _ _ => ()) () (fun _ _ _ _ => ())
noncomputable def evZ (E : Env) : Nat → CallV := @Nat.rec (fun _ => CallV) (fun _ _ _ => none) (fun _ ih fv vs h => zVal fv vs E ih h)
noncomputable def VSound (P : Program) (call : CallV) : Prop := ∀ fv vs h v h', call fv vs h = some (v, h') → VWp P fv vs h fun x y => x = v ∧ y = h'
section
variable {E : Env} (ok : EnvOK E)
include ok
theorem zOp_sound {call : CallV} (hv : VSound E.P call) (o : Oper) (ρ : Operand → Option Value) (h : AHeap) (v : Value) (h' : AHeap) (he : zOp E call o ρ h = some (v, h')) : OpWp E.P o ρ h fun x y => x = v ∧ y = h' := by
  obtain ⟨dst, op, ty, pos, after, guard⟩ := o
  unfold zOp at he
  split at he
  · rename_i f xs ats hop
    simp only at hop
    subst hop
    split at he
    · rename_i fv vs h1 h2
      exact OpWp.call h1 h2 (hv _ _ _ _ _ he)
    · cases he
  · exact aop_sound ok.ty he ⟨rfl, rfl⟩
theorem zOps_sound {call : CallV} (hv : VSound E.P call) {ops : Array Oper} {cx : Cx} : ∀ {os : List Oper} {i : Nat} {a a' : Tr Value} {h h' : AHeap}, ops.toList.drop i = os → zOps E call ops cx.nt os a h = some (a', h') →
    OWp E.P cx ops (List.range' i os.length) a h fun x y => x = a' ∧ y = h'
  | [], i, a, a', h, h', _, he => by simp only [zOps, Option.some.injEq, Prod.mk.injEq] at he; obtain ⟨rfl, rfl⟩ := he; exact OWp.nil ⟨rfl, rfl⟩
  | o :: os, i, a, a', h, h', hd, he => by
    have ho : ops[i]? = some o := by
      rw [← Array.getElem?_toList]
      have := congrArg (fun l : List Oper => l[0]?) hd
      simpa using this
    have hd1 : ops.toList.drop (i + 1) = os := by rw [← List.drop_drop, hd]; rfl
    simp only [zOps] at he
    rw [List.length_cons, List.range'_succ]
    split at he
    · rename_i hg
      cases hdf : isDefer o.op
      · rw [hdf, cond_false] at he
        split at he
        · rename_i v h1 hop
          split at he
          · rename_i a1 hp
            refine OWp.op ho hg hdf ((zOp_sound ok hv o _ _ _ _ hop).mono ?_)
            rintro x y ⟨rfl, rfl⟩
            exact ⟨a1, hp, zOps_sound hv hd1 he⟩
          · cases he
        · cases he
      · rw [hdf, cond_true] at he; cases he
    · rename_i hg
      split at he
      · rename_i a1 hp
        exact OWp.skip ho hg hp (zOps_sound hv hd1 he)
      · cases he
    · cases he
omit ok in
theorem zRange_sound {call : CallV} (hs : VSound E.P call) {cx : Cx} {f : Operand} {params : Array Tmp} {assign body : Code} {a a' : Tr Value} {h h' : AHeap} {e : AExit} (he : zRange E call cx f params assign body a h = some (e, a', h')) :
    CWp E.P cx (.rangeFunc f params assign body) a h fun e1 a1 h1 => e1 = e ∧ a1 = a' ∧ h1 = h' := by
  unfold zRange at he
  split at he
  · rename_i fv hf
    cases hrd : (match cx.rd with | none => true | some l => loopRow h l)
    · rw [hrd, cond_false] at he; cases he
    · rw [hrd, cond_true] at he
      split at he
      · rename_i x h2 hv
        split at he
        · rename_i lp hl
          have fin : ∀ e0, (lp.state == .busy) = false → jumpExit lp.pending = some e0 → some (e0, a, h2.kill h.next) = some (e, a', h') → CWp E.P cx (.rangeFunc f params assign body) a h fun e1 a1 h1 => e1 = e ∧ a1 = a' ∧ h1 = h' := by
            intro e0 hb hj heq
            simp only [Option.some.injEq, Prod.mk.injEq] at heq
            obtain ⟨rfl, rfl, rfl⟩ := heq
            refine CWp.rangeFunc hf (fun l hl => ?_) ((hs _ _ _ _ _ hv).mono ?_)
            · rw [hl] at hrd
              simp only [loopRow] at hrd
              split at hrd
              · rename_i lp0 h0; exact ⟨lp0, h0⟩
              · cases hrd
            · rintro u y ⟨rfl, rfl⟩
              exact ⟨lp, e0, hl, hb, hj, rfl, rfl, rfl⟩
          split at he
          · cases he
          · rename_i e0 hj hnb
            refine fin e0 ?_ hj he
            cases hst : lp.state <;> first | rfl | exact (hnb hst).elim
          · cases he
        · cases he
      · cases he
  · cases he
noncomputable abbrev Good (E : Env) (call : CallV) (f : FuncId) (nt : Nat) (c : Code) : Prop := ∀ rd a h e a' h', (compC c E f nt).run rd call a h = some (e, a', h') → CWp E.P ⟨f, nt, rd⟩ c a h fun e1 a1 h1 => e1 = e ∧ a1 = a' ∧ h1 = h'
omit ok in
theorem loop_good {call : CallV} {f : FuncId} {nt : Nat} {c : Code} (hc : Good E call f nt c) : ∀ (n : Nat) rd a h e a' h', loopZ n (compC c E f nt).run rd call a h = some (e, a', h') → CWp E.P ⟨f, nt, rd⟩ (.loop c) a h fun e1 a1 h1 => e1 = e ∧ a1 = a' ∧ h1 = h'
  | 0, rd, a, h, e, a', h', he => by cases he
  | n + 1, rd, a, h, e, a', h', he => by
    have he : seqZ ((compC c E f nt).run rd call a h) call (fun call a h => loopZ n (compC c E f nt).run rd call a h) = some (e, a', h') := he
    rw [seqZ_eq] at he
    refine CWp.loop1 ?_
    split at he
    · rename_i a1 h1 hx
      refine (hc _ _ _ _ _ _ hx).mono ?_
      rintro e1 a2 h2 ⟨rfl, rfl, rfl⟩
      exact loop_good hc n _ _ _ _ _ _ he
    · rename_i r hne
      refine (hc _ _ _ _ _ _ he).mono ?_
      rintro e1 a2 h2 ⟨rfl, rfl, rfl⟩
      cases e1 with
      | normal => exact (hne _ _ he).elim
      | exit i => exact ⟨rfl, rfl, rfl⟩
      | ret => exact ⟨rfl, rfl, rfl⟩
theorem compC_good {call : CallV} (hv : VSound E.P call) {f : FuncId} {nt : Nat} : ∀ c : Code, Good E call f nt c := by
  intro c
  induction c with
  | skip => intro rd a h e a' h' he; cases he; exact CWp.skip ⟨rfl, rfl, rfl⟩
  | label l => intro rd a h e a' h' he; cases he; exact CWp.label ⟨rfl, rfl, rfl⟩
  | region id ops draw =>
    intro rd a h e a' h' he
    have rg : ∀ x : RF, regK x = (match x with
      | some (a', h') => some (AExit.normal, a', h')
      | none => none) := by intro x; rcases x with _ | ⟨a, h⟩ <;> rfl
    cases draw with
    | false =>
      have he : regK ((compOps ops.toList E ops nt).run call a h) = some (e, a', h') := he
      rw [rg, compOps_eq] at he
      split at he
      · rename_i a1 h1 hr
        simp only [Option.some.injEq, Prod.mk.injEq] at he
        obtain ⟨rfl, rfl, rfl⟩ := he
        have := zOps_sound ok hv (cx := ⟨f, nt, rd⟩) (i := 0) (by simp) hr
        rw [Array.length_toList, ← List.range_eq_range'] at this
        refine CWp.region (fun μ base tmps defers rd w k cs p => ?_)
        obtain ⟨a2, h2, μ2, t2, w2, ⟨rfl, rfl⟩, q⟩ := this μ base tmps defers rd w k cs p
        exact ⟨_, _, μ2, t2, w2, ⟨rfl, rfl, rfl⟩, q⟩
      · cases he
    | true =>
      have he : regK ((compDrawn E ops nt).run call a h) = some (e, a', h') := he
      rw [rg] at he
      split at he
      · rename_i a1 h1 hr
        simp only [Option.some.injEq, Prod.mk.injEq] at he
        obtain ⟨rfl, rfl, rfl⟩ := he
        exact Nx.evDrawn_sound (cx := ⟨f, nt, rd⟩) ok.ty ok.mix (fun o ρ h u h' => zOp_sound ok hv o ρ h u h') (compDrawn_eq E call ops nt a h _ hr) ⟨rfl, rfl, rfl⟩
      · cases he
  | seq x y ix iy =>
    intro rd a h e a' h' he
    have he : seqZ ((compC x E f nt).run rd call a h) call ((compC y E f nt).run rd) = some (e, a', h') := he
    rw [seqZ_eq] at he
    refine CWp.seq ?_
    split at he
    · rename_i a1 h1 hx
      refine (ix _ _ _ _ _ _ hx).mono ?_
      rintro e1 a2 h2 ⟨rfl, rfl, rfl⟩
      exact iy _ _ _ _ _ _ he
    · rename_i r hne
      refine (ix _ _ _ _ _ _ he).mono ?_
      rintro e1 a2 h2 ⟨rfl, rfl, rfl⟩
      cases e1 with
      | normal => exact (hne _ _ he).elim
      | exit i => exact ⟨rfl, rfl, rfl⟩
      | ret => exact ⟨rfl, rfl, rfl⟩
  | cond c x y ix iy =>
    intro rd a h e a' h' he
    have he : condZ ((compO c).run a) (compC x E f nt).run (compC y E f nt).run rd call a h = some (e, a', h') := he
    rw [compO_eq] at he
    cases ht : aopnd a c with
    | none => rw [ht] at he; cases he
    | some v =>
      rw [ht] at he
      cases v with
      | bool t =>
        refine CWp.cond ht ?_
        cases t
        · exact iy _ _ _ _ _ _ he
        · exact ix _ _ _ _ _ _ he
      | _ => cases he
  | block id c ic =>
    intro rd a h e a' h' he
    have he : blkK ((compC c E f nt).run rd call a h) id = some (e, a', h') := he
    refine CWp.block ?_
    rcases hc : (compC c E f nt).run rd call a h with _ | ⟨e1, a1, h1⟩
    · rw [hc] at he; cases he
    · rw [hc] at he
      refine (ic _ _ _ _ _ _ hc).mono ?_
      rintro e2 a2 h2 ⟨rfl, rfl, rfl⟩
      cases e2 with
      | normal => cases he; exact ⟨rfl, rfl, rfl⟩
      | ret => cases he; exact ⟨rfl, rfl, rfl⟩
      | exit i =>
        have he : some (@Bool.rec (fun _ => AExit) (.exit i) .normal (Nat.beq i id), a2, h2) = some (e, a', h') := he
        by_cases hi : i = id
        · subst hi
          rw [show Nat.beq i i = true from Nat.beq_refl i] at he
          cases he
          simp
        · have : Nat.beq i id = false := by
            cases hb : Nat.beq i id
            · rfl
            · exact (hi (Nat.eq_of_beq_eq_true hb)).elim
          rw [this] at he
          cases he
          simp [hi]
  | loop c ic => intro rd a h e a' h' he; exact loop_good ic lim _ _ _ _ _ _ he
  | rangeFunc fo params assign body _ _ => intro rd a h e a' h' he; exact zRange_sound hv (cx := ⟨f, nt, rd⟩) he
  | exit id => intro rd a h e a' h' he; cases he; exact CWp.exit ⟨rfl, rfl, rfl⟩
  | scope c ic => intro rd a h e a' h' he; exact CWp.scope (ic _ _ _ _ _ _ he)
  | goto l => intro rd a h e a' h' he; cases he
  | ret => intro rd a h e a' h' he; cases he; exact CWp.ret ⟨rfl, rfl, rfl⟩
  | refuse w => intro rd a h e a' h' he; cases he
theorem zYield_sound {call : CallV} (hv : VSound E.P call) {l : Nat} {vs : List Value} {h h' : AHeap} {v : Value} (he : zYield E call l vs h = some (v, h')) : VWp E.P (.func (.yield l) #[] #[]) vs h fun x y => x = v ∧ y = h' := by
  unfold zYield at he
  split at he
  · rename_i lp hl
    split at he
    · rename_i a0 ha0
      split at he
      · rename_i a1 h1 hc
        split at he
        · rename_i lp1 hl1
          split at he
          · rename_i hst
            split at he
            · rename_i e a2 h2 hc2
              split at he
              · rename_i lp2 hl2
                simp only [Option.some.injEq, Prod.mk.injEq] at he
                obtain ⟨rfl, rfl⟩ := he
                refine VWp.yield hl ha0 ((compC_good ok hv _ _ _ _ _ _ _ hc).mono ?_)
                rintro e1 a1' h1' ⟨rfl, rfl, rfl⟩
                refine ⟨rfl, lp1, hl1, hst, (compC_good ok hv _ _ _ _ _ _ _ hc2).mono ?_⟩
                rintro e2 a2' h2' ⟨rfl, rfl, rfl⟩
                exact ⟨lp2, hl2, rfl, rfl⟩
              · cases he
            · cases he
          · cases he
        · cases he
      · cases he
    · cases he
  · cases he
theorem zCall_sound {call : CallV} (hv : VSound E.P call) {f : FuncId} {args : List Value} {h h' : AHeap} {v : Value} (he : zCall f E call args h = some (v, h')) : (∃ fn, Entered E.P f fn) ∧ FWp E.P f args h fun x y => x = v ∧ y = h' := by
  have he : sumZ (E.S f args h) f E call args h = some (v, h') := he
  cases hr : E.S f args h with
  | some r => rw [hr] at he; cases he; exact ok.sum _ _ _ _ _ hr
  | none =>
    rw [hr] at he
    have he : funZ (E.F.get f) f E call args h = some (v, h') := he
    cases hf : E.F.get f with
    | none => rw [hf] at he; cases he
    | some fn =>
      rw [hf] at he
      have he : bodyZ fn.body fn f E call args h = some (v, h') := he
      cases hb : fn.body with
      | none => rw [hb] at he; cases he
      | some c =>
        rw [hb] at he
        have he : (@Bool.rec (fun _ => BX → CallV → List Value → AHeap → ZV) (fun _ _ _ _ => none) (@BX.rec (fun _ => CallV → List Value → AHeap → ZV) (fun x call args h => x call args h))) (lenLeF args fn.ntmps) (compFn c E f fn) call args h = some (v, h') := he
        rw [lenLeF_eq] at he
        cases hl : Nat.ble args.length fn.ntmps
        · rw [hl] at he; cases he
        · rw [hl] at he
          refine ⟨⟨fn, ok.fn f fn hf⟩, ?_⟩
          have he : retZ ((compC c E f fn.ntmps).run none call ((compEnt 6 0).run args .leaf) h) (compRet E.T fn).run = some (v, h') := he
          rw [compEnt_eq] at he
          rcases hc : (compC c E f fn.ntmps).run none call (entry args 0 .leaf) h with _ | ⟨e, a1, h1⟩
          · rw [hc] at he; cases he
          · rw [hc] at he
            have go : ∀ {e : AExit}, (compC c E f fn.ntmps).run none call (entry args 0 .leaf) h = some (e, a1, h1) → (e = .normal ∨ e = .ret) → rK ((compRet E.T fn).run a1 h1) h1 = some (v, h') → FWp E.P f args h fun x y => x = v ∧ y = h' := by
              intro e hc hee he
              rw [compRet_eq] at he
              cases hu : aRet E.T fn a1 h1 with
              | none => rw [hu] at he; cases he
              | some u =>
                rw [hu] at he
                cases he
                refine FWp.code ok.ty (ok.fn f fn hf).look hb (Nat.le_of_ble_eq_true hl) ((compC_good ok hv _ _ _ _ _ _ _ hc).mono ?_)
                rintro e1 a2 h2 ⟨rfl, rfl, rfl⟩
                rcases hee with rfl | rfl <;> exact ⟨_, hu, rfl, rfl⟩
            cases e with
            | normal => exact go hc (.inl rfl) he
            | exit i => cases he
            | ret => exact go hc (.inr rfl) he
theorem zVal_sound {call : CallV} (hv : VSound E.P call) : VSound E.P fun fv vs h => zVal fv vs E call h := by
  intro fv vs h v h' he
  cases fv with
  | func f first cap =>
    cases f with
    | func f =>
      have he : zCall f E call (appF first.toList (app2F cap.toList vs)) h = some (v, h') := he
      rw [appF_eq, app2F_eq, ← List.append_assoc] at he
      obtain ⟨⟨fn, h1⟩, h2⟩ := zCall_sound ok hv he
      exact VWp.func h1 h2
    | yield l =>
      have he : (bif first.isEmpty && cap.isEmpty then zYield E call l vs h else none) = some (v, h') := he
      cases hb : first.isEmpty && cap.isEmpty
      · rw [hb, cond_false] at he; cases he
      · rw [hb, cond_true] at he
        simp only [Bool.and_eq_true, Array.isEmpty_iff] at hb
        obtain ⟨rfl, rfl⟩ := hb
        exact zYield_sound ok hv he
    | _ => cases he
  | _ => cases he
theorem evZ_sound : ∀ n, VSound E.P (evZ E n)
  | 0 => fun _ _ _ _ _ he => by cases he
  | n + 1 => zVal_sound ok (evZ_sound n)
end
end Go.Ab.Nx.Zx
