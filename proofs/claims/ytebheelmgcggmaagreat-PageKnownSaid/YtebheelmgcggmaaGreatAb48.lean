/-
  The evaluator once more, written so that the kernel copies little: a closed recursor for each choice, and what comes behind handed on. It is the same function. (Printed by gen48.py.)
-/
import Derived.Test.YtebheelmgcggmaaGreatAb47
namespace Go.Ab
namespace Tr
noncomputable def selV1 : D8 → N8 (Option Value) → Option Value := @D8.rec (fun _ => N8 (Option Value) → Option Value) (fun t => t.c0) (fun t => t.c1) (fun t => t.c2) (fun t => t.c3) (fun t => t.c4) (fun t => t.c5) (fun t => t.c6) (fun t => t.c7)
noncomputable def updV1 : D8 → (Option Value → Option Value) → N8 (Option Value) → N8 (Option Value) := @D8.rec (fun _ => (Option Value → Option Value) → N8 (Option Value) → N8 (Option Value)) (fun f t => @N8.rec (Option Value) (fun _ => (Option Value → Option Value) → N8 (Option Value)) (fun c0 c1 c2 c3 c4 c5 c6 c7 f => ⟨f c0, c1, c2, c3, c4, c5, c6, c7⟩) t f) (fun f t => @N8.rec (Option Value) (fun _ => (Option Value → Option Value) → N8 (Option Value)) (fun c0 c1 c2 c3 c4 c5 c6 c7 f => ⟨c0, f c1, c2, c3, c4, c5, c6, c7⟩) t f) (fun f t => @N8.rec (Option Value) (fun _ => (Option Value → Option Value) → N8 (Option Value)) (fun c0 c1 c2 c3 c4 c5 c6 c7 f => ⟨c0, c1, f c2, c3, c4, c5, c6, c7⟩) t f) (fun f t => @N8.rec (Option Value) (fun _ => (Option Value → Option Value) → N8 (Option Value)) (fun c0 c1 c2 c3 c4 c5 c6 c7 f => ⟨c0, c1, c2, f c3, c4, c5, c6, c7⟩) t f) (fun f t => @N8.rec (Option Value) (fun _ => (Option Value → Option Value) → N8 (Option Value)) (fun c0 c1 c2 c3 c4 c5 c6 c7 f => ⟨c0, c1, c2, c3, f c4, c5, c6, c7⟩) t f) (fun f t => @N8.rec (Option Value) (fun _ => (Option Value → Option Value) → N8 (Option Value)) (fun c0 c1 c2 c3 c4 c5 c6 c7 f => ⟨c0, c1, c2, c3, c4, f c5, c6, c7⟩) t f) (fun f t => @N8.rec (Option Value) (fun _ => (Option Value → Option Value) → N8 (Option Value)) (fun c0 c1 c2 c3 c4 c5 c6 c7 f => ⟨c0, c1, c2, c3, c4, c5, f c6, c7⟩) t f) (fun f t => @N8.rec (Option Value) (fun _ => (Option Value → Option Value) → N8 (Option Value)) (fun c0 c1 c2 c3 c4 c5 c6 c7 f => ⟨c0, c1, c2, c3, c4, c5, c6, f c7⟩) t f)
noncomputable def selV2 : D8 → N8 (N8 (Option Value)) → N8 (Option Value) := @D8.rec (fun _ => N8 (N8 (Option Value)) → N8 (Option Value)) (fun t => t.c0) (fun t => t.c1) (fun t => t.c2) (fun t => t.c3) (fun t => t.c4) (fun t => t.c5) (fun t => t.c6) (fun t => t.c7)
noncomputable def updV2 : D8 → (N8 (Option Value) → N8 (Option Value)) → N8 (N8 (Option Value)) → N8 (N8 (Option Value)) := @D8.rec (fun _ => (N8 (Option Value) → N8 (Option Value)) → N8 (N8 (Option Value)) → N8 (N8 (Option Value))) (fun f t => @N8.rec (N8 (Option Value)) (fun _ => (N8 (Option Value) → N8 (Option Value)) → N8 (N8 (Option Value))) (fun c0 c1 c2 c3 c4 c5 c6 c7 f => ⟨f c0, c1, c2, c3, c4, c5, c6, c7⟩) t f) (fun f t => @N8.rec (N8 (Option Value)) (fun _ => (N8 (Option Value) → N8 (Option Value)) → N8 (N8 (Option Value))) (fun c0 c1 c2 c3 c4 c5 c6 c7 f => ⟨c0, f c1, c2, c3, c4, c5, c6, c7⟩) t f) (fun f t => @N8.rec (N8 (Option Value)) (fun _ => (N8 (Option Value) → N8 (Option Value)) → N8 (N8 (Option Value))) (fun c0 c1 c2 c3 c4 c5 c6 c7 f => ⟨c0, c1, f c2, c3, c4, c5, c6, c7⟩) t f) (fun f t => @N8.rec (N8 (Option Value)) (fun _ => (N8 (Option Value) → N8 (Option Value)) → N8 (N8 (Option Value))) (fun c0 c1 c2 c3 c4 c5 c6 c7 f => ⟨c0, c1, c2, f c3, c4, c5, c6, c7⟩) t f) (fun f t => @N8.rec (N8 (Option Value)) (fun _ => (N8 (Option Value) → N8 (Option Value)) → N8 (N8 (Option Value))) (fun c0 c1 c2 c3 c4 c5 c6 c7 f => ⟨c0, c1, c2, c3, f c4, c5, c6, c7⟩) t f) (fun f t => @N8.rec (N8 (Option Value)) (fun _ => (N8 (Option Value) → N8 (Option Value)) → N8 (N8 (Option Value))) (fun c0 c1 c2 c3 c4 c5 c6 c7 f => ⟨c0, c1, c2, c3, c4, f c5, c6, c7⟩) t f) (fun f t => @N8.rec (N8 (Option Value)) (fun _ => (N8 (Option Value) → N8 (Option Value)) → N8 (N8 (Option Value))) (fun c0 c1 c2 c3 c4 c5 c6 c7 f => ⟨c0, c1, c2, c3, c4, c5, f c6, c7⟩) t f) (fun f t => @N8.rec (N8 (Option Value)) (fun _ => (N8 (Option Value) → N8 (Option Value)) → N8 (N8 (Option Value))) (fun c0 c1 c2 c3 c4 c5 c6 c7 f => ⟨c0, c1, c2, c3, c4, c5, c6, f c7⟩) t f)
noncomputable def selV3 : D8 → N8 (N8 (N8 (Option Value))) → N8 (N8 (Option Value)) := @D8.rec (fun _ => N8 (N8 (N8 (Option Value))) → N8 (N8 (Option Value))) (fun t => t.c0) (fun t => t.c1) (fun t => t.c2) (fun t => t.c3) (fun t => t.c4) (fun t => t.c5) (fun t => t.c6) (fun t => t.c7)
noncomputable def updV3 : D8 → (N8 (N8 (Option Value)) → N8 (N8 (Option Value))) → N8 (N8 (N8 (Option Value))) → N8 (N8 (N8 (Option Value))) := @D8.rec (fun _ => (N8 (N8 (Option Value)) → N8 (N8 (Option Value))) → N8 (N8 (N8 (Option Value))) → N8 (N8 (N8 (Option Value)))) (fun f t => @N8.rec (N8 (N8 (Option Value))) (fun _ => (N8 (N8 (Option Value)) → N8 (N8 (Option Value))) → N8 (N8 (N8 (Option Value)))) (fun c0 c1 c2 c3 c4 c5 c6 c7 f => ⟨f c0, c1, c2, c3, c4, c5, c6, c7⟩) t f) (fun f t => @N8.rec (N8 (N8 (Option Value))) (fun _ => (N8 (N8 (Option Value)) → N8 (N8 (Option Value))) → N8 (N8 (N8 (Option Value)))) (fun c0 c1 c2 c3 c4 c5 c6 c7 f => ⟨c0, f c1, c2, c3, c4, c5, c6, c7⟩) t f) (fun f t => @N8.rec (N8 (N8 (Option Value))) (fun _ => (N8 (N8 (Option Value)) → N8 (N8 (Option Value))) → N8 (N8 (N8 (Option Value)))) (fun c0 c1 c2 c3 c4 c5 c6 c7 f => ⟨c0, c1, f c2, c3, c4, c5, c6, c7⟩) t f) (fun f t => @N8.rec (N8 (N8 (Option Value))) (fun _ => (N8 (N8 (Option Value)) → N8 (N8 (Option Value))) → N8 (N8 (N8 (Option Value)))) (fun c0 c1 c2 c3 c4 c5 c6 c7 f => ⟨c0, c1, c2, f c3, c4, c5, c6, c7⟩) t f) (fun f t => @N8.rec (N8 (N8 (Option Value))) (fun _ => (N8 (N8 (Option Value)) → N8 (N8 (Option Value))) → N8 (N8 (N8 (Option Value)))) (fun c0 c1 c2 c3 c4 c5 c6 c7 f => ⟨c0, c1, c2, c3, f c4, c5, c6, c7⟩) t f) (fun f t => @N8.rec (N8 (N8 (Option Value))) (fun _ => (N8 (N8 (Option Value)) → N8 (N8 (Option Value))) → N8 (N8 (N8 (Option Value)))) (fun c0 c1 c2 c3 c4 c5 c6 c7 f => ⟨c0, c1, c2, c3, c4, f c5, c6, c7⟩) t f) (fun f t => @N8.rec (N8 (N8 (Option Value))) (fun _ => (N8 (N8 (Option Value)) → N8 (N8 (Option Value))) → N8 (N8 (N8 (Option Value)))) (fun c0 c1 c2 c3 c4 c5 c6 c7 f => ⟨c0, c1, c2, c3, c4, c5, f c6, c7⟩) t f) (fun f t => @N8.rec (N8 (N8 (Option Value))) (fun _ => (N8 (N8 (Option Value)) → N8 (N8 (Option Value))) → N8 (N8 (N8 (Option Value)))) (fun c0 c1 c2 c3 c4 c5 c6 c7 f => ⟨c0, c1, c2, c3, c4, c5, c6, f c7⟩) t f)
noncomputable def selV4 : D8 → N8 (N8 (N8 (N8 (Option Value)))) → N8 (N8 (N8 (Option Value))) := @D8.rec (fun _ => N8 (N8 (N8 (N8 (Option Value)))) → N8 (N8 (N8 (Option Value)))) (fun t => t.c0) (fun t => t.c1) (fun t => t.c2) (fun t => t.c3) (fun t => t.c4) (fun t => t.c5) (fun t => t.c6) (fun t => t.c7)
noncomputable def updV4 : D8 → (N8 (N8 (N8 (Option Value))) → N8 (N8 (N8 (Option Value)))) → N8 (N8 (N8 (N8 (Option Value)))) → N8 (N8 (N8 (N8 (Option Value)))) := @D8.rec (fun _ => (N8 (N8 (N8 (Option Value))) → N8 (N8 (N8 (Option Value)))) → N8 (N8 (N8 (N8 (Option Value)))) → N8 (N8 (N8 (N8 (Option Value))))) (fun f t => @N8.rec (N8 (N8 (N8 (Option Value)))) (fun _ => (N8 (N8 (N8 (Option Value))) → N8 (N8 (N8 (Option Value)))) → N8 (N8 (N8 (N8 (Option Value))))) (fun c0 c1 c2 c3 c4 c5 c6 c7 f => ⟨f c0, c1, c2, c3, c4, c5, c6, c7⟩) t f) (fun f t => @N8.rec (N8 (N8 (N8 (Option Value)))) (fun _ => (N8 (N8 (N8 (Option Value))) → N8 (N8 (N8 (Option Value)))) → N8 (N8 (N8 (N8 (Option Value))))) (fun c0 c1 c2 c3 c4 c5 c6 c7 f => ⟨c0, f c1, c2, c3, c4, c5, c6, c7⟩) t f) (fun f t => @N8.rec (N8 (N8 (N8 (Option Value)))) (fun _ => (N8 (N8 (N8 (Option Value))) → N8 (N8 (N8 (Option Value)))) → N8 (N8 (N8 (N8 (Option Value))))) (fun c0 c1 c2 c3 c4 c5 c6 c7 f => ⟨c0, c1, f c2, c3, c4, c5, c6, c7⟩) t f) (fun f t => @N8.rec (N8 (N8 (N8 (Option Value)))) (fun _ => (N8 (N8 (N8 (Option Value))) → N8 (N8 (N8 (Option Value)))) → N8 (N8 (N8 (N8 (Option Value))))) (fun c0 c1 c2 c3 c4 c5 c6 c7 f => ⟨c0, c1, c2, f c3, c4, c5, c6, c7⟩) t f) (fun f t => @N8.rec (N8 (N8 (N8 (Option Value)))) (fun _ => (N8 (N8 (N8 (Option Value))) → N8 (N8 (N8 (Option Value)))) → N8 (N8 (N8 (N8 (Option Value))))) (fun c0 c1 c2 c3 c4 c5 c6 c7 f => ⟨c0, c1, c2, c3, f c4, c5, c6, c7⟩) t f) (fun f t => @N8.rec (N8 (N8 (N8 (Option Value)))) (fun _ => (N8 (N8 (N8 (Option Value))) → N8 (N8 (N8 (Option Value)))) → N8 (N8 (N8 (N8 (Option Value))))) (fun c0 c1 c2 c3 c4 c5 c6 c7 f => ⟨c0, c1, c2, c3, c4, f c5, c6, c7⟩) t f) (fun f t => @N8.rec (N8 (N8 (N8 (Option Value)))) (fun _ => (N8 (N8 (N8 (Option Value))) → N8 (N8 (N8 (Option Value)))) → N8 (N8 (N8 (N8 (Option Value))))) (fun c0 c1 c2 c3 c4 c5 c6 c7 f => ⟨c0, c1, c2, c3, c4, c5, f c6, c7⟩) t f) (fun f t => @N8.rec (N8 (N8 (N8 (Option Value)))) (fun _ => (N8 (N8 (N8 (Option Value))) → N8 (N8 (N8 (Option Value)))) → N8 (N8 (N8 (N8 (Option Value))))) (fun c0 c1 c2 c3 c4 c5 c6 c7 f => ⟨c0, c1, c2, c3, c4, c5, c6, f c7⟩) t f)
noncomputable def selV5 : D8 → N8 (N8 (N8 (N8 (N8 (Option Value))))) → N8 (N8 (N8 (N8 (Option Value)))) := @D8.rec (fun _ => N8 (N8 (N8 (N8 (N8 (Option Value))))) → N8 (N8 (N8 (N8 (Option Value))))) (fun t => t.c0) (fun t => t.c1) (fun t => t.c2) (fun t => t.c3) (fun t => t.c4) (fun t => t.c5) (fun t => t.c6) (fun t => t.c7)
noncomputable def updV5 : D8 → (N8 (N8 (N8 (N8 (Option Value)))) → N8 (N8 (N8 (N8 (Option Value))))) → N8 (N8 (N8 (N8 (N8 (Option Value))))) → N8 (N8 (N8 (N8 (N8 (Option Value))))) := @D8.rec (fun _ => (N8 (N8 (N8 (N8 (Option Value)))) → N8 (N8 (N8 (N8 (Option Value))))) → N8 (N8 (N8 (N8 (N8 (Option Value))))) → N8 (N8 (N8 (N8 (N8 (Option Value)))))) (fun f t => @N8.rec (N8 (N8 (N8 (N8 (Option Value))))) (fun _ => (N8 (N8 (N8 (N8 (Option Value)))) → N8 (N8 (N8 (N8 (Option Value))))) → N8 (N8 (N8 (N8 (N8 (Option Value)))))) (fun c0 c1 c2 c3 c4 c5 c6 c7 f => ⟨f c0, c1, c2, c3, c4, c5, c6, c7⟩) t f) (fun f t => @N8.rec (N8 (N8 (N8 (N8 (Option Value))))) (fun _ => (N8 (N8 (N8 (N8 (Option Value)))) → N8 (N8 (N8 (N8 (Option Value))))) → N8 (N8 (N8 (N8 (N8 (Option Value)))))) (fun c0 c1 c2 c3 c4 c5 c6 c7 f => ⟨c0, f c1, c2, c3, c4, c5, c6, c7⟩) t f) (fun f t => @N8.rec (N8 (N8 (N8 (N8 (Option Value))))) (fun _ => (N8 (N8 (N8 (N8 (Option Value)))) → N8 (N8 (N8 (N8 (Option Value))))) → N8 (N8 (N8 (N8 (N8 (Option Value)))))) (fun c0 c1 c2 c3 c4 c5 c6 c7 f => ⟨c0, c1, f c2, c3, c4, c5, c6, c7⟩) t f) (fun f t => @N8.rec (N8 (N8 (N8 (N8 (Option Value))))) (fun _ => (N8 (N8 (N8 (N8 (Option Value)))) → N8 (N8 (N8 (N8 (Option Value))))) → N8 (N8 (N8 (N8 (N8 (Option Value)))))) (fun c0 c1 c2 c3 c4 c5 c6 c7 f => ⟨c0, c1, c2, f c3, c4, c5, c6, c7⟩) t f) (fun f t => @N8.rec (N8 (N8 (N8 (N8 (Option Value))))) (fun _ => (N8 (N8 (N8 (N8 (Option Value)))) → N8 (N8 (N8 (N8 (Option Value))))) → N8 (N8 (N8 (N8 (N8 (Option Value)))))) (fun c0 c1 c2 c3 c4 c5 c6 c7 f => ⟨c0, c1, c2, c3, f c4, c5, c6, c7⟩) t f) (fun f t => @N8.rec (N8 (N8 (N8 (N8 (Option Value))))) (fun _ => (N8 (N8 (N8 (N8 (Option Value)))) → N8 (N8 (N8 (N8 (Option Value))))) → N8 (N8 (N8 (N8 (N8 (Option Value)))))) (fun c0 c1 c2 c3 c4 c5 c6 c7 f => ⟨c0, c1, c2, c3, c4, f c5, c6, c7⟩) t f) (fun f t => @N8.rec (N8 (N8 (N8 (N8 (Option Value))))) (fun _ => (N8 (N8 (N8 (N8 (Option Value)))) → N8 (N8 (N8 (N8 (Option Value))))) → N8 (N8 (N8 (N8 (N8 (Option Value)))))) (fun c0 c1 c2 c3 c4 c5 c6 c7 f => ⟨c0, c1, c2, c3, c4, c5, f c6, c7⟩) t f) (fun f t => @N8.rec (N8 (N8 (N8 (N8 (Option Value))))) (fun _ => (N8 (N8 (N8 (N8 (Option Value)))) → N8 (N8 (N8 (N8 (Option Value))))) → N8 (N8 (N8 (N8 (N8 (Option Value)))))) (fun c0 c1 c2 c3 c4 c5 c6 c7 f => ⟨c0, c1, c2, c3, c4, c5, c6, f c7⟩) t f)
noncomputable def selV6 : D8 → N8 (N8 (N8 (N8 (N8 (N8 (Option Value)))))) → N8 (N8 (N8 (N8 (N8 (Option Value))))) := @D8.rec (fun _ => N8 (N8 (N8 (N8 (N8 (N8 (Option Value)))))) → N8 (N8 (N8 (N8 (N8 (Option Value)))))) (fun t => t.c0) (fun t => t.c1) (fun t => t.c2) (fun t => t.c3) (fun t => t.c4) (fun t => t.c5) (fun t => t.c6) (fun t => t.c7)
noncomputable def updV6 : D8 → (N8 (N8 (N8 (N8 (N8 (Option Value))))) → N8 (N8 (N8 (N8 (N8 (Option Value)))))) → N8 (N8 (N8 (N8 (N8 (N8 (Option Value)))))) → N8 (N8 (N8 (N8 (N8 (N8 (Option Value)))))) := @D8.rec (fun _ => (N8 (N8 (N8 (N8 (N8 (Option Value))))) → N8 (N8 (N8 (N8 (N8 (Option Value)))))) → N8 (N8 (N8 (N8 (N8 (N8 (Option Value)))))) → N8 (N8 (N8 (N8 (N8 (N8 (Option Value))))))) (fun f t => @N8.rec (N8 (N8 (N8 (N8 (N8 (Option Value)))))) (fun _ => (N8 (N8 (N8 (N8 (N8 (Option Value))))) → N8 (N8 (N8 (N8 (N8 (Option Value)))))) → N8 (N8 (N8 (N8 (N8 (N8 (Option Value))))))) (fun c0 c1 c2 c3 c4 c5 c6 c7 f => ⟨f c0, c1, c2, c3, c4, c5, c6, c7⟩) t f) (fun f t => @N8.rec (N8 (N8 (N8 (N8 (N8 (Option Value)))))) (fun _ => (N8 (N8 (N8 (N8 (N8 (Option Value))))) → N8 (N8 (N8 (N8 (N8 (Option Value)))))) → N8 (N8 (N8 (N8 (N8 (N8 (Option Value))))))) (fun c0 c1 c2 c3 c4 c5 c6 c7 f => ⟨c0, f c1, c2, c3, c4, c5, c6, c7⟩) t f) (fun f t => @N8.rec (N8 (N8 (N8 (N8 (N8 (Option Value)))))) (fun _ => (N8 (N8 (N8 (N8 (N8 (Option Value))))) → N8 (N8 (N8 (N8 (N8 (Option Value)))))) → N8 (N8 (N8 (N8 (N8 (N8 (Option Value))))))) (fun c0 c1 c2 c3 c4 c5 c6 c7 f => ⟨c0, c1, f c2, c3, c4, c5, c6, c7⟩) t f) (fun f t => @N8.rec (N8 (N8 (N8 (N8 (N8 (Option Value)))))) (fun _ => (N8 (N8 (N8 (N8 (N8 (Option Value))))) → N8 (N8 (N8 (N8 (N8 (Option Value)))))) → N8 (N8 (N8 (N8 (N8 (N8 (Option Value))))))) (fun c0 c1 c2 c3 c4 c5 c6 c7 f => ⟨c0, c1, c2, f c3, c4, c5, c6, c7⟩) t f) (fun f t => @N8.rec (N8 (N8 (N8 (N8 (N8 (Option Value)))))) (fun _ => (N8 (N8 (N8 (N8 (N8 (Option Value))))) → N8 (N8 (N8 (N8 (N8 (Option Value)))))) → N8 (N8 (N8 (N8 (N8 (N8 (Option Value))))))) (fun c0 c1 c2 c3 c4 c5 c6 c7 f => ⟨c0, c1, c2, c3, f c4, c5, c6, c7⟩) t f) (fun f t => @N8.rec (N8 (N8 (N8 (N8 (N8 (Option Value)))))) (fun _ => (N8 (N8 (N8 (N8 (N8 (Option Value))))) → N8 (N8 (N8 (N8 (N8 (Option Value)))))) → N8 (N8 (N8 (N8 (N8 (N8 (Option Value))))))) (fun c0 c1 c2 c3 c4 c5 c6 c7 f => ⟨c0, c1, c2, c3, c4, f c5, c6, c7⟩) t f) (fun f t => @N8.rec (N8 (N8 (N8 (N8 (N8 (Option Value)))))) (fun _ => (N8 (N8 (N8 (N8 (N8 (Option Value))))) → N8 (N8 (N8 (N8 (N8 (Option Value)))))) → N8 (N8 (N8 (N8 (N8 (N8 (Option Value))))))) (fun c0 c1 c2 c3 c4 c5 c6 c7 f => ⟨c0, c1, c2, c3, c4, c5, f c6, c7⟩) t f) (fun f t => @N8.rec (N8 (N8 (N8 (N8 (N8 (Option Value)))))) (fun _ => (N8 (N8 (N8 (N8 (N8 (Option Value))))) → N8 (N8 (N8 (N8 (N8 (Option Value)))))) → N8 (N8 (N8 (N8 (N8 (N8 (Option Value))))))) (fun c0 c1 c2 c3 c4 c5 c6 c7 f => ⟨c0, c1, c2, c3, c4, c5, c6, f c7⟩) t f)
noncomputable def atV : TPath → N8 (N8 (Option Value)) → N8 (N8 (N8 (N8 (Option Value)))) → N8 (N8 (N8 (N8 (N8 (N8 (Option Value)))))) → (Nat → Option Value) → Option Value := @TPath.rec (fun _ => N8 (N8 (Option Value)) → N8 (N8 (N8 (N8 (Option Value)))) → N8 (N8 (N8 (N8 (N8 (N8 (Option Value)))))) → (Nat → Option Value) → Option Value) (fun d0 d1 s _ _ _ => selV1 d1 (selV2 d0 s)) (fun d0 d1 d2 d3 _ b _ _ => selV1 d3 (selV2 d2 (selV3 d1 (selV4 d0 b)))) (fun d0 d1 d2 d3 d4 d5 _ _ c _ => selV1 d5 (selV2 d4 (selV3 d3 (selV4 d2 (selV5 d1 (selV6 d0 c)))))) (fun n _ _ _ r => r n)
noncomputable def toV : TPath → Option Value → N8 (N8 (Option Value)) → N8 (N8 (N8 (N8 (Option Value)))) → N8 (N8 (N8 (N8 (N8 (N8 (Option Value)))))) → (Nat → Option Value) → Tr Value := @TPath.rec (fun _ => Option Value → N8 (N8 (Option Value)) → N8 (N8 (N8 (N8 (Option Value)))) → N8 (N8 (N8 (N8 (N8 (N8 (Option Value)))))) → (Nat → Option Value) → Tr Value) (fun d0 d1 x s b c r => .full (updV2 d0 (updV1 d1 (fun _ => x)) s) b c r) (fun d0 d1 d2 d3 x s b c r => .full s (updV4 d0 (updV3 d1 (updV2 d2 (updV1 d3 (fun _ => x)))) b) c r) (fun d0 d1 d2 d3 d4 d5 x s b c r => .full s b (updV6 d0 (updV5 d1 (updV4 d2 (updV3 d3 (updV2 d4 (updV1 d5 (fun _ => x)))))) c) r) (fun n x s b c r => .full s b c (fun m => @Bool.rec (fun _ => Option Value) (r m) x (Nat.beq n m)))
noncomputable def getV : Tr Value → Nat → Option Value := @Tr.rec Value (fun _ => Nat → Option Value) (fun _ => none) (fun s b c r n => atV (TPath.of n) s b c r)
noncomputable def putV : Tr Value → Nat → Option Value → Tr Value := @Tr.rec Value (fun _ => Nat → Option Value → Tr Value) (fun n x => toV (TPath.of n) x e2 e4 e6 (fun _ => none)) (fun s b c r n x => toV (TPath.of n) x s b c r)
theorem getV_eq : getV = @get Value := rfl
theorem putV_eq : putV = @put Value := rfl
end Tr
end Go.Ab
namespace Go.Ab.Nx
open Go.Ab
set_option linter.unusedSimpArgs false
set_option linter.unusedVariables false
noncomputable abbrev RF := Option (Tr Value × AHeap)
noncomputable abbrev KF := Value → AHeap → RF
noncomputable def outK : Option (Value × AHeap) → KF → RF := @Option.rec (Value × AHeap) (fun _ => KF → RF) (fun _ => none) (@Prod.rec Value AHeap (fun _ => KF → RF) (fun v h k => k v h))
noncomputable def valK : Option Value → KF → AHeap → RF := @Option.rec Value (fun _ => KF → AHeap → RF) (fun _ _ => none) (fun v k h => k v h)
theorem valK_eq (x : Option Value) (k : KF) (h : AHeap) : valK x k h = outK (keep h x) k := by cases x <;> rfl
noncomputable def opndF : Operand → Tr Value → Option Value :=
  @Operand.rec (fun _ => Tr Value → Option Value) (fun t a => Tr.getV a t) (fun v _ => @Bool.rec (fun _ => Option Value) none (some v) (flat v)) (fun _ _ => none) (fun f _ => some (.func (.func f) #[] #[]))
theorem opndF_at (a : Tr Value) (x : Operand) : opndF x a = aopnd a x := by
  cases x with
  | tmp t => exact congrFun (congrFun Tr.getV_eq a) t
  | const v => show @Bool.rec (fun _ => Option Value) none (some v) (flat v) = bif flat v then some v else none; cases flat v <;> rfl
  | global g => rfl
  | func f => rfl
theorem opndF_eq (a : Tr Value) : (fun x => opndF x a) = aopnd a := funext (opndF_at a)
noncomputable def nthF : List Value → Nat → Option Value := @List.rec Value (fun _ => Nat → Option Value) (fun _ => none) (fun v _ ih n => @Nat.rec (fun _ => Option Value) (some v) (fun m _ => ih m) n)
theorem nthF_eq : ∀ (l : List Value) (n : Nat), nthF l n = l[n]?
  | [], n => by simp; rfl
  | v :: l, 0 => by simp; rfl
  | v :: l, n + 1 => by rw [List.getElem?_cons_succ, ← nthF_eq l n]; rfl
noncomputable def consO : Option (List Value) → Value → Option (List Value) := @Option.rec (List Value) (fun _ => Value → Option (List Value)) (fun _ => none) (fun l v => some (v :: l))
theorem consO_eq (x : Option (List Value)) (v : Value) : consO x v = x.map (v :: ·) := by cases x <;> rfl
noncomputable def cutF : List Value → Nat → Nat → Option (List Value) := @List.rec Value (fun _ => Nat → Nat → Option (List Value))
  (fun off n => @Nat.rec (fun _ => Option (List Value)) (@Nat.rec (fun _ => Option (List Value)) (some []) (fun _ _ => none) n) (fun _ _ => none) off)
  (fun v _ ih off n => @Nat.rec (fun _ => Option (List Value)) (@Nat.rec (fun _ => Option (List Value)) (some []) (fun m _ => consO (ih 0 m) v) n) (fun m _ => ih m n) off)
theorem cutF_eq : ∀ (vs : List Value) (off n : Nat), cutF vs off n = cellsOf vs off n
  | [], 0, 0 => rfl
  | [], 0, n + 1 => by unfold cellsOf; rw [show Nat.ble (0 + (n + 1)) ([] : List Value).length = false by rw [Nat.zero_add]; rfl]; rfl
  | [], off + 1, n => by unfold cellsOf; rw [show Nat.ble (off + 1 + n) ([] : List Value).length = false by rw [show off + 1 + n = (off + n) + 1 by omega]; rfl]; rfl
  | v :: vs, 0, 0 => by unfold cellsOf; rw [show Nat.ble (0 + 0) (v :: vs).length = true from rfl]; rfl
  | v :: vs, 0, n + 1 => by
    show consO (cutF vs 0 n) v = _
    rw [cutF_eq vs 0 n, consO_eq]
    unfold cellsOf
    rw [show Nat.ble (0 + (n + 1)) (v :: vs).length = Nat.ble (0 + n) vs.length by rw [Nat.zero_add, Nat.zero_add]; rfl]
    cases Nat.ble (0 + n) vs.length <;> rfl
  | v :: vs, off + 1, n => by
    show cutF vs off n = _
    rw [cutF_eq vs off n]
    unfold cellsOf
    rw [show Nat.ble (off + 1 + n) (v :: vs).length = Nat.ble (off + n) vs.length by rw [show off + 1 + n = (off + n) + 1 by omega]; rfl]
    rfl
noncomputable def splF : List Value → Nat → List Value → Option (List Value) := @List.rec Value (fun _ => Nat → List Value → Option (List Value))
  (fun off xs => @Nat.rec (fun _ => Option (List Value)) (@List.rec Value (fun _ => Option (List Value)) (some []) (fun _ _ _ => none) xs) (fun _ _ => none) off)
  (fun v tl ih off xs => @Nat.rec (fun _ => Option (List Value)) (@List.rec Value (fun _ => Option (List Value)) (some (v :: tl)) (fun x ys _ => consO (ih 0 ys) x) xs) (fun m _ => consO (ih m xs) v) off)
theorem splF_eq : ∀ (vs : List Value) (off : Nat) (xs : List Value), splF vs off xs = bif Nat.ble (off + xs.length) vs.length then some (splice vs off xs) else none
  | [], 0, [] => rfl
  | [], 0, x :: xs => by rw [show Nat.ble (0 + (x :: xs).length) ([] : List Value).length = false by rw [Nat.zero_add]; rfl]; rfl
  | [], off + 1, xs => by rw [show Nat.ble (off + 1 + xs.length) ([] : List Value).length = false by rw [show off + 1 + xs.length = (off + xs.length) + 1 by omega]; rfl]; rfl
  | v :: vs, 0, [] => by rw [show Nat.ble (0 + ([] : List Value).length) (v :: vs).length = true from rfl]; rfl
  | v :: vs, 0, x :: xs => by
    show consO (splF vs 0 xs) x = _
    rw [splF_eq vs 0 xs, consO_eq]
    rw [show Nat.ble (0 + (x :: xs).length) (v :: vs).length = Nat.ble (0 + xs.length) vs.length by rw [Nat.zero_add, Nat.zero_add]; rfl]
    cases Nat.ble (0 + xs.length) vs.length <;> rfl
  | v :: vs, off + 1, xs => by
    show consO (splF vs off xs) v = _
    rw [splF_eq vs off xs, consO_eq]
    rw [show Nat.ble (off + 1 + xs.length) (v :: vs).length = Nat.ble (off + xs.length) vs.length by rw [show off + 1 + xs.length = (off + xs.length) + 1 by omega]; rfl]
    cases Nat.ble (off + xs.length) vs.length
    · rfl
    · cases xs with
      | nil => simp [splice]
      | cons x xs => rfl
noncomputable def lenF : List Value → Nat → Bool := @List.rec Value (fun _ => Nat → Bool) (fun n => Nat.beq n 0) (fun _ _ ih n => @Nat.rec (fun _ => Bool) false (fun m _ => ih m) n)
theorem lenF_eq : ∀ (l : List Value) (n : Nat), lenF l n = Nat.beq l.length n
  | [], 0 => rfl
  | [], n + 1 => rfl
  | v :: l, 0 => rfl
  | v :: l, n + 1 => by rw [show Nat.beq (v :: l).length (n + 1) = Nat.beq l.length n from rfl, ← lenF_eq l n]; rfl
noncomputable def lenLeF : List Value → Nat → Bool := @List.rec Value (fun _ => Nat → Bool) (fun _ => true) (fun _ _ ih n => @Nat.rec (fun _ => Bool) false (fun m _ => ih m) n)
theorem lenLeF_eq : ∀ (l : List Value) (n : Nat), lenLeF l n = Nat.ble l.length n
  | [], n => by rw [show ([] : List Value).length = 0 from rfl]; cases n <;> rfl
  | v :: l, 0 => rfl
  | v :: l, n + 1 => by rw [show Nat.ble (v :: l).length (n + 1) = Nat.ble l.length n from rfl, ← lenLeF_eq l n]; rfl
noncomputable def appF : List Value → List Value → List Value := @List.rec Value (fun _ => List Value → List Value) (fun ys => ys) (fun x _ ih ys => x :: ih ys)
theorem appF_eq : ∀ xs ys, appF xs ys = xs ++ ys
  | [], ys => rfl
  | x :: xs, ys => by show x :: appF xs ys = _; rw [appF_eq xs ys]; rfl
noncomputable def app2F : List Value → List Value → List Value := @List.rec Value (fun _ => List Value → List Value) (fun xs => xs) (fun y ys _ xs => appF xs (y :: ys))
theorem app2F_eq (xs ys : List Value) : app2F ys xs = xs ++ ys := by
  cases ys with
  | nil => exact (List.append_nil xs).symm
  | cons y ys => exact appF_eq xs (y :: ys)
noncomputable def cellsL : Value → List Value := @Value.rec (fun _ => List Value) (fun _ => Unit) (fun _ => Unit) (fun b => [.bool b]) (fun k n => [.int k n]) (fun k b => [.float k b]) (fun k r i => [.complex k r i]) (fun s => [.string s]) (fun q => [.pointer q]) (fun q l c => [.slice q l c]) (fun r => [.map r]) (fun r => [.chan r]) (fun f u v _ _ => [.func f u v]) [.nilFunc] (fun t v _ => [.iface t v]) [.nilIface] (fun cs _ => cs.toList) (fun vs _ => [.tuple vs]) (fun _ _ => ()) () (fun _ _ _ _ => ())
theorem cellsL_eq (v : Value) : cellsL v = v.cells.toList := by cases v <;> rfl
noncomputable def oneV : Value → Bool := @Value.rec (fun _ => Bool) (fun _ => Unit) (fun _ => Unit) (fun _ => true) (fun _ _ => true) (fun _ _ => true) (fun _ _ _ => true) (fun _ => true) (fun _ => true) (fun _ _ _ => true) (fun _ => true) (fun _ => true) (fun _ _ _ _ _ => true) (true) (fun _ _ _ => true) (true) (fun _ _ => false) (fun _ _ => false) (fun _ _ => ()) () (fun _ _ _ _ => ())
theorem oneV_eq (v : Value) : oneV v = v.oneCell' := by cases v <;> rfl
noncomputable def onesF : List Value → Bool := @List.rec Value (fun _ => Bool) true (fun v _ ih => @Bool.rec (fun _ => Bool) false ih (oneV v))
theorem onesF_eq : ∀ l, onesF l = oneCells l
  | [] => rfl
  | v :: l => by
    show @Bool.rec (fun _ => Bool) false (onesF l) (oneV v) = _
    rw [onesF_eq l, oneV_eq]; unfold oneCells; rw [List.all_cons]; cases v.oneCell' <;> rfl
noncomputable def rowR : Option AObj → Option (List Value) := @Option.rec AObj (fun _ => Option (List Value)) none (@AObj.rec (fun _ => Option (List Value)) (fun vs _ => some vs) (fun vs => some vs) (fun _ _ => none) (fun _ _ _ _ => none) (fun _ _ => none) (fun _ => none))
theorem rowR_eq (h : AHeap) (r : Nat) : rowR (Tr.getO (AHeap.rows h) r) = rowOf h r := by
  unfold rowOf
  show rowR (h.get r) = _
  cases h.get r with
  | none => rfl
  | some o => cases o <;> rfl
noncomputable def loadOne : List Value → TI → Nat → AHeap → KF → RF := fun vs _ off h k => valK (nthF vs off) k h
noncomputable def loadAgg : List Value → TI → Nat → AHeap → KF → RF := fun vs ti off h k => (@Option.rec (List Value) (fun _ => KF → AHeap → RF) (fun _ _ => none) (fun l k h => k (.agg ⟨l⟩) h)) (cutF vs off (TI.size ti)) k h
noncomputable def loadC : List Value → TI → Nat → AHeap → KF → RF := fun vs ti off h k => (@Bool.rec (fun _ => List Value → TI → Nat → AHeap → KF → RF) loadOne loadAgg) (TI.agg ti) vs ti off h k
noncomputable def loadT : TI → Nat → Nat → AHeap → KF → RF := fun ti r off h k => (@Option.rec (List Value) (fun _ => TI → Nat → AHeap → KF → RF) (fun _ _ _ _ => none) loadC) (rowR (Tr.getO (AHeap.rows h) r)) ti off h k
noncomputable def loadA : Nat → Nat → Tr TI → TypeId → AHeap → KF → RF := fun r off T t h k => (@Option.rec TI (fun _ => Nat → Nat → AHeap → KF → RF) (fun _ _ _ _ => none) loadT) (Tr.get T t) r off h k
noncomputable def loadK : Value → Tr TI → TypeId → AHeap → KF → RF := @Value.rec (fun _ => Tr TI → TypeId → AHeap → KF → RF) (fun _ => Unit) (fun _ => Unit) (fun _ _ _ _ _ => none) (fun _ _ _ _ _ _ => none) (fun _ _ _ _ _ _ => none) (fun _ _ _ _ _ _ _ => none) (fun _ _ _ _ _ => none) (@Option.rec Addr (fun _ => Tr TI → TypeId → AHeap → KF → RF) (fun _ _ _ _ => none) (@Addr.rec (fun _ => Tr TI → TypeId → AHeap → KF → RF) (fun r off sp => (@Option.rec Nat (fun _ => Nat → Nat → Tr TI → TypeId → AHeap → KF → RF) loadA (fun _ _ _ _ _ _ _ => none)) sp r off))) (fun _ _ _ _ _ _ _ => none) (fun _ _ _ _ _ => none) (fun _ _ _ _ _ => none) (fun _ _ _ _ _ _ _ _ _ => none) (fun _ _ _ _ => none) (fun _ _ _ _ _ _ _ => none) (fun _ _ _ _ => none) (fun _ _ _ _ _ _ => none) (fun _ _ _ _ _ _ => none) (fun _ _ => ()) () (fun _ _ _ _ => ())
theorem loadK_eq (T : Tr TI) (t : TypeId) (x : Value) (h : AHeap) (k : KF) : loadK x T t h k = outK (keep h (aLoad T t x h)) k := by
  cases x with
  | pointer q =>
    cases q with
    | none => rfl
    | some ad =>
      obtain ⟨r, off, sp⟩ := ad
      cases sp with
      | some s => rfl
      | none =>
        show loadA r off T t h k = outK (keep h (match T.get t, rowOf h r with
          | some ti, some vs => bif ti.agg then (cellsOf vs off ti.size).map (fun l => Value.agg l.toArray) else vs[off]?
          | _, _ => none)) k
        unfold loadA
        rw [← rowR_eq]
        cases T.get t with
        | none => rfl
        | some ti =>
          show (@Option.rec (List Value) (fun _ => TI → Nat → AHeap → KF → RF) (fun _ _ _ _ => none) loadC) (rowR (Tr.getO (AHeap.rows h) r)) ti off h k = _
          cases rowR (Tr.getO (AHeap.rows h) r) with
          | none => rfl
          | some vs =>
            show loadC vs ti off h k = outK (keep h (bif ti.agg then (cellsOf vs off ti.size).map (fun l => Value.agg l.toArray) else vs[off]?)) k
            unfold loadC
            cases ti.agg with
            | false =>
              show valK (nthF vs off) k h = outK (keep h vs[off]?) k
              rw [nthF_eq, valK_eq]
            | true =>
              show (@Option.rec (List Value) (fun _ => KF → AHeap → RF) (fun _ _ => none) (fun l k h => k (.agg ⟨l⟩) h)) (cutF vs off (TI.size ti)) k h = outK (keep h ((cellsOf vs off ti.size).map (fun l => Value.agg l.toArray))) k
              rw [cutF_eq]; cases cellsOf vs off ti.size <;> rfl
  | _ => rfl
noncomputable def storeW : List Value → Nat → Nat → AHeap → KF → RF := fun xs r off h k => (@Option.rec AObj (fun _ => List Value → Nat → Nat → AHeap → KF → RF) (fun _ _ _ _ _ => none) (@AObj.rec (fun _ => List Value → Nat → Nat → AHeap → KF → RF) (fun vs sz xs r off h k => (@Option.rec (List Value) (fun _ => Nat → Nat → List Value → AHeap → KF → RF) (fun _ _ _ _ _ => none) (fun row sz r xs h k => @Bool.rec (fun _ => RF) none (k (.tuple #[]) (h.set r (.cells row sz))) (onesF xs))) (splF vs off xs) sz r xs h k) (fun _ _ _ _ _ _ => none) (fun _ _ _ _ _ _ _ => none) (fun _ _ _ _ _ _ _ _ _ => none) (fun _ _ _ _ _ _ _ => none) (fun _ _ _ _ _ _ => none))) (Tr.getO (AHeap.rows h) r) xs r off h k
theorem storeW_eq (xs : List Value) (r off : Nat) (h : AHeap) (k : KF) : storeW xs r off h k = outK (unit (writeRow h r off xs)) k := by
  unfold storeW writeRow
  show (@Option.rec AObj (fun _ => List Value → Nat → Nat → AHeap → KF → RF) (fun _ _ _ _ _ => none) (@AObj.rec (fun _ => List Value → Nat → Nat → AHeap → KF → RF) (fun vs sz xs r off h k => (@Option.rec (List Value) (fun _ => Nat → Nat → List Value → AHeap → KF → RF) (fun _ _ _ _ _ => none) (fun row sz r xs h k => @Bool.rec (fun _ => RF) none (k (.tuple #[]) (h.set r (.cells row sz))) (onesF xs))) (splF vs off xs) sz r xs h k) (fun _ _ _ _ _ _ => none) (fun _ _ _ _ _ _ _ => none) (fun _ _ _ _ _ _ _ _ _ => none) (fun _ _ _ _ _ _ _ => none) (fun _ _ _ _ _ _ => none))) (h.get r) xs r off h k = _
  cases h.get r with
  | none => rfl
  | some o =>
    cases o with
    | cells vs sz =>
      show (@Option.rec (List Value) (fun _ => Nat → Nat → List Value → AHeap → KF → RF) (fun _ _ _ _ _ => none) (fun row sz r xs h k => @Bool.rec (fun _ => RF) none (k (.tuple #[]) (h.set r (.cells row sz))) (onesF xs))) (splF vs off xs) sz r xs h k = outK (unit (bif Nat.ble (off + xs.length) vs.length && oneCells xs then some (h.set r (.cells (splice vs off xs) sz)) else none)) k
      rw [splF_eq]
      cases Nat.ble (off + xs.length) vs.length with
      | false => rfl
      | true =>
        show @Bool.rec (fun _ => RF) none (k (.tuple #[]) (h.set r (.cells (splice vs off xs) sz))) (onesF xs) = _
        rw [onesF_eq]; cases oneCells xs <;> rfl
    | _ => rfl
noncomputable def storeA : Nat → Nat → Tr TI → TypeId → Value → AHeap → KF → RF := fun r off T t v h k => (@Option.rec TI (fun _ => Value → Nat → Nat → AHeap → KF → RF) (fun _ _ _ _ _ => none) (fun ti v r off h k => @Bool.rec (fun _ => List Value → Nat → Nat → AHeap → KF → RF) (fun _ _ _ _ _ => none) storeW (lenF (cellsL v) (TI.size ti)) (cellsL v) r off h k)) (Tr.get T t) v r off h k
noncomputable def storeK : Value → Tr TI → TypeId → Value → AHeap → KF → RF := @Value.rec (fun _ => Tr TI → TypeId → Value → AHeap → KF → RF) (fun _ => Unit) (fun _ => Unit) (fun _ _ _ _ _ _ => none) (fun _ _ _ _ _ _ _ => none) (fun _ _ _ _ _ _ _ => none) (fun _ _ _ _ _ _ _ _ => none) (fun _ _ _ _ _ _ => none) (@Option.rec Addr (fun _ => Tr TI → TypeId → Value → AHeap → KF → RF) (fun _ _ _ _ _ => none) (@Addr.rec (fun _ => Tr TI → TypeId → Value → AHeap → KF → RF) (fun r off sp => (@Option.rec Nat (fun _ => Nat → Nat → Tr TI → TypeId → Value → AHeap → KF → RF) storeA (fun _ _ _ _ _ _ _ _ => none)) sp r off))) (fun _ _ _ _ _ _ _ _ => none) (fun _ _ _ _ _ _ => none) (fun _ _ _ _ _ _ => none) (fun _ _ _ _ _ _ _ _ _ _ => none) (fun _ _ _ _ _ => none) (fun _ _ _ _ _ _ _ _ => none) (fun _ _ _ _ _ => none) (fun _ _ _ _ _ _ _ => none) (fun _ _ _ _ _ _ _ => none) (fun _ _ => ()) () (fun _ _ _ _ => ())
theorem storeK_eq (T : Tr TI) (t : TypeId) (x v : Value) (h : AHeap) (k : KF) : storeK x T t v h k = outK (unit (aStore T t x v h)) k := by
  cases x with
  | pointer q =>
    cases q with
    | none => rfl
    | some ad =>
      obtain ⟨r, off, sp⟩ := ad
      cases sp with
      | some s => rfl
      | none =>
        show storeA r off T t v h k = outK (unit (match T.get t with
          | some ti => bif Nat.beq v.cells.size ti.size then writeRow h r off v.cells.toList else none
          | _ => none)) k
        unfold storeA
        cases T.get t with
        | none => rfl
        | some ti =>
          show @Bool.rec (fun _ => List Value → Nat → Nat → AHeap → KF → RF) (fun _ _ _ _ _ => none) storeW (lenF (cellsL v) (TI.size ti)) (cellsL v) r off h k = outK (unit (bif Nat.beq v.cells.size ti.size then writeRow h r off v.cells.toList else none)) k
          rw [lenF_eq, cellsL_eq]
          show @Bool.rec (fun _ => List Value → Nat → Nat → AHeap → KF → RF) (fun _ _ _ _ _ => none) storeW (Nat.beq v.cells.size ti.size) v.cells.toList r off h k = _
          cases Nat.beq v.cells.size ti.size with
          | false => rfl
          | true => exact storeW_eq _ _ _ _ _
  | _ => rfl
noncomputable def foff (T : Tr TI) (s : TypeId) (f : Nat) : Option Nat :=
  match T.get s with
  | some ti => match ti.und with
    | .struct fields => match fields[f]? with
      | some fd => match T.get fd.type with
        | some fi => bif Nat.beq fi.size 0 then none else some fd.offset
        | none => none
      | none => none
    | _ => none
  | none => none
noncomputable def fieldA : Nat → Nat → Tr TI → TypeId → Nat → AHeap → KF → RF := fun r off T s f h k => (@Option.rec Nat (fun _ => Nat → Nat → AHeap → KF → RF) (fun _ _ _ _ => none) (fun d r off h k => k (.pointer (some ⟨r, Nat.add off d, none⟩)) h)) (foff T s f) r off h k
noncomputable def fieldK : Value → Tr TI → TypeId → Nat → AHeap → KF → RF := @Value.rec (fun _ => Tr TI → TypeId → Nat → AHeap → KF → RF) (fun _ => Unit) (fun _ => Unit) (fun _ _ _ _ _ _ => none) (fun _ _ _ _ _ _ _ => none) (fun _ _ _ _ _ _ _ => none) (fun _ _ _ _ _ _ _ _ => none) (fun _ _ _ _ _ _ => none) (@Option.rec Addr (fun _ => Tr TI → TypeId → Nat → AHeap → KF → RF) (fun _ _ _ _ _ => none) (@Addr.rec (fun _ => Tr TI → TypeId → Nat → AHeap → KF → RF) (fun r off sp => (@Option.rec Nat (fun _ => Nat → Nat → Tr TI → TypeId → Nat → AHeap → KF → RF) fieldA (fun _ _ _ _ _ _ _ _ => none)) sp r off))) (fun _ _ _ _ _ _ _ _ => none) (fun _ _ _ _ _ _ => none) (fun _ _ _ _ _ _ => none) (fun _ _ _ _ _ _ _ _ _ _ => none) (fun _ _ _ _ _ => none) (fun _ _ _ _ _ _ _ _ => none) (fun _ _ _ _ _ => none) (fun _ _ _ _ _ _ _ => none) (fun _ _ _ _ _ _ _ => none) (fun _ _ => ()) () (fun _ _ _ _ => ())
theorem fieldK_eq (T : Tr TI) (s : TypeId) (x : Value) (f : Nat) (h : AHeap) (k : KF) : fieldK x T s f h k = outK (keep h (aFieldAddr T s x f)) k := by
  cases x with
  | pointer q =>
    cases q with
    | none => rfl
    | some ad =>
      obtain ⟨r, off, sp⟩ := ad
      cases sp with
      | some s => rfl
      | none =>
        have e : aFieldAddr T s (.pointer (some ⟨r, off, none⟩)) f = (foff T s f).map fun d => .pointer (some ⟨r, off + d, none⟩) := by
          simp only [aFieldAddr, foff]
          cases T.get s with
          | none => rfl
          | some ti =>
            obtain ⟨tsz, tby, und, tz⟩ := ti
            cases und with
            | struct fields =>
              show (match fields[f]? with
                | some fd => match T.get fd.type with
                  | some fi => bif Nat.beq fi.size 0 then none else some (Value.pointer (some ⟨r, off + fd.offset, none⟩))
                  | none => none
                | none => none) = (match fields[f]? with
                | some fd => match T.get fd.type with
                  | some fi => bif Nat.beq fi.size 0 then none else some fd.offset
                  | none => none
                | none => none).map fun d => .pointer (some ⟨r, off + d, none⟩)
              cases fields[f]? with
              | none => rfl
              | some fd =>
                simp only
                cases T.get fd.type with
                | none => rfl
                | some fi => simp only; cases Nat.beq fi.size 0 <;> rfl
            | _ => rfl
        rw [e]
        show fieldA r off T s f h k = _
        unfold fieldA
        cases foff T s f <;> rfl
  | _ => rfl
noncomputable def esz (T : Tr TI) (t : TypeId) : Option Nat :=
  match T.get t with
  | some ti => match ti.und with
    | .slice e => match T.get e with
      | some ei => some ei.size
      | none => none
    | _ => none
  | none => none
noncomputable def fastIA : Nat → Nat → Nat → Nat → Nat → Option Value := fun r off len i sz => @Bool.rec (fun _ => Option Value) none (some (.pointer (some ⟨r, Nat.add off (Nat.mul i sz), none⟩))) (Nat.ble (Nat.succ i) len)
noncomputable def fastIS : Value → Nat → Nat → Option Value := @Value.rec (fun _ => Nat → Nat → Option Value) (fun _ => Unit) (fun _ => Unit) (fun _ _ _ => none) (fun _ _ _ _ => none) (fun _ _ _ _ => none) (fun _ _ _ _ _ => none) (fun _ _ _ => none) (fun _ _ _ => none) (fun q len _ i sz => (@Option.rec Addr (fun _ => Nat → Nat → Nat → Option Value) (fun _ _ _ => none) (@Addr.rec (fun _ => Nat → Nat → Nat → Option Value) (fun r off sp => (@Option.rec Nat (fun _ => Nat → Nat → Nat → Nat → Nat → Option Value) fastIA (fun _ _ _ _ _ _ => none)) sp r off))) q len i sz) (fun _ _ _ => none) (fun _ _ _ => none) (fun _ _ _ _ _ _ _ => none) (fun _ _ => none) (fun _ _ _ _ _ => none) (fun _ _ => none) (fun _ _ _ _ => none) (fun _ _ _ _ => none) (fun _ _ => ()) () (fun _ _ _ _ => ())
noncomputable def fastI : Value → Value → Option Nat → Option Value := @Value.rec (fun _ => Value → Option Nat → Option Value) (fun _ => Unit) (fun _ => Unit) (fun _ _ _ => none) (fun _ n => (@Int.rec (fun _ => Value → Option Nat → Option Value) (fun i x z => (@Option.rec Nat (fun _ => Value → Nat → Option Value) (fun _ _ => none) (fun sz x i => fastIS x i sz)) z x i) (fun _ _ _ => none)) n) (fun _ _ _ _ => none) (fun _ _ _ _ _ => none) (fun _ _ _ => none) (fun _ _ _ => none) (fun _ _ _ _ _ => none) (fun _ _ _ => none) (fun _ _ _ => none) (fun _ _ _ _ _ _ _ => none) (fun _ _ => none) (fun _ _ _ _ _ => none) (fun _ _ => none) (fun _ _ _ _ => none) (fun _ _ _ _ => none) (fun _ _ => ()) () (fun _ _ _ _ => ())
theorem fastI_eq {T : Tr TI} {t : TypeId} {x i v : Value} (he : fastI i x (esz T t) = some v) : aIndexAddr T t x i = some v := by
  cases i with
  | int ki n =>
    cases n with
    | negSucc n => cases he
    | ofNat n =>
      cases hz : esz T t with
      | none => rw [hz] at he; cases he
      | some sz =>
        rw [hz] at he
        change fastIS x n sz = some v at he
        cases x with
        | slice q len cap =>
          cases q with
          | none => cases he
          | some ad =>
            obtain ⟨r, off, sp⟩ := ad
            cases sp with
            | some s => cases he
            | none =>
              change fastIA r off len n sz = some v at he
              unfold fastIA at he
              cases hb : Nat.ble (Nat.succ n) len with
              | false => rw [hb] at he; cases he
              | true =>
                rw [hb] at he
                have hlt : n < len := Nat.le_of_ble_eq_true hb
                cases he
                unfold esz at hz
                unfold aIndexAddr
                cases hT : T.get t with
                | none => rw [hT] at hz; cases hz
                | some ti =>
                  rw [hT] at hz
                  simp only at hz ⊢
                  split at hz
                  · rename_i e hu
                    simp only [hu]
                    split at hz
                    · rename_i ei hE
                      cases hz
                      simp only [hE]
                      rw [if_pos ⟨Int.natCast_nonneg n, Int.ofNat_lt.mpr hlt⟩]
                      rfl
                    · cases hz
                  · cases hz
        | _ => cases he
  | _ => cases he
noncomputable def indexK (T : Tr TI) (t : TypeId) (x i : Value) (h : AHeap) (k : KF) : RF := (@Option.rec Value (fun _ => Tr TI → TypeId → Value → Value → AHeap → KF → RF) (fun T t x i h k => valK (aIndexAddr T t x i) k h) (fun v _ _ _ _ h k => k v h)) (fastI i x (esz T t)) T t x i h k
theorem indexK_eq (T : Tr TI) (t : TypeId) (x i : Value) (h : AHeap) (k : KF) : indexK T t x i h k = outK (keep h (aIndexAddr T t x i)) k := by
  unfold indexK
  cases he : fastI i x (esz T t) with
  | none => exact valK_eq _ _ _
  | some v => rw [fastI_eq he]; rfl
noncomputable def extK : Value → Nat → AHeap → KF → RF := @Value.rec (fun _ => Nat → AHeap → KF → RF) (fun _ => Unit) (fun _ => Unit) (fun _ _ _ _ => none) (fun _ _ _ _ _ => none) (fun _ _ _ _ _ => none) (fun _ _ _ _ _ _ => none) (fun _ _ _ _ => none) (fun _ _ _ _ => none) (fun _ _ _ _ _ _ => none) (fun _ _ _ _ => none) (fun _ _ _ _ => none) (fun _ _ _ _ _ _ _ _ => none) (fun _ _ _ => none) (fun _ _ _ _ _ _ => none) (fun _ _ _ => none) (fun _ _ _ _ _ => none) (fun vs _ i h k => valK (nthF vs.toList i) k h) (fun _ _ => ()) () (fun _ _ _ _ => ())
theorem extK_eq (x : Value) (i : Nat) (h : AHeap) (k : KF) : extK x i h k = outK (keep h (aExtract x i)) k := by
  cases x with
  | tuple vs => show valK (nthF vs.toList i) k h = outK (keep h vs.toList[i]?) k; rw [nthF_eq, valK_eq]
  | _ => rfl
noncomputable def nilK : Value → AHeap → KF → RF := @Value.rec (fun _ => AHeap → KF → RF) (fun _ => Unit) (fun _ => Unit) (fun _ _ _ => none) (fun _ _ _ _ => none) (fun _ _ _ _ => none) (fun _ _ _ _ _ => none) (fun _ _ _ => none) (@Option.rec Addr (fun _ => AHeap → KF → RF) (fun _ _ => none) (fun ad h k => k (.pointer (some ad)) h)) (fun _ _ _ _ _ => none) (fun _ _ _ => none) (fun _ _ _ => none) (fun f u v _ _ => (@Fn.rec (fun _ => Array Value → Array Value → AHeap → KF → RF) (fun f u v h k => k (.func (.func f) u v) h) (fun _ _ _ _ _ => none) (fun _ _ _ _ _ _ => none) (fun _ _ _ _ _ _ _ _ => none) (fun l u v h k => k (.func (.yield l) u v) h)) f u v) (fun _ _ => none) (fun _ _ _ _ _ => none) (fun _ _ => none) (fun _ _ _ _ => none) (fun _ _ _ _ => none) (fun _ _ => ()) () (fun _ _ _ _ => ())
theorem nilK_eq (x : Value) (h : AHeap) (k : KF) : nilK x h k = outK (keep h (aNilCheck x)) k := by
  cases x with
  | pointer q => cases q <;> rfl
  | func f u v => cases f <;> rfl
  | _ => rfl
noncomputable def mxF : IntKind → Nat := @IntKind.rec (fun _ => Nat) 127 32767 2147483647 9223372036854775807 255 65535 4294967295 18446744073709551615
noncomputable def knF : IntKind → Nat := @IntKind.rec (fun _ => Nat) 0 1 2 3 4 5 6 7
theorem knF_inj {a b : IntKind} (h : Nat.beq (knF a) (knF b) = true) : a = b := by cases a <;> cases b <;> first | rfl | cases h
theorem wrap_mx {k : IntKind} {n : Nat} (h : Nat.ble n (mxF k) = true) : k.wrap (Int.ofNat n) = Int.ofNat n := by
  have h : n ≤ mxF k := Nat.le_of_ble_eq_true h
  have e : (Int.ofNat n : Int) = (n : Int) := rfl
  rw [e]
  cases k <;> simp only [mxF] at h <;> simp [IntKind.wrap, IntKind.bits, IntKind.signed] <;> omega
noncomputable def chkF : IntKind → Nat → Option Value := fun k r => @Bool.rec (fun _ => Option Value) none (some (.int k (.ofNat r))) (Nat.ble r (mxF k))
noncomputable def intF : BinOp → IntKind → Nat → Nat → Option Value := @BinOp.rec (fun _ => IntKind → Nat → Nat → Option Value)
  (fun k m n => chkF k (Nat.add m n)) (fun k m n => @Bool.rec (fun _ => Option Value) none (chkF k (Nat.sub m n)) (Nat.ble n m)) (fun k m n => chkF k (Nat.mul m n)) (fun _ _ _ => none) (fun _ _ _ => none) (fun _ _ _ => none) (fun _ _ _ => none) (fun _ _ _ => none) (fun _ _ _ => none) (fun _ _ _ => none) (fun _ _ _ => none)
  (fun _ m n => some (.bool (Nat.beq m n))) (fun _ m n => some (.bool (@Bool.rec (fun _ => Bool) true false (Nat.beq m n)))) (fun _ m n => some (.bool (Nat.ble (Nat.succ m) n))) (fun _ m n => some (.bool (Nat.ble m n))) (fun _ m n => some (.bool (Nat.ble (Nat.succ n) m))) (fun _ m n => some (.bool (Nat.ble n m)))
noncomputable def fastB2 : Value → Nat → IntKind → BinOp → Option Value := @Value.rec (fun _ => Nat → IntKind → BinOp → Option Value) (fun _ => Unit) (fun _ => Unit) (fun _ _ _ _ => none) (fun k' n => (@Int.rec (fun _ => IntKind → Nat → IntKind → BinOp → Option Value) (fun n k' m k op => @Bool.rec (fun _ => BinOp → IntKind → Nat → Nat → Option Value) (fun _ _ _ _ => none) intF (Nat.beq (knF k) (knF k')) op k m n) (fun _ _ _ _ _ => none)) n k') (fun _ _ _ _ _ => none) (fun _ _ _ _ _ _ => none) (fun _ _ _ _ => none) (fun _ _ _ _ => none) (fun _ _ _ _ _ _ => none) (fun _ _ _ _ => none) (fun _ _ _ _ => none) (fun _ _ _ _ _ _ _ _ => none) (fun _ _ _ => none) (fun _ _ _ _ _ _ => none) (fun _ _ _ => none) (fun _ _ _ _ _ => none) (fun _ _ _ _ _ => none) (fun _ _ => ()) () (fun _ _ _ _ => ())
noncomputable def fastB : Value → Value → BinOp → Option Value := @Value.rec (fun _ => Value → BinOp → Option Value) (fun _ => Unit) (fun _ => Unit) (fun _ _ _ => none) (fun k m => (@Int.rec (fun _ => IntKind → Value → BinOp → Option Value) (fun m k y op => fastB2 y m k op) (fun _ _ _ _ => none)) m k) (fun _ _ _ _ => none) (fun _ _ _ _ _ => none) (fun _ _ _ => none) (fun _ _ _ => none) (fun _ _ _ _ _ => none) (fun _ _ _ => none) (fun _ _ _ => none) (fun _ _ _ _ _ _ _ => none) (fun _ _ => none) (fun _ _ _ _ _ => none) (fun _ _ => none) (fun _ _ _ _ => none) (fun _ _ _ _ => none) (fun _ _ => ()) () (fun _ _ _ _ => ())
theorem int_beq (m n : Nat) : (Int.ofNat m == Int.ofNat n) = Nat.beq m n := by
  cases h : Nat.beq m n with
  | true => have := Nat.eq_of_beq_eq_true h; subst this; exact beq_self_eq_true _
  | false => have : m ≠ n := Nat.ne_of_beq_eq_false h; simp only [beq_eq_false_iff_ne, ne_eq]; intro e; exact this (Int.ofNat.inj e)
theorem int_le (m n : Nat) : decide (Int.ofNat m ≤ Int.ofNat n) = Nat.ble m n := by
  cases h : Nat.ble m n with
  | true => have := Nat.le_of_ble_eq_true h; exact decide_eq_true (Int.ofNat_le.mpr this)
  | false => exact decide_eq_false (fun e => by have := Nat.ble_eq_true_of_le (Int.ofNat_le.mp e); rw [h] at this; cases this)
theorem int_lt (m n : Nat) : decide (Int.ofNat m < Int.ofNat n) = Nat.ble (Nat.succ m) n := by
  cases h : Nat.ble (Nat.succ m) n with
  | true => have := Nat.le_of_ble_eq_true h; exact decide_eq_true (Int.ofNat_lt.mpr this)
  | false => exact decide_eq_false (fun e => by have := Nat.ble_eq_true_of_le (Int.ofNat_lt.mp e); rw [h] at this; cases this)
theorem guard_int {op : BinOp} {t : TypeId} {xo yo : Operand} {k k' : IntKind} {a b : Int} : eqGuard op t xo yo (.int k a) (.int k' b) = pure () := by
  cases op <;> rfl
theorem aBin_pure {P : Program} {T : Tr TI} {op : BinOp} {t : TypeId} {xo yo : Operand} {k : IntKind} {a b : Int} {u : Value} (hb : binOp op t (.int k a) (.int k b) = pure u) (hf : flat u = true) : aBin P T op t xo yo (.int k a) (.int k b) = some u := by
  have e : (do eqGuard op t xo yo (.int k a) (.int k b); binOp op t (.int k a) (.int k b)) = (pure u : Sem Value) := by
    rw [guard_int, hb]; rfl
  unfold aBin
  rw [e, show flat (.int k a) = true from rfl, show flat (.int k b) = true from rfl]
  rw [show pureRun P (pure u) = some u from rfl]
  simp only [Bool.and_self, cond_true, hf]
theorem bin_add {t : TypeId} {k : IntKind} {a b : Int} : binOp .add t (.int k a) (.int k b) = pure (.int k (k.wrap (a + b))) := by simp [binOp, Op.intArith]
theorem bin_sub {t : TypeId} {k : IntKind} {a b : Int} : binOp .sub t (.int k a) (.int k b) = pure (.int k (k.wrap (a - b))) := by simp [binOp, Op.intArith]
theorem bin_mul {t : TypeId} {k : IntKind} {a b : Int} : binOp .mul t (.int k a) (.int k b) = pure (.int k (k.wrap (a * b))) := by simp [binOp, Op.intArith]
theorem bin_eql {t : TypeId} {k : IntKind} {a b : Int} : binOp .eql t (.int k a) (.int k b) = pure (.bool (a == b)) := by simp [binOp, Op.intCmp]
theorem bin_neq {t : TypeId} {k : IntKind} {a b : Int} : binOp .neq t (.int k a) (.int k b) = pure (.bool (a != b)) := by simp [binOp, Op.intCmp]
theorem bin_lss {t : TypeId} {k : IntKind} {a b : Int} : binOp .lss t (.int k a) (.int k b) = pure (.bool (decide (a < b))) := by simp [binOp, Op.intCmp]
theorem bin_leq {t : TypeId} {k : IntKind} {a b : Int} : binOp .leq t (.int k a) (.int k b) = pure (.bool (decide (a ≤ b))) := by simp [binOp, Op.intCmp]
theorem bin_gtr {t : TypeId} {k : IntKind} {a b : Int} : binOp .gtr t (.int k a) (.int k b) = pure (.bool (decide (b < a))) := by simp [binOp, Op.intCmp]
theorem bin_geq {t : TypeId} {k : IntKind} {a b : Int} : binOp .geq t (.int k a) (.int k b) = pure (.bool (decide (b ≤ a))) := by simp [binOp, Op.intCmp]
theorem fastB_eq {P : Program} {T : Tr TI} {op : BinOp} {t : TypeId} {xo yo : Operand} {x y v : Value} (he : fastB x y op = some v) : aBin P T op t xo yo x y = some v := by
  cases x with
  | int k m =>
    cases m with
    | negSucc m => cases he
    | ofNat m =>
      change fastB2 y m k op = some v at he
      cases y with
      | int k' n =>
        cases n with
        | negSucc n => cases he
        | ofNat n =>
          change @Bool.rec (fun _ => BinOp → IntKind → Nat → Nat → Option Value) (fun _ _ _ _ => none) intF (Nat.beq (knF k) (knF k')) op k m n = some v at he
          cases hk : Nat.beq (knF k) (knF k') with
          | false => rw [hk] at he; cases he
          | true =>
            rw [hk] at he
            have := knF_inj hk
            subst this
            change intF op k m n = some v at he
            have chk : ∀ {z : Int} {r : Nat}, z = Int.ofNat r → chkF k r = some v → k.wrap z = Int.ofNat r ∧ v = .int k (Int.ofNat r) := by
              intro z r hz hc
              unfold chkF at hc
              cases hb : Nat.ble r (mxF k) with
              | false => rw [hb] at hc; cases hc
              | true => rw [hb] at hc; cases hc; exact ⟨by rw [hz]; exact wrap_mx hb, rfl⟩
            cases op with
            | add =>
              obtain ⟨h1, rfl⟩ := chk (z := Int.ofNat m + Int.ofNat n) (r := Nat.add m n) rfl he
              exact aBin_pure (by rw [bin_add, h1]) rfl
            | sub =>
              change @Bool.rec (fun _ => Option Value) none (chkF k (Nat.sub m n)) (Nat.ble n m) = some v at he
              cases hb : Nat.ble n m with
              | false => rw [hb] at he; cases he
              | true =>
                rw [hb] at he
                have hle : n ≤ m := Nat.le_of_ble_eq_true hb
                obtain ⟨h1, rfl⟩ := chk (z := Int.ofNat m - Int.ofNat n) (r := Nat.sub m n) (by show (m : Int) - (n : Int) = ((m - n : Nat) : Int); omega) he
                exact aBin_pure (by rw [bin_sub, h1]) rfl
            | mul =>
              obtain ⟨h1, rfl⟩ := chk (z := Int.ofNat m * Int.ofNat n) (r := Nat.mul m n) rfl he
              exact aBin_pure (by rw [bin_mul, h1]) rfl
            | eql => cases he; exact aBin_pure (by rw [bin_eql, int_beq]) rfl
            | neq => cases he; exact aBin_pure (by rw [bin_neq]; show pure (Value.bool (!(Int.ofNat m == Int.ofNat n))) = _; rw [int_beq]; cases Nat.beq m n <;> rfl) rfl
            | lss => cases he; exact aBin_pure (by rw [bin_lss, int_lt]) rfl
            | leq => cases he; exact aBin_pure (by rw [bin_leq, int_le]) rfl
            | gtr => cases he; exact aBin_pure (by rw [bin_gtr, int_lt]) rfl
            | geq => cases he; exact aBin_pure (by rw [bin_geq, int_le]) rfl
            | _ => cases he
      | _ => cases he
  | _ => cases he
noncomputable def binK (P : Program) (T : Tr TI) (op : BinOp) (t : TypeId) (xo yo : Operand) (x y : Value) (h : AHeap) (k : KF) : RF := (@Option.rec Value (fun _ => Program → Tr TI → BinOp → TypeId → Operand → Operand → Value → Value → AHeap → KF → RF) (fun P T op t xo yo x y h k => valK (aBin P T op t xo yo x y) k h) (fun v _ _ _ _ _ _ _ _ h k => k v h)) (fastB x y op) P T op t xo yo x y h k
theorem binK_eq (P : Program) (T : Tr TI) (op : BinOp) (t : TypeId) (xo yo : Operand) (x y : Value) (h : AHeap) (k : KF) : binK P T op t xo yo x y h k = outK (keep h (aBin P T op t xo yo x y)) k := by
  unfold binK
  cases he : fastB x y op with
  | none => exact valK_eq _ _ _
  | some v => rw [fastB_eq he]; rfl
noncomputable abbrev OpR := Env → CodeF → TypeId → (Operand → Option Value) → AHeap → Option (Value × AHeap)
noncomputable def callF : Callee → Array Operand → Array TypeId → OpR :=
  @Callee.rec (fun _ => Array Operand → Array TypeId → OpR)
    (fun f xs _ E code _ ρ h => match ρ f, aopnds ρ xs.toList with
      | some fv, some vs => evVal E code fv vs h
      | _, _ => none)
    (fun _ _ _ _ _ _ _ _ _ => none)
    (fun b xs ats E _ ty ρ h => match aopnds ρ xs.toList with
      | some vs => aBuiltin E.P E.T b ats ty vs h
      | none => none)
noncomputable def opF : Op → OpR :=
  @Op.rec (fun _ => OpR)
    (fun x _ _ _ ρ h => keep h (ρ x))
    (fun x _ _ _ ρ h => keep h (ρ x))
    (fun c a b _ _ _ ρ h => match ρ c with
      | some (.bool t) => keep h (bif t then ρ a else ρ b)
      | _ => none)
    (fun t E _ _ _ h => aAlloc E.T t h)
    (fun _ x _ _ _ ρ h => match ρ x with
      | some v => some (aBox v h)
      | none => none)
    (fun t parts E _ _ ρ h => match aparts ρ parts.toList with
      | some ps => keep h (aBuild E.T t ps)
      | none => none)
    (fun t len parts E _ _ ρ h => match aparts ρ parts.toList with
      | some ps => aBuildSlice E.T t len ps h
      | none => none)
    (fun t m k x E _ _ ρ h => match ρ m, ρ k, ρ x with
      | some a, some b, some v => unit (aMapUpdate E.P E.T t a b v h)
      | _, _, _ => none)
    (fun t x E _ _ ρ h => match ρ x with
      | some v => keep h (aLoad E.T t v h)
      | none => none)
    (fun t x y E _ _ ρ h => match ρ x, ρ y with
      | some a, some v => unit (aStore E.T t a v h)
      | _, _ => none)
    (fun _ _ _ _ _ _ => none)
    (fun _ _ _ _ _ _ => none)
    (fun x _ _ _ ρ h => match ρ x with
      | some v => keep h (aNilCheck v)
      | none => none)
    (fun op t x y _ E _ _ ρ h => match ρ x, ρ y with
      | some a, some b => keep h (aBin E.P E.T op t x y a b)
      | _, _ => none)
    (fun op _ x E _ _ ρ h => match ρ x with
      | some v => keep h (aPure E.P (flat v) (Op.unary op v))
      | none => none)
    (fun src dst x E _ _ ρ h => match ρ x with
      | some v => match aConv E.T src dst v h with
        | some r => some r
        | none => keep h (aPure E.P (flat v) (convert src dst v))
      | none => none)
    (fun _ _ _ _ _ _ _ => none)
    (fun t x E _ _ ρ h => match ρ x, E.T.get t with
      | some v, some ti => bif isIface ti.und then none else some (.iface t v, h)
      | _, _ => none)
    (fun fn first cap _ _ _ ρ h => match aopnds ρ first.toList, aopnds ρ cap.toList with
      | some a, some c => bif noYield fn then some (.func fn a.toArray c.toArray, h) else none
      | _, _ => none)
    (fun _ r _ _ _ _ h => match r with
      | none => some (aMakeMap h)
      | some _ => none)
    (fun _ _ _ _ _ _ _ => none)
    (fun t l c E _ _ ρ h => match ρ l, ρ c with
      | some a, some b => aMakeSlice E.T t a b h
      | _, _ => none)
    (fun t x lo hi mx E _ _ ρ h => match ρ x, oopnd ρ lo, oopnd ρ hi, oopnd ρ mx with
      | some v, some l, some r, some m => keep h (aSlice E.T t v l r m h)
      | _, _, _, _ => none)
    (fun s x f E _ _ ρ h => match ρ x with
      | some v => keep h (aFieldAddr E.T s v f)
      | none => none)
    (fun t x f E _ _ ρ h => match ρ x with
      | some v => keep h (aField E.T t v f)
      | none => none)
    (fun t x i E _ _ ρ h => match ρ x, ρ i with
      | some v, some j => keep h (aIndexAddr E.T t v j)
      | _, _ => none)
    (fun t x i E _ _ ρ h => match ρ x, ρ i with
      | some v, some j => keep h (aIndex E.T t v j)
      | _, _ => none)
    (fun t x i c E _ _ ρ h => match ρ x, ρ i with
      | some v, some k => keep h (aLookup E.P E.T t v k c h)
      | _, _ => none)
    (fun t m k x E _ _ ρ h => match ρ m, ρ k, ρ x with
      | some a, some b, some v => unit (aMapUpdate E.P E.T t a b v h)
      | _, _, _ => none)
    (fun _ _ _ _ _ _ _ _ => none)
    (fun _ _ _ _ _ _ _ _ _ => none)
    (fun t x E _ _ ρ h => match ρ x with
      | some v => aRange E.T t v h
      | none => none)
    (fun x s _ _ _ ρ h => match ρ x with
      | some v => aNext v s h
      | none => none)
    (fun x _ _ _ ρ h => match ρ x with
      | some v => keep h (aEntry v h)
      | none => none)
    (fun _ _ _ _ _ _ _ _ _ => none)
    (fun x i _ _ _ ρ h => match ρ x with
      | some v => keep h (aExtract v i)
      | none => none)
    (fun c E code ty ρ h => callF c.callee c.args c.argTypes E code ty ρ h)
    (fun _ _ _ _ _ _ => none)
    (fun _ _ _ _ _ _ => none)
    (fun _ _ _ _ _ _ => none)
    (fun _ _ _ _ _ _ _ => none)
    (fun _ _ _ _ _ _ _ _ => none)
    (fun _ _ _ _ _ _ _ => none)
theorem opF_eq (E : Env) (code : CodeF) : (fun (o : Oper) ρ h => opF o.op E code o.type ρ h) = evOp E code := by
  funext o ρ h
  obtain ⟨dst, op, ty, pos, after, guard⟩ := o
  cases op <;> first | rfl | skip
  · rename_i r; cases r <;> rfl
  · rename_i c; obtain ⟨callee, xs, ats⟩ := c; cases callee <;> rfl
theorem defer_none (E : Env) (code : CodeF) {o : Oper} (hd : isDefer o.op = true) (ρ : Operand → Option Value) (h : AHeap) : evOp E code o ρ h = none := by
  obtain ⟨dst, op, ty, pos, after, guard⟩ := o
  cases op <;> first | (cases hd; done) | rfl
noncomputable abbrev AF := Env → CodeF → TypeId → Tr Value → AHeap → KF → RF
noncomputable def loadO : Option Value → Tr TI → TypeId → AHeap → KF → RF := @Option.rec Value (fun _ => Tr TI → TypeId → AHeap → KF → RF) (fun _ _ _ _ => none) loadK
noncomputable def storeO : Option Value → Option Value → Tr TI → TypeId → AHeap → KF → RF := @Option.rec Value (fun _ => Option Value → Tr TI → TypeId → AHeap → KF → RF) (fun _ _ _ _ _ => none) (fun x y T t h k => (@Option.rec Value (fun _ => Value → Tr TI → TypeId → AHeap → KF → RF) (fun _ _ _ _ _ => none) (fun y x T t h k => storeK x T t y h k)) y x T t h k)
noncomputable def fieldO : Option Value → Tr TI → TypeId → Nat → AHeap → KF → RF := @Option.rec Value (fun _ => Tr TI → TypeId → Nat → AHeap → KF → RF) (fun _ _ _ _ _ => none) fieldK
noncomputable def indexO : Option Value → Option Value → Tr TI → TypeId → AHeap → KF → RF := @Option.rec Value (fun _ => Option Value → Tr TI → TypeId → AHeap → KF → RF) (fun _ _ _ _ _ => none) (fun x y T t h k => (@Option.rec Value (fun _ => Value → Tr TI → TypeId → AHeap → KF → RF) (fun _ _ _ _ _ => none) (fun y x T t h k => indexK T t x y h k)) y x T t h k)
noncomputable def extO : Option Value → Nat → AHeap → KF → RF := @Option.rec Value (fun _ => Nat → AHeap → KF → RF) (fun _ _ _ => none) extK
noncomputable def nilO : Option Value → AHeap → KF → RF := @Option.rec Value (fun _ => AHeap → KF → RF) (fun _ _ => none) nilK
noncomputable def binO : Option Value → Option Value → Program → Tr TI → BinOp → TypeId → Operand → Operand → AHeap → KF → RF := @Option.rec Value (fun _ => Option Value → Program → Tr TI → BinOp → TypeId → Operand → Operand → AHeap → KF → RF) (fun _ _ _ _ _ _ _ _ _ => none) (fun x y P T op t xo yo h k => (@Option.rec Value (fun _ => Value → Program → Tr TI → BinOp → TypeId → Operand → Operand → AHeap → KF → RF) (fun _ _ _ _ _ _ _ _ _ => none) (fun y x P T op t xo yo h k => binK P T op t xo yo x y h k)) y x P T op t xo yo h k)
noncomputable def pickO : Option Value → Operand → Operand → Tr Value → AHeap → KF → RF := @Option.rec Value (fun _ => Operand → Operand → Tr Value → AHeap → KF → RF) (fun _ _ _ _ _ => none) (@Value.rec (fun _ => Operand → Operand → Tr Value → AHeap → KF → RF) (fun _ => Unit) (fun _ => Unit) (fun b x y a h k => @Bool.rec (fun _ => RF) (valK (opndF y a) k h) (valK (opndF x a) k h) b) (fun _ _ _ _ _ _ _ => none) (fun _ _ _ _ _ _ _ => none) (fun _ _ _ _ _ _ _ _ => none) (fun _ _ _ _ _ _ => none) (fun _ _ _ _ _ _ => none) (fun _ _ _ _ _ _ _ _ => none) (fun _ _ _ _ _ _ => none) (fun _ _ _ _ _ _ => none) (fun _ _ _ _ _ _ _ _ _ _ => none) (fun _ _ _ _ _ => none) (fun _ _ _ _ _ _ _ _ => none) (fun _ _ _ _ _ => none) (fun _ _ _ _ _ _ _ => none) (fun _ _ _ _ _ _ _ => none) (fun _ _ => ()) () (fun _ _ _ _ => ()))
noncomputable def cons2 : Option Value → Option (List Value) → Option (List Value) := @Option.rec Value (fun _ => Option (List Value) → Option (List Value)) (fun _ => none) (fun v l => consO l v)
noncomputable def opndsF : List Operand → Tr Value → Option (List Value) := @List.rec Operand (fun _ => Tr Value → Option (List Value)) (fun _ => some []) (fun x _ ih a => cons2 (opndF x a) (ih a))
theorem opndsF_eq (a : Tr Value) : ∀ xs, opndsF xs a = aopnds (fun x => opndF x a) xs
  | [] => rfl
  | x :: xs => by
    show cons2 (opndF x a) (opndsF xs a) = (match opndF x a, aopnds (fun x => opndF x a) xs with
      | some v, some l => some (v :: l)
      | _, _ => none)
    rw [opndsF_eq a xs]
    cases opndF x a with
    | none => rfl
    | some v => cases aopnds (fun x => opndF x a) xs <;> rfl
noncomputable def entryF : List Value → Nat → Tr Value → Tr Value := @List.rec Value (fun _ => Nat → Tr Value → Tr Value) (fun _ t => t) (fun v _ ih i t => ih (Nat.succ i) (Tr.putV t i (some v)))
theorem entryF_eq : ∀ vs i t, entryF vs i t = entry vs i t
  | [], i, t => rfl
  | v :: vs, i, t => by rw [entry, ← entryF_eq vs (i + 1), ← Tr.putV_eq]; rfl
noncomputable abbrev RS := Option (AExit × Tr Value × AHeap)
noncomputable abbrev OV := Option (Value × AHeap)
noncomputable def rK : Option Value → AHeap → OV := @Option.rec Value (fun _ => AHeap → OV) (fun _ => none) (fun v h => some (v, h))
noncomputable def exK : AExit → Tr Value → AHeap → Env → Func → OV := @AExit.rec (fun _ => Tr Value → AHeap → Env → Func → OV) (fun a h E fn => rK (aRet E.T fn a h) h) (fun _ _ _ _ _ => none) (fun a h E fn => rK (aRet E.T fn a h) h)
noncomputable def retK : RS → Env → Func → OV := @Option.rec (AExit × Tr Value × AHeap) (fun _ => Env → Func → OV) (fun _ _ => none) (@Prod.rec AExit (Tr Value × AHeap) (fun _ => Env → Func → OV) (fun e p E fn => (@Prod.rec (Tr Value) AHeap (fun _ => AExit → Env → Func → OV) (fun a h e E fn => exK e a h E fn)) p e E fn))
noncomputable def bodyK : Option Code → Func → FuncId → Env → CodeF → List Value → AHeap → OV := @Option.rec Code (fun _ => Func → FuncId → Env → CodeF → List Value → AHeap → OV) (fun _ _ _ _ _ _ => none) (fun c fn f E code args h => (@Bool.rec (fun _ => Code → Func → FuncId → Env → CodeF → List Value → AHeap → OV) (fun _ _ _ _ _ _ _ => none) (fun c fn f E code args h => retK (code ⟨f, fn.ntmps, none⟩ c (entryF args 0 .leaf) h) E fn)) (lenLeF args fn.ntmps) c fn f E code args h)
noncomputable def funK : Option Func → FuncId → Env → CodeF → List Value → AHeap → OV := @Option.rec Func (fun _ => FuncId → Env → CodeF → List Value → AHeap → OV) (fun _ _ _ _ _ => none) (fun fn f E code args h => bodyK fn.body fn f E code args h)
noncomputable def sumK : OV → FuncId → Env → CodeF → List Value → AHeap → OV := @Option.rec (Value × AHeap) (fun _ => FuncId → Env → CodeF → List Value → AHeap → OV) (fun f E code args h => funK (Tr.get E.F f) f E code args h) (fun p _ _ _ _ _ => some p)
noncomputable def evCallF : FuncId → Env → CodeF → List Value → AHeap → OV := fun f E code args h => sumK (E.S f args h) f E code args h
theorem evCallF_eq (f : FuncId) (E : Env) (code : CodeF) (args : List Value) (h : AHeap) : evCallF f E code args h = evCall E code f args h := by
  show sumK (E.S f args h) f E code args h = (match E.S f args h with
  | some r => some r
  | none => match E.F.get f with
    | some fn => match fn.body with
      | some c => bif Nat.ble args.length fn.ntmps then match code ⟨f, fn.ntmps, none⟩ c (entry args 0 .leaf) h with
          | some (.normal, a', h') => match aRet E.T fn a' h' with
            | some v => some (v, h')
            | none => none
          | some (.ret, a', h') => match aRet E.T fn a' h' with
            | some v => some (v, h')
            | none => none
          | _ => none
        else none
      | none => none
    | none => none)
  cases E.S f args h with
  | some r => rfl
  | none =>
    simp only
    show funK (E.F.get f) f E code args h = _
    cases E.F.get f with
    | none => rfl
    | some fn =>
      simp only
      show bodyK fn.body fn f E code args h = _
      cases fn.body with
      | none => rfl
      | some c =>
        simp only
        show @Bool.rec (fun _ => Code → Func → FuncId → Env → CodeF → List Value → AHeap → OV) (fun _ _ _ _ _ _ _ => none) (fun c fn f E code args h => retK (code ⟨f, fn.ntmps, none⟩ c (entryF args 0 .leaf) h) E fn) (lenLeF args fn.ntmps) c fn f E code args h = _
        rw [lenLeF_eq]
        cases Nat.ble args.length fn.ntmps with
        | false => rfl
        | true =>
          show retK (code ⟨f, fn.ntmps, none⟩ c (entryF args 0 .leaf) h) E fn = _
          rw [entryF_eq]
          simp only [cond_true]
          rcases code ⟨f, fn.ntmps, none⟩ c (entry args 0 .leaf) h with _ | ⟨e, a', h'⟩
          · rfl
          · cases e with
            | normal => show rK (aRet E.T fn a' h') h' = _; simp only; cases aRet E.T fn a' h' <;> rfl
            | exit i => rfl
            | ret => show rK (aRet E.T fn a' h') h' = _; simp only; cases aRet E.T fn a' h' <;> rfl
noncomputable def evValF : Value → List Value → Env → CodeF → AHeap → OV := @Value.rec (fun _ => List Value → Env → CodeF → AHeap → OV) (fun _ => Unit) (fun _ => Unit) (fun _ _ _ _ _ => none) (fun _ _ _ _ _ _ => none) (fun _ _ _ _ _ _ => none) (fun _ _ _ _ _ _ _ => none) (fun _ _ _ _ _ => none) (fun _ _ _ _ _ => none) (fun _ _ _ _ _ _ _ => none) (fun _ _ _ _ _ => none) (fun _ _ _ _ _ => none) (fun f u v _ _ => (@Fn.rec (fun _ => Array Value → Array Value → List Value → Env → CodeF → AHeap → OV) (fun f u v vs E code h => evCallF f E code (appF u.toList (app2F v.toList vs)) h) (fun _ _ _ _ _ _ _ => none) (fun _ _ _ _ _ _ _ _ => none) (fun _ _ _ _ _ _ _ _ _ _ => none) (fun l u v vs E code h => bif u.isEmpty && v.isEmpty then evYield code l vs h else none)) f u v) (fun _ _ _ _ => none) (fun _ _ _ _ _ _ _ => none) (fun _ _ _ _ => none) (fun _ _ _ _ _ _ => none) (fun _ _ _ _ _ _ => none) (fun _ _ => ()) () (fun _ _ _ _ => ())
theorem evValF_eq (fv : Value) (vs : List Value) (E : Env) (code : CodeF) (h : AHeap) : evValF fv vs E code h = evVal E code fv vs h := by
  cases fv with
  | func f u v =>
    cases f with
    | func f =>
      show evCallF f E code (appF u.toList (app2F v.toList vs)) h = evCall E code f (u.toList ++ vs ++ v.toList) h
      rw [evCallF_eq, appF_eq, app2F_eq, List.append_assoc]
    | _ => rfl
  | _ => rfl
noncomputable def callV : Option Value → Option (List Value) → Env → CodeF → AHeap → KF → RF := @Option.rec Value (fun _ => Option (List Value) → Env → CodeF → AHeap → KF → RF) (fun _ _ _ _ _ => none) (fun fv vs E code h k => (@Option.rec (List Value) (fun _ => Value → Env → CodeF → AHeap → KF → RF) (fun _ _ _ _ _ => none) (fun vs fv E code h k => outK (evValF fv vs E code h) k)) vs fv E code h k)
noncomputable def callK : Callee → Array Operand → Array TypeId → AF := @Callee.rec (fun _ => Array Operand → Array TypeId → AF) (fun f xs _ E code _ a h k => callV (opndF f a) (opndsF xs.toList a) E code h k) (fun _ _ _ _ _ _ _ _ _ _ => none) (fun b xs ats E code ty a h k => outK (callF (.builtin b) xs ats E code ty (fun x => opndF x a) h) k)
noncomputable def callC : Call → AF := @Call.rec (fun _ => AF) callK
noncomputable def opK : Op → AF := @Op.rec (fun _ => AF) (fun x E code ty a h k => valK (opndF x a) k h) (fun x E code ty a h k => valK (opndF x a) k h) (fun c x y E code ty a h k => pickO (opndF c a) x y a h k) (fun t E code ty a h k => outK (opF (.alloc t) E code ty (fun x => opndF x a) h) k) (fun t x E code ty a h k => outK (opF (.box t x) E code ty (fun x => opndF x a) h) k) (fun t ps E code ty a h k => outK (opF (.build t ps) E code ty (fun x => opndF x a) h) k) (fun t n ps E code ty a h k => outK (opF (.buildSlice t n ps) E code ty (fun x => opndF x a) h) k) (fun t m ky x E code ty a h k => outK (opF (.insert t m ky x) E code ty (fun x => opndF x a) h) k) (fun t x E code ty a h k => loadO (opndF x a) E.T t h k) (fun t x y E code ty a h k => storeO (opndF x a) (opndF y a) E.T t h k) (fun g E code ty a h k => outK (opF (.ready g) E code ty (fun x => opndF x a) h) k) (fun g E code ty a h k => outK (opF (.waits g) E code ty (fun x => opndF x a) h) k) (fun x E code ty a h k => nilO (opndF x a) h k) (fun op t x y yt E code ty a h k => binO (opndF x a) (opndF y a) E.P E.T op t x y h k) (fun op t x E code ty a h k => outK (opF (.unOp op t x) E code ty (fun x => opndF x a) h) k) (fun s d x E code ty a h k => outK (opF (.convert s d x) E code ty (fun x => opndF x a) h) k) (fun d x E code ty a h k => outK (opF (.sliceToArrayPointer d x) E code ty (fun x => opndF x a) h) k) (fun t x E code ty a h k => outK (opF (.makeInterface t x) E code ty (fun x => opndF x a) h) k) (fun f u v E code ty a h k => outK (opF (.makeFunc f u v) E code ty (fun x => opndF x a) h) k) (fun t r E code ty a h k => outK (opF (.makeMap t r) E code ty (fun x => opndF x a) h) k) (fun t x E code ty a h k => outK (opF (.makeChan t x) E code ty (fun x => opndF x a) h) k) (fun t x y E code ty a h k => outK (opF (.makeSlice t x y) E code ty (fun x => opndF x a) h) k) (fun t x lo hi mx E code ty a h k => outK (opF (.slice t x lo hi mx) E code ty (fun x => opndF x a) h) k) (fun s x f E code ty a h k => fieldO (opndF x a) E.T s f h k) (fun t x f E code ty a h k => outK (opF (.field t x f) E code ty (fun x => opndF x a) h) k) (fun t x i E code ty a h k => indexO (opndF x a) (opndF i a) E.T t h k) (fun t x i E code ty a h k => outK (opF (.index t x i) E code ty (fun x => opndF x a) h) k) (fun t x i ck E code ty a h k => outK (opF (.lookup t x i ck) E code ty (fun x => opndF x a) h) k) (fun t m ky x E code ty a h k => outK (opF (.mapUpdate t m ky x) E code ty (fun x => opndF x a) h) k) (fun t m ky E code ty a h k => outK (opF (.mapEntry t m ky) E code ty (fun x => opndF x a) h) k) (fun t m s x E code ty a h k => outK (opF (.entryStore t m s x) E code ty (fun x => opndF x a) h) k) (fun t x E code ty a h k => outK (opF (.range t x) E code ty (fun x => opndF x a) h) k) (fun x s E code ty a h k => outK (opF (.next x s) E code ty (fun x => opndF x a) h) k) (fun x E code ty a h k => outK (opF (.entry x) E code ty (fun x => opndF x a) h) k) (fun x t u ck E code ty a h k => outK (opF (.typeAssert x t u ck) E code ty (fun x => opndF x a) h) k) (fun x i E code ty a h k => extO (opndF x a) i h k) callC (fun c E code ty a h k => outK (opF (.go c) E code ty (fun x => opndF x a) h) k) (fun c E code ty a h k => outK (opF (.defer c) E code ty (fun x => opndF x a) h) k) (fun x E code ty a h k => outK (opF (.panic x) E code ty (fun x => opndF x a) h) k) (fun x y E code ty a h k => outK (opF (.send x y) E code ty (fun x => opndF x a) h) k) (fun t x ck E code ty a h k => outK (opF (.recv t x ck) E code ty (fun x => opndF x a) h) k) (fun cs b E code ty a h k => outK (opF (.select cs b) E code ty (fun x => opndF x a) h) k)
theorem opK_eq (op : Op) (E : Env) (code : CodeF) (ty : TypeId) (a : Tr Value) (h : AHeap) (k : KF) : opK op E code ty a h k = outK (opF op E code ty (fun x => opndF x a) h) k := by
  cases op with
  | move x => exact valK_eq _ _ _
  | assign x => exact valK_eq _ _ _
  | pick c x y =>
    show pickO (opndF c a) x y a h k = outK (match opndF c a with
      | some (.bool t) => keep h (bif t then opndF x a else opndF y a)
      | _ => none) k
    cases opndF c a with
    | none => rfl
    | some v => cases v with
      | bool b => cases b <;> exact valK_eq _ _ _
      | _ => rfl
  | load t x =>
    show loadO (opndF x a) E.T t h k = outK (match opndF x a with
      | some v => keep h (aLoad E.T t v h)
      | none => none) k
    cases opndF x a with
    | none => rfl
    | some v => exact loadK_eq _ _ _ _ _
  | store t x y =>
    show storeO (opndF x a) (opndF y a) E.T t h k = outK (match opndF x a, opndF y a with
      | some v, some w => unit (aStore E.T t v w h)
      | _, _ => none) k
    cases opndF x a with
    | none => rfl
    | some v => cases opndF y a with
      | none => rfl
      | some w => exact storeK_eq _ _ _ _ _ _
  | nilCheck x =>
    show nilO (opndF x a) h k = outK (match opndF x a with
      | some v => keep h (aNilCheck v)
      | none => none) k
    cases opndF x a with
    | none => rfl
    | some v => exact nilK_eq _ _ _
  | binOp op t x y yt =>
    show binO (opndF x a) (opndF y a) E.P E.T op t x y h k = outK (match opndF x a, opndF y a with
      | some v, some w => keep h (aBin E.P E.T op t x y v w)
      | _, _ => none) k
    cases opndF x a with
    | none => rfl
    | some v => cases opndF y a with
      | none => rfl
      | some w => exact binK_eq _ _ _ _ _ _ _ _ _ _
  | fieldAddr s x f =>
    show fieldO (opndF x a) E.T s f h k = outK (match opndF x a with
      | some v => keep h (aFieldAddr E.T s v f)
      | none => none) k
    cases opndF x a with
    | none => rfl
    | some v => exact fieldK_eq _ _ _ _ _ _
  | indexAddr t x i =>
    show indexO (opndF x a) (opndF i a) E.T t h k = outK (match opndF x a, opndF i a with
      | some v, some w => keep h (aIndexAddr E.T t v w)
      | _, _ => none) k
    cases opndF x a with
    | none => rfl
    | some v => cases opndF i a with
      | none => rfl
      | some w => exact indexK_eq _ _ _ _ _ _
  | extract x i =>
    show extO (opndF x a) i h k = outK (match opndF x a with
      | some v => keep h (aExtract v i)
      | none => none) k
    cases opndF x a with
    | none => rfl
    | some v => exact extK_eq _ _ _ _
  | call c =>
    obtain ⟨callee, xs, ats⟩ := c
    cases callee with
    | value f =>
      show callV (opndF f a) (opndsF xs.toList a) E code h k = outK (match opndF f a, aopnds (fun x => opndF x a) xs.toList with
        | some fv, some vs => evVal E code fv vs h
        | _, _ => none) k
      rw [opndsF_eq]
      cases opndF f a with
      | none => rfl
      | some fv => cases aopnds (fun x => opndF x a) xs.toList with
        | none => rfl
        | some vs => show outK (evValF fv vs E code h) k = outK (evVal E code fv vs h) k; rw [evValF_eq]
    | invoke r m => rfl
    | builtin b => rfl
  | _ => rfl
noncomputable abbrev KT := Tr Value → AHeap → RF
noncomputable def dstK : Option Tmp → Nat → KT → Tr Value → KF := @Option.rec Tmp (fun _ => Nat → KT → Tr Value → KF) (fun _ k a _ h => k a h) (fun d nt k a v h => (@Bool.rec (fun _ => KT → Tr Value → Tmp → KF) (fun _ _ _ _ _ => none) (fun k a d v h => k (Tr.putV a d (some v)) h)) (Nat.ble (Nat.succ d) nt) k a d v h)
theorem dstK_eq (dst : Option Tmp) (nt : Nat) (k : KT) (a : Tr Value) (v : Value) (h : AHeap) : dstK dst nt k a v h = match aput nt a dst v with
    | some a' => k a' h
    | none => none := by
  cases dst with
  | none => rfl
  | some d =>
    show @Bool.rec (fun _ => KT → Tr Value → Tmp → KF) (fun _ _ _ _ _ => none) (fun k a d v h => k (Tr.putV a d (some v)) h) (Nat.ble (Nat.succ d) nt) k a d v h = (match (bif Nat.ble (d + 1) nt then some (a.put d (some v)) else none) with
      | some a' => k a' h
      | none => none)
    rw [← Tr.putV_eq]
    show @Bool.rec (fun _ => KT → Tr Value → Tmp → KF) (fun _ _ _ _ _ => none) (fun k a d v h => k (Tr.putV a d (some v)) h) (Nat.ble (d + 1) nt) k a d v h = _
    cases Nat.ble (d + 1) nt <;> rfl
noncomputable abbrev OT := Env → CodeF → Array Oper → Nat → KT → Tr Value → AHeap → RF
noncomputable def onK : Option Tmp → Op → TypeId → OT := fun dst op ty E code _ nt k a h => opK op E code ty a h (dstK dst nt k a)
noncomputable def gdst (ops : Array Oper) (j : Nat) : Option Tmp := (ops[j]?).bind (·.dst)
noncomputable def boolV : Option Value → Bool → Option Bool := @Option.rec Value (fun _ => Bool → Option Bool) (fun _ => none) (@Value.rec (fun _ => Bool → Option Bool) (fun _ => Unit) (fun _ => Unit) (fun b want => some (@Bool.rec (fun _ => Bool → Bool) (@Bool.rec (fun _ => Bool) true false) (@Bool.rec (fun _ => Bool) false true) b want)) (fun _ _ _ => some false) (fun _ _ _ => some false) (fun _ _ _ _ => some false) (fun _ _ => some false) (fun _ _ => some false) (fun _ _ _ _ => some false) (fun _ _ => some false) (fun _ _ => some false) (fun _ _ _ _ _ _ => some false) (fun _ => some false) (fun _ _ _ _ => some false) (fun _ => some false) (fun _ _ _ => some false) (fun _ _ _ => some false) (fun _ _ => ()) () (fun _ _ _ _ => ()))
noncomputable def guardF : Option Tmp → Bool → Tr Value → Option Bool := @Option.rec Tmp (fun _ => Bool → Tr Value → Option Bool) (fun _ _ => some false) (fun d want a => boolV (Tr.getV a d) want)
noncomputable def whenK : Option Bool → Option Tmp → Op → TypeId → OT := @Option.rec Bool (fun _ => Option Tmp → Op → TypeId → OT) (fun _ _ _ _ _ _ _ _ _ _ => none) (@Bool.rec (fun _ => Option Tmp → Op → TypeId → OT) (fun dst _ _ _ _ _ nt k a h => dstK dst nt k a (.tuple #[]) h) onK)
noncomputable def goK : Option (Nat × Bool) → Option Tmp → Op → TypeId → OT := @Option.rec (Nat × Bool) (fun _ => Option Tmp → Op → TypeId → OT) onK (@Prod.rec Nat Bool (fun _ => Option Tmp → Op → TypeId → OT) (fun j want dst op ty E code ops nt k a h => whenK (guardF (gdst ops j) want a) dst op ty E code ops nt k a h))
noncomputable def operK : Oper → OT := @Oper.rec (fun _ => OT) (fun dst op ty _ _ g E code ops nt k a h => goK g dst op ty E code ops nt k a h)
noncomputable def opsK : List Oper → Env → CodeF → Array Oper → Nat → KT := @List.rec Oper (fun _ => Env → CodeF → Array Oper → Nat → KT) (fun _ _ _ _ a h => some (a, h)) (fun o _ ih E code ops nt a h => operK o E code ops nt (ih E code ops nt) a h)
theorem guard_eq (ops : Array Oper) (a : Tr Value) (dst : Option Tmp) (op : Op) (ty : TypeId) (pos : String) (after : Array Edge) (j : Nat) (want : Bool) : guardF (gdst ops j) want a = aguard ops a ⟨dst, op, ty, pos, after, some (j, want)⟩ := by
  show guardF (gdst ops j) want a = (match (ops[j]?).bind (·.dst) with
    | none => some false
    | some d => match a.get d with
      | some (.bool b) => some (b == want)
      | some _ => some false
      | none => none)
  unfold gdst
  cases (ops[j]?).bind (·.dst) with
  | none => rfl
  | some d =>
    show boolV (Tr.getV a d) want = (match a.get d with
      | some (.bool b) => some (b == want)
      | some _ => some false
      | none => none)
    rw [Tr.getV_eq]
    cases a.get d with
    | none => rfl
    | some v => cases v with
      | bool b => cases b <;> cases want <;> rfl
      | _ => rfl
theorem onK_eq (E : Env) (code : CodeF) (ops : Array Oper) (nt : Nat) (k : KT) (o : Oper) (a : Tr Value) (h : AHeap) : onK o.dst o.op o.type E code ops nt k a h = bif isDefer o.op then none else match evOp E code o (aopnd a) h with
      | some (v, h') => match aput nt a o.dst v with
        | some a' => k a' h'
        | none => none
      | none => none := by
  unfold onK
  rw [opK_eq]
  have e : opF o.op E code o.type (fun x => opndF x a) h = evOp E code o (fun x => opndF x a) h := congrFun (congrFun (congrFun (opF_eq E code) o) (fun x => opndF x a)) h
  rw [e, opndF_eq]
  cases hd : isDefer o.op
  · rw [cond_false]
    cases evOp E code o (aopnd a) h with
    | none => rfl
    | some p => obtain ⟨v, h'⟩ := p; exact dstK_eq _ _ _ _ _ _
  · rw [defer_none E code hd]; rfl
theorem opsK_eq (E : Env) (code : CodeF) (ops : Array Oper) (nt : Nat) : ∀ (os : List Oper) (a : Tr Value) (h : AHeap), opsK os E code ops nt a h = evOps E code ops nt os a h
  | [], a, h => rfl
  | o :: os, a, h => by
    have e2 : opsK os E code ops nt = evOps E code ops nt os := by funext a h; exact opsK_eq E code ops nt os a h
    rw [evOps]
    show operK o E code ops nt (opsK os E code ops nt) a h = _
    rw [e2]
    obtain ⟨dst, op, ty, pos, after, guard⟩ := o
    cases guard with
    | none => exact onK_eq E code ops nt (evOps E code ops nt os) ⟨dst, op, ty, pos, after, none⟩ a h
    | some g =>
      obtain ⟨j, want⟩ := g
      show whenK (guardF (gdst ops j) want a) dst op ty E code ops nt (evOps E code ops nt os) a h = _
      rw [guard_eq ops a dst op ty pos after j want]
      cases aguard ops a ⟨dst, op, ty, pos, after, some (j, want)⟩ with
      | none => rfl
      | some b => cases b with
        | false => exact dstK_eq _ _ _ _ _ _
        | true => exact onK_eq E code ops nt (evOps E code ops nt os) ⟨dst, op, ty, pos, after, some (j, want)⟩ a h
noncomputable abbrev StepR := Env → CodeF → Cx → Tr Value → AHeap → RS
noncomputable def regK : RF → RS := @Option.rec (Tr Value × AHeap) (fun _ => RS) none (fun p => some (.normal, p))
noncomputable def seqE : AExit → (Tr Value × AHeap) → CodeF → Cx → Code → RS := @AExit.rec (fun _ => (Tr Value × AHeap) → CodeF → Cx → Code → RS) (@Prod.rec (Tr Value) AHeap (fun _ => CodeF → Cx → Code → RS) (fun a h code cx y => code cx y a h)) (fun i p _ _ _ => some (.exit i, p)) (fun p _ _ _ => some (.ret, p))
noncomputable def seqK : RS → CodeF → Cx → Code → RS := @Option.rec (AExit × Tr Value × AHeap) (fun _ => CodeF → Cx → Code → RS) (fun _ _ _ => none) (@Prod.rec AExit (Tr Value × AHeap) (fun _ => CodeF → Cx → Code → RS) seqE)
noncomputable def blkE : AExit → (Tr Value × AHeap) → Nat → RS := @AExit.rec (fun _ => (Tr Value × AHeap) → Nat → RS) (fun p _ => some (.normal, p)) (fun i p id => some (@Bool.rec (fun _ => AExit) (.exit i) .normal (Nat.beq i id), p)) (fun p _ => some (.ret, p))
noncomputable def blkK : RS → Nat → RS := @Option.rec (AExit × Tr Value × AHeap) (fun _ => Nat → RS) (fun _ => none) (@Prod.rec AExit (Tr Value × AHeap) (fun _ => Nat → RS) blkE)
noncomputable def condO : Option Value → Code → Code → CodeF → Cx → Tr Value → AHeap → RS := @Option.rec Value (fun _ => Code → Code → CodeF → Cx → Tr Value → AHeap → RS) (fun _ _ _ _ _ _ => none) (@Value.rec (fun _ => Code → Code → CodeF → Cx → Tr Value → AHeap → RS) (fun _ => Unit) (fun _ => Unit) (fun b x y code cx a h => @Bool.rec (fun _ => RS) (code cx y a h) (code cx x a h) b) (fun _ _ _ _ _ _ _ _ => none) (fun _ _ _ _ _ _ _ _ => none) (fun _ _ _ _ _ _ _ _ _ => none) (fun _ _ _ _ _ _ _ => none) (fun _ _ _ _ _ _ _ => none) (fun _ _ _ _ _ _ _ _ _ => none) (fun _ _ _ _ _ _ _ => none) (fun _ _ _ _ _ _ _ => none) (fun _ _ _ _ _ _ _ _ _ _ _ => none) (fun _ _ _ _ _ _ => none) (fun _ _ _ _ _ _ _ _ _ => none) (fun _ _ _ _ _ _ => none) (fun _ _ _ _ _ _ _ _ => none) (fun _ _ _ _ _ _ _ _ => none) (fun _ _ => ()) () (fun _ _ _ _ => ()))
noncomputable def stepF : Code → StepR :=
  @Code.rec (fun _ => StepR)
    (fun _ _ _ a h => some (.normal, a, h))
    (fun _ ops draw E code cx a h => (@Bool.rec (fun _ => Array Oper → Env → CodeF → Cx → Tr Value → AHeap → RS) (fun ops E code cx a h => regK (opsK ops.toList E code ops cx.nt a h)) (fun ops E code cx a h => regK (evDrawn E.P E.T (fun o ρ h => opF o.op E code o.type ρ h) ops cx.nt a h))) draw ops E code cx a h)
    (fun x y _ _ _ code cx a h => seqK (code cx x a h) code cx y)
    (fun c x y _ _ _ code cx a h => condO (opndF c a) x y code cx a h)
    (fun id c _ _ code cx a h => blkK (code cx c a h) id)
    (fun c _ _ code cx a h => seqK (code cx c a h) code cx (.loop c))
    (fun f params assign body _ _ E code cx a h => evRange E code cx f params assign body a h)
    (fun id _ _ _ a h => some (.exit id, a, h))
    (fun c _ _ code cx a h => code cx c a h)
    (fun _ _ _ _ a h => some (.normal, a, h))
    (fun _ _ _ _ _ _ => none)
    (fun _ _ _ a h => some (.ret, a, h))
    (fun _ _ _ _ _ _ => none)
theorem seqK_eq (x : RS) (code : CodeF) (cx : Cx) (y : Code) : seqK x code cx y = match x with
    | some (.normal, a', h') => code cx y a' h'
    | r => r := by
  rcases x with _ | ⟨e, a, h⟩
  · rfl
  · cases e <;> rfl
theorem stepF_eq (E : Env) (code : CodeF) : (fun cx c a h => stepF c E code cx a h) = evStep E code := by
  funext cx c a h
  cases c with
  | region id ops draw =>
    have rg : ∀ x : RF, regK x = (match x with
      | some (a', h') => some (AExit.normal, a', h')
      | none => none) := by intro x; rcases x with _ | ⟨a, h⟩ <;> rfl
    cases draw with
    | false => show regK (opsK ops.toList E code ops cx.nt a h) = _; rw [rg, opsK_eq]; rfl
    | true => show regK (evDrawn E.P E.T (fun o ρ h => opF o.op E code o.type ρ h) ops cx.nt a h) = _; rw [rg, opF_eq]; rfl
  | seq x y => exact seqK_eq _ _ _ _
  | cond c x y =>
    show condO (opndF c a) x y code cx a h = (match aopnd a c with
      | some (.bool t) => bif t then code cx x a h else code cx y a h
      | _ => none)
    rw [show opndF c a = aopnd a c from congrFun (opndF_eq a) c]
    cases aopnd a c with
    | none => rfl
    | some v => cases v with
      | bool b => cases b <;> rfl
      | _ => rfl
  | block id c =>
    show blkK (code cx c a h) id = (match code cx c a h with
      | some (.exit i, a', h') => some (bif Nat.beq i id then .normal else .exit i, a', h')
      | r => r)
    rcases code cx c a h with _ | ⟨e, a', h'⟩
    · rfl
    · cases e with
      | exit i => show some (@Bool.rec (fun _ => AExit) (.exit i) .normal (Nat.beq i id), a', h') = some (bif Nat.beq i id then .normal else .exit i, a', h'); cases Nat.beq i id <;> rfl
      | _ => rfl
  | loop c => exact seqK_eq _ _ _ _
  | _ => rfl
noncomputable def evF (E : Env) : Nat → CodeF := @Nat.rec (fun _ => CodeF) (fun _ _ _ _ => none) (fun _ ih cx c a h => stepF c E ih cx a h)
theorem evF_eq (E : Env) : ∀ n, evF E n = ev E n
  | 0 => rfl
  | n + 1 => by
    show (fun cx c a h => stepF c E (evF E n) cx a h) = evStep E (ev E n)
    rw [evF_eq E n, stepF_eq]
theorem closedF_true {E : Env} (ok : EnvOK E) (n : Nat) {f : FuncId} (he : isTrue (evCallF f E (evF E n) [] ⟨0, .leaf⟩) = true) (w : World) : Calls E.P f #[] w fun e w' => e = .returned (.bool true) ∧ Kept w w' :=
  closed_true ok n (by rw [← evF_eq, ← evCallF_eq]; exact he) w
end Go.Ab.Nx
