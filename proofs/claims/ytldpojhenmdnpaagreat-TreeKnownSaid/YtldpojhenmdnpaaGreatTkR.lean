/-
  The law TreeKnown, closed: it gives true.
-/
import Derived.Test.YtldpojhenmdnpaaGreatTkP
import Derived.Test.YtldpojhenmdnpaaGreatTkQ
namespace Go.Proofs.YtldpojhenmdnpaaGreat
open Go.Ab Go.Ab.Nx Go.Ab.Nx.Zx Go.Ab.Nx.Lx Go.Ab.Nx.Sx Go.Ab.Nx.Dx Go.Ab.Nx.Mx
set_option maxRecDepth 1000000
theorem known_run (w : World) : Calls Tryz.prog 7 #[] w fun e w' => e = .returned (.bool true) ∧ Kept w w' := by
  have hv := evZ_sound envT_ok 1000
  have hr : CWp envT.P ⟨7, Tryz.f7.ntmps, none⟩ (dropS 6 bodyK) (mkA sg0.tmps) (mkH sg0.next sg0.rows) fun e a' h' => match e with | .exit _ => False | _ => ∃ v, aRet envT.T Tryz.f7 a' h' = some v ∧ v = .bool true := by
    rw [drop_eq]
    exact CWp.seqSeqLoop envT_ok hv sg1 rF (CWp.rounds envT_ok hv 22 sg23 r1 (CWp.rounds envT_ok hv 9 sg32 r23 (CWp.rounds envT_ok hv 7 sg39 r32 (CWp.rounds envT_ok hv 6 sg45 r39 (CWp.rounds envT_ok hv 5 sg50 r45 (CWp.rounds envT_ok hv 5 sg55 r50 (CWp.rounds envT_ok hv 4 sg59 r55 (CWp.rounds envT_ok hv 4 sg63 r59 (CWp.rounds envT_ok hv 2 sg65 r63 (CWp.loopEnd envT_ok hv sg65 rE (CWp.last envT_ok hv rZ)))))))))))
  exact closed_pieces envT_ok (fn := Tryz.f7) (by kernel_rfl) body_eq (CWp.chain envT_ok hv (k := 6) sg0 r0 hr) w
end Go.Proofs.YtldpojhenmdnpaaGreat
