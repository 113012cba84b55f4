/-
  The law CacheKnown, closed: it gives true.
-/
import Derived.Test.YtimbhgkiohbkdaaGreatCkP4
import Derived.Test.YtimbhgkiohbkdaaGreatCkP6
import Derived.Test.YtimbhgkiohbkdaaGreatCkP7
import Derived.Test.YtimbhgkiohbkdaaGreatCkP10
import Derived.Test.YtimbhgkiohbkdaaGreatCkP13
namespace Go.Proofs.YtimbhgkiohbkdaaGreat
open Go.Ab Go.Ab.Nx Go.Ab.Nx.Zx Go.Ab.Nx.Lx Go.Ab.Nx.Sx Go.Ab.Nx.Dx Go.Ab.Nx.Mx
set_option maxRecDepth 1000000
theorem nt_eq : Tryz.f3.ntmps = 326 := by kernel_rfl
theorem known_run (w : World) : Calls Tryz.prog 3 #[] w fun e w' => e = .returned (.bool true) ∧ Kept w w' := by
  have hv := evZ_sound envQ_ok 1000
  have h16 : CWp envQ.P ⟨3, Tryz.f3.ntmps, none⟩ (dropS 16 bodyK) (mkA sg16.tmps) (mkH sg16.next sg16.rows) (fun e a' h' => match e with | .exit _ => False | _ => ∃ v, aRet envQ.T Tryz.f3 a' h' = some v ∧ v = .bool true) := CWp.last envQ_ok hv (by rw [nt_eq]; exact qz)
  have h13 : CWp envQ.P ⟨3, Tryz.f3.ntmps, none⟩ (dropS 13 bodyK) (mkA sg13.tmps) (mkH sg13.next sg13.rows) (fun e a' h' => match e with | .exit _ => False | _ => ∃ v, aRet envQ.T Tryz.f3 a' h' = some v ∧ v = .bool true) := CWp.chain envQ_ok hv (k := 3) sg16 (by rw [nt_eq]; exact q16) (by rw [dropS_dropS]; exact h16)
  have h10 : CWp envQ.P ⟨3, Tryz.f3.ntmps, none⟩ (dropS 10 bodyK) (mkA sg10.tmps) (mkH sg10.next sg10.rows) (fun e a' h' => match e with | .exit _ => False | _ => ∃ v, aRet envQ.T Tryz.f3 a' h' = some v ∧ v = .bool true) := CWp.chain envQ_ok hv (k := 3) sg13 (by rw [nt_eq]; exact q13) (by rw [dropS_dropS]; exact h13)
  have h9 : CWp envQ.P ⟨3, Tryz.f3.ntmps, none⟩ (dropS 9 bodyK) (mkA sg9.tmps) (mkH sg9.next sg9.rows) (fun e a' h' => match e with | .exit _ => False | _ => ∃ v, aRet envQ.T Tryz.f3 a' h' = some v ∧ v = .bool true) := CWp.chain envQ_ok hv (k := 1) sg10 (by rw [nt_eq]; exact q10) (by rw [dropS_dropS]; exact h10)
  have h7 : CWp envQ.P ⟨3, Tryz.f3.ntmps, none⟩ (dropS 7 bodyK) (mkA sg7.tmps) (mkH sg7.next sg7.rows) (fun e a' h' => match e with | .exit _ => False | _ => ∃ v, aRet envQ.T Tryz.f3 a' h' = some v ∧ v = .bool true) := CWp.chain envQ_ok hv (k := 2) sg9 (by rw [nt_eq]; exact q9) (by rw [dropS_dropS]; exact h9)
  have h6 : CWp envQ.P ⟨3, Tryz.f3.ntmps, none⟩ (dropS 6 bodyK) (mkA sg6.tmps) (mkH sg6.next sg6.rows) (fun e a' h' => match e with | .exit _ => False | _ => ∃ v, aRet envQ.T Tryz.f3 a' h' = some v ∧ v = .bool true) := CWp.chain envQ_ok hv (k := 1) sg7 (by rw [nt_eq]; exact q7) (by rw [dropS_dropS]; exact h7)
  have h4 : CWp envQ.P ⟨3, Tryz.f3.ntmps, none⟩ (dropS 4 bodyK) (mkA sg4.tmps) (mkH sg4.next sg4.rows) (fun e a' h' => match e with | .exit _ => False | _ => ∃ v, aRet envQ.T Tryz.f3 a' h' = some v ∧ v = .bool true) := CWp.chain envQ_ok hv (k := 2) sg6 (by rw [nt_eq]; exact q6) (by rw [dropS_dropS]; exact h6)
  refine closed_pieces envQ_ok (fn := Tryz.f3) (by kernel_rfl) body_eq (CWp.chain envQ_ok hv (k := 4) sg4 (by rw [nt_eq]; exact q4) h4) w
end Go.Proofs.YtimbhgkiohbkdaaGreat
