/-
  The tables with what was shown of page.Fold and page.Advance; the functions that go through maps.
-/
import Derived.Test.YtimbhgkiohbkdaaGreatCkM
namespace Go.Proofs.YtimbhgkiohbkdaaGreat
open Go.Ab Go.Ab.Nx Go.Ab.Nx.Zx Go.Ab.Nx.Lx Go.Ab.Nx.Dx Go.Ab.Nx.Mx
set_option maxRecDepth 1000000
noncomputable def envD : Env := envU (envR envC memos) known
theorem envD_ok : EnvOK envD := envU_ok (envR_ok envC_ok memosOK) _
noncomputable abbrev slowF : List FuncId := [120, 32, 79, 43]
noncomputable def envE : Env := envU (envM envD 1000 exts slowF 3) known
theorem envE_ok : EnvOK envE := envU_ok (envM_ok envD_ok 1000 extsOK slowF 3) _
end Go.Proofs.YtimbhgkiohbkdaaGreat
