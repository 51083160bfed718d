/- A KEPT CALL of a closed run ends as it is kept. No condition. -/
import Derived.Test.YtifnbnlghfedfaaGreatDoorKb
namespace Go.Proofs.YtifnbnlghfedfaaGreatDoor
open Go Go.Bk
set_option maxRecDepth 1000000
theorem kb1_ends : kb1.ends (acallN Tryz.prog (extA Tryz.prog) (memoSp []) (drawOk Tryz.prog) 1000 (.fn 84) kb1.args (heapOf kb1.n0 kb1.l0)) = true := by kernel_rfl
end Go.Proofs.YtifnbnlghfedfaaGreatDoor
