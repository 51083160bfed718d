/- A KEPT CALL of a closed run ends as it is kept. No condition. -/
import Derived.Test.YtifnbnlghfedfaaGreatDoorKb
namespace Go.Proofs.YtifnbnlghfedfaaGreatDoor
open Go Go.Bk
set_option maxRecDepth 1000000
theorem kb8_ends : kb8.ends (acallN Tryz.prog (extA Tryz.prog) (memoSp []) (drawOk Tryz.prog) 1000 (.fn 165) kb8.args (heapOf kb8.n0 kb8.l0)) = true := by kernel_rfl
end Go.Proofs.YtifnbnlghfedfaaGreatDoor
