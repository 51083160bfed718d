/- A KEPT CALL of a closed run ends as it is kept. No condition. -/
import Derived.Test.YtifnbnlghfedfaaGreatDoorKb
namespace Go.Proofs.YtifnbnlghfedfaaGreatDoor
open Go Go.Bk
set_option maxRecDepth 1000000
theorem kb4_ends : kb4.ends (acallN Tryz.prog (extA Tryz.prog) (memoSp [kb2, kb3]) (drawOk Tryz.prog) 1000 (.fn 96) kb4.args (heapOf kb4.n0 kb4.l0)) = true := by kernel_rfl
end Go.Proofs.YtifnbnlghfedfaaGreatDoor
