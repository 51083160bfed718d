/- A KEPT CALL of a closed run ends as it is kept. No condition. -/
import Derived.Test.YtifnbnlghfedfaaGreatDoorKb
namespace Go.Proofs.YtifnbnlghfedfaaGreatDoor
open Go Go.Bk
set_option maxRecDepth 1000000
theorem kb5_ends : kb5.ends (acallN Tryz.prog (extA Tryz.prog) (memoSp [kb0, kb4]) (drawOk Tryz.prog) 1000 (.fn 97) kb5.args (heapOf kb5.n0 kb5.l0)) = true := by kernel_rfl
end Go.Proofs.YtifnbnlghfedfaaGreatDoor
