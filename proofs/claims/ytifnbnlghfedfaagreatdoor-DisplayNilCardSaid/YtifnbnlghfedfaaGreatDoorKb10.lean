/- A KEPT CALL of a closed run ends as it is kept. No condition. -/
import Derived.Test.YtifnbnlghfedfaaGreatDoorKb
namespace Go.Proofs.YtifnbnlghfedfaaGreatDoor
open Go Go.Bk
set_option maxRecDepth 1000000
theorem kb10_ends : kb10.ends (acallN Tryz.prog (extA Tryz.prog) (memoSp [kb5, kb6, kb9]) (drawOk Tryz.prog) 1000 (.fn 6) kb10.args (heapOf kb10.n0 kb10.l0)) = true := by kernel_rfl
end Go.Proofs.YtifnbnlghfedfaaGreatDoor
