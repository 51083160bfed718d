/- A KEPT CALL of a closed run ends as it is kept. No condition. -/
import Derived.Test.YtifnbnlghfedfaaGreatDoorKb
namespace Go.Proofs.YtifnbnlghfedfaaGreatDoor
open Go Go.Bk
set_option maxRecDepth 1000000
theorem kb9_ends : kb9.ends (acallN Tryz.prog (extA Tryz.prog) (memoSp [kb7, kb8]) (drawOk Tryz.prog) 1000 (.fn 96) kb9.args (heapOf kb9.n0 kb9.l0)) = true := by kernel_rfl
end Go.Proofs.YtifnbnlghfedfaaGreatDoor
