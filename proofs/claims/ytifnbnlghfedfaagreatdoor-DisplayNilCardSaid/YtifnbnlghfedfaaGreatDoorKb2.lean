/- A KEPT CALL of a closed run ends as it is kept. No condition. -/
import Derived.Test.YtifnbnlghfedfaaGreatDoorKb
namespace Go.Proofs.YtifnbnlghfedfaaGreatDoor
open Go Go.Bk
set_option maxRecDepth 1000000
theorem kb2_ends : kb2.ends (acallN Tryz.prog (extA Tryz.prog) (memoSp [kb1]) (drawOk Tryz.prog) 1000 (.fn 163) kb2.args (heapOf kb2.n0 kb2.l0)) = true := by kernel_rfl
end Go.Proofs.YtifnbnlghfedfaaGreatDoor
