/- A KEPT CALL of a closed run ends as it is kept. No condition. -/
import Derived.Test.YtifnbnlghfedfaaGreatDoorKt
namespace Go.Proofs.YtifnbnlghfedfaaGreatDoor
open Go Go.Bk
set_option maxRecDepth 1000000
theorem kt4_ends : kt4.ends (acallN Tryz.prog (extA Tryz.prog) (memoSp [kt3]) (drawOk Tryz.prog) 1000 (.fn 10) kt4.args (heapOf kt4.n0 kt4.l0)) = true := by kernel_rfl
end Go.Proofs.YtifnbnlghfedfaaGreatDoor
