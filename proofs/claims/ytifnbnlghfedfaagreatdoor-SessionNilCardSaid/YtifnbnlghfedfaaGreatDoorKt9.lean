/- A KEPT CALL of a closed run ends as it is kept. No condition. -/
import Derived.Test.YtifnbnlghfedfaaGreatDoorKt
namespace Go.Proofs.YtifnbnlghfedfaaGreatDoor
open Go Go.Bk
set_option maxRecDepth 1000000
theorem kt9_ends : kt9.ends (acallN Tryz.prog (extA Tryz.prog) (memoSp [kt4, kt8]) (drawOk Tryz.prog) 1000 (.fn 15) kt9.args (heapOf kt9.n0 kt9.l0)) = true := by kernel_rfl
end Go.Proofs.YtifnbnlghfedfaaGreatDoor
