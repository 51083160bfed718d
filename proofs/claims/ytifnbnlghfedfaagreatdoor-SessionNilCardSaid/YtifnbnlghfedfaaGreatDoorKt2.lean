/- A KEPT CALL of a closed run ends as it is kept. No condition. -/
import Derived.Test.YtifnbnlghfedfaaGreatDoorKt
namespace Go.Proofs.YtifnbnlghfedfaaGreatDoor
open Go Go.Bk
set_option maxRecDepth 1000000
theorem kt2_ends : kt2.ends (acallN Tryz.prog (extA Tryz.prog) (memoSp [kt1]) (drawOk Tryz.prog) 1000 (.fn 96) kt2.args (heapOf kt2.n0 kt2.l0)) = true := by kernel_rfl
end Go.Proofs.YtifnbnlghfedfaaGreatDoor
