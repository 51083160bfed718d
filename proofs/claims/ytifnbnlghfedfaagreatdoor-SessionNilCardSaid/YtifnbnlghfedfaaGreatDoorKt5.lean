/- A KEPT CALL of a closed run ends as it is kept. No condition. -/
import Derived.Test.YtifnbnlghfedfaaGreatDoorKt
namespace Go.Proofs.YtifnbnlghfedfaaGreatDoor
open Go Go.Bk
set_option maxRecDepth 1000000
theorem kt5_ends : kt5.ends (acallN Tryz.prog (extA Tryz.prog) (memoSp []) (drawOk Tryz.prog) 1000 (.fn 92) kt5.args (heapOf kt5.n0 kt5.l0)) = true := by kernel_rfl
end Go.Proofs.YtifnbnlghfedfaaGreatDoor
