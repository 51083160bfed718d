/- A KEPT CALL of a closed run ends as it is kept. No condition. -/
import Derived.Test.YtifnbnlghfedfaaGreatDoorKt
namespace Go.Proofs.YtifnbnlghfedfaaGreatDoor
open Go Go.Bk
set_option maxRecDepth 1000000
theorem kt7_ends : kt7.ends (acallN Tryz.prog (extA Tryz.prog) (memoSp [kt6]) (drawOk Tryz.prog) 1000 (.fn 96) kt7.args (heapOf kt7.n0 kt7.l0)) = true := by kernel_rfl
end Go.Proofs.YtifnbnlghfedfaaGreatDoor
