/- A KEPT CALL of a closed run ends as it is kept. No condition. -/
import Derived.Test.YtifnbnlghfedfaaGreatDoorKt
namespace Go.Proofs.YtifnbnlghfedfaaGreatDoor
open Go Go.Bk
set_option maxRecDepth 1000000
theorem kt3_ends : kt3.ends (acallN Tryz.prog (extA Tryz.prog) (memoSp [kt0, kt2]) (drawOk Tryz.prog) 1000 (.fn 97) kt3.args (heapOf kt3.n0 kt3.l0)) = true := by kernel_rfl
end Go.Proofs.YtifnbnlghfedfaaGreatDoor
