/- A KEPT CALL of a closed run ends as it is kept. No condition. -/
import Derived.Test.YtifnbnlghfedfaaGreatDoorKt
namespace Go.Proofs.YtifnbnlghfedfaaGreatDoor
open Go Go.Bk
set_option maxRecDepth 1000000
theorem kt0_ends : kt0.ends (acallN Tryz.prog (extA Tryz.prog) (memoSp []) (drawOk Tryz.prog) 1000 (.fn 92) kt0.args (heapOf kt0.n0 kt0.l0)) = true := by kernel_rfl
end Go.Proofs.YtifnbnlghfedfaaGreatDoor
