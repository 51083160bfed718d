/- A KEPT CALL of a closed run ends as it is kept. No condition. -/
import Derived.Test.YtifnbnlghfedfaaGreatDoorKt
namespace Go.Proofs.YtifnbnlghfedfaaGreatDoor
open Go Go.Bk
set_option maxRecDepth 1000000
theorem kt8_ends : kt8.ends (acallN Tryz.prog (extA Tryz.prog) (memoSp [kt5, kt7]) (drawOk Tryz.prog) 1000 (.fn 18) kt8.args (heapOf kt8.n0 kt8.l0)) = true := by kernel_rfl
end Go.Proofs.YtifnbnlghfedfaaGreatDoor
