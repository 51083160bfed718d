/- THE CLOSED FACTS OF SessionNil's CARD, one by one. No condition. -/
import Derived.Test.YtifnbnlghfedfaaGreatDoorCards
import Derived.SevenTiedAt
import Derived.KernelRfl
namespace Go.Proofs.YtifnbnlghfedfaaGreatDoor
open Go
set_option maxRecDepth 1000000
theorem sessionNil_wft : Rows.sessionNilRow.wfByText (OpenSpec.ofChange Rows.sessionNilSpec) = true := by kernel_rfl
theorem sessionNil_main : Tryz.prog.mainIs = some (true, "25ff4c5d703bc992a2fcf2319fa220440805df8abe6e8864c3b06225e7c93683".toList) := by kernel_rfl
theorem sessionNil_looks : true = Tryz.prog.looks [] := by kernel_rfl
theorem sessionNil_named : Tryz.prog.funcNamed "bodkin/bodkinlaw45.SessionNil" = some 4 := by kernel_rfl
theorem sessionNil_wants : ([43].all fun u => !Tryz.prog.wantsStandIn u) = true := by kernel_rfl
theorem sessionNil_goes : false = Rows.sessionNilRow.goesBy Tryz.prog := by kernel_rfl
end Go.Proofs.YtifnbnlghfedfaaGreatDoor
