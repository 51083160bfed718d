/- THE CLOSED FACTS OF DisplayNil's CARD, one by one. No condition. -/
import Derived.Test.YtifnbnlghfedfaaGreatDoorCards
import Derived.SevenTiedAt
import Derived.KernelRfl
namespace Go.Proofs.YtifnbnlghfedfaaGreatDoor
open Go
set_option maxRecDepth 1000000
theorem displayNil_wft : Rows.displayNilRow.wfByText (OpenSpec.ofChange Rows.displayNilSpec) = true := by kernel_rfl
theorem displayNil_main : Tryz.prog.mainIs = some (true, "25ff4c5d703bc992a2fcf2319fa220440805df8abe6e8864c3b06225e7c93683".toList) := by kernel_rfl
theorem displayNil_looks : true = Tryz.prog.looks [] := by kernel_rfl
theorem displayNil_named : Tryz.prog.funcNamed "bodkin/bodkinlaw32.DisplayNil" = some 3 := by kernel_rfl
theorem displayNil_wants : ([26].all fun u => !Tryz.prog.wantsStandIn u) = true := by kernel_rfl
theorem displayNil_goes : false = Rows.displayNilRow.goesBy Tryz.prog := by kernel_rfl
end Go.Proofs.YtifnbnlghfedfaaGreatDoor
