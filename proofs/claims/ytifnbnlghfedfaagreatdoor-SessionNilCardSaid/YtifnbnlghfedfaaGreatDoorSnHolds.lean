/- SessionNil's ROW HOLDS. No condition beyond the given card's own. -/
import Derived.Test.YtifnbnlghfedfaaGreatDoorSnLift
import Derived.Test.YtifnbnlghfedfaaGreatDoorSnFacts
namespace Go.Proofs.YtifnbnlghfedfaaGreatDoor
open Go
set_option maxRecDepth 1000000
theorem sessionNil_holds : Rows.SessionNilSaid :=
  OpenClaim.holds_of_wide 4 Tryz.f4 rfl rfl rfl rfl rfl rfl rfl ⟨rfl, rfl, rfl, rfl, rfl⟩ rfl rfl rfl rfl rfl (by kernel_rfl) Tryz.func4 sessionNil_facts
    (of_decide_eq_true (by kernel_rfl)) (by unfold Func.isWrapper; first | (rw [if_pos (by decide +kernel)]; kernel_rfl) | (rw [if_neg (by decide +kernel)]; exact ⟨rfl, rfl⟩))
    (fun os started H enc _ => sessionNil_lifted os started H enc)

end Go.Proofs.YtifnbnlghfedfaaGreatDoor
