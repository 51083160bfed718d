/- DisplayNil's ROW HOLDS. No condition beyond the given card's own. -/
import Derived.Test.YtifnbnlghfedfaaGreatDoorDnLift
import Derived.Test.YtifnbnlghfedfaaGreatDoorDnFacts
namespace Go.Proofs.YtifnbnlghfedfaaGreatDoor
open Go
set_option maxRecDepth 1000000
theorem displayNil_holds : Rows.DisplayNilSaid :=
  OpenClaim.holds_of_wide 3 Tryz.f3 rfl rfl rfl rfl rfl rfl rfl ⟨rfl, rfl, rfl, rfl, rfl⟩ rfl rfl rfl rfl rfl (by kernel_rfl) Tryz.func3 displayNil_facts
    (of_decide_eq_true (by kernel_rfl)) (by unfold Func.isWrapper; first | (rw [if_pos (by decide +kernel)]; kernel_rfl) | (rw [if_neg (by decide +kernel)]; exact ⟨rfl, rfl⟩))
    (fun os started H enc _ => displayNil_lifted os started H enc)
end Go.Proofs.YtifnbnlghfedfaaGreatDoor
