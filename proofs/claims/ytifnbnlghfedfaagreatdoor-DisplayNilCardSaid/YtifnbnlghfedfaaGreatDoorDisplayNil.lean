/- 'bodkin/bodkinlaw32.DisplayNil' returns true, whatever the operation, and leaves it as it was: the given card. No condition beyond the card's own. -/
import Derived.Test.YtifnbnlghfedfaaGreatDoorCards
import Derived.Test.YtifnbnlghfedfaaGreatDoorTie
import Derived.Test.YtifnbnlghfedfaaGreatDoorDnHolds
import Derived.Test.YtifnbnlghfedfaaGreatDoorDnCard
namespace Go.Proofs.YtifnbnlghfedfaaGreatDoor
open Go
/-- The given card. -/
theorem displayNil_card : Rows.DisplayNilCardSaid :=
  Claim7.holds_tied_plain_at .later [] [.data, .data, .data] true (true, "25ff4c5d703bc992a2fcf2319fa220440805df8abe6e8864c3b06225e7c93683") true
    displayNil_holds (fun _ h => by cases h) displayNil_wft (fun _ h => by cases h) displayNil_row_tie rfl ⟨rfl, rfl⟩ displayNil_main rfl
    (fun f fn hf hfn => by
      obtain rfl : f = 3 := Option.some.inj (displayNil_named.symm.trans hf) |>.symm
      obtain rfl : fn = Tryz.f3 := (Option.some.inj (Tryz.func3.symm.trans hfn)).symm
      exact ⟨displayNil_looks, fun j t ht => by
        rw [Tryz.params3] at ht
        have hm : t ∈ [26] := by simpa using Array.mem_of_getElem? ht
        exact (show Tryz.prog.wantsStandIn t = false by simpa using List.all_eq_true.1 displayNil_wants t hm)⟩)
    displayNil_goes
#print axioms displayNil_card
end Go.Proofs.YtifnbnlghfedfaaGreatDoor
