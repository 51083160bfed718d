/- 'bodkinlaw45.SessionNil' returns true, whatever the key, and leaves the key as it was: the given card. No condition beyond the card's own. -/
import Derived.Test.YtifnbnlghfedfaaGreatDoorCards
import Derived.Test.YtifnbnlghfedfaaGreatDoorTie
import Derived.Test.YtifnbnlghfedfaaGreatDoorSnHolds
import Derived.Test.YtifnbnlghfedfaaGreatDoorSnCard
namespace Go.Proofs.YtifnbnlghfedfaaGreatDoor
open Go
/-- The given card. -/
theorem sessionNil_card : Rows.SessionNilCardSaid :=
  Claim7.holds_tied_plain_at .later [] [.data, .data, .data] true (true, "25ff4c5d703bc992a2fcf2319fa220440805df8abe6e8864c3b06225e7c93683") true
    sessionNil_holds (fun _ h => by cases h) sessionNil_wft (fun _ h => by cases h) sessionNil_row_tie rfl ⟨rfl, rfl⟩ sessionNil_main rfl
    (fun f fn hf hfn => by
      obtain rfl : f = 4 := Option.some.inj (sessionNil_named.symm.trans hf) |>.symm
      obtain rfl : fn = Tryz.f4 := (Option.some.inj (Tryz.func4.symm.trans hfn)).symm
      exact ⟨sessionNil_looks, fun j t ht => by
        rw [Tryz.params4] at ht
        have hm : t ∈ [43] := by simpa using Array.mem_of_getElem? ht
        exact (show Tryz.prog.wantsStandIn t = false by simpa using List.all_eq_true.1 sessionNil_wants t hm)⟩)
    sessionNil_goes
#print axioms sessionNil_card
end Go.Proofs.YtifnbnlghfedfaaGreatDoor
