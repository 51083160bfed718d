/- THE CLOSED FACTS OF A ROW, one by one. No condition. -/
import Derived.Test.YtifnbnlghfedfaaGreatDoorRows
import Derived.JoinedOf
namespace Go.Proofs.YtifnbnlghfedfaaGreatDoor
open Go
set_option maxRecDepth 1000000
theorem and_tt_displayNil {a b : Bool} (h : a = true) (k : b = true) : (a && b) = true := by rw [h, k]; rfl
theorem displayNil_fact0 : (Rows.displayNilRow.wf (OpenSpec.ofChange Rows.displayNilSpec) : Bool) = true := by kernel_rfl
theorem displayNil_fact1 : (laidOutB Tryz.prog : Bool) = true := by kernel_rfl
theorem displayNil_fact2 : (mapsRowed Tryz.prog : Bool) = true := by kernel_rfl
theorem displayNil_fact3 : (Tryz.f3.params.all (Tryz.prog.readableRec ·) : Bool) = true := by kernel_rfl
theorem displayNil_fact4 : (namedTie Tryz.prog Rows.displayNilRow.named Rows.displayNilSpec.vars : Bool) = true := by kernel_rfl
theorem displayNil_fact5 : ((Rows.displayNilRow.stops == []) : Bool) = true := by kernel_rfl
theorem displayNil_fact6 : ((Tryz.prog.stops == []) : Bool) = true := by kernel_rfl
theorem displayNil_fact7 : ((Rows.displayNilRow.knobs == []) : Bool) = true := by kernel_rfl
theorem displayNil_fact8 : ((Tryz.prog.stopKnobs == []) : Bool) = true := by kernel_rfl
theorem displayNil_fact9 : ((Rows.displayNilRow.inPlace == Tryz.prog.inPlace (3 : FuncId)) : Bool) = true := by kernel_rfl
theorem displayNil_fact10 : ((Rows.displayNilRow.unfollowed == Tryz.prog.unfollowed (3 : FuncId)) : Bool) = true := by kernel_rfl
theorem displayNil_fact11 : ((Rows.displayNilRow.recurses == Tryz.prog.recurses (3 : FuncId)) : Bool) = true := by kernel_rfl
theorem displayNil_fact12 : ((Rows.displayNilRow.named == Tryz.prog.varsNamed (3 : FuncId)) : Bool) = true := by kernel_rfl
theorem displayNil_fact13 : ((Rows.displayNilRow.maps == (Tryz.f3.params.toList ++ Rows.displayNilSpec.plain.varTypes Tryz.prog).any (Tryz.prog.mapsRec ·)) : Bool) = true := by kernel_rfl
theorem displayNil_fact14 : ((Rows.displayNilRow.ifaces == (Tryz.f3.params.toList ++ Rows.displayNilSpec.plain.varTypes Tryz.prog).any (Tryz.prog.ifacesRec ·)) : Bool) = true := by kernel_rfl
theorem displayNil_fact15 : ((Rows.displayNilRow.mapsOut == Tryz.prog.mapsAmong Tryz.f3.resultTypes.toList) : Bool) = true := by kernel_rfl
theorem displayNil_fact16 : ((Rows.displayNilRow.loops == (Tryz.f3.params.toList ++ Rows.displayNilSpec.plain.varTypes Tryz.prog).any (Tryz.prog.loopsFrom ·)) : Bool) = true := by kernel_rfl
theorem displayNil_fact17 : ((Rows.displayNilRow.wideKeys == (Tryz.f3.params.toList ++ Rows.displayNilSpec.plain.varTypes Tryz.prog ++ Tryz.f3.resultTypes.toList).any (Tryz.prog.wideKeysFrom ·)) : Bool) = true := by kernel_rfl
theorem displayNil_fact18 : (Rows.displayNilSpec.vars.all (Tryz.prog.varReadable ·) : Bool) = true := by kernel_rfl
theorem displayNil_fact19 : (Tryz.f3.resultTypes.all (fun t => Tryz.prog.readableRec t && decide (t < Tryz.prog.types.size)) : Bool) = true := by kernel_rfl
theorem displayNil_fact20 : ((Rows.displayNilRow.ifacesOut == Tryz.f3.resultTypes.toList.any (Tryz.prog.ifacesRec ·)) : Bool) = true := by kernel_rfl
theorem displayNil_fact21 : ((Rows.displayNilRow.loopsOut == Tryz.f3.resultTypes.toList.any (Tryz.prog.loopsFrom ·)) : Bool) = true := by kernel_rfl
theorem displayNil_fact22 : ((Rows.displayNilRow.plainKeys == Tryz.prog.plainKeys) : Bool) = true := by kernel_rfl
theorem displayNil_fact23 : (Rows.displayNilRow.shortTexts.isNone : Bool) = true := by kernel_rfl
theorem displayNil_fact24 : (Tryz.prog.stopsHeard : Bool) = true := by kernel_rfl
theorem displayNil_fact25 : (Tryz.prog.mayEnter : Bool) = true := by kernel_rfl
theorem displayNil_fact26 : ((Rows.displayNilRow.lifted == Tryz.prog.liftsFinal) : Bool) = true := by kernel_rfl
theorem displayNil_fact27 : ((Tryz.prog.make == some Rows.displayNilRow.make) : Bool) = true := by kernel_rfl
theorem displayNil_fact28 : ((Rows.displayNilRow.kinds == (if Rows.displayNilRow.domain.isEmpty then [] else Tryz.f3.params.toList.map fun t => match Tryz.prog.underlying t with | some (.int k) => some k | _ => none)) : Bool) = true := by kernel_rfl
theorem displayNil_fact29 : ((Rows.displayNilRow.pinned == Rows.displayNilRow.pinnedBy) : Bool) = true := by kernel_rfl
theorem displayNil_fact30 : ((Rows.displayNilRow.veiled == (Tryz.f3.params.toList ++ Rows.displayNilSpec.plain.varTypes Tryz.prog ++ Tryz.f3.resultTypes.toList).any (Tryz.prog.veiledRec ·)) : Bool) = true := by kernel_rfl
theorem displayNil_fact31 : (Rows.displayNilRow.veiledFits Tryz.prog Tryz.f3.params.toList (Tryz.f3.params.toList ++ Rows.displayNilSpec.plain.varTypes Tryz.prog ++ Tryz.f3.resultTypes.toList) : Bool) = true := by kernel_rfl
theorem displayNil_facts : joinedFacts Tryz.prog 3 Tryz.f3 Rows.displayNilSpec Rows.displayNilRow = true := by
  unfold joinedFacts
  exact (and_tt_displayNil (and_tt_displayNil (and_tt_displayNil (and_tt_displayNil (and_tt_displayNil (and_tt_displayNil (and_tt_displayNil (and_tt_displayNil (and_tt_displayNil (and_tt_displayNil (and_tt_displayNil (and_tt_displayNil (and_tt_displayNil (and_tt_displayNil (and_tt_displayNil (and_tt_displayNil (and_tt_displayNil (and_tt_displayNil (and_tt_displayNil (and_tt_displayNil (and_tt_displayNil (and_tt_displayNil (and_tt_displayNil (and_tt_displayNil (and_tt_displayNil (and_tt_displayNil (and_tt_displayNil (and_tt_displayNil (and_tt_displayNil (and_tt_displayNil (and_tt_displayNil displayNil_fact0 displayNil_fact1) displayNil_fact2) displayNil_fact3) displayNil_fact4) displayNil_fact5) displayNil_fact6) displayNil_fact7) displayNil_fact8) displayNil_fact9) displayNil_fact10) displayNil_fact11) displayNil_fact12) displayNil_fact13) displayNil_fact14) displayNil_fact15) displayNil_fact16) displayNil_fact17) displayNil_fact18) displayNil_fact19) displayNil_fact20) displayNil_fact21) displayNil_fact22) displayNil_fact23) displayNil_fact24) displayNil_fact25) displayNil_fact26) displayNil_fact27) displayNil_fact28) displayNil_fact29) displayNil_fact30) displayNil_fact31)
end Go.Proofs.YtifnbnlghfedfaaGreatDoor
