/- THE CLOSED FACTS OF A ROW, one by one. No condition. -/
import Derived.Test.YtifnbnlghfedfaaGreatDoorRows
import Derived.JoinedOf
namespace Go.Proofs.YtifnbnlghfedfaaGreatDoor
open Go
set_option maxRecDepth 1000000
theorem and_tt_sessionNil {a b : Bool} (h : a = true) (k : b = true) : (a && b) = true := by rw [h, k]; rfl
theorem sessionNil_fact0 : (Rows.sessionNilRow.wf (OpenSpec.ofChange Rows.sessionNilSpec) : Bool) = true := by kernel_rfl
theorem sessionNil_fact1 : (laidOutB Tryz.prog : Bool) = true := by kernel_rfl
theorem sessionNil_fact2 : (mapsRowed Tryz.prog : Bool) = true := by kernel_rfl
theorem sessionNil_fact3 : (Tryz.f4.params.all (Tryz.prog.readableRec ·) : Bool) = true := by kernel_rfl
theorem sessionNil_fact4 : (namedTie Tryz.prog Rows.sessionNilRow.named Rows.sessionNilSpec.vars : Bool) = true := by kernel_rfl
theorem sessionNil_fact5 : ((Rows.sessionNilRow.stops == []) : Bool) = true := by kernel_rfl
theorem sessionNil_fact6 : ((Tryz.prog.stops == []) : Bool) = true := by kernel_rfl
theorem sessionNil_fact7 : ((Rows.sessionNilRow.knobs == []) : Bool) = true := by kernel_rfl
theorem sessionNil_fact8 : ((Tryz.prog.stopKnobs == []) : Bool) = true := by kernel_rfl
theorem sessionNil_fact9 : ((Rows.sessionNilRow.inPlace == Tryz.prog.inPlace (4 : FuncId)) : Bool) = true := by kernel_rfl
theorem sessionNil_fact10 : ((Rows.sessionNilRow.unfollowed == Tryz.prog.unfollowed (4 : FuncId)) : Bool) = true := by kernel_rfl
theorem sessionNil_fact11 : ((Rows.sessionNilRow.recurses == Tryz.prog.recurses (4 : FuncId)) : Bool) = true := by kernel_rfl
theorem sessionNil_fact12 : ((Rows.sessionNilRow.named == Tryz.prog.varsNamed (4 : FuncId)) : Bool) = true := by kernel_rfl
theorem sessionNil_fact13 : ((Rows.sessionNilRow.maps == (Tryz.f4.params.toList ++ Rows.sessionNilSpec.plain.varTypes Tryz.prog).any (Tryz.prog.mapsRec ·)) : Bool) = true := by kernel_rfl
theorem sessionNil_fact14 : ((Rows.sessionNilRow.ifaces == (Tryz.f4.params.toList ++ Rows.sessionNilSpec.plain.varTypes Tryz.prog).any (Tryz.prog.ifacesRec ·)) : Bool) = true := by kernel_rfl
theorem sessionNil_fact15 : ((Rows.sessionNilRow.mapsOut == Tryz.prog.mapsAmong Tryz.f4.resultTypes.toList) : Bool) = true := by kernel_rfl
theorem sessionNil_fact16 : ((Rows.sessionNilRow.loops == (Tryz.f4.params.toList ++ Rows.sessionNilSpec.plain.varTypes Tryz.prog).any (Tryz.prog.loopsFrom ·)) : Bool) = true := by kernel_rfl
theorem sessionNil_fact17 : ((Rows.sessionNilRow.wideKeys == (Tryz.f4.params.toList ++ Rows.sessionNilSpec.plain.varTypes Tryz.prog ++ Tryz.f4.resultTypes.toList).any (Tryz.prog.wideKeysFrom ·)) : Bool) = true := by kernel_rfl
theorem sessionNil_fact18 : (Rows.sessionNilSpec.vars.all (Tryz.prog.varReadable ·) : Bool) = true := by kernel_rfl
theorem sessionNil_fact19 : (Tryz.f4.resultTypes.all (fun t => Tryz.prog.readableRec t && decide (t < Tryz.prog.types.size)) : Bool) = true := by kernel_rfl
theorem sessionNil_fact20 : ((Rows.sessionNilRow.ifacesOut == Tryz.f4.resultTypes.toList.any (Tryz.prog.ifacesRec ·)) : Bool) = true := by kernel_rfl
theorem sessionNil_fact21 : ((Rows.sessionNilRow.loopsOut == Tryz.f4.resultTypes.toList.any (Tryz.prog.loopsFrom ·)) : Bool) = true := by kernel_rfl
theorem sessionNil_fact22 : ((Rows.sessionNilRow.plainKeys == Tryz.prog.plainKeys) : Bool) = true := by kernel_rfl
theorem sessionNil_fact23 : (Rows.sessionNilRow.shortTexts.isNone : Bool) = true := by kernel_rfl
theorem sessionNil_fact24 : (Tryz.prog.stopsHeard : Bool) = true := by kernel_rfl
theorem sessionNil_fact25 : (Tryz.prog.mayEnter : Bool) = true := by kernel_rfl
theorem sessionNil_fact26 : ((Rows.sessionNilRow.lifted == Tryz.prog.liftsFinal) : Bool) = true := by kernel_rfl
theorem sessionNil_fact27 : ((Tryz.prog.make == some Rows.sessionNilRow.make) : Bool) = true := by kernel_rfl
theorem sessionNil_fact28 : ((Rows.sessionNilRow.kinds == (if Rows.sessionNilRow.domain.isEmpty then [] else Tryz.f4.params.toList.map fun t => match Tryz.prog.underlying t with | some (.int k) => some k | _ => none)) : Bool) = true := by kernel_rfl
theorem sessionNil_fact29 : ((Rows.sessionNilRow.pinned == Rows.sessionNilRow.pinnedBy) : Bool) = true := by kernel_rfl
theorem sessionNil_fact30 : ((Rows.sessionNilRow.veiled == (Tryz.f4.params.toList ++ Rows.sessionNilSpec.plain.varTypes Tryz.prog ++ Tryz.f4.resultTypes.toList).any (Tryz.prog.veiledRec ·)) : Bool) = true := by kernel_rfl
theorem sessionNil_fact31 : (Rows.sessionNilRow.veiledFits Tryz.prog Tryz.f4.params.toList (Tryz.f4.params.toList ++ Rows.sessionNilSpec.plain.varTypes Tryz.prog ++ Tryz.f4.resultTypes.toList) : Bool) = true := by kernel_rfl
theorem sessionNil_facts : joinedFacts Tryz.prog 4 Tryz.f4 Rows.sessionNilSpec Rows.sessionNilRow = true := by
  unfold joinedFacts
  exact (and_tt_sessionNil (and_tt_sessionNil (and_tt_sessionNil (and_tt_sessionNil (and_tt_sessionNil (and_tt_sessionNil (and_tt_sessionNil (and_tt_sessionNil (and_tt_sessionNil (and_tt_sessionNil (and_tt_sessionNil (and_tt_sessionNil (and_tt_sessionNil (and_tt_sessionNil (and_tt_sessionNil (and_tt_sessionNil (and_tt_sessionNil (and_tt_sessionNil (and_tt_sessionNil (and_tt_sessionNil (and_tt_sessionNil (and_tt_sessionNil (and_tt_sessionNil (and_tt_sessionNil (and_tt_sessionNil (and_tt_sessionNil (and_tt_sessionNil (and_tt_sessionNil (and_tt_sessionNil (and_tt_sessionNil (and_tt_sessionNil sessionNil_fact0 sessionNil_fact1) sessionNil_fact2) sessionNil_fact3) sessionNil_fact4) sessionNil_fact5) sessionNil_fact6) sessionNil_fact7) sessionNil_fact8) sessionNil_fact9) sessionNil_fact10) sessionNil_fact11) sessionNil_fact12) sessionNil_fact13) sessionNil_fact14) sessionNil_fact15) sessionNil_fact16) sessionNil_fact17) sessionNil_fact18) sessionNil_fact19) sessionNil_fact20) sessionNil_fact21) sessionNil_fact22) sessionNil_fact23) sessionNil_fact24) sessionNil_fact25) sessionNil_fact26) sessionNil_fact27) sessionNil_fact28) sessionNil_fact29) sessionNil_fact30) sessionNil_fact31)
end Go.Proofs.YtifnbnlghfedfaaGreatDoor
