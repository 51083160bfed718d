/- THE START: what the listed variables' cells hold; a world that meets it. No condition. -/
import Derived.Test.YtifnbnlghfedfaaGreatDoorRows
import Derived.Test.YtifnbnlghfedfaaGreatDoorBase
import Derived.Test.YtifnbnlghfedfaaGreatDoorBkLaid
import Derived.Test.YtifnbnlghfedfaaGreatDoorBkSp
namespace Go.Proofs.YtifnbnlghfedfaaGreatDoor
open Go Go.Bk Go.ChangeShapes Go.WideShapes Go.ChangeAt Go.RowKit
set_option maxRecDepth 100000

theorem own : ownKnob Tryz.prog.godebug = none := by kernel_rfl
abbrev laidV : List (String × DataW Unit) := [("bodkin/utf.most", Rows.laid_bodkin_utf_most), ("bodkin/width.plainZero", Rows.laid_bodkin_width_plainZero), ("bodkin/width.plainWide", Rows.laid_bodkin_width_plainWide)]

theorem g0 : Tryz.prog.globalNamed "bodkin/width.plainZero" = some 0 := by kernel_rfl
theorem g1 : Tryz.prog.globalNamed "bodkin/width.plainWide" = some 1 := by kernel_rfl
theorem g2 : Tryz.prog.globalNamed "bodkin/utf.most" = some 2 := by kernel_rfl
theorem t0 : (Tryz.prog.globals[0]?).map (·.type) = some 414 := by kernel_rfl
theorem t1 : (Tryz.prog.globals[1]?).map (·.type) = some 415 := by kernel_rfl
theorem t2 : (Tryz.prog.globals[2]?).map (·.type) = some 479 := by kernel_rfl
theorem gs : Tryz.prog.globals.size = 4 := by kernel_rfl
theorem row0 : (((begin Tryz.prog (fun _ _ => 0) default).world.heap[0]?).bind Obj.row?).map (·.2) = some 414 := by kernel_rfl
theorem row1 : (((begin Tryz.prog (fun _ _ => 0) default).world.heap[1]?).bind Obj.row?).map (·.2) = some 415 := by kernel_rfl
theorem row2 : (((begin Tryz.prog (fun _ _ => 0) default).world.heap[2]?).bind Obj.row?).map (·.2) = some 479 := by kernel_rfl

theorem shaped_at {W : World} (h : W.ShapedOpen Tryz.prog) {g t : Nat} (hg : g < 4) (hr : (((begin Tryz.prog (fun _ _ => 0) default).world.heap[g]?).bind Obj.row?).map (·.2) = some t) : ∃ cs, W.heap[g]? = some (.cells cs t (0, 0)) := by
  cases hc : ((begin Tryz.prog (fun _ _ => 0) default).world.heap[g]?).bind Obj.row? with
  | none => rw [hc] at hr; cases hr
  | some x =>
    rw [hc] at hr
    obtain ⟨z, t'⟩ := x
    cases hr
    obtain ⟨cs, h1, _⟩ := h.1 g z t' (by rw [gs]; exact hg) hc
    exact ⟨cs, h1⟩

theorem var_cells {W : World} {n : String} {g t : Nat} {cs C : Array Value} (hg : Tryz.prog.globalNamed n = some g) (hv : W.var? Tryz.prog n = some cs) (hh : W.heap[g]? = some (.cells C t (0, 0))) : C = cs := by
  simp only [World.var?, hg, Option.bind_some, hh, Option.some.injEq] at hv
  exact hv

theorem u414 : Tryz.prog.underlying 414 = some (.array 3 413) := by kernel_rfl
theorem u415 : Tryz.prog.underlying 415 = some (.array 8 413) := by kernel_rfl
theorem u479 : Tryz.prog.underlying 479 = some (.array 4 21) := by kernel_rfl

theorem vars_of_laid {W : World} (hs : W.ShapedOpen Tryz.prog) (h : laidMetH Tryz.prog laidV W) : VarsMet Tryz.prog vars W := by
  rw [MakeChecks.laidMetH_plain _ _ _ (by kernel_rfl)] at h
  obtain ⟨ps, ⟨k2, s2, c2, f2, p2, q2, hg2, ht2, hv2, hd2, ⟨k0, s0, c0, f0, p0, q0, hg0, ht0, hv0, hd0, ⟨k1, s1, c1, f1, p1, q1, hg1, ht1, hv1, hd1, _, _⟩, _⟩, _⟩, _, _⟩ := h
  obtain rfl := Option.some.inj (g0.symm.trans hg0)
  obtain rfl := Option.some.inj (g1.symm.trans hg1)
  obtain rfl := Option.some.inj (g2.symm.trans hg2)
  obtain rfl := Option.some.inj (t0.symm.trans ht0)
  obtain rfl := Option.some.inj (t1.symm.trans ht1)
  obtain rfl := Option.some.inj (t2.symm.trans ht2)
  obtain ⟨C0, e0⟩ := shaped_at hs (by omega) row0
  obtain ⟨C1, e1⟩ := shaped_at hs (by omega) row1
  obtain ⟨C2, e2⟩ := shaped_at hs (by omega) row2
  obtain rfl := var_cells g0 hv0 e0
  obtain rfl := var_cells g1 hv1 e1
  obtain rfl := var_cells g2 hv2 e2
  have i2 := trod_ints (ns := [127, 2047, 65535, 1114111]) u479 Tryz.underlying21 (by kernel_rfl) (by kernel_rfl) hd2
  have i0 := trod_pairs (ns := [(768, 879), (8203, 8207), (65024, 65039)]) (ie := 21) u414 Tryz.underlying413 rfl rfl rfl rfl rfl rfl rfl Tryz.underlying21 (by kernel_rfl) (by kernel_rfl) (by kernel_rfl) hd0
  have i1 := trod_pairs (ns := [(4352, 4447), (11904, 12350), (12353, 19903), (19968, 40959), (44032, 55203), (63744, 64255), (65280, 65376), (127744, 128591)]) (ie := 21) u415 Tryz.underlying413 rfl rfl rfl rfl rfl rfl rfl Tryz.underlying21 (by kernel_rfl) (by kernel_rfl) (by kernel_rfl) hd1
  obtain ⟨l0⟩ := C0
  obtain ⟨l1⟩ := C1
  obtain ⟨l2⟩ := C2
  simp only at i0 i1 i2
  subst i0; subst i1; subst i2
  intro x hx
  simp only [vars, List.mem_cons, List.not_mem_nil, or_false] at hx
  rcases hx with rfl | rfl | rfl
  · exact ⟨by rw [gs]; decide, by decide, e2⟩
  · exact ⟨by rw [gs]; decide, by decide, e1⟩
  · exact ⟨by rw [gs]; decide, by decide, e0⟩

theorem door_met (os : Os) (args : Array Value) : laidMetH Tryz.prog laidV ((World.doorLaid Tryz.prog 400 os).forCall (fun _ _ => 0) ⟨#[], args, []⟩).memory :=
  laidMetH_of_parts3 (fuel := 8) (laidMet_of_run' 8 (by kernel_rfl) (by kernel_rfl)) (by kernel_rfl) (by kernel_rfl)

theorem kids : Kids Tryz.prog (· < Tryz.prog.types.size) := kids_rows (by kernel_rfl) (by kernel_rfl)
theorem full : ∀ t e, t < Tryz.prog.types.size → Tryz.prog.underlying t = some (.slice e) → 0 < Tryz.prog.cellsOf e := slices_full_of Tryz.prog (by kernel_rfl)
end Go.Proofs.YtifnbnlghfedfaaGreatDoor
