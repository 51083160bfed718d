/- 'bodkinlaw32.DisplayNil': from the abstract machine's run to the row's statement. No condition beyond the given card's own. -/
import Derived.Test.YtifnbnlghfedfaaGreatDoorStart
import Derived.Test.YtifnbnlghfedfaaGreatDoorBkDn
import Derived.Test.YtifnbnlghfedfaaGreatDoorBkLook
import Derived.Test.YtifnbnlghfedfaaGreatDoorKbOk
import Derived.Lib.SmallJoins
namespace Go.Proofs.YtifnbnlghfedfaaGreatDoor
open Go Go.Bk Go.ChangeShapes Go.WideShapes Go.ChangeAt Go.RowKit Go.Joins
set_option maxRecDepth 1000000

theorem vars_nodup : (vars.map (·.1)).Nodup := by decide
theorem vars_beq : ((varObjs vars).all fun p => beqO p.2 p.2) = true := by kernel_rfl
theorem vars_no64 : (vars.all fun x => x.2.1.all noI64) = true := by kernel_rfl
theorem vars_flat : (vars.all fun x => decide (x.1 < Tryz.prog.globals.size) && flats x.2.1) = true := by kernel_rfl
theorem kb10_has : has (heapOf kb10.n1 kb10.l1) (varObjs vars) = true := by kernel_rfl

theorem spOk : SpOk Tryz.prog SP := by
  intro f s hs args H v H' ρ w args' hr R ha
  unfold SP at hs
  split at hs
  · rename_i hf
    rw [Nat.beq_eq] at hf
    cases hs
    cases ha with
    | cons _ _ => cases hr
    | nil =>
      simp only [closedW] at hr
      split at hr
      · rename_i hH
        cases hr
        subst hf
        exact closed_ok kb10_ok rfl gs.symm rfl rfl kb10_has vars_flat hH vars_nodup R
      · cases hr
  · cases hs
theorem runs_ok (n : Nat) : CallOk Tryz.prog (run Tryz.prog SP n) := acallN_ok spOk (extA_ok noCount) noCount (drawOk_ok mixed) n

theorem c56 : Tryz.prog.cellsOf 56 = 3 := by kernel_rfl
theorem c58 : Tryz.prog.cellsOf 58 = 5 := by kernel_rfl
theorem c3 : Tryz.prog.cellsOf 3 = 1 := by kernel_rfl
theorem c9 : Tryz.prog.cellsOf 9 = 1 := by kernel_rfl
theorem c22 : Tryz.prog.cellsOf 22 = 1 := by kernel_rfl
theorem c23 : Tryz.prog.cellsOf 23 = 1 := by kernel_rfl
theorem c24 : Tryz.prog.cellsOf 24 = 1 := by kernel_rfl
theorem c26 : Tryz.prog.cellsOf 26 = 6 := by kernel_rfl

section
variable {H : Type} {enc : TypeId × Value → H} {W : World}

theorem edit_cells (c : List Value) (m : Nat) (y : DataW H × List MemPlace) (h : DataW.trod enc Tryz.prog W 0 (fun _ => true) true m 56 c = some y) (hl : c.length = 3) : IsEdit c := by
  obtain ⟨xs, k, _, _, _, hn, hf⟩ := DataW.trod_struct Tryz.underlying56 h
  match c, hl, xs, hn with
  | [a, b, d], _, [y0, y1, y2], _ =>
    have f0 : DataW.trod enc Tryz.prog W 0 (fun _ => true) true k 3 (([a, b, d].drop 0).take (Tryz.prog.cellsOf 3)) = some y0 := hf 0 _ rfl
    have f1 : DataW.trod enc Tryz.prog W 0 (fun _ => true) true k 3 (([a, b, d].drop 1).take (Tryz.prog.cellsOf 3)) = some y1 := hf 1 _ rfl
    have f2 : DataW.trod enc Tryz.prog W 0 (fun _ => true) true k 9 (([a, b, d].drop 2).take (Tryz.prog.cellsOf 9)) = some y2 := hf 2 _ rfl
    rw [c3] at f0
    rw [c3] at f1
    rw [c9] at f2
    obtain ⟨n0, e0, _⟩ := DataW.trod_int Tryz.underlying3 f0
    obtain ⟨n1, e1, _⟩ := DataW.trod_int Tryz.underlying3 f1
    obtain ⟨s, e2, _⟩ := DataW.trod_string Tryz.underlying9 f2
    simp at e0 e1 e2
    subst e0; subst e1; subst e2
    exact ⟨n0, n1, s, rfl⟩
theorem inlay_cells (c : List Value) (m : Nat) (y : DataW H × List MemPlace) (h : DataW.trod enc Tryz.prog W 0 (fun _ => true) true m 58 c = some y) (hl : c.length = 5) : IsInlay c := by
  obtain ⟨xs, k, _, _, _, hn, hf⟩ := DataW.trod_struct Tryz.underlying58 h
  match c, hl, xs, hn with
  | [a, b, d, e, g], _, [y0, y1, y2, y3, y4], _ =>
    have f0 : DataW.trod enc Tryz.prog W 0 (fun _ => true) true k 3 (([a, b, d, e, g].drop 0).take (Tryz.prog.cellsOf 3)) = some y0 := hf 0 _ rfl
    have f1 : DataW.trod enc Tryz.prog W 0 (fun _ => true) true k 3 (([a, b, d, e, g].drop 1).take (Tryz.prog.cellsOf 3)) = some y1 := hf 1 _ rfl
    have f2 : DataW.trod enc Tryz.prog W 0 (fun _ => true) true k 3 (([a, b, d, e, g].drop 2).take (Tryz.prog.cellsOf 3)) = some y2 := hf 2 _ rfl
    have f3 : DataW.trod enc Tryz.prog W 0 (fun _ => true) true k 3 (([a, b, d, e, g].drop 3).take (Tryz.prog.cellsOf 3)) = some y3 := hf 3 _ rfl
    have f4 : DataW.trod enc Tryz.prog W 0 (fun _ => true) true k 9 (([a, b, d, e, g].drop 4).take (Tryz.prog.cellsOf 9)) = some y4 := hf 4 _ rfl
    rw [c3] at f0
    rw [c3] at f1
    rw [c3] at f2
    rw [c3] at f3
    rw [c9] at f4
    obtain ⟨n0, e0, _⟩ := DataW.trod_int Tryz.underlying3 f0
    obtain ⟨n1, e1, _⟩ := DataW.trod_int Tryz.underlying3 f1
    obtain ⟨n2, e2, _⟩ := DataW.trod_int Tryz.underlying3 f2
    obtain ⟨n3, e3, _⟩ := DataW.trod_int Tryz.underlying3 f3
    obtain ⟨s, e4, _⟩ := DataW.trod_string Tryz.underlying9 f4
    simp at e0 e1 e2 e3 e4
    subst e0; subst e1; subst e2; subst e3; subst e4
    exact ⟨n0, n1, n2, n3, s, rfl⟩
def IsInt (c : List Value) : Prop := ∃ n, c = [.int .i64 n]
theorem int_cells (c : List Value) (m : Nat) (y : DataW H × List MemPlace) (h : DataW.trod enc Tryz.prog W 0 (fun _ => true) true m 3 c = some y) (_ : c.length = 1) : IsInt c := by
  obtain ⟨n, e, _⟩ := DataW.trod_int Tryz.underlying3 h
  exact ⟨n, e⟩

theorem displayNil_calls (hW : VarsMet Tryz.prog vars W) {v : Value} {d : DataW H} {ps : List MemPlace} (hv : Value.okWide Tryz.prog W .any 0 26 v) (h : DataW.Trod enc Tryz.prog W 0 (fun _ => true) true 26 v d ps) :
    Calls Tryz.prog 3 ⟨[v]⟩ W fun e W' => e = .returned (.bool true) ∧ Kept W W' := by
  obtain ⟨cs, rfl, hsz⟩ := okWide_struct Tryz.underlying26 hv
  obtain ⟨fuel, hf⟩ := h
  obtain ⟨xs, k, _, _, _, hn, hfs⟩ := DataW.trod_struct Tryz.underlying26 hf
  rw [c26] at hsz
  obtain ⟨l⟩ := cs
  match l, hsz, xs, hn with
  | [v0, v1, v2, v3, v4, v5], _, [y0, y1, y2, y3, y4, y5], _ =>
    have f0 : DataW.trod enc Tryz.prog W 0 (fun _ => true) true k 3 (([v0, v1, v2, v3, v4, v5].drop 0).take (Tryz.prog.cellsOf 3)) = some y0 := hfs 0 _ rfl
    have f1 : DataW.trod enc Tryz.prog W 0 (fun _ => true) true k 3 (([v0, v1, v2, v3, v4, v5].drop 1).take (Tryz.prog.cellsOf 3)) = some y1 := hfs 1 _ rfl
    have f2 : DataW.trod enc Tryz.prog W 0 (fun _ => true) true k 3 (([v0, v1, v2, v3, v4, v5].drop 2).take (Tryz.prog.cellsOf 3)) = some y2 := hfs 2 _ rfl
    have f3 : DataW.trod enc Tryz.prog W 0 (fun _ => true) true k 22 (([v0, v1, v2, v3, v4, v5].drop 3).take (Tryz.prog.cellsOf 22)) = some y3 := hfs 3 _ rfl
    have f4 : DataW.trod enc Tryz.prog W 0 (fun _ => true) true k 23 (([v0, v1, v2, v3, v4, v5].drop 4).take (Tryz.prog.cellsOf 23)) = some y4 := hfs 4 _ rfl
    have f5 : DataW.trod enc Tryz.prog W 0 (fun _ => true) true k 24 (([v0, v1, v2, v3, v4, v5].drop 5).take (Tryz.prog.cellsOf 24)) = some y5 := hfs 5 _ rfl
    rw [c3] at f0
    rw [c3] at f1
    rw [c3] at f2
    rw [c22] at f3
    rw [c23] at f4
    rw [c24] at f5
    obtain ⟨n0, e0, _⟩ := DataW.trod_int Tryz.underlying3 f0
    obtain ⟨n1, e1, _⟩ := DataW.trod_int Tryz.underlying3 f1
    obtain ⟨n2, e2, _⟩ := DataW.trod_int Tryz.underlying3 f2
    simp at e0 e1 e2
    subst e0; subst e1; subst e2
    obtain ⟨aE, oE, es, hle, hoE, hEe, hE⟩ := arg_look hW vars_no64 Tryz.underlying22 c56 (by decide) edit_cells (fun c ⟨a, b, s, e⟩ => by rw [e]; rfl) (fun c ⟨a, b, s, e⟩ => ⟨a, _, e⟩) (show DataW.trod enc Tryz.prog W 0 (fun _ => true) true k 22 [v3] = some y3 from f3)
    obtain ⟨aR, oR, rs, hlr, hoR, hRe, hR⟩ := arg_look hW vars_no64 Tryz.underlying23 c3 (by decide) int_cells (fun c ⟨a, e⟩ => by rw [e]; rfl) (fun c ⟨a, e⟩ => ⟨a, _, e⟩) (show DataW.trod enc Tryz.prog W 0 (fun _ => true) true k 23 [v4] = some y4 from f4)
    obtain ⟨aA, oA, ns, hla, hoA, hAe, hA⟩ := arg_look hW vars_no64 Tryz.underlying24 c58 (by decide) inlay_cells (fun c ⟨a, b, d, g, s, e⟩ => by rw [e]; rfl) (fun c ⟨a, b, d, g, s, e⟩ => ⟨a, _, e⟩) (show DataW.trod enc Tryz.prog W 0 (fun _ => true) true k 24 [v5] = some y5 from f5)
    obtain ⟨ρ, H0, R, wf, hh, hlk, hkept⟩ := start_looks hW vars_nodup vars_beq [oE, oR, oA] (fun x hx => by
      simp only [List.mem_cons, List.not_mem_nil, or_false] at hx
      rcases hx with e | e | e
      · exact hoE x e.symm
      · exact hoR x e.symm
      · exact hoA x e.symm)
    obtain ⟨rE, sE⟩ := hE ρ H0 (Tryz.prog.globals.size + 0) (fun x hx => hlk 0 x (by rw [hx]; rfl))
    obtain ⟨rR, sR⟩ := hR ρ H0 (Tryz.prog.globals.size + 1) (fun x hx => hlk 1 x (by rw [hx]; rfl))
    obtain ⟨rA, sA⟩ := hA ρ H0 (Tryz.prog.globals.size + 2) (fun x hx => hlk 2 x (by rw [hx]; rfl))
    exact true_of_ev runs_ok R (.cons (.agg (.cons (.int _ _) (.cons (.int _ _) (.cons (.int _ _) (.cons rE (.cons rR (.cons rA .nil))))))) .nil) hkept
      (displayNil_ev wf hh ⟨n0, n1, n2, _, _, _, es, rs, ns, rfl, sE, hEe, sR, sA, hAe⟩)
end

theorem displayNil_lifted (os : Os) (started : os.Started) (H : Type) (enc : TypeId × Value → H) :
    ReturnsInHanded {} Tryz.checked os 3 .any (fun w args => (Rows.displayNilSpec.pre enc Tryz.prog Tryz.f3 [] false w args ∧ laidMetH Tryz.prog laidV w) ∧ sizedMet enc Tryz.prog Tryz.f3 (OpenSpec.ofChange Rows.displayNilSpec) false w args)
      (Rows.displayNilSpec.post enc Tryz.prog Tryz.f3 false true false false) := by
  refine true_lifted (C := Tryz.checked) (laid := laidV) (tb := 4) own started (by kernel_rfl) Tryz.func3
    (ChangeSpec.witness_shaped (enc := enc) (C := Tryz.checked) (os := os) (X := fun w _ => laidMetH Tryz.prog laidV w) false (World.doorLaid Tryz.prog 400 os) #[.agg #[.int .i64 0, .int .i64 0, .int .i64 0, .slice none 0 0, .slice none 0 0, .slice none 0 0]] 8 rfl (World.shaped_of_RefB (by kernel_rfl) (by kernel_rfl)) (by kernel_rfl) (by kernel_rfl) (by kernel_rfl) (door_met os _))
    rfl (by kernel_rfl) Tryz.underlying4 ?_ kids full (by rw [Tryz.params3]; decide +kernel) ?_
  · intro ds hd
    rw [Tryz.params3] at hd
    match ds, hd with
    | [d], _ => rfl
  · intro W args ds ps hs hl hval hA _ _
    have hA' : DataW.TrodAll enc Tryz.prog W 0 (fun _ => true) true [26] args.toList ds ps := by
      have h : DataW.TrodAll enc Tryz.prog W 0 (fun _ => true) true Tryz.f3.params.toList args.toList ds ps := hA
      rw [Tryz.params3] at h
      exact h
    obtain ⟨v, d, rfl, rfl, h0⟩ := trodAll_one hA'
    exact displayNil_calls (vars_of_laid hs hl) (hval 0 26 v (by rw [Tryz.params3]; rfl) rfl) h0
end Go.Proofs.YtifnbnlghfedfaaGreatDoor
