/- 'bodkinlaw32.DisplayNil': in the abstract machine: true, whatever the operation. No condition. -/
import Derived.Test.YtifnbnlghfedfaaGreatDoorBkG3
import Derived.Test.YtifnbnlghfedfaaGreatDoorBkLarge
namespace Go.Proofs.YtifnbnlghfedfaaGreatDoor
open Go Go.Bk
set_option maxRecDepth 1000000

theorem has_keeps {H H' : AHeap} (k : Keeps H H') : ∀ {l : List (Nat × AObj)}, has H l = true → has H' l = true
  | [], _ => rfl
  | p :: l, h => by
    simp only [has, Bool.and_eq_true] at h ⊢
    refine ⟨?_, has_keeps k h.2⟩
    cases hg : H.get p.1 with
    | none => rw [hg] at h; cases h.1
    | some o => rw [hg] at h; rw [k.get _ _ hg]; exact h.1

/-- The closed call. -/
theorem breaks_run {H : AHeap} (h : has H (varObjs vars) = true) (n : Nat) : run Tryz.prog SP (n + 1) (.fn 6) [] H = some (.bool true, H) := by
  have e : SP 6 = some (closedW (varObjs vars) (.bool true)) := rfl
  simp only [run, acallN, e, closedW, h, if_true]
theorem breaks_ev {H : AHeap} (h : has H (varObjs vars) = true) : Ev (fun n _ _ _ => run Tryz.prog SP n (.fn 6) [] H) (fun v H' => v = .bool true ∧ H' = H) :=
  Ev.succ (Ev.of_eq (fun n _ _ _ => breaks_run h n) (.ret ⟨rfl, rfl⟩))

theorem nil27 (xo yo : Operand) : obin Tryz.prog .eql 27 xo yo (.pointer none) (.pointer none) = some (.bool true) := by kernel_rfl
theorem nil39 (xo yo : Operand) : obin Tryz.prog .eql 39 xo yo (.pointer none) (.pointer none) = some (.bool true) := by kernel_rfl
theorem build37 : obuild Tryz.prog 37 [(0, .int .i64 7)] = some (.agg ⟨[.int .i64 7, .int .i64 0, .int .i64 0, .int .i64 0, .int .i64 0, .int .i64 0]⟩) := by kernel_rfl
theorem eq37 (xo yo : Operand) : obin Tryz.prog .eql 37 xo yo (.agg ⟨[.int .i64 7, .int .i64 0, .int .i64 0, .int .i64 0, .int .i64 0, .int .i64 0]⟩) (.agg ⟨[.int .i64 7, .int .i64 0, .int .i64 0, .int .i64 0, .int .i64 0, .int .i64 0]⟩) = some (.bool true) := by kernel_rfl
theorem sz37 : sizeOfA Tryz.prog 37 = some 6 := by kernel_rfl
theorem ag37 : isAggA Tryz.prog 37 = some true := by kernel_rfl

theorem steps_ev (H : AHeap) : Ev (fun n _ _ _ => run Tryz.prog SP n (.fn 7) [.pointer none] H) (fun v H' => v = .tuple ⟨[.int .i64 0, .int .i64 0]⟩ ∧ H' = H) := by
  refine Ev.succ (Ev.of_eq (fun n _ _ _ => (F7 n _ H).trans (P7_0_eq ..)) ?_)
  simp only [nil27, stepP_some, condB_true]
  exact .ret ⟨rfl, rfl⟩
theorem state_ev (H : AHeap) : Ev (fun n _ _ _ => run Tryz.prog SP n (.fn 9) [.pointer none] H) (fun v H' => v = .pointer none ∧ H' = H) := by
  refine Ev.succ (Ev.of_eq (fun n _ _ _ => (F9 n _ H).trans (P9_0_eq ..)) ?_)
  simp only [nil27, stepP_some, condB_true]
  exact .ret ⟨rfl, rfl⟩
theorem do_ev {H : AHeap} (hw : WF H) (l : List Value) : Ev (fun n _ _ _ => run Tryz.prog SP n (.fn 8) [.pointer none, .agg ⟨l⟩] H)
    (fun v H' => v = .agg ⟨[.int .i64 7, .int .i64 0, .int .i64 0, .int .i64 0, .int .i64 0, .int .i64 0]⟩ ∧ Keeps H H' ∧ WF H') := by
  refine Ev.succ (Ev.of_eq (fun n _ _ _ => (F8 n _ _ H).trans (P8_0_eq ..)) ?_)
  simp only [nil27, stepP_some, stepA_some, condB_true, build37]
  generalize hH1 : H.push (.cells (Value.agg ⟨l⟩).cells.toList 26 false) = H1
  have k1 : Keeps H H1 := by rw [← hH1]; exact .push hw _
  have w1 : WF H1 := by rw [← hH1]; exact hw.push _
  have e1 := ostore_new (P := Tryz.prog) (t := 37) (e := 37) (H := H1) (cs := [.int .i64 0, .int .i64 0, .int .i64 0, .int .i64 0, .int .i64 0, .int .i64 0]) (v := .agg ⟨[.int .i64 7, .int .i64 0, .int .i64 0, .int .i64 0, .int .i64 0, .int .i64 0]⟩) sz37 rfl rfl
  have e2 : oload Tryz.prog 37 (.pointer (some ⟨H1.next, 0, none⟩)) (H1.push (.cells (Value.agg ⟨[.int .i64 7, .int .i64 0, .int .i64 0, .int .i64 0, .int .i64 0, .int .i64 0]⟩).cells.toList 37 false)) = some (.agg ⟨[.int .i64 7, .int .i64 0, .int .i64 0, .int .i64 0, .int .i64 0, .int .i64 0]⟩) :=
    oload_agg (cs := [.int .i64 7, .int .i64 0, .int .i64 0, .int .i64 0, .int .i64 0, .int .i64 0]) ag37 sz37 (by rw [get_push_self]; rfl) (Nat.le_refl 6)
  simp only [e1, ounit, stepE_some, e2, consR, resC]
  exact .ret ⟨rfl, k1.trans (.push w1 _), w1.push _⟩

/-- **DisplayNil.** -/
theorem displayNil_ev {H : AHeap} (hw : WF H) (hv : has H (varObjs vars) = true) {k a b : Int} {vE vR vA : Value} (ho : IsOp H [.int .i64 k, .int .i64 a, .int .i64 b, vE, vR, vA]) :
    Ev (fun n _ _ _ => run Tryz.prog SP n (.fn 3) [.agg ⟨[.int .i64 k, .int .i64 a, .int .i64 b, vE, vR, vA]⟩] H) (fun v H' => v = .bool true ∧ Keeps H H') := by
  refine Ev.succ (Ev.of_eq (fun n _ _ _ => (F3 n _ H).trans (P3_0_eq ..)) ?_)
  generalize hop : (Value.agg ⟨[.int .i64 k, .int .i64 a, .int .i64 b, vE, vR, vA]⟩) = op
  have hcells : op.cells.toList = [.int .i64 k, .int .i64 a, .int .i64 b, vE, vR, vA] := by rw [← hop]; rfl
  generalize hH1 : H.push (.cells op.cells.toList 26 false) = H1
  have k1 : Keeps H H1 := by rw [← hH1]; exact .push hw _
  have w1 : WF H1 := by rw [← hH1]; exact hw.push _
  have g1 : (H1.get H.next).bind rdO = some [.int .i64 k, .int .i64 a, .int .i64 b, vE, vR, vA] := by rw [← hH1, get_push_self, hcells]; rfl
  have l1 : ∀ H', Keeps H1 H' → oload Tryz.prog 26 (.pointer (some ⟨H.next, 0, none⟩)) H' = some op := fun H' kk => by
    rw [oload_agg ag26 sz26 (kk.rd g1) (Nat.le_refl 6), ← hop]; rfl
  have hif : mkSlice 1 26 (ifill (fun i => some (i * 6, 6)) (zeros [.int .i64 0, .int .i64 0, .int .i64 0, .slice none 0 0, .slice none 0 0, .slice none 0 0] 1) [(0, op)]) = some ((fun i => .slice (some ⟨i, 0, none⟩) 1 1), [.int .i64 k, .int .i64 a, .int .i64 b, vE, vR, vA], 26) := by
    rw [← hop]; rfl
  simp only [stepA_some, hH1, l1 _ (.refl _), stepP_some, hif]
  generalize hH2 : H1.push (.cells [.int .i64 k, .int .i64 a, .int .i64 b, vE, vR, vA] 26 false) = H2
  have k2 : Keeps H1 H2 := by rw [← hH2]; exact .push w1 _
  have w2 : WF H2 := by rw [← hH2]; exact w1.push _
  have hs : IsSlice H2 (.slice (some ⟨H1.next, 0, none⟩) 1 1) 6 [[.int .i64 k, .int .i64 a, .int .i64 b, vE, vR, vA]] := by
    refine ⟨fun e he => by rw [List.mem_singleton.1 he]; rfl,   .inr ⟨H1.next, 0, none, 1, [.int .i64 k, .int .i64 a, .int .i64 b, vE, vR, vA], rfl, by rw [← hH2, get_push_self]; rfl, Nat.le_refl 6, rfl⟩⟩
  refine Ev.step (large_ev 1 (es := [[.int .i64 k, .int .i64 a, .int .i64 b, vE, vR, vA]]) (show 1 ≤ 9223372036854775807 by omega) w2 hs (fun x hx => by rw [List.mem_singleton.1 hx]; exact ho.keep (k1.trans k2))) ?_
  rintro v H3 ⟨⟨b', rfl⟩, k3, w3⟩
  have k03 := (k1.trans k2).trans k3
  cases b' with
  | true =>
    simp only [condB_true]
    refine Ev.step (breaks_ev (has_keeps k03 hv)) ?_
    rintro v H4 ⟨rfl, rfl⟩
    exact .ret ⟨rfl, k03⟩
  | false =>
    simp only [condB_false, P3_1_eq]
    refine Ev.step (steps_ev H3) ?_
    rintro v H4 ⟨rfl, rfl⟩
    simp only [oextract, List.getElem?_cons_zero, List.getElem?_cons_succ, stepP_some, l1 _ (k2.trans k3)]
    rw [← hop]
    refine Ev.step (do_ev w3 _) ?_
    rintro v H5 ⟨rfl, k5, w5⟩
    simp only [build37, stepP_some, eq37, guardB_bool, if_true, P3_2_eq]
    refine Ev.step (state_ev H5) ?_
    rintro v H6 ⟨rfl, rfl⟩
    simp only [P3_3_eq, guardB_bool, if_true, nil39, stepP_some, P3_4_eq, pickV_true, P3_5_eq, obin_eql, beq_self_eq_true, P3_6_eq, P3_7_eq, P3_8_eq]
    refine Ev.step (breaks_ev (has_keeps (k03.trans k5) hv)) ?_
    rintro v H7 ⟨rfl, rfl⟩
    simp only [P3_9_eq, pickV_true, stepP_some]
    exact .ret ⟨rfl, k03.trans k5⟩
end Go.Proofs.YtifnbnlghfedfaaGreatDoor
