/- POINTS OF FUNCTIONS' CODE, AND HOW ONE LEADS TO OTHERS (written by program). No condition. -/
import Derived.Test.YtifnbnlghfedfaaGreatDoorBkSp
namespace Go.Proofs.YtifnbnlghfedfaaGreatDoor
open Go Go.Bk
noncomputable section
set_option maxRecDepth 1000000
set_option linter.unusedVariables false
/-! ### 5: bodkin/bodkinref26.Large -/
def P5_0 (n : Nat) (v0 v1 : Value) : AM Value := pt Tryz.prog SP 5 n [] [] ⟨77, [(0, v0), (1, v1)]⟩
def P5_1 (n : Nat) (v0 v15 : Value) : AM Value := pt Tryz.prog SP 5 n [.r, .r] [] ⟨77, [(0, v0), (15, v15)]⟩
def P5_2 (n m1 : Nat) (v5 v16 v17 v18 : Value) : AM Value := pt Tryz.prog SP 5 n [.r, .r, .r, .l, .r, .b, .h] [m1] ⟨77, [(5, v5), (16, v16), (17, v17), (18, v18)]⟩
def P5_3 (n m1 : Nat) (v5 v16 v17 v18 v19 : Value) : AM Value := pt Tryz.prog SP 5 n [.r, .r, .r, .l, .r, .b, .b, .r, .r] [m1] ⟨77, [(5, v5), (16, v16), (17, v17), (18, v18), (19, v19)]⟩
def P5_4 (n : Nat) (v5 v16 v17 v18 v19 : Value) : AM Value := pt Tryz.prog SP 5 n [.r, .r, .r, .r] [] ⟨77, [(5, v5), (16, v16), (17, v17), (18, v18), (19, v19)]⟩
def P5_5 (n m1 : Nat) (v27 v26 v25 v24 v23 v22 v5 v7 v16 v17 v18 : Value) : AM Value := pt Tryz.prog SP 5 n [.r, .r, .r, .l, .r, .b, .b, .r, .r, .l, .b, .r, .l, .l, .o 6] [m1] ⟨77, [(27, v27), (26, v26), (25, v25), (24, v24), (23, v23), (22, v22), (5, v5), (7, v7), (16, v16), (17, v17), (18, v18)]⟩
def P5_6 (n m1 : Nat) (v28 v27 v26 v25 v24 v23 v22 v5 v7 v16 v17 v18 : Value) : AM Value := pt Tryz.prog SP 5 n [.r, .r, .r, .l, .r, .b, .b, .r, .r, .l, .b, .r, .l, .l, .o 7] [m1] ⟨77, [(28, v28), (27, v27), (26, v26), (25, v25), (24, v24), (23, v23), (22, v22), (5, v5), (7, v7), (16, v16), (17, v17), (18, v18)]⟩
def P5_7 (n m1 : Nat) (v29 v28 v27 v26 v25 v24 v23 v22 v5 v7 v16 v17 v18 : Value) : AM Value := pt Tryz.prog SP 5 n [.r, .r, .r, .l, .r, .b, .b, .r, .r, .l, .b, .r, .l, .l, .o 8] [m1] ⟨77, [(29, v29), (28, v28), (27, v27), (26, v26), (25, v25), (24, v24), (23, v23), (22, v22), (5, v5), (7, v7), (16, v16), (17, v17), (18, v18)]⟩
def P5_8 (n m1 : Nat) (v30 v29 v28 v27 v26 v25 v24 v23 v22 v5 v7 v16 v17 v18 : Value) : AM Value := pt Tryz.prog SP 5 n [.r, .r, .r, .l, .r, .b, .b, .r, .r, .l, .b, .r, .l, .l, .o 9] [m1] ⟨77, [(30, v30), (29, v29), (28, v28), (27, v27), (26, v26), (25, v25), (24, v24), (23, v23), (22, v22), (5, v5), (7, v7), (16, v16), (17, v17), (18, v18)]⟩
def P5_9 (n m1 : Nat) (v33 v32 v31 v30 v29 v28 v27 v26 v25 v24 v23 v22 v5 v7 v16 v17 v18 : Value) : AM Value := pt Tryz.prog SP 5 n [.r, .r, .r, .l, .r, .b, .b, .r, .r, .l, .b, .r, .l, .l, .o 12] [m1] ⟨77, [(33, v33), (32, v32), (31, v31), (30, v30), (29, v29), (28, v28), (27, v27), (26, v26), (25, v25), (24, v24), (23, v23), (22, v22), (5, v5), (7, v7), (16, v16), (17, v17), (18, v18)]⟩
def P5_10 (n m1 : Nat) (v34 v33 v32 v31 v30 v29 v28 v27 v26 v25 v24 v23 v22 v5 v7 v16 v17 v18 : Value) : AM Value := pt Tryz.prog SP 5 n [.r, .r, .r, .l, .r, .b, .b, .r, .r, .l, .b, .r, .l, .l, .o 13] [m1] ⟨77, [(34, v34), (33, v33), (32, v32), (31, v31), (30, v30), (29, v29), (28, v28), (27, v27), (26, v26), (25, v25), (24, v24), (23, v23), (22, v22), (5, v5), (7, v7), (16, v16), (17, v17), (18, v18)]⟩
def P5_11 (n m1 : Nat) (v35 v34 v33 v32 v31 v30 v29 v28 v27 v26 v25 v24 v23 v22 v5 v7 v16 v17 v18 : Value) : AM Value := pt Tryz.prog SP 5 n [.r, .r, .r, .l, .r, .b, .b, .r, .r, .l, .b, .r, .l, .l, .o 14] [m1] ⟨77, [(35, v35), (34, v34), (33, v33), (32, v32), (31, v31), (30, v30), (29, v29), (28, v28), (27, v27), (26, v26), (25, v25), (24, v24), (23, v23), (22, v22), (5, v5), (7, v7), (16, v16), (17, v17), (18, v18)]⟩
def P5_12 (n m1 : Nat) (v36 v35 v34 v33 v32 v31 v30 v29 v28 v27 v26 v25 v24 v23 v22 v5 v7 v16 v17 v18 : Value) : AM Value := pt Tryz.prog SP 5 n [.r, .r, .r, .l, .r, .b, .b, .r, .r, .l, .b, .r, .l, .l, .o 15] [m1] ⟨77, [(36, v36), (35, v35), (34, v34), (33, v33), (32, v32), (31, v31), (30, v30), (29, v29), (28, v28), (27, v27), (26, v26), (25, v25), (24, v24), (23, v23), (22, v22), (5, v5), (7, v7), (16, v16), (17, v17), (18, v18)]⟩
def P5_13 (n m1 : Nat) (v5 v7 v16 v17 v18 v37 : Value) : AM Value := pt Tryz.prog SP 5 n [.r, .r, .r, .l, .r, .b, .b, .r, .r, .l, .b, .r, .r] [m1] ⟨77, [(5, v5), (7, v7), (16, v16), (17, v17), (18, v18), (37, v37)]⟩
def P5_14 (n m1 m2 : Nat) (v5 v7 v16 v17 v18 v39 v40 v41 : Value) : AM Value := pt Tryz.prog SP 5 n [.r, .r, .r, .l, .r, .b, .b, .r, .r, .l, .b, .r, .r, .l, .r, .b, .h] [m1, m2] ⟨77, [(5, v5), (7, v7), (16, v16), (17, v17), (18, v18), (39, v39), (40, v40), (41, v41)]⟩
def P5_15 (n m1 m2 : Nat) (v5 v7 v16 v17 v18 v39 v40 v41 v42 : Value) : AM Value := pt Tryz.prog SP 5 n [.r, .r, .r, .l, .r, .b, .b, .r, .r, .l, .b, .r, .r, .l, .r, .b, .b, .r, .r] [m1, m2] ⟨77, [(5, v5), (7, v7), (16, v16), (17, v17), (18, v18), (39, v39), (40, v40), (41, v41), (42, v42)]⟩
def P5_16 (n m1 : Nat) (v5 v7 v16 v17 v18 v39 v40 v41 v42 : Value) : AM Value := pt Tryz.prog SP 5 n [.r, .r, .r, .l, .r, .b, .b, .r, .r, .l, .b, .r, .r, .r] [m1] ⟨77, [(5, v5), (7, v7), (16, v16), (17, v17), (18, v18), (39, v39), (40, v40), (41, v41), (42, v42)]⟩
def P5_17 (n m1 m2 : Nat) (v5 v7 v9 v16 v17 v18 v39 v40 v41 v48 : Value) : AM Value := pt Tryz.prog SP 5 n [.r, .r, .r, .l, .r, .b, .b, .r, .r, .l, .b, .r, .r, .l, .r, .b, .b, .r, .r, .l, .b, .r, .r] [m1, m2] ⟨77, [(5, v5), (7, v7), (9, v9), (16, v16), (17, v17), (18, v18), (39, v39), (40, v40), (41, v41), (48, v48)]⟩
def P5_18 (n m1 m2 : Nat) (v5 v16 v17 v18 v57 v58 v59 : Value) : AM Value := pt Tryz.prog SP 5 n [.r, .r, .r, .l, .r, .b, .b, .r, .r, .l, .b, .r, .r, .r, .r, .b, .h] [m1, m2] ⟨77, [(5, v5), (16, v16), (17, v17), (18, v18), (57, v57), (58, v58), (59, v59)]⟩
def P5_19 (n m1 m2 : Nat) (v5 v7 v16 v17 v18 v39 v40 v41 : Value) : AM Value := pt Tryz.prog SP 5 n [.r, .r, .r, .l, .r, .b, .b, .r, .r, .l, .b, .r, .r, .l, .r, .b, .b, .r, .r, .r] [m1, m2] ⟨77, [(5, v5), (7, v7), (16, v16), (17, v17), (18, v18), (39, v39), (40, v40), (41, v41)]⟩
def P5_20 (n m1 m2 : Nat) (v5 v16 v17 v18 v57 v58 v59 v60 : Value) : AM Value := pt Tryz.prog SP 5 n [.r, .r, .r, .l, .r, .b, .b, .r, .r, .l, .b, .r, .r, .r, .r, .b, .b, .r, .r] [m1, m2] ⟨77, [(5, v5), (16, v16), (17, v17), (18, v18), (57, v57), (58, v58), (59, v59), (60, v60)]⟩
def P5_21 (n m1 : Nat) (v5 v16 v17 v18 v57 v58 v59 v60 : Value) : AM Value := pt Tryz.prog SP 5 n [.r, .r, .r, .l, .r, .b, .b, .r, .r, .r] [m1] ⟨77, [(5, v5), (16, v16), (17, v17), (18, v18), (57, v57), (58, v58), (59, v59), (60, v60)]⟩
def P5_22 (n m1 m2 : Nat) (v5 v11 v16 v17 v18 v57 v58 v59 v66 : Value) : AM Value := pt Tryz.prog SP 5 n [.r, .r, .r, .l, .r, .b, .b, .r, .r, .l, .b, .r, .r, .r, .r, .b, .b, .r, .r, .l, .b, .r, .r] [m1, m2] ⟨77, [(5, v5), (11, v11), (16, v16), (17, v17), (18, v18), (57, v57), (58, v58), (59, v59), (66, v66)]⟩
def P5_23 (n m1 m2 : Nat) (v5 v16 v17 v18 v57 v58 v59 : Value) : AM Value := pt Tryz.prog SP 5 n [.r, .r, .r, .l, .r, .b, .b, .r, .r, .l, .b, .r, .r, .r, .r, .b, .b, .r, .r, .r] [m1, m2] ⟨77, [(5, v5), (16, v16), (17, v17), (18, v18), (57, v57), (58, v58), (59, v59)]⟩
theorem F5 (n : Nat) (v0 v1 : Value) (H : AHeap) : run Tryz.prog SP (n + 1) (.fn 5) [v0, v1] H = P5_0 n v0 v1 H := by kernel_rfl
theorem P5_0_eq (n : Nat) (v0 v1 : Value) (H : AHeap) : P5_0 n v0 v1 H =
    stepP (olen Tryz.prog 29 v0) H fun u0 H1 =>
    stepP (obin Tryz.prog .gtr 3 (.tmp 13) (.tmp 14) u0 v1) H1 fun u2 H3 =>
    condB u2
    (fun H4 => some (.bool true, H4))
    (fun H4 => P5_1 n v0 u2 H4) H3 := by kernel_rfl
theorem P5_1_eq (n : Nat) (v0 v15 : Value) (H : AHeap) : P5_1 n v0 v15 H =
    stepP (olen Tryz.prog 29 v0) H fun u0 H1 =>
    P5_2 n n (.int .i64 0) v0 u0 (.int .i64 0) H1 := by kernel_rfl
theorem P5_2_eq (n m1 : Nat) (v5 v16 v17 v18 : Value) (H : AHeap) : P5_2 n (m1 + 1) v5 v16 v17 v18 H =
    stepP (obin Tryz.prog .lss 3 (.tmp 18) (.tmp 17) v18 v17) H fun u0 H1 =>
    condB u0
    (fun H2 => P5_3 n m1 v5 v16 v17 v18 u0 H2)
    (fun H2 => P5_4 n v5 v16 v17 v18 u0 H2) H1 := by kernel_rfl
theorem P5_3_eq (n m1 : Nat) (v5 v16 v17 v18 v19 : Value) (H : AHeap) : P5_3 n m1 v5 v16 v17 v18 v19 H =
    stepP (oindexAddr Tryz.prog 29 v16 v18) H fun u0 H1 =>
    stepP (oload Tryz.prog 26 u0 H1) H1 fun u2 H3 =>
    stepA (some ((fun i => .pointer (some ⟨i, 0, none⟩)), [.int .i64 0, .int .i64 0, .int .i64 0, .slice none 0 0, .slice none 0 0, .slice none 0 0], 26)) H3 fun u4 H5 =>
    stepE (ounit (ostore Tryz.prog 26 u4 u2) H5) fun u6 H7 =>
    stepP (padd 3 u4) H7 fun u8 H9 =>
    stepP (oload Tryz.prog 22 u8 H9) H9 fun u10 H11 =>
    stepP (olen Tryz.prog 22 u10) H11 fun u12 H13 =>
    stepP (obin Tryz.prog .gtr 3 (.tmp 24) (.const (.int .i64 70)) u12 (.int .i64 70)) H13 fun u14 H15 =>
    guardB u14 false (P5_5 n m1 (.tuple #[]) u14 u14 u12 u10 u8 v5 u4 v16 v17 v18 H15) (stepP (padd 4 u4) H15 fun u16 H17 =>
    P5_5 n m1 u16 u14 u14 u12 u10 u8 v5 u4 v16 v17 v18 H17) := by kernel_rfl
theorem P5_4_eq (n : Nat) (v5 v16 v17 v18 v19 : Value) (H : AHeap) : P5_4 n v5 v16 v17 v18 v19 H =
    stepP (obin Tryz.prog .gtr 3 (.tmp 75) (.const (.int .i64 1000)) v5 (.int .i64 1000)) H fun u0 H1 =>
    some (u0, H1) := by kernel_rfl
theorem P5_5_eq (n m1 : Nat) (v27 v26 v25 v24 v23 v22 v5 v7 v16 v17 v18 : Value) (H : AHeap) : P5_5 n m1 v27 v26 v25 v24 v23 v22 v5 v7 v16 v17 v18 H =
    guardB v26 false (P5_6 n m1 (.tuple #[]) v27 v26 v25 v24 v23 v22 v5 v7 v16 v17 v18 H) (stepP (oload Tryz.prog 23 v27 H) H fun u0 H1 =>
    P5_6 n m1 u0 v27 v26 v25 v24 v23 v22 v5 v7 v16 v17 v18 H1) := by kernel_rfl
theorem P5_6_eq (n m1 : Nat) (v28 v27 v26 v25 v24 v23 v22 v5 v7 v16 v17 v18 : Value) (H : AHeap) : P5_6 n m1 v28 v27 v26 v25 v24 v23 v22 v5 v7 v16 v17 v18 H =
    guardB v26 false (P5_7 n m1 (.tuple #[]) v28 v27 v26 v25 v24 v23 v22 v5 v7 v16 v17 v18 H) (stepP (olen Tryz.prog 23 v28) H fun u0 H1 =>
    P5_7 n m1 u0 v28 v27 v26 v25 v24 v23 v22 v5 v7 v16 v17 v18 H1) := by kernel_rfl
theorem P5_7_eq (n m1 : Nat) (v29 v28 v27 v26 v25 v24 v23 v22 v5 v7 v16 v17 v18 : Value) (H : AHeap) : P5_7 n m1 v29 v28 v27 v26 v25 v24 v23 v22 v5 v7 v16 v17 v18 H =
    guardB v26 false (P5_8 n m1 (.tuple #[]) v29 v28 v27 v26 v25 v24 v23 v22 v5 v7 v16 v17 v18 H) (stepP (obin Tryz.prog .gtr 3 (.tmp 29) (.const (.int .i64 70)) v29 (.int .i64 70)) H fun u0 H1 =>
    P5_8 n m1 u0 v29 v28 v27 v26 v25 v24 v23 v22 v5 v7 v16 v17 v18 H1) := by kernel_rfl
theorem P5_8_eq (n m1 : Nat) (v30 v29 v28 v27 v26 v25 v24 v23 v22 v5 v7 v16 v17 v18 : Value) (H : AHeap) : P5_8 n m1 v30 v29 v28 v27 v26 v25 v24 v23 v22 v5 v7 v16 v17 v18 H =
    stepP (pickV v26 (.bool true) v30) H fun u0 H1 =>
    guardB u0 false (P5_9 n m1 (.tuple #[]) u0 u0 v30 v29 v28 v27 v26 v25 v24 v23 v22 v5 v7 v16 v17 v18 H1) (stepP (padd 5 v7) H1 fun u2 H3 =>
    P5_9 n m1 u2 u0 u0 v30 v29 v28 v27 v26 v25 v24 v23 v22 v5 v7 v16 v17 v18 H3) := by kernel_rfl
theorem P5_9_eq (n m1 : Nat) (v33 v32 v31 v30 v29 v28 v27 v26 v25 v24 v23 v22 v5 v7 v16 v17 v18 : Value) (H : AHeap) : P5_9 n m1 v33 v32 v31 v30 v29 v28 v27 v26 v25 v24 v23 v22 v5 v7 v16 v17 v18 H =
    guardB v32 false (P5_10 n m1 (.tuple #[]) v33 v32 v31 v30 v29 v28 v27 v26 v25 v24 v23 v22 v5 v7 v16 v17 v18 H) (stepP (oload Tryz.prog 24 v33 H) H fun u0 H1 =>
    P5_10 n m1 u0 v33 v32 v31 v30 v29 v28 v27 v26 v25 v24 v23 v22 v5 v7 v16 v17 v18 H1) := by kernel_rfl
theorem P5_10_eq (n m1 : Nat) (v34 v33 v32 v31 v30 v29 v28 v27 v26 v25 v24 v23 v22 v5 v7 v16 v17 v18 : Value) (H : AHeap) : P5_10 n m1 v34 v33 v32 v31 v30 v29 v28 v27 v26 v25 v24 v23 v22 v5 v7 v16 v17 v18 H =
    guardB v32 false (P5_11 n m1 (.tuple #[]) v34 v33 v32 v31 v30 v29 v28 v27 v26 v25 v24 v23 v22 v5 v7 v16 v17 v18 H) (stepP (olen Tryz.prog 24 v34) H fun u0 H1 =>
    P5_11 n m1 u0 v34 v33 v32 v31 v30 v29 v28 v27 v26 v25 v24 v23 v22 v5 v7 v16 v17 v18 H1) := by kernel_rfl
theorem P5_11_eq (n m1 : Nat) (v35 v34 v33 v32 v31 v30 v29 v28 v27 v26 v25 v24 v23 v22 v5 v7 v16 v17 v18 : Value) (H : AHeap) : P5_11 n m1 v35 v34 v33 v32 v31 v30 v29 v28 v27 v26 v25 v24 v23 v22 v5 v7 v16 v17 v18 H =
    guardB v32 false (P5_12 n m1 (.tuple #[]) v35 v34 v33 v32 v31 v30 v29 v28 v27 v26 v25 v24 v23 v22 v5 v7 v16 v17 v18 H) (stepP (obin Tryz.prog .gtr 3 (.tmp 35) (.const (.int .i64 70)) v35 (.int .i64 70)) H fun u0 H1 =>
    P5_12 n m1 u0 v35 v34 v33 v32 v31 v30 v29 v28 v27 v26 v25 v24 v23 v22 v5 v7 v16 v17 v18 H1) := by kernel_rfl
theorem P5_12_eq (n m1 : Nat) (v36 v35 v34 v33 v32 v31 v30 v29 v28 v27 v26 v25 v24 v23 v22 v5 v7 v16 v17 v18 : Value) (H : AHeap) : P5_12 n m1 v36 v35 v34 v33 v32 v31 v30 v29 v28 v27 v26 v25 v24 v23 v22 v5 v7 v16 v17 v18 H =
    stepP (pickV v32 (.bool true) v36) H fun u0 H1 =>
    condB u0
    (fun H2 => some (.bool true, H2))
    (fun H2 => P5_13 n m1 v5 v7 v16 v17 v18 u0 H2) H1 := by kernel_rfl
theorem P5_13_eq (n m1 : Nat) (v5 v7 v16 v17 v18 v37 : Value) (H : AHeap) : P5_13 n m1 v5 v7 v16 v17 v18 v37 H =
    stepP (padd 3 v7) H fun u0 H1 =>
    stepP (oload Tryz.prog 22 u0 H1) H1 fun u2 H3 =>
    stepP (olen Tryz.prog 22 u2) H3 fun u4 H5 =>
    P5_14 n m1 n v5 v7 v16 v17 v18 u2 u4 (.int .i64 0) H5 := by kernel_rfl
theorem P5_14_eq (n m1 m2 : Nat) (v5 v7 v16 v17 v18 v39 v40 v41 : Value) (H : AHeap) : P5_14 n m1 (m2 + 1) v5 v7 v16 v17 v18 v39 v40 v41 H =
    stepP (obin Tryz.prog .lss 3 (.tmp 41) (.tmp 40) v41 v40) H fun u0 H1 =>
    condB u0
    (fun H2 => P5_15 n m1 m2 v5 v7 v16 v17 v18 v39 v40 v41 u0 H2)
    (fun H2 => P5_16 n m1 v5 v7 v16 v17 v18 v39 v40 v41 u0 H2) H1 := by kernel_rfl
theorem P5_15_eq (n m1 m2 : Nat) (v5 v7 v16 v17 v18 v39 v40 v41 v42 : Value) (H : AHeap) : P5_15 n m1 m2 v5 v7 v16 v17 v18 v39 v40 v41 v42 H =
    stepP (oindexAddr Tryz.prog 22 v39 v41) H fun u0 H1 =>
    stepP (oload Tryz.prog 56 u0 H1) H1 fun u2 H3 =>
    stepA (some ((fun i => .pointer (some ⟨i, 0, none⟩)), [.int .i64 0, .int .i64 0, .string ⟨⟨[]⟩⟩], 56)) H3 fun u4 H5 =>
    stepE (ounit (ostore Tryz.prog 56 u4 u2) H5) fun u6 H7 =>
    stepP (padd 2 u4) H7 fun u8 H9 =>
    stepP (oload Tryz.prog 9 u8 H9) H9 fun u10 H11 =>
    stepP (olen Tryz.prog 9 u10) H11 fun u12 H13 =>
    stepP (obin Tryz.prog .gtr 3 (.tmp 47) (.const (.int .i64 400)) u12 (.int .i64 400)) H13 fun u14 H15 =>
    condB u14
    (fun H16 => some (.bool true, H16))
    (fun H16 => P5_17 n m1 m2 v5 v7 u4 v16 v17 v18 v39 v40 v41 u14 H16) H15 := by kernel_rfl
theorem P5_16_eq (n m1 : Nat) (v5 v7 v16 v17 v18 v39 v40 v41 v42 : Value) (H : AHeap) : P5_16 n m1 v5 v7 v16 v17 v18 v39 v40 v41 v42 H =
    stepP (padd 5 v7) H fun u0 H1 =>
    stepP (oload Tryz.prog 24 u0 H1) H1 fun u2 H3 =>
    stepP (olen Tryz.prog 24 u2) H3 fun u4 H5 =>
    P5_18 n m1 n v5 v16 v17 v18 u2 u4 (.int .i64 0) H5 := by kernel_rfl
theorem P5_17_eq (n m1 m2 : Nat) (v5 v7 v9 v16 v17 v18 v39 v40 v41 v48 : Value) (H : AHeap) : P5_17 n m1 m2 v5 v7 v9 v16 v17 v18 v39 v40 v41 v48 H =
    stepP (padd 2 v9) H fun u0 H1 =>
    stepP (oload Tryz.prog 9 u0 H1) H1 fun u2 H3 =>
    stepP (olen Tryz.prog 9 u2) H3 fun u4 H5 =>
    stepP (obin Tryz.prog .add 3 (.tmp 49) (.tmp 52) v5 u4) H5 fun u6 H7 =>
    stepP (obin Tryz.prog .add 3 (.tmp 53) (.const (.int .i64 1)) u6 (.int .i64 1)) H7 fun u8 H9 =>
    P5_19 n m1 m2 u8 v7 v16 v17 v18 v39 v40 v41 H9 := by kernel_rfl
theorem P5_18_eq (n m1 m2 : Nat) (v5 v16 v17 v18 v57 v58 v59 : Value) (H : AHeap) : P5_18 n m1 (m2 + 1) v5 v16 v17 v18 v57 v58 v59 H =
    stepP (obin Tryz.prog .lss 3 (.tmp 59) (.tmp 58) v59 v58) H fun u0 H1 =>
    condB u0
    (fun H2 => P5_20 n m1 m2 v5 v16 v17 v18 v57 v58 v59 u0 H2)
    (fun H2 => P5_21 n m1 v5 v16 v17 v18 v57 v58 v59 u0 H2) H1 := by kernel_rfl
theorem P5_19_eq (n m1 m2 : Nat) (v5 v7 v16 v17 v18 v39 v40 v41 : Value) (H : AHeap) : P5_19 n m1 m2 v5 v7 v16 v17 v18 v39 v40 v41 H =
    stepP (obin Tryz.prog .add 3 (.tmp 41) (.const (.int .i64 1)) v41 (.int .i64 1)) H fun u0 H1 =>
    P5_14 n m1 m2 v5 v7 v16 v17 v18 v39 v40 u0 H1 := by kernel_rfl
theorem P5_20_eq (n m1 m2 : Nat) (v5 v16 v17 v18 v57 v58 v59 v60 : Value) (H : AHeap) : P5_20 n m1 m2 v5 v16 v17 v18 v57 v58 v59 v60 H =
    stepP (oindexAddr Tryz.prog 24 v57 v59) H fun u0 H1 =>
    stepP (oload Tryz.prog 58 u0 H1) H1 fun u2 H3 =>
    stepA (some ((fun i => .pointer (some ⟨i, 0, none⟩)), [.int .i64 0, .int .i64 0, .int .i64 0, .int .i64 0, .string ⟨⟨[]⟩⟩], 58)) H3 fun u4 H5 =>
    stepE (ounit (ostore Tryz.prog 58 u4 u2) H5) fun u6 H7 =>
    stepP (padd 4 u4) H7 fun u8 H9 =>
    stepP (oload Tryz.prog 9 u8 H9) H9 fun u10 H11 =>
    stepP (olen Tryz.prog 9 u10) H11 fun u12 H13 =>
    stepP (obin Tryz.prog .gtr 3 (.tmp 65) (.const (.int .i64 200)) u12 (.int .i64 200)) H13 fun u14 H15 =>
    condB u14
    (fun H16 => some (.bool true, H16))
    (fun H16 => P5_22 n m1 m2 v5 u4 v16 v17 v18 v57 v58 v59 u14 H16) H15 := by kernel_rfl
theorem P5_21_eq (n m1 : Nat) (v5 v16 v17 v18 v57 v58 v59 v60 : Value) (H : AHeap) : P5_21 n m1 v5 v16 v17 v18 v57 v58 v59 v60 H =
    stepP (obin Tryz.prog .add 3 (.tmp 18) (.const (.int .i64 1)) v18 (.int .i64 1)) H fun u0 H1 =>
    P5_2 n m1 v5 v16 v17 u0 H1 := by kernel_rfl
theorem P5_22_eq (n m1 m2 : Nat) (v5 v11 v16 v17 v18 v57 v58 v59 v66 : Value) (H : AHeap) : P5_22 n m1 m2 v5 v11 v16 v17 v18 v57 v58 v59 v66 H =
    stepP (padd 4 v11) H fun u0 H1 =>
    stepP (oload Tryz.prog 9 u0 H1) H1 fun u2 H3 =>
    stepP (olen Tryz.prog 9 u2) H3 fun u4 H5 =>
    stepP (obin Tryz.prog .add 3 (.tmp 67) (.tmp 70) v5 u4) H5 fun u6 H7 =>
    stepP (obin Tryz.prog .add 3 (.tmp 71) (.const (.int .i64 1)) u6 (.int .i64 1)) H7 fun u8 H9 =>
    P5_23 n m1 m2 u8 v16 v17 v18 v57 v58 v59 H9 := by kernel_rfl
theorem P5_23_eq (n m1 m2 : Nat) (v5 v16 v17 v18 v57 v58 v59 : Value) (H : AHeap) : P5_23 n m1 m2 v5 v16 v17 v18 v57 v58 v59 H =
    stepP (obin Tryz.prog .add 3 (.tmp 59) (.const (.int .i64 1)) v59 (.int .i64 1)) H fun u0 H1 =>
    P5_18 n m1 m2 v5 v16 v17 v18 v57 v58 u0 H1 := by kernel_rfl

end
end Go.Proofs.YtifnbnlghfedfaaGreatDoor
