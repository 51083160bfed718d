/- POINTS OF FUNCTIONS' CODE, AND HOW ONE LEADS TO OTHERS (written by program). No condition. -/
import Derived.Test.YtifnbnlghfedfaaGreatDoorBkSp
namespace Go.Proofs.YtifnbnlghfedfaaGreatDoor
open Go Go.Bk
noncomputable section
set_option maxRecDepth 1000000
set_option linter.unusedVariables false
/-! ### 3: bodkin/bodkinlaw32.DisplayNil -/
def P3_0 (n : Nat) (v0 : Value) : AM Value := pt Tryz.prog SP 3 n [] [] ⟨36, [(0, v0)]⟩
def P3_1 (n : Nat) (v1 v3 v8 : Value) : AM Value := pt Tryz.prog SP 3 n [.r, .r, .r] [] ⟨36, [(1, v1), (3, v3), (8, v8)]⟩
def P3_2 (n : Nat) (v21 v20 v19 v18 v17 v16 v15 v1 v3 v4 v5 : Value) : AM Value := pt Tryz.prog SP 3 n [.r, .r, .r, .r, .l, .o 7] [] ⟨36, [(21, v21), (20, v20), (19, v19), (18, v18), (17, v17), (16, v16), (15, v15), (1, v1), (3, v3), (4, v4), (5, v5)]⟩
def P3_3 (n : Nat) (v22 v21 v20 v19 v18 v17 v16 v15 v1 v3 v4 v5 : Value) : AM Value := pt Tryz.prog SP 3 n [.r, .r, .r, .r, .l, .o 8] [] ⟨36, [(22, v22), (21, v21), (20, v20), (19, v19), (18, v18), (17, v17), (16, v16), (15, v15), (1, v1), (3, v3), (4, v4), (5, v5)]⟩
def P3_4 (n : Nat) (v23 v22 v21 v20 v19 v18 v17 v16 v15 v1 v3 v4 v5 : Value) : AM Value := pt Tryz.prog SP 3 n [.r, .r, .r, .r, .l, .o 9] [] ⟨36, [(23, v23), (22, v22), (21, v21), (20, v20), (19, v19), (18, v18), (17, v17), (16, v16), (15, v15), (1, v1), (3, v3), (4, v4), (5, v5)]⟩
def P3_5 (n : Nat) (v26 v25 v24 v23 v22 v21 v20 v19 v18 v17 v16 v15 v1 v3 v4 v5 : Value) : AM Value := pt Tryz.prog SP 3 n [.r, .r, .r, .r, .l, .o 12] [] ⟨36, [(26, v26), (25, v25), (24, v24), (23, v23), (22, v22), (21, v21), (20, v20), (19, v19), (18, v18), (17, v17), (16, v16), (15, v15), (1, v1), (3, v3), (4, v4), (5, v5)]⟩
def P3_6 (n : Nat) (v27 v26 v25 v24 v23 v22 v21 v20 v19 v18 v17 v16 v15 v1 v3 v4 v5 : Value) : AM Value := pt Tryz.prog SP 3 n [.r, .r, .r, .r, .l, .o 13] [] ⟨36, [(27, v27), (26, v26), (25, v25), (24, v24), (23, v23), (22, v22), (21, v21), (20, v20), (19, v19), (18, v18), (17, v17), (16, v16), (15, v15), (1, v1), (3, v3), (4, v4), (5, v5)]⟩
def P3_7 (n : Nat) (v30 v29 v28 v27 v26 v25 v24 v23 v22 v21 v20 v19 v18 v17 v16 v15 v1 v3 v4 v5 : Value) : AM Value := pt Tryz.prog SP 3 n [.r, .r, .r, .r, .l, .o 16] [] ⟨36, [(30, v30), (29, v29), (28, v28), (27, v27), (26, v26), (25, v25), (24, v24), (23, v23), (22, v22), (21, v21), (20, v20), (19, v19), (18, v18), (17, v17), (16, v16), (15, v15), (1, v1), (3, v3), (4, v4), (5, v5)]⟩
def P3_8 (n : Nat) (v31 v30 v29 v28 v27 v26 v25 v24 v23 v22 v21 v20 v19 v18 v17 v16 v15 v1 v3 v4 v5 : Value) : AM Value := pt Tryz.prog SP 3 n [.r, .r, .r, .r, .l, .o 17] [] ⟨36, [(31, v31), (30, v30), (29, v29), (28, v28), (27, v27), (26, v26), (25, v25), (24, v24), (23, v23), (22, v22), (21, v21), (20, v20), (19, v19), (18, v18), (17, v17), (16, v16), (15, v15), (1, v1), (3, v3), (4, v4), (5, v5)]⟩
def P3_9 (n : Nat) (v34 v33 v32 v31 v30 v29 v28 v27 v26 v25 v24 v23 v22 v21 v20 v19 v18 v17 v16 v15 v1 v3 v4 v5 : Value) : AM Value := pt Tryz.prog SP 3 n [.r, .r, .r, .r, .l, .o 20] [] ⟨36, [(34, v34), (33, v33), (32, v32), (31, v31), (30, v30), (29, v29), (28, v28), (27, v27), (26, v26), (25, v25), (24, v24), (23, v23), (22, v22), (21, v21), (20, v20), (19, v19), (18, v18), (17, v17), (16, v16), (15, v15), (1, v1), (3, v3), (4, v4), (5, v5)]⟩
theorem F3 (n : Nat) (v0 : Value) (H : AHeap) : run Tryz.prog SP (n + 1) (.fn 3) [v0] H = P3_0 n v0 H := by kernel_rfl
theorem P3_0_eq (n : Nat) (v0 : Value) (H : AHeap) : P3_0 n v0 H =
    stepA (some ((fun i => .pointer (some ⟨i, 0, none⟩)), (Value.cells v0).toList, 26)) H fun u0 H1 =>
    stepP (oload Tryz.prog 26 u0 H1) H1 fun u2 H3 =>
    stepA (mkSlice 1 26 (ifill (fun i => some (i * 6, 6)) (zeros [.int .i64 0, .int .i64 0, .int .i64 0, .slice none 0 0, .slice none 0 0, .slice none 0 0] 1) [(0, u2)])) H3 fun u4 H5 =>
    stepE (run Tryz.prog SP n (.fn 5) [u4, .int .i64 1] H5) fun u6 H7 =>
    condB u6
    (fun H8 => stepE (run Tryz.prog SP n (.fn 6) [] H8) fun u9 H10 =>
    some (u9, H10))
    (fun H8 => P3_1 n u0 (.pointer none) u6 H8) H7 := by kernel_rfl
theorem P3_1_eq (n : Nat) (v1 v3 v8 : Value) (H : AHeap) : P3_1 n v1 v3 v8 H =
    stepE (run Tryz.prog SP n (.fn 7) [v3] H) fun u0 H1 =>
    stepP (oextract u0 0) H1 fun u2 H3 =>
    stepP (oextract u0 1) H3 fun u4 H5 =>
    stepP (oload Tryz.prog 26 v1 H5) H5 fun u6 H7 =>
    stepE (run Tryz.prog SP n (.fn 8) [v3, u6] H7) fun u8 H9 =>
    stepP (obuild Tryz.prog 37 [(0, (.int .i64 7))]) H9 fun u10 H11 =>
    stepP (obin Tryz.prog .eql 37 (.tmp 17) (.tmp 18) u8 u10) H11 fun u12 H13 =>
    guardB u12 true (P3_2 n (.tuple #[]) u12 u12 u10 u8 u6 v3 v1 v3 u2 u4 H13) (P3_2 n v3 u12 u12 u10 u8 u6 v3 v1 v3 u2 u4 H13) := by kernel_rfl
theorem P3_2_eq (n : Nat) (v21 v20 v19 v18 v17 v16 v15 v1 v3 v4 v5 : Value) (H : AHeap) : P3_2 n v21 v20 v19 v18 v17 v16 v15 v1 v3 v4 v5 H =
    guardB v20 true (P3_3 n (.tuple #[]) v21 v20 v19 v18 v17 v16 v15 v1 v3 v4 v5 H) (stepE (run Tryz.prog SP n (.fn 9) [v21] H) fun u0 H1 =>
    P3_3 n u0 v21 v20 v19 v18 v17 v16 v15 v1 v3 v4 v5 H1) := by kernel_rfl
theorem P3_3_eq (n : Nat) (v22 v21 v20 v19 v18 v17 v16 v15 v1 v3 v4 v5 : Value) (H : AHeap) : P3_3 n v22 v21 v20 v19 v18 v17 v16 v15 v1 v3 v4 v5 H =
    guardB v20 true (P3_4 n (.tuple #[]) v22 v21 v20 v19 v18 v17 v16 v15 v1 v3 v4 v5 H) (stepP (obin Tryz.prog .eql 39 (.tmp 22) (.const (.pointer none)) v22 (.pointer none)) H fun u0 H1 =>
    P3_4 n u0 v22 v21 v20 v19 v18 v17 v16 v15 v1 v3 v4 v5 H1) := by kernel_rfl
theorem P3_4_eq (n : Nat) (v23 v22 v21 v20 v19 v18 v17 v16 v15 v1 v3 v4 v5 : Value) (H : AHeap) : P3_4 n v23 v22 v21 v20 v19 v18 v17 v16 v15 v1 v3 v4 v5 H =
    stepP (pickV v20 v23 (.bool false)) H fun u0 H1 =>
    guardB u0 true (P3_5 n (.tuple #[]) u0 u0 v23 v22 v21 v20 v19 v18 v17 v16 v15 v1 v3 v4 v5 H1) (P3_5 n v4 u0 u0 v23 v22 v21 v20 v19 v18 v17 v16 v15 v1 v3 v4 v5 H1) := by kernel_rfl
theorem P3_5_eq (n : Nat) (v26 v25 v24 v23 v22 v21 v20 v19 v18 v17 v16 v15 v1 v3 v4 v5 : Value) (H : AHeap) : P3_5 n v26 v25 v24 v23 v22 v21 v20 v19 v18 v17 v16 v15 v1 v3 v4 v5 H =
    guardB v25 true (P3_6 n (.tuple #[]) v26 v25 v24 v23 v22 v21 v20 v19 v18 v17 v16 v15 v1 v3 v4 v5 H) (stepP (obin Tryz.prog .eql 3 (.tmp 26) (.const (.int .i64 0)) v26 (.int .i64 0)) H fun u0 H1 =>
    P3_6 n u0 v26 v25 v24 v23 v22 v21 v20 v19 v18 v17 v16 v15 v1 v3 v4 v5 H1) := by kernel_rfl
theorem P3_6_eq (n : Nat) (v27 v26 v25 v24 v23 v22 v21 v20 v19 v18 v17 v16 v15 v1 v3 v4 v5 : Value) (H : AHeap) : P3_6 n v27 v26 v25 v24 v23 v22 v21 v20 v19 v18 v17 v16 v15 v1 v3 v4 v5 H =
    stepP (pickV v25 v27 (.bool false)) H fun u0 H1 =>
    guardB u0 true (P3_7 n (.tuple #[]) u0 u0 v27 v26 v25 v24 v23 v22 v21 v20 v19 v18 v17 v16 v15 v1 v3 v4 v5 H1) (P3_7 n v5 u0 u0 v27 v26 v25 v24 v23 v22 v21 v20 v19 v18 v17 v16 v15 v1 v3 v4 v5 H1) := by kernel_rfl
theorem P3_7_eq (n : Nat) (v30 v29 v28 v27 v26 v25 v24 v23 v22 v21 v20 v19 v18 v17 v16 v15 v1 v3 v4 v5 : Value) (H : AHeap) : P3_7 n v30 v29 v28 v27 v26 v25 v24 v23 v22 v21 v20 v19 v18 v17 v16 v15 v1 v3 v4 v5 H =
    guardB v29 true (P3_8 n (.tuple #[]) v30 v29 v28 v27 v26 v25 v24 v23 v22 v21 v20 v19 v18 v17 v16 v15 v1 v3 v4 v5 H) (stepP (obin Tryz.prog .eql 3 (.tmp 30) (.const (.int .i64 0)) v30 (.int .i64 0)) H fun u0 H1 =>
    P3_8 n u0 v30 v29 v28 v27 v26 v25 v24 v23 v22 v21 v20 v19 v18 v17 v16 v15 v1 v3 v4 v5 H1) := by kernel_rfl
theorem P3_8_eq (n : Nat) (v31 v30 v29 v28 v27 v26 v25 v24 v23 v22 v21 v20 v19 v18 v17 v16 v15 v1 v3 v4 v5 : Value) (H : AHeap) : P3_8 n v31 v30 v29 v28 v27 v26 v25 v24 v23 v22 v21 v20 v19 v18 v17 v16 v15 v1 v3 v4 v5 H =
    stepP (pickV v29 v31 (.bool false)) H fun u0 H1 =>
    guardB u0 true (P3_9 n (.tuple #[]) u0 u0 v31 v30 v29 v28 v27 v26 v25 v24 v23 v22 v21 v20 v19 v18 v17 v16 v15 v1 v3 v4 v5 H1) (stepE (run Tryz.prog SP n (.fn 6) [] H1) fun u2 H3 =>
    P3_9 n u2 u0 u0 v31 v30 v29 v28 v27 v26 v25 v24 v23 v22 v21 v20 v19 v18 v17 v16 v15 v1 v3 v4 v5 H3) := by kernel_rfl
theorem P3_9_eq (n : Nat) (v34 v33 v32 v31 v30 v29 v28 v27 v26 v25 v24 v23 v22 v21 v20 v19 v18 v17 v16 v15 v1 v3 v4 v5 : Value) (H : AHeap) : P3_9 n v34 v33 v32 v31 v30 v29 v28 v27 v26 v25 v24 v23 v22 v21 v20 v19 v18 v17 v16 v15 v1 v3 v4 v5 H =
    stepP (pickV v33 v34 (.bool false)) H fun u0 H1 =>
    some (u0, H1) := by kernel_rfl

/-! ### 7: (*bodkin/display.Display).Steps -/
def P7_0 (n : Nat) (v0 : Value) : AM Value := pt Tryz.prog SP 7 n [] [] ⟨13, [(0, v0)]⟩
def P7_1 (n : Nat) (v0 v5 : Value) : AM Value := pt Tryz.prog SP 7 n [.r, .r] [] ⟨13, [(0, v0), (5, v5)]⟩
theorem F7 (n : Nat) (v0 : Value) (H : AHeap) : run Tryz.prog SP (n + 1) (.fn 7) [v0] H = P7_0 n v0 H := by kernel_rfl
theorem P7_0_eq (n : Nat) (v0 : Value) (H : AHeap) : P7_0 n v0 H =
    stepP (obin Tryz.prog .eql 27 (.tmp 4) (.const (.pointer none)) v0 (.pointer none)) H fun u0 H1 =>
    condB u0
    (fun H2 => some (.tuple ⟨[.int .i64 0, .int .i64 0]⟩, H2))
    (fun H2 => P7_1 n v0 u0 H2) H1 := by kernel_rfl
theorem P7_1_eq (n : Nat) (v0 v5 : Value) (H : AHeap) : P7_1 n v0 v5 H =
    stepP (onilCheck v0) H fun u0 H1 =>
    stepP (padd 1 u0) H1 fun u2 H3 =>
    stepP (oload Tryz.prog 61 u2 H3) H3 fun u4 H5 =>
    stepE (run Tryz.prog SP n (.fn 17) [u4] H5) fun u6 H7 =>
    stepP (oextract u6 0) H7 fun u8 H9 =>
    stepP (oextract u6 1) H9 fun u10 H11 =>
    some (.tuple ⟨[u8, u10]⟩, H11) := by kernel_rfl

/-! ### 8: (*bodkin/display.Display).Do -/
def P8_0 (n : Nat) (v0 v1 : Value) : AM Value := pt Tryz.prog SP 8 n [] [] ⟨24, [(0, v0), (1, v1)]⟩
def P8_1 (n : Nat) (v0 v3 v4 v15 : Value) : AM Value := pt Tryz.prog SP 8 n [.r, .r] [] ⟨24, [(0, v0), (3, v3), (4, v4), (15, v15)]⟩
theorem F8 (n : Nat) (v0 v1 : Value) (H : AHeap) : run Tryz.prog SP (n + 1) (.fn 8) [v0, v1] H = P8_0 n v0 v1 H := by kernel_rfl
theorem P8_0_eq (n : Nat) (v0 v1 : Value) (H : AHeap) : P8_0 n v0 v1 H =
    stepA (some ((fun i => .pointer (some ⟨i, 0, none⟩)), (Value.cells v1).toList, 26)) H fun u0 H1 =>
    stepA (some ((fun i => .pointer (some ⟨i, 0, none⟩)), [.int .i64 0, .int .i64 0, .int .i64 0, .int .i64 0, .int .i64 0, .int .i64 0], 37)) H1 fun u2 H3 =>
    stepP (obin Tryz.prog .eql 27 (.tmp 6) (.const (.pointer none)) v0 (.pointer none)) H3 fun u4 H5 =>
    condB u4
    (fun H6 => stepP (obuild Tryz.prog 37 [(0, (.int .i64 7))]) H6 fun u7 H8 =>
    stepE (ounit (ostore Tryz.prog 37 u2 u7) H8) fun u9 H10 =>
    resC (consR (oload Tryz.prog 37 u2 H10) (some [])) H10)
    (fun H6 => stepP (padd 0 u0) H6 fun u11 H12 =>
    stepP (oload Tryz.prog 3 u11 H12) H12 fun u13 H14 =>
    stepP (obin Tryz.prog .eql 3 (.tmp 11) (.const (.int .i64 7)) u13 (.int .i64 7)) H14 fun u15 H16 =>
    condB u15
    (fun H17 => stepE (run Tryz.prog SP n (.fn 18) [v0] H17) fun u18 H19 =>
    stepE (ounit (ostore Tryz.prog 37 u2 u18) H19) fun u20 H21 =>
    resC (consR (oload Tryz.prog 37 u2 H21) (some [])) H21)
    (fun H17 => stepP (padd 0 u0) H17 fun u22 H23 =>
    stepP (oload Tryz.prog 3 u22 H23) H23 fun u24 H25 =>
    stepP (obin Tryz.prog .eql 3 (.tmp 17) (.const (.int .i64 8)) u24 (.int .i64 8)) H25 fun u26 H27 =>
    condB u26
    (fun H28 => stepE (run Tryz.prog SP n (.fn 19) [v0] H28) fun u29 H30 =>
    stepE (ounit (ostore Tryz.prog 37 u2 u29) H30) fun u31 H32 =>
    resC (consR (oload Tryz.prog 37 u2 H32) (some [])) H32)
    (fun H28 => P8_1 n v0 u0 u2 u26 H28) H27) H16) H5 := by kernel_rfl
theorem P8_1_eq (n : Nat) (v0 v3 v4 v15 : Value) (H : AHeap) : P8_1 n v0 v3 v4 v15 H =
    stepP (oload Tryz.prog 26 v3 H) H fun u0 H1 =>
    stepE (run Tryz.prog SP n (.fn 20) [v0, u0] H1) fun u2 H3 =>
    stepE (ounit (ostore Tryz.prog 37 v4 u2) H3) fun u4 H5 =>
    resC (consR (oload Tryz.prog 37 v4 H5) (some [])) H5 := by kernel_rfl

/-! ### 9: (*bodkin/display.Display).State -/
def P9_0 (n : Nat) (v0 : Value) : AM Value := pt Tryz.prog SP 9 n [] [] ⟨9, [(0, v0)]⟩
def P9_1 (n : Nat) (v0 v4 : Value) : AM Value := pt Tryz.prog SP 9 n [.r, .r] [] ⟨9, [(0, v0), (4, v4)]⟩
theorem F9 (n : Nat) (v0 : Value) (H : AHeap) : run Tryz.prog SP (n + 1) (.fn 9) [v0] H = P9_0 n v0 H := by kernel_rfl
theorem P9_0_eq (n : Nat) (v0 : Value) (H : AHeap) : P9_0 n v0 H =
    stepP (obin Tryz.prog .eql 27 (.tmp 3) (.const (.pointer none)) v0 (.pointer none)) H fun u0 H1 =>
    condB u0
    (fun H2 => some (.pointer none, H2))
    (fun H2 => P9_1 n v0 u0 H2) H1 := by kernel_rfl
theorem P9_1_eq (n : Nat) (v0 v4 : Value) (H : AHeap) : P9_1 n v0 v4 H =
    stepP (onilCheck v0) H fun u0 H1 =>
    stepP (padd 0 u0) H1 fun u2 H3 =>
    stepP (oload Tryz.prog 39 u2 H3) H3 fun u4 H5 =>
    some (u4, H5) := by kernel_rfl

end
end Go.Proofs.YtifnbnlghfedfaaGreatDoor
