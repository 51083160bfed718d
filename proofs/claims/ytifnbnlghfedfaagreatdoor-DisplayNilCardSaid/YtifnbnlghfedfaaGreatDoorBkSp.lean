/- THE WORDS FOR CLOSED CALLS; the listed variables' cells. Definitions; no condition. -/
import Derived.Test.YtifnbnlghfedfaaGreatDoorBkVal
import Derived.Test.YtifnbnlghfedfaaGreatDoorProg
import Derived.KernelRfl
namespace Go.Proofs.YtifnbnlghfedfaaGreatDoor
open Go Go.Bk
noncomputable section
set_option maxRecDepth 1000000

def vars : Vars := [(2, [.int .i32 127, .int .i32 2047, .int .i32 65535, .int .i32 1114111], 479),
  (1, [.int .i32 4352, .int .i32 4447, .int .i32 11904, .int .i32 12350, .int .i32 12353, .int .i32 19903, .int .i32 19968, .int .i32 40959, .int .i32 44032, .int .i32 55203, .int .i32 63744, .int .i32 64255, .int .i32 65280, .int .i32 65376, .int .i32 127744, .int .i32 128591], 415),
  (0, [.int .i32 768, .int .i32 879, .int .i32 8203, .int .i32 8207, .int .i32 65024, .int .i32 65039], 414)]

/-- A call without arguments that returns a flat value and leaves all as it was. -/
def closedW (l : List (Nat × AObj)) (v : Value) (args : List Value) : AM Value := fun H =>
  match args with
  | [] => if has H l = true then some (v, H) else none
  | _ => none
def SP : Sp := fun f => if Nat.beq f 6 = true then some (closedW (varObjs vars) (.bool true)) else none
end
end Go.Proofs.YtifnbnlghfedfaaGreatDoor
