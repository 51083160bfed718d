/- ALL KEPT CALLS ARE RIGHT. No condition. -/
import Derived.Test.YtifnbnlghfedfaaGreatDoorBase
import Derived.Test.YtifnbnlghfedfaaGreatDoorKt0
import Derived.Test.YtifnbnlghfedfaaGreatDoorKt1
import Derived.Test.YtifnbnlghfedfaaGreatDoorKt2
import Derived.Test.YtifnbnlghfedfaaGreatDoorKt3
import Derived.Test.YtifnbnlghfedfaaGreatDoorKt4
import Derived.Test.YtifnbnlghfedfaaGreatDoorKt5
import Derived.Test.YtifnbnlghfedfaaGreatDoorKt6
import Derived.Test.YtifnbnlghfedfaaGreatDoorKt7
import Derived.Test.YtifnbnlghfedfaaGreatDoorKt8
import Derived.Test.YtifnbnlghfedfaaGreatDoorKt9
namespace Go.Proofs.YtifnbnlghfedfaaGreatDoor
open Go Go.Bk
set_option maxRecDepth 1000000
theorem kt0_ok : kt0.Ok Tryz.prog := Memo.ok_of_run (calls (ms := []) all0 1000) kt0_ends
theorem kt1_ok : kt1.Ok Tryz.prog := Memo.ok_of_run (calls (ms := []) all0 1000) kt1_ends
theorem kt2_ok : kt2.Ok Tryz.prog := Memo.ok_of_run (calls (ms := [kt1]) (all1 kt1_ok) 1000) kt2_ends
theorem kt3_ok : kt3.Ok Tryz.prog := Memo.ok_of_run (calls (ms := [kt0, kt2]) (all2 kt0_ok kt2_ok) 1000) kt3_ends
theorem kt4_ok : kt4.Ok Tryz.prog := Memo.ok_of_run (calls (ms := [kt3]) (all1 kt3_ok) 1000) kt4_ends
theorem kt5_ok : kt5.Ok Tryz.prog := Memo.ok_of_run (calls (ms := []) all0 1000) kt5_ends
theorem kt6_ok : kt6.Ok Tryz.prog := Memo.ok_of_run (calls (ms := []) all0 1000) kt6_ends
theorem kt7_ok : kt7.Ok Tryz.prog := Memo.ok_of_run (calls (ms := [kt6]) (all1 kt6_ok) 1000) kt7_ends
theorem kt8_ok : kt8.Ok Tryz.prog := Memo.ok_of_run (calls (ms := [kt5, kt7]) (all2 kt5_ok kt7_ok) 1000) kt8_ends
theorem kt9_ok : kt9.Ok Tryz.prog := Memo.ok_of_run (calls (ms := [kt4, kt8]) (all2 kt4_ok kt8_ok) 1000) kt9_ends
end Go.Proofs.YtifnbnlghfedfaaGreatDoor
