/- ALL KEPT CALLS ARE RIGHT. No condition. -/
import Derived.Test.YtifnbnlghfedfaaGreatDoorBase
import Derived.Test.YtifnbnlghfedfaaGreatDoorKb0
import Derived.Test.YtifnbnlghfedfaaGreatDoorKb1
import Derived.Test.YtifnbnlghfedfaaGreatDoorKb2
import Derived.Test.YtifnbnlghfedfaaGreatDoorKb3
import Derived.Test.YtifnbnlghfedfaaGreatDoorKb4
import Derived.Test.YtifnbnlghfedfaaGreatDoorKb5
import Derived.Test.YtifnbnlghfedfaaGreatDoorKb6
import Derived.Test.YtifnbnlghfedfaaGreatDoorKb7
import Derived.Test.YtifnbnlghfedfaaGreatDoorKb8
import Derived.Test.YtifnbnlghfedfaaGreatDoorKb9
import Derived.Test.YtifnbnlghfedfaaGreatDoorKb10
namespace Go.Proofs.YtifnbnlghfedfaaGreatDoor
open Go Go.Bk
set_option maxRecDepth 1000000
theorem kb0_ok : kb0.Ok Tryz.prog := Memo.ok_of_run (calls (ms := []) all0 1000) kb0_ends
theorem kb1_ok : kb1.Ok Tryz.prog := Memo.ok_of_run (calls (ms := []) all0 1000) kb1_ends
theorem kb2_ok : kb2.Ok Tryz.prog := Memo.ok_of_run (calls (ms := [kb1]) (all1 kb1_ok) 1000) kb2_ends
theorem kb3_ok : kb3.Ok Tryz.prog := Memo.ok_of_run (calls (ms := []) all0 1000) kb3_ends
theorem kb4_ok : kb4.Ok Tryz.prog := Memo.ok_of_run (calls (ms := [kb2, kb3]) (all2 kb2_ok kb3_ok) 1000) kb4_ends
theorem kb5_ok : kb5.Ok Tryz.prog := Memo.ok_of_run (calls (ms := [kb0, kb4]) (all2 kb0_ok kb4_ok) 1000) kb5_ends
theorem kb6_ok : kb6.Ok Tryz.prog := Memo.ok_of_run (calls (ms := []) all0 1000) kb6_ends
theorem kb7_ok : kb7.Ok Tryz.prog := Memo.ok_of_run (calls (ms := []) all0 1000) kb7_ends
theorem kb8_ok : kb8.Ok Tryz.prog := Memo.ok_of_run (calls (ms := []) all0 1000) kb8_ends
theorem kb9_ok : kb9.Ok Tryz.prog := Memo.ok_of_run (calls (ms := [kb7, kb8]) (all2 kb7_ok kb8_ok) 1000) kb9_ends
theorem kb10_ok : kb10.Ok Tryz.prog := Memo.ok_of_run (calls (ms := [kb5, kb6, kb9]) (all3 kb5_ok kb6_ok kb9_ok) 1000) kb10_ends
end Go.Proofs.YtifnbnlghfedfaaGreatDoor
