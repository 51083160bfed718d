/- THE PROGRAM's OWN FACTS that the abstract machine asks for. No condition. -/
import Derived.Test.YtifnbnlghfedfaaGreatDoorBkRun
import Derived.Test.YtifnbnlghfedfaaGreatDoorProg
import Derived.KernelRfl
namespace Go.Proofs.YtifnbnlghfedfaaGreatDoor
open Go Go.Bk
set_option maxRecDepth 100000
theorem mixed : Tryz.prog.follows .mixedOrders = true := by kernel_rfl
theorem noCountB : (Tryz.prog.funcs.toList.all fun fn => !(fn.name == "runtime.NumGoroutine")) = true := by kernel_rfl
theorem noCount : NoCount Tryz.prog := by
  intro f fn h e
  have := List.all_eq_true.1 noCountB fn (Array.mem_toList_iff.2 (Array.mem_of_getElem? h))
  rw [e] at this
  simp at this
theorem calls {ms : List Memo} (h : ∀ m ∈ ms, m.Ok Tryz.prog) (n : Nat) : CallOk Tryz.prog (acallN Tryz.prog (extA Tryz.prog) (memoSp ms) (drawOk Tryz.prog) n) :=
  acallN_ok (memoSp_ok h) (extA_ok noCount) noCount (drawOk_ok mixed) n
theorem all0 : ∀ m ∈ ([] : List Memo), m.Ok Tryz.prog := fun _ h => nomatch h
theorem all1 {a : Memo} (h : a.Ok Tryz.prog) : ∀ m ∈ [a], m.Ok Tryz.prog := fun m hm => by rw [List.mem_singleton.1 hm]; exact h
theorem all2 {a b : Memo} (h : a.Ok Tryz.prog) (k : b.Ok Tryz.prog) : ∀ m ∈ [a, b], m.Ok Tryz.prog := fun m hm => by
  rcases List.mem_cons.1 hm with e | hm
  · rw [e]; exact h
  · exact all1 k m hm
theorem all3 {a b c : Memo} (h : a.Ok Tryz.prog) (k : b.Ok Tryz.prog) (l : c.Ok Tryz.prog) : ∀ m ∈ [a, b, c], m.Ok Tryz.prog := fun m hm => by
  rcases List.mem_cons.1 hm with e | hm
  · rw [e]; exact h
  · exact all2 k l m hm
end Go.Proofs.YtifnbnlghfedfaaGreatDoor
