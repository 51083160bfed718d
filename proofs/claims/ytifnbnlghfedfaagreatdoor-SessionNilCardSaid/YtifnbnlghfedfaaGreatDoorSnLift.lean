/- 'bodkinlaw45.SessionNil': the run, and the row's statement out of it. No condition beyond the given card's own. -/
import Derived.Test.YtifnbnlghfedfaaGreatDoorCards
import Derived.Test.YtifnbnlghfedfaaGreatDoorTie
import Derived.Test.YtifnbnlghfedfaaGreatDoorStart
import Derived.Test.YtifnbnlghfedfaaGreatDoorKtOk
import Derived.Lib.SmallJoins
import Derived.JoinedOf
namespace Go.Proofs.YtifnbnlghfedfaaGreatDoor
open Go Go.Bk Go.ChangeShapes Go.WideShapes Go.ChangeAt Go.RowKit Go.Joins
set_option maxRecDepth 1000000

/-- The run: the key is moved about, and never looked at. -/
theorem sessionNil_run (x y : Int) (s : ByteArray) : endsTrue (varObjs vars) (acallN Tryz.prog (extA Tryz.prog) (memoSp [kt9]) (drawOk Tryz.prog) 1000 (.fn 4) [.agg ⟨[.int .i64 x, .int .i64 y, .string s]⟩] (heapOf 4 (varObjs vars))) = true := by kernel_rfl

theorem sessionNil_calls {W : World} (h : VarsMet Tryz.prog vars W) (x y : Int) (s : ByteArray) : Calls Tryz.prog 4 ⟨[.agg ⟨[.int .i64 x, .int .i64 y, .string s]⟩]⟩ W fun e W' => e = .returned (.bool true) ∧ Kept W W' := by
  refine true_of_run (calls (ms := [kt9]) (all1 kt9_ok) 1000) (args := [.agg ⟨[.int .i64 x, .int .i64 y, .string s]⟩]) h (VRs.of_flats rfl) ?_
  rw [gs]
  exact sessionNil_run x y s

theorem sessionNil_lifted (os : Os) (started : os.Started) (H : Type) (enc : TypeId × Value → H) :
    ReturnsInHanded {} Tryz.checked os 4 .any (fun w args => (Rows.sessionNilSpec.pre enc Tryz.prog Tryz.f4 [] false w args ∧ laidMetH Tryz.prog laidV w) ∧ sizedMet enc Tryz.prog Tryz.f4 (OpenSpec.ofChange Rows.sessionNilSpec) false w args)
      (Rows.sessionNilSpec.post enc Tryz.prog Tryz.f4 false true false false) := by
  refine true_lifted (C := Tryz.checked) (laid := laidV) (tb := 4) own started (by kernel_rfl) Tryz.func4
    (ChangeSpec.witness_shaped (enc := enc) (C := Tryz.checked) (os := os) (X := fun w _ => laidMetH Tryz.prog laidV w) false (World.doorLaid Tryz.prog 400 os) #[.agg #[.int .i64 0, .int .i64 0, .string .empty]] 8 rfl (World.shaped_of_RefB (by kernel_rfl) (by kernel_rfl)) (by kernel_rfl) (by kernel_rfl) (by kernel_rfl) (door_met os _))
    rfl (by kernel_rfl) Tryz.underlying4 ?_ kids full (by rw [Tryz.params4]; decide +kernel) ?_
  · intro ds hd
    rw [Tryz.params4] at hd
    match ds, hd with
    | [d], _ => rfl
  · intro W args ds ps hs hl hval hA _ _
    have hA' : DataW.TrodAll enc Tryz.prog W 0 (fun _ => true) true [43] args.toList ds ps := by
      have h : DataW.TrodAll enc Tryz.prog W 0 (fun _ => true) true Tryz.f4.params.toList args.toList ds ps := hA
      rw [Tryz.params4] at h
      exact h
    obtain ⟨v, d, rfl, rfl, h0⟩ := trodAll_one hA'
    have hv : Value.okWide Tryz.prog W .any 0 43 v := hval 0 43 v (by rw [Tryz.params4]; rfl) rfl
    obtain ⟨v0, v1, v2, y0, y1, y2, n, rfl, _, _, f0, f1, f2⟩ := open_agg3 Tryz.underlying43 (by kernel_rfl) (by kernel_rfl) hv h0
    obtain ⟨x, e0, _, _⟩ := DataW.trod_int Tryz.underlying3 f0
    obtain ⟨y, e1, _, _⟩ := DataW.trod_int Tryz.underlying3 f1
    obtain ⟨s, e2, _, _⟩ := DataW.trod_string Tryz.underlying9 f2
    cases e0; cases e1; cases e2
    exact sessionNil_calls (vars_of_laid hs hl) x y s

end Go.Proofs.YtifnbnlghfedfaaGreatDoor
