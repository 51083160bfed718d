/- THE ABSTRACT MACHINE's FUNCTIONS WITHOUT A BODY. Definitions alone; no condition. -/
import Derived.Test.YtifnbnlghfedfaaGreatDoorBkEval
namespace Go.Bk
open Go
noncomputable section

/-- A function without a body: what it gives of values without an address; MakeNoZero: a row of bytes that are not known. -/
def extA (P : Program) (f : FuncId) (args : List Value) : AM Value := fun H =>
  match P.funcs[f]? with
  | none => none
  | some fn => match Extern.findNext fn with
    | some _ => none
    | none =>
      if fn.name = "internal/bytealg.MakeNoZero" then
        match args, fn.resultTypes.toList.map (elemA P) with
        | [.int .i64 n], [some e] => if 0 ≤ n ∧ n < 2 ^ 40 ∧ sizeOfA P e = some 1 then ogrown e 1 [] n.toNat H else none
        | _, _ => none
      else if fn.name = "internal/abi.NoEscape" then
        match args with
        | [v] => some (v, H)
        | _ => none
      else if flats args then
        match Extern.find fn with
        | some e => match pureVal P (e ⟨args⟩) with | some v => some (v, H) | none => none
        | none => none
      else none

end
end Go.Bk
