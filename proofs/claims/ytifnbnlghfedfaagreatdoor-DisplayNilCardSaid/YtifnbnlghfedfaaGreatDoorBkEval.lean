/- THE ABSTRACT MACHINE's CODE: regions (in the order of the text, or, where the order is drawn, in one order with looks that loads hold), loops by rounds, calls by depth. Definitions alone; no condition. -/
import Derived.Test.YtifnbnlghfedfaaGreatDoorBkAbs
namespace Go.Bk
open Go
noncomputable section

mutual
def beqV : Value → Value → Bool
  | .bool a, .bool b => a == b
  | .int j a, .int k b => decide (j = k) && decide (a = b)
  | .string a, .string b => decide (a.data.toList = b.data.toList)
  | .pointer a, .pointer b => decide (a = b)
  | .slice a n c, .slice b m d => decide (a = b) && decide (n = m) && decide (c = d)
  | .map a, .map b => decide (a = b)
  | .nilFunc, .nilFunc => true
  | .nilIface, .nilIface => true
  | .iface t v, .iface u w => decide (t = u) && beqV v w
  | .agg ⟨a⟩, .agg ⟨b⟩ => beqVs a b
  | .tuple ⟨a⟩, .tuple ⟨b⟩ => beqVs a b
  | .func (.func f) ⟨a⟩ ⟨b⟩, .func (.func g) ⟨c⟩ ⟨d⟩ => decide (f = g) && beqVs a c && beqVs b d
  | _, _ => false
def beqVs : List Value → List Value → Bool
  | [], [] => true
  | a :: l, b :: m => beqV a b && beqVs l m
  | _, _ => false
end

abbrev AK := AExit → Env → AM Value

/-! ### Which slots are still read -/
def bitOf : Operand → Nat
  | .tmp t => 1 <<< t
  | _ => 0
def bitsOf (l : List Operand) : Nat := l.foldl (fun m x => m ||| bitOf x) 0
def minus (a b : Nat) : Nat := a ^^^ (a &&& b)
def dstBit (o : Oper) : Nat := match o.dst with | some t => 1 <<< t | none => 0
def guardBit (ops : Array Oper) (o : Oper) : Nat :=
  match o.guard with
  | some (j, _) => match ops[j]? with | some g => dstBit g | none => 0
  | none => 0
def liveOps (ops : Array Oper) (out : Nat) : List Oper → Nat
  | [] => out
  | o :: l => minus (liveOps ops out l) (dstBit o) ||| bitsOf o.op.operands.toList ||| guardBit ops o
def live (r : Nat) : Code → Nat → (Nat → Nat) → Nat
  | .skip, out, _ | .label _, out, _ => out
  | .region _ ops _, out, _ => liveOps ops out ops.toList
  | .seq a b, out, ex => live r a (live r b out ex) ex
  | .cond c a b, out, ex => bitOf c ||| live r a out ex ||| live r b out ex
  | .block id b, out, ex => live r b out (fun i => if i = id then out else ex i)
  | .loop b, _, ex => live r b (live r b (live r b 0 ex) ex) ex
  | .exit id, _, ex => ex id
  | .scope b, out, ex => live r b out ex
  | .ret, _, _ => r
  | .rangeFunc .., _, _ => 2 ^ 1024 - 1
  | _, _, _ => 0

def bitN (m t : Nat) : Bool := Nat.beq (Nat.land 1 (Nat.shiftRight m t)) 1
def forgetL (l : List (Nat × Value)) : Nat → List (Nat × Value) :=
  List.rec (motive := fun _ => Nat → List (Nat × Value)) (fun _ => [])
    (fun p _ ih m => Bool.rec (motive := fun _ => List (Nat × Value)) (Bool.rec (motive := fun _ => List (Nat × Value)) (ih m) (p :: ih (Nat.xor m (Nat.shiftLeft 1 p.1))) (bitN m p.1)) [] (Nat.beq m 0)) l
/-- A slot's value put into its place: the slots rise. -/
def ins (p : Nat × Value) (l : List (Nat × Value)) : List (Nat × Value) :=
  List.rec (motive := fun _ => List (Nat × Value)) [p]
    (fun q l ih => Bool.rec (motive := fun _ => List (Nat × Value)) (Bool.rec (motive := fun _ => List (Nat × Value)) (q :: ih) (p :: l) (Nat.beq p.1 q.1)) (p :: q :: l) (Nat.blt p.1 q.1)) l
def sortL (l : List (Nat × Value)) : List (Nat × Value) := List.rec (motive := fun _ => List (Nat × Value)) [] (fun p _ ih => ins p ih) l
def forget (keep : Nat) (τ : Env) : Env := Env.rec (motive := fun _ => Env) (fun n l => ⟨n, sortL (forgetL l keep)⟩) τ

/-! ### Regions -/
section
variable (P : Program) (call : ACallee → List Value → AM Value) (ext : FuncId → List Value → AM Value)

def aops (ops : Array Oper) : List Oper → (Env → AM Value) → Env → AM Value
  | [], k, τ => k τ
  | o :: rest, k, τ => fun H =>
    match awanted ops τ o with
      | none => none
      | some false => aops ops rest k (setT τ o.dst (.tuple #[])) H
      | some true => match aop P call ext τ o H with
        | none => none
        | some (v, H') => aops ops rest k (setT τ o.dst v) H'

/-- What stands in a drawn region's one order: an operation, or a load that is looked at once more. -/
inductive PI where
  | op (i : Nat)
  | re (i : Nat)

/-- An operation of a drawn region: a new object has a name of its own, kept for it. -/
def dop (n0 i : Nat) (τ : Env) (o : Oper) : AM Value := fun H =>
  match cls P o.op with
  | .alloc => match mk P τ o.op, H.get (n0 + i) with
    | some (f, cs, e), none => some (f (n0 + i), H.put (n0 + i) (.cells cs e false))
    | _, _ => none
  | _ => aop P call ext τ o H

def adraw (n0 : Nat) (ops : Array Oper) : List PI → (Env → AM Value) → Env → AM Value
  | [], k, τ => k τ
  | .op i :: rest, k, τ => fun H =>
    match ops[i]? with
    | none => none
    | some o => match awanted ops τ o with
      | none => none
      | some false => adraw n0 ops rest k (setT τ o.dst (.tuple #[])) H
      | some true => match dop P call ext n0 i τ o H with
        | none => none
        | some (v, H') => adraw n0 ops rest k (setT τ o.dst v) H'
  | .re i :: rest, k, τ => fun H =>
    match ops[i]? with
    | none => none
    | some o => match awanted ops τ o with
      | none => none
      | some false => adraw n0 ops rest k τ H
      | some true => match o.op, o.dst with
        | .load t x, some d => match ask P τ x, τ.get d with
          | some p, some v => match oload P t p H with
            | some u => if beqV u v then adraw n0 ops rest k τ H else none
            | none => none
          | _, _ => none
        | _, _ => none
end

/-! ### The order of a drawn region -/
/-- For each operation the set of those that it waits for, as bits. -/
def ancStep (acc : List Nat) (o : Oper) : Nat :=
  o.after.toList.foldl (fun s e => if Region.binds .any e then s ||| 2 ^ e.on ||| acc.getD e.on 0 else s) 0
def ancFrom : List Nat → List Oper → List Nat
  | acc, [] => acc
  | acc, o :: l => ancFrom (acc ++ [ancStep acc o]) l
def ancs (ops : Array Oper) : List Nat := ancFrom [] ops.toList
def waits (A : List Nat) (i j : Nat) : Bool := (A.getD i 0).testBit j

def clsAt (P : Program) (ops : Array Oper) (c : Cls) (i : Nat) : Bool := match ops[i]? with | some o => decide (cls P o.op = c) | none => false
def effs (P : Program) (ops : Array Oper) : List Nat := (List.range ops.size).filter (clsAt P ops .eff)

/-- How many effects come before: those that it waits for; before an alloc: those that do not wait for it. -/
def stage (P : Program) (ops : Array Oper) (A E : List Nat) (i : Nat) : Nat :=
  if clsAt P ops .alloc i then (E.filter fun e => !waits A e i).length else (E.filter fun e => waits A i e).length

def stagePlan (P : Program) (ops : Array Oper) (A E : List Nat) (s : Nat) (Ep : List Nat) : List PI :=
  ((List.range ops.size).filter fun i => clsAt P ops .load i && decide (stage P ops A E i < s) && Ep.all fun e => !waits A e i).map .re ++
  ((List.range ops.size).filter fun i => !clsAt P ops .eff i && stage P ops A E i == s).map .op

def planFrom (P : Program) (ops : Array Oper) (A E : List Nat) : Nat → List Nat → List Nat → List PI
  | s, Ep, [] => stagePlan P ops A E s Ep
  | s, Ep, e :: l => stagePlan P ops A E s Ep ++ .op e :: planFrom P ops A E (s + 1) (Ep ++ [e]) l

def plan (P : Program) (ops : Array Oper) : List PI := planFrom P ops (ancs ops) (effs P ops) 0 [] (effs P ops)

/-- The slots that an operation looks at: its operands', and its guard's. -/
def looks (ops : Array Oper) (o : Oper) : List Tmp :=
  o.op.operands.toList.filterMap (fun | .tmp t => some t | _ => none) ++
  (match o.guard with
   | some (j, _) => ((ops[j]?).bind (·.dst)).toList
   | none => [])

def dstAt (ops : Array Oper) (i : Nat) : Option Tmp := (ops[i]?).bind (·.dst)
def looksI (ops : Array Oper) (i : Nat) : List Tmp := match ops[i]? with | some o => looks ops o | none => []

/-- Does a thing of the plan leave a slot as it is? -/
def sparesT (ops : Array Oper) (t : Tmp) : PI → Bool
  | .op j => dstAt ops j != some t
  | .re _ => true

/-- Does an operation wait for the one that writes a slot? -/
def wr (ops : Array Oper) (A : List Nat) (i : Nat) (t : Tmp) : Bool := (List.range ops.size).any fun j => dstAt ops j == some t && waits A i j

/-- What an operation looks at is written ahead of it just where it waits for that. -/
def planOk (ops : Array Oper) (A : List Nat) : List PI → List PI → Bool
  | _, [] => true
  | pre, .op i :: rest => ((looksI ops i).all fun t => if wr ops A i t then (PI.op i :: rest).all (sparesT ops t) else pre.all (sparesT ops t)) &&
      ((dstAt ops i).toList.all fun t => rest.all (sparesT ops t)) && planOk ops A (pre ++ [.op i]) rest
  | pre, .re i :: rest => ((looksI ops i).all fun t => if wr ops A i t then rest.all (sparesT ops t) else pre.all (sparesT ops t)) &&
      ((dstAt ops i).toList.all fun t => rest.all (sparesT ops t)) && planOk ops A (pre ++ [.re i]) rest

def drawOk (P : Program) (ops : Array Oper) : Bool :=
  let R := List.range ops.size
  let A := ancs ops
  let E := effs P ops
  -- an operation waits for earlier ones
  (R.all fun i => match ops[i]? with | some o => o.after.toList.all fun e => !Region.binds .any e || decide (e.on < i) | none => false) &&
  -- what writes a slot that is looked at is waited for, or waits
  (R.all fun i => (looksI ops i).all fun t => R.all fun j => dstAt ops j != some t || waits A i j || waits A j i || i == j) &&
  -- effects wait for each other; the others have a stage
  (R.all fun i => if clsAt P ops .alloc i then (E.filter fun e => !waits A e i) == E.take (stage P ops A E i) else (E.filter fun e => waits A i e) == E.take (stage P ops A E i)) &&
  ((List.range E.length).all fun k => match E[k]? with | some e => stage P ops A E e == k | none => false) &&
  planOk ops A [] (plan P ops)

/-! ### Code -/
abbrev Loops := Nat → (AK → Env → AM Value) → AK → Env → AM Value

section
variable (P : Program) (call : ACallee → List Value → AM Value) (ext : FuncId → List Value → AM Value) (lp : Loops) (okDraw : Array Oper → Bool) (rd : Bool) (r : Nat)

def acode : Code → Nat → (Nat → Nat) → AK → Env → AM Value
  | .skip, _, _, k, τ => k .normal τ
  | .label _, _, _, k, τ => k .normal τ
  | .region _ ops false, out, _, k, τ => aops P call ext ops ops.toList (fun τ' => k .normal (forget out τ')) τ
  | .region _ ops true, out, _, k, τ => if okDraw ops then fun H => adraw P call ext H.next ops (plan P ops) (fun τ' => k .normal (forget out τ')) τ { H with next := H.next + ops.size } else fun _ => none
  | .seq a b, out, ex, k, τ =>
    acode a (live r b out ex) ex (fun e τ' => match e with
      | .normal => acode b out ex k τ'
      | e => k e τ') τ
  | .cond c a b, out, ex, k, τ => match ask P τ c with
    | some (.bool t) => match t with
      | true => acode a out ex k τ
      | false => acode b out ex k τ
    | _ => fun _ => none
  | .block id b, out, ex, k, τ =>
    acode b out (fun i => if i = id then out else ex i) (fun e τ' => match e with
      | .exit i => if i = id then k .normal τ' else k (.exit i) τ'
      | e => k e τ') τ
  | .loop b, out, ex, k, τ =>
    lp (live r (.loop b) out ex) (acode b (live r (.loop b) out ex) ex) k τ
  | .exit id, _, _, k, τ => k (.exit id) τ
  | .scope b, out, ex, k, τ => acode b out ex k τ
  | .ret, _, _, k, τ => k .ret τ
  | .rangeFunc f ps assign body, _, _, k, τ => fun H =>
    if rd then none else
    match ask P τ f with
    | some (.func (.func g) ⟨first⟩ ⟨capt⟩) =>
      match P.funcs[g]? with
      | some fn => match fn.body with
        | some _ => match call (.fn g) (first ++ [.func (.yield H.next) #[] #[]] ++ capt) (H.push (.aloop τ ps.toList assign body)) with
          | some (_, H2) => match H2.get H.next with
            | some (.aloop _ _ _ _) => k .normal τ (H2.del H.next)
            | some (.adone e) => k e τ (H2.del H.next)
            | _ => none
          | none => none
        | none => none
      | none => none
    | _ => none
  | _, _, _, _, _ => fun _ => none
end

def lpN : Nat → Loops
  | 0, _, _, _, _ => fun _ => none
  | n + 1, keep, B, k, τ => B (fun e τ' => match e with
      | .normal => lpN n keep B k τ'
      | e => k e τ') (forget keep τ)

def aresultsFrom (P : Program) (τ : Env) (H : AHeap) : List ResultVar → Option (List Value)
  | [] => some []
  | .tmp t :: l => match τ.get t with
    | some v => match aresultsFrom P τ H l with | some vs => some (v :: vs) | none => none
    | none => none
  | .cell a t :: l => match τ.get a with
    | some p => match oload P t p H with
      | some v => match aresultsFrom P τ H l with | some vs => some (v :: vs) | none => none
      | none => none
    | none => none

def aresults (P : Program) (fn : Func) (τ : Env) : AM Value := fun H =>
  match aresultsFrom P τ H fn.results.toList with
  | some [v] => some (v, H)
  | some vs => some (.tuple ⟨vs⟩, H)
  | none => none

def resultBits : List ResultVar → Nat
  | [] => 0
  | .tmp t :: l => (1 <<< t) ||| resultBits l
  | .cell a _ :: l => (1 <<< a) ||| resultBits l

def argsL : Nat → List Value → List (Nat × Value)
  | _, [] => []
  | i, v :: l => (i, v) :: argsL (i + 1) l
def env0 (n : Nat) (args : List Value) : Env := ⟨args.length + (n - args.length), argsL 0 args⟩

def afin (P : Program) (fn : Func) : AK := fun e τ => match e with
  | .normal | .ret => aresults P fn τ
  | _ => fun _ => none

def abody (P : Program) (call : ACallee → List Value → AM Value) (ext : FuncId → List Value → AM Value) (lp : Loops) (okDraw : Array Oper → Bool) (f : FuncId) (args : List Value) : AM Value :=
  match P.funcs[f]? with
  | none => fun _ => none
  | some fn => match fn.body with
    | none => fun _ => none
    | some c => acode P call ext lp okDraw false (resultBits fn.results.toList) c (resultBits fn.results.toList) (fun _ => 0) (afin P fn) (env0 fn.ntmps args)

def putArgs : List Tmp → List Value → Env → Env
  | p :: ps, v :: vs, τ => putArgs ps vs (putE τ p v)
  | _, _, τ => τ

/-- A round of a range over a function. -/
def around (P : Program) (call : ACallee → List Value → AM Value) (ext : FuncId → List Value → AM Value) (lp : Loops) (okDraw : Array Oper → Bool) (l : Nat) (args : List Value) : AM Value := fun H =>
  match H.get l with
  | some (.aloop τ ps assign body) =>
    if args.length = ps.length then
      acode P call ext lp okDraw true 0 assign (live 0 body 0 (fun _ => 0)) (fun _ => 0) (fun e τ2 => match e with
        | .normal => acode P call ext lp okDraw true 0 body 0 (fun _ => 0) (fun e _ H3 => match e with
            | .normal => some (.bool true, H3.put l (.aloop τ ps assign body))
            | e => some (.bool false, H3.put l (.adone e))) τ2
        | _ => fun _ => none) (putArgs ps args τ) (H.del l)
    else none
  | _ => none

section
variable (P : Program) (ext : FuncId → List Value → AM Value) (sp : FuncId → Option (List Value → AM Value)) (okDraw : Array Oper → Bool)
def acallN : Nat → ACallee → List Value → AM Value
  | 0, _, _ => fun _ => none
  | n + 1, .fn f, args => fun H => match sp f with
    | some s => match s args H with
      | some r => some r
      | none => abody P (acallN n) ext (lpN n) okDraw f args H
    | none => abody P (acallN n) ext (lpN n) okDraw f args H
  | n + 1, .yield l, args => around P (acallN n) ext (lpN n) okDraw l args
end

end
end Go.Bk
