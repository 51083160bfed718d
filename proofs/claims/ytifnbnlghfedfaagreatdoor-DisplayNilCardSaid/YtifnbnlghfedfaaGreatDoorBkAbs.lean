/- THE ABSTRACT MACHINE: an evaluator of the dump's code over a heap of numbered objects, without draws, orders and capacities. Definitions alone; no condition. -/
import Derived.Calls
import Derived.Orders
import Derived.LoopN
namespace Go.Bk
open Go
noncomputable section

/-- What is known of a frame's slots: how many there are; the known ones, the youngest first. -/
structure Env where
  n : Nat
  l : List (Nat × Value)

def lookL (l : List (Nat × Value)) (t : Nat) : Option Value :=
  List.rec (motive := fun _ => Option Value) none (fun p _ ih => Bool.rec (motive := fun _ => Option Value) ih (some p.2) (Nat.beq p.1 t)) l

theorem lookL_cons (p : Nat × Value) (l : List (Nat × Value)) (t : Nat) : lookL (p :: l) t = if p.1 = t then some p.2 else lookL l t := by
  show Bool.rec (motive := fun _ => Option Value) (lookL l t) (some p.2) (Nat.beq p.1 t) = _
  by_cases h : p.1 = t
  · have : Nat.beq p.1 t = true := by rw [Nat.beq_eq]; exact h
    rw [this, if_pos h]
  · have : Nat.beq p.1 t = false := by
      cases hb : Nat.beq p.1 t with
      | false => rfl
      | true => exact absurd (by rw [Nat.beq_eq] at hb; exact hb) h
    rw [this, if_neg h]

def Env.get (τ : Env) (t : Nat) : Option Value := lookL τ.l t

/-- How a piece of code is left. -/
inductive AExit where
  | normal
  | exit (id : Nat)
  | ret
  deriving Inhabited

/-- What is called: a function of the program, or a round of a range over a function. -/
inductive ACallee where
  | fn (f : FuncId)
  | yield (l : Nat)

/-- An object of the abstract heap: a row of cells (open: its row in memory may have room behind), or a string's iterator, or a map. -/
inductive AObj where
  | cells (cs : List Value) (elem : TypeId) (opn : Bool)
  | iter (s : ByteArray) (pos : Nat)
  | amap (es : List (Value × Value × Nat)) (clock : Nat)
  | aloop (τ : Env) (ps : List Tmp) (assign body : Code)
  | adone (e : AExit)
  | view (cs : List Value) (ob : Obj)
  deriving Inhabited

/-- A look at cells that came in and are never written: such looks may share a block. -/
def isV : AObj → Bool
  | .view _ _ => true
  | _ => false

/-- The cells that may be read. -/
def rdO : AObj → Option (List Value)
  | .cells cs _ _ => some cs
  | .view cs _ => some cs
  | _ => none

inductive Tr where
  | nil
  | node (o : Option AObj) (l r : Tr)

def Tr.get (t : Tr) (n : Nat) : Option AObj :=
  Tr.rec (motive := fun _ => Nat → Option AObj) (fun _ => none)
    (fun o _ _ ihl ihr n => Nat.rec (motive := fun _ => Option AObj) o (fun k _ => Bool.rec (motive := fun _ => Option AObj) (ihr (Nat.div k 2)) (ihl (Nat.div k 2)) (Nat.beq (Nat.mod k 2) 0)) n) t n

/-- A new thing at a number, in a tree; the first number: how deep one goes at most. -/
def Tr.put (f : Nat) (t : Tr) (n : Nat) (x : Option AObj) : Tr :=
  Nat.rec (motive := fun _ => Tr → Nat → Tr)
    (fun t _ => Tr.rec (motive := fun _ => Tr) (.node x .nil .nil) (fun _ l r _ _ => .node x l r) t)
    (fun _ ih t n => Tr.rec (motive := fun _ => Tr)
      (Nat.rec (motive := fun _ => Tr) (.node x .nil .nil) (fun k _ => Bool.rec (motive := fun _ => Tr) (.node none .nil (ih .nil (Nat.div k 2))) (.node none (ih .nil (Nat.div k 2)) .nil) (Nat.beq (Nat.mod k 2) 0)) n)
      (fun o l r _ _ => Nat.rec (motive := fun _ => Tr) (.node x l r) (fun k _ => Bool.rec (motive := fun _ => Tr) (.node o l (ih r (Nat.div k 2))) (.node o (ih l (Nat.div k 2)) r) (Nat.beq (Nat.mod k 2) 0)) n) t) f t n

theorem Tr.get_nil (n : Nat) : Tr.get .nil n = none := rfl

theorem mod_beq (k : Nat) : (Nat.beq (Nat.mod k 2) 0 = true ∧ k % 2 = 0) ∨ (Nat.beq (Nat.mod k 2) 0 = false ∧ k % 2 = 1) := by
  show (Nat.beq (k % 2) 0 = true ∧ _) ∨ (Nat.beq (k % 2) 0 = false ∧ _)
  rcases Nat.mod_two_eq_zero_or_one k with h | h <;> rw [h]
  · exact .inl ⟨rfl, rfl⟩
  · exact .inr ⟨rfl, rfl⟩

theorem Tr.get_zero (o : Option AObj) (l r : Tr) : (Tr.node o l r).get 0 = o := rfl
theorem Tr.get_succ (o : Option AObj) (l r : Tr) (k : Nat) : (Tr.node o l r).get (k + 1) = if k % 2 = 0 then l.get (k / 2) else r.get (k / 2) := by
  show Bool.rec (motive := fun _ => Option AObj) (r.get (k / 2)) (l.get (k / 2)) (Nat.beq (Nat.mod k 2) 0) = _
  rcases mod_beq k with ⟨h1, h2⟩ | ⟨h1, h2⟩ <;> rw [h1, h2] <;> rfl
theorem Tr.put_zero (t : Tr) (n : Nat) (x : Option AObj) : Tr.put 0 t n x = match t with | .nil => .node x .nil .nil | .node _ l r => .node x l r := by cases t <;> rfl
theorem Tr.put_succ_zero (f : Nat) (t : Tr) (x : Option AObj) : Tr.put (f + 1) t 0 x = match t with | .nil => .node x .nil .nil | .node _ l r => .node x l r := by cases t <;> rfl
theorem Tr.put_succ_succ (f : Nat) (t : Tr) (k : Nat) (x : Option AObj) : Tr.put (f + 1) t (k + 1) x = match t with
    | .nil => if k % 2 = 0 then .node none (Tr.put f .nil (k / 2) x) .nil else .node none .nil (Tr.put f .nil (k / 2) x)
    | .node o l r => if k % 2 = 0 then .node o (Tr.put f l (k / 2) x) r else .node o l (Tr.put f r (k / 2) x) := by
  cases t with
  | nil =>
    show Bool.rec (motive := fun _ => Tr) (.node none .nil (Tr.put f .nil (k / 2) x)) (.node none (Tr.put f .nil (k / 2) x) .nil) (Nat.beq (Nat.mod k 2) 0) = _
    rcases mod_beq k with ⟨h1, h2⟩ | ⟨h1, h2⟩ <;> rw [h1] <;> simp [h2]
  | node o l r =>
    show Bool.rec (motive := fun _ => Tr) (.node o l (Tr.put f r (k / 2) x)) (.node o (Tr.put f l (k / 2) x) r) (Nat.beq (Nat.mod k 2) 0) = _
    rcases mod_beq k with ⟨h1, h2⟩ | ⟨h1, h2⟩ <;> rw [h1] <;> simp [h2]

theorem Tr.get_put : ∀ (f : Nat) (t : Tr) (n m : Nat) (x : Option AObj), n ≤ f → (Tr.put f t n x).get m = if m = n then x else t.get m := by
  intro f
  induction f with
  | zero =>
    intro t n m x h
    obtain rfl : n = 0 := by omega
    rw [Tr.put_zero]
    cases t <;> cases m <;> simp [Tr.get_zero, Tr.get_succ, Tr.get_nil]
  | succ f ih =>
    intro t n m x h
    cases n with
    | zero => rw [Tr.put_succ_zero]; cases t <;> cases m <;> simp [Tr.get_zero, Tr.get_succ, Tr.get_nil]
    | succ k =>
      have hk : k / 2 ≤ f := by omega
      rw [Tr.put_succ_succ]
      cases t with
      | nil =>
        cases m with
        | zero => simp only; split <;> simp [Tr.get_zero, Tr.get_nil]
        | succ j =>
          simp only
          split <;> simp only [Tr.get_succ, Tr.get_nil, ih _ _ _ _ hk] <;> split <;> first
            | (have : (j / 2 = k / 2) ↔ (j + 1 = k + 1) := by omega
               simp only [this])
            | (rw [if_neg (by omega)])
      | node o l r =>
        cases m with
        | zero => simp only; split <;> simp [Tr.get_zero]
        | succ j =>
          simp only
          split <;> simp only [Tr.get_succ] <;> split <;> first
            | (simp only [ih _ _ _ _ hk]
               have : (j / 2 = k / 2) ↔ (j + 1 = k + 1) := by omega
               simp only [this])
            | (rw [if_neg (by omega)])

structure AHeap where
  next : Nat
  tr : Tr

def AHeap.get (H : AHeap) (i : Nat) : Option AObj := H.tr.get i
def AHeap.put (H : AHeap) (i : Nat) (o : AObj) : AHeap := { H with tr := H.tr.put i i (some o) }
def AHeap.del (H : AHeap) (i : Nat) : AHeap := { H with tr := H.tr.put i i none }
def AHeap.push (H : AHeap) (o : AObj) : AHeap := { next := H.next + 1, tr := H.tr.put H.next H.next (some o) }

theorem AHeap.get_put (H : AHeap) (i j : Nat) (o : AObj) : (H.put i o).get j = if j = i then some o else H.get j := Tr.get_put _ _ _ _ _ (Nat.le_refl _)
theorem AHeap.get_del (H : AHeap) (i j : Nat) : (H.del i).get j = if j = i then none else H.get j := Tr.get_put _ _ _ _ _ (Nat.le_refl _)
theorem AHeap.get_push (H : AHeap) (j : Nat) (o : AObj) : (H.push o).get j = if j = H.next then some o else H.get j := Tr.get_put _ _ _ _ _ (Nat.le_refl _)
@[simp] theorem AHeap.next_put (H : AHeap) (i : Nat) (o : AObj) : (H.put i o).next = H.next := rfl
@[simp] theorem AHeap.next_del (H : AHeap) (i : Nat) : (H.del i).next = H.next := rfl
@[simp] theorem AHeap.next_push (H : AHeap) (o : AObj) : (H.push o).next = H.next + 1 := rfl

abbrev AM (α : Type) := AHeap → Option (α × AHeap)

/-! ### Values -/
mutual
/-- No address within. -/
def flat : Value → Bool
  | .bool _ | .int _ _ | .string _ | .pointer none | .slice none 0 0 | .map none | .nilFunc | .nilIface => true
  | .iface _ v => flat v
  | .agg ⟨l⟩ => flats l
  | .tuple ⟨l⟩ => flats l
  | .func (.func _) ⟨a⟩ ⟨b⟩ => flats a && flats b
  | _ => false
def flats : List Value → Bool
  | [] => true
  | v :: l => flat v && flats l
end

/-- A computation that asks memory nothing and changes nothing. -/
def pureRun {α : Type} (P : Program) : Sem α → Option α
  | .pure a => some a
  | .program k => pureRun P (k P)
  | .mark _ k => pureRun P k
  | _ => none

/-- What such a computation gives, if it holds no address. -/
def pureVal (P : Program) (s : Sem Value) : Option Value :=
  match pureRun P s with
  | some v => if flat v then some v else none
  | none => none

def ask (P : Program) (τ : Env) : Operand → Option Value
  | .tmp t => τ.get t
  | .const v => if flat v then some v else none
  | .global g => if g < P.globals.size then some (.pointer (some ⟨g, 0, none⟩)) else none
  | .func f => some (.func (.func f) #[] #[])

def asks (P : Program) (τ : Env) : List Operand → Option (List Value)
  | [] => some []
  | x :: l => match ask P τ x with | none => none | some v => match asks P τ l with | none => none | some vs => some (v :: vs)

def asksP (P : Program) (τ : Env) : List (Nat × Operand) → Option (List (Nat × Value))
  | [] => some []
  | (i, x) :: l => match ask P τ x with | none => none | some v => match asksP P τ l with | none => none | some vs => some ((i, v) :: vs)

def sizeOfA (P : Program) (t : TypeId) : Option Nat := (P.info? t).map (·.size)
def zeroA (P : Program) (t : TypeId) : Option Value :=
  match (P.info? t).bind (·.zero) with
  | some v => if flat v then some v else none
  | none => none
def isAggA (P : Program) (t : TypeId) : Option Bool :=
  match P.underlying t with
  | some (.struct _) | some (.array _ _) => some true
  | some _ => some false
  | none => none

/-! A slice of the abstract machine: its address has no spot where its capacity is known; a spot z + 1 (an element's cells) where it isn't: its capacity is then written as 0.
A ghost (spot 0): a slice without elements whose place is not known. -/
def ghost : Value := .slice (some ⟨0, 0, some 0⟩) 0 0

def padd (n : Nat) : Value → Option Value
  | .pointer (some ⟨b, o, none⟩) => some (.pointer (some ⟨b, o + n, none⟩))
  | _ => none

def fieldOf (P : Program) (s : TypeId) (f : Nat) : Option Field :=
  match P.underlying s with
  | some (.struct fs) => fs[f]?
  | _ => none

def ofieldAddr (P : Program) (s : TypeId) (x : Value) (f : Nat) : Option Value :=
  match fieldOf P s f with
  | some fd => match sizeOfA P fd.type with
    | some (_ + 1) => padd fd.offset x
    | _ => none
  | none => none

def partA (P : Program) (t : TypeId) (cs : List Value) (off : Nat) : Option Value :=
  match isAggA P t with
  | some true => match sizeOfA P t with | some n => if off + n ≤ cs.length then some (.agg ⟨(cs.drop off).take n⟩) else none | none => none
  | some false => cs[off]?
  | none => none

def ofield (P : Program) (s : TypeId) (x : Value) (f : Nat) : Option Value :=
  match x with
  | .agg ⟨cs⟩ => match fieldOf P s f with
    | some fd => partA P fd.type cs fd.offset
    | none => none
  | _ => none

def onilCheck : Value → Option Value
  | .pointer (some ⟨b, o, none⟩) => some (.pointer (some ⟨b, o, none⟩))
  | _ => none

/-- 'x == nil' and its like, where one side holds an address and the other is nil. -/
def eqNil (d : TypeDesc) : Value → Value → Option Bool
  | .pointer (some _), .pointer none | .pointer none, .pointer (some _) => match d with | .pointer _ => some false | _ => none
  | .slice (some a) _ _, .slice none 0 0 | .slice none 0 0, .slice (some a) _ _ => match d with | .slice _ => if a.spot = some 0 then none else some false | _ => none
  | .map (some _), .map none | .map none, .map (some _) => match d with | .map _ _ => some false | _ => none
  | .iface _ _, .nilIface | .nilIface, .iface _ _ => match d with | .interface _ => some false | _ => none
  | .func _ _ _, .nilFunc | .nilFunc, .func _ _ _ => match d with | .func .. => some false | _ => none
  | _, _ => none

def obin (P : Program) (op : BinOp) (t : TypeId) (xo yo : Operand) (x y : Value) : Option Value :=
  if flat x && flat y then pureVal P (do eqGuard op t xo yo x y; binOp op t x y)
  else match P.underlying t with
    | some d => match op, eqNil d x y with
      | .eql, some b => some (.bool b)
      | .neq, some b => some (.bool (!b))
      | _, _ => none
    | none => none

def ifill (place : Nat → Option (Nat × Nat)) (cells : List Value) : List (Nat × Value) → Option (List Value)
  | [] => some cells
  | (i, v) :: rest =>
    match place i with
    | none => none
    | some (off, size) =>
      if v.cells.toList.length = size ∧ off + size ≤ cells.length then
        ifill place (cells.take off ++ v.cells.toList ++ cells.drop (off + size)) rest
      else none

def placesA (P : Program) : List Field → Option (List (Nat × Nat))
  | [] => some []
  | f :: fs => match sizeOfA P f.type with | none => none | some n => match placesA P fs with | none => none | some l => some ((f.offset, n) :: l)

def obuild (P : Program) (t : TypeId) (parts : List (Nat × Value)) : Option Value :=
  match zeroA P t, P.underlying t with
  | some z, some (.struct fs) => match placesA P fs.toList with
    | some pl => match ifill (pl[·]?) z.cells.toList parts with
      | some cs => some (.agg ⟨cs⟩)
      | none => none
    | none => none
  | some z, some (.array _ e) => match sizeOfA P e with
    | some n => match ifill (fun i => some (i * n, n)) z.cells.toList parts with
      | some cs => some (.agg ⟨cs⟩)
      | none => none
    | none => none
  | _, _ => none

def omakeInterface (P : Program) (t : TypeId) (x : Value) : Option Value :=
  match P.underlying t with
  | some (.interface _) => none
  | some _ => some (.iface t x)
  | none => none

def inat : Value → Option Nat
  | .int _ n => if 0 ≤ n then some n.toNat else none
  | _ => none

def oindexAddr (P : Program) (t : TypeId) (x i : Value) : Option Value :=
  match P.underlying t, x, inat i with
  | some (.array n e), .pointer (some ⟨b, o, none⟩), some k => match sizeOfA P e with
    | some z => if k < n then some (.pointer (some ⟨b, o + k * z, none⟩)) else none
    | none => none
  | some (.slice e), .slice (some ⟨b, o, _⟩) n _, some k => match sizeOfA P e with
    | some z => if k < n then some (.pointer (some ⟨b, o + k * z, none⟩)) else none
    | none => none
  | _, _, _ => none

def oindex (P : Program) (t : TypeId) (x i : Value) : Option Value :=
  match P.underlying t, x, inat i with
  | some (.array n e), .agg ⟨cs⟩, some k => match sizeOfA P e with
    | some z => if k < n then partA P e cs (k * z) else none
    | none => none
  | some .string, .string s, some k => match s[k]? with
    | some b => some (.int .u8 b.toNat)
    | none => none
  | _, _, _ => none

/-- A bound of a slice expression, at most so great. -/
def bound (d : Nat) : Option Value → Option Nat
  | none => some d
  | some v => inat v

/-- x[l:h:m]. -/
def oslice (P : Program) (t : TypeId) (x : Value) (lo hi mx : Option Value) : Option Value :=
  match P.underlying t, x with
  | some .string, .string s => match mx, bound 0 lo, bound s.size hi with
    | none, some l, some h => if l ≤ h ∧ h ≤ s.size then some (.string (s.extract l h)) else none
    | _, _, _ => none
  | some (.slice e), .slice none 0 0 => match bound 0 lo, bound 0 hi, bound 0 mx, sizeOfA P e with
    | some 0, some 0, some 0, some _ => if mx.isSome && hi.isNone then none else some (.slice none 0 0)
    | _, _, _, _ => none
  | some (.slice e), .slice (some ⟨b, o, none⟩) len c => match sizeOfA P e, bound 0 lo, bound len hi, bound c mx with
    | some z, some l, some h, some m => if (mx.isSome = true → hi.isSome = true) ∧ l ≤ h ∧ h ≤ m ∧ m ≤ c then
        some (.slice (some ⟨b, if m = l then o else o + l * z, none⟩) (h - l) (m - l)) else none
    | _, _, _, _ => none
  | some (.slice e), .slice (some ⟨b, o, some (z + 1)⟩) len 0 => match mx with
    | some _ => match sizeOfA P e, bound 0 lo, bound len hi, bound 0 mx with
      | some y, some l, some h, some m => if hi.isSome = true ∧ l ≤ h ∧ h ≤ m ∧ m ≤ len then
          some (.slice (some ⟨b, if m = l then o else o + l * y, none⟩) (h - l) (m - l)) else none
      | _, _, _, _ => none
    | none => match sizeOfA P e, bound 0 lo, bound len hi with
      | some y, some l, some h => if y = z + 1 ∧ l ≤ h ∧ h ≤ len then
          (if l = 0 then some (.slice (some ⟨b, o, some (z + 1)⟩) h 0) else if l = len then some ghost else some (.slice (some ⟨b, o + l * (z + 1), some (z + 1)⟩) (h - l) 0)) else none
      | _, _, _ => none
  | some (.slice e), .slice (some ⟨_, _, some 0⟩) 0 0 => match sizeOfA P e, bound 0 lo, bound 0 hi, mx with
    | some _, some 0, some 0, none => some ghost
    | _, _, _, _ => none
  | _, _ => none

def tassert (P : Program) (x : Value) (asserted : TypeId) (ok : Bool) : Option Value :=
  match x, ok with
  | .iface t v, false => if t = asserted then some v else none
  | .iface t v, true => if t = asserted then some (.tuple #[v, .bool true]) else match zeroA P asserted with
    | some z => some (.tuple #[z, .bool false])
    | none => none
  | .nilIface, true => match zeroA P asserted with
    | some z => some (.tuple #[z, .bool false])
    | none => none
  | _, _ => none

def otypeAssert (P : Program) (x : Value) (asserted : TypeId) (ok : Bool) : Option Value :=
  match P.underlying asserted with
  | some (.interface _) | none => none
  | some _ => tassert P x asserted ok

def oextract (x : Value) (i : Nat) : Option Value :=
  match x with
  | .tuple ⟨vs⟩ => vs[i]?
  | _ => none

def olen (P : Program) (t : TypeId) (x : Value) : Option Value :=
  match P.underlying t, x with
  | some .string, .string s => some (goInt s.size)
  | some (.slice _), .slice _ n _ => some (goInt n)
  | some (.array n _), _ => some (goInt n)
  | some (.map _ _), .map none => some (goInt 0)
  | _, _ => none

def omin (P : Program) (a : List Value) : Option Value := if flats a then pureVal P (Builtin.min_ #[] 0 ⟨a⟩) else none
def omax (P : Program) (a : List Value) : Option Value := if flats a then pureVal P (Builtin.max_ #[] 0 ⟨a⟩) else none

/-- A conversion of a value without an address. -/
def oconv (P : Program) (s d : TypeId) (x : Value) : Option Value :=
  if flat x then pureVal P (convert s d x) else none

/-- unsafe.SliceData, of a slice that is nil or has room. -/
def osliceData : Value → Option Value
  | .slice none 0 0 => some (.pointer none)
  | .slice (some ⟨b, o, none⟩) _ c => if c = 0 then none else some (.pointer (some ⟨b, o, none⟩))
  | .slice (some ⟨b, o, some (_ + 1)⟩) n 0 => if n = 0 then none else some (.pointer (some ⟨b, o, none⟩))
  | _ => none

/-- The operations that ask memory nothing. -/
def apure (P : Program) (τ : Env) (o : Op) : Option Value :=
  match o with
  | .move x | .assign x => ask P τ x
  | .pick c a b => match ask P τ c with
    | some (.bool true) => ask P τ a
    | some (.bool false) => ask P τ b
    | _ => none
  | .build t ps => match asksP P τ ps.toList with | some vs => obuild P t vs | none => none
  | .nilCheck x => match ask P τ x with | some v => onilCheck v | none => none
  | .binOp op t x y _ => match ask P τ x, ask P τ y with | some a, some b => obin P op t x y a b | _, _ => none
  | .unOp op _ x => match ask P τ x with | some v => if flat v then pureVal P (Op.unary op v) else none | none => none
  | .convert s d x => match ask P τ x with | some v => oconv P s d v | none => none
  | .makeInterface t x => match ask P τ x with | some v => omakeInterface P t v | none => none
  | .makeFunc fn a b => match fn, asks P τ a.toList, asks P τ b.toList with
    | .func f, some va, some vb => some (.func (.func f) ⟨va⟩ ⟨vb⟩)
    | _, _, _ => none
  | .slice t x lo hi mx => match ask P τ x with
    | some v => match lo.map (ask P τ), hi.map (ask P τ), mx.map (ask P τ) with
      | some none, _, _ | _, some none, _ | _, _, some none => none
      | l, h, m => oslice P t v l.join h.join m.join
    | none => none
  | .fieldAddr s x f => match ask P τ x with | some v => ofieldAddr P s v f | none => none
  | .field s x f => match ask P τ x with | some v => ofield P s v f | none => none
  | .indexAddr t x i => match ask P τ x, ask P τ i with | some a, some b => oindexAddr P t a b | _, _ => none
  | .index t x i => match ask P τ x, ask P τ i with | some a, some b => oindex P t a b | _, _ => none
  | .typeAssert x _ d ok => match ask P τ x with | some v => otypeAssert P v d ok | none => none
  | .extract x i => match ask P τ x with | some v => oextract v i | none => none
  | .call { callee := .builtin .len, args, argTypes } => match args.toList, argTypes.toList with
    | [x], [t] => match ask P τ x with | some v => olen P t v | none => none
    | _, _ => none
  | .call { callee := .builtin .unsafeSliceData, args, .. } => match args.toList with
    | [x] => match ask P τ x with | some v => osliceData v | none => none
    | _ => none
  | .call { callee := .builtin .min, args, .. } => match asks P τ args.toList with | some vs => omin P vs | none => none
  | .call { callee := .builtin .max, args, .. } => match asks P τ args.toList with | some vs => omax P vs | none => none
  | _ => none

inductive Cls where
  | pure | load | alloc | eff
  deriving DecidableEq

def cls (P : Program) : Op → Cls
  | .convert s _ _ => match P.underlying s with
    | some (.slice _) | some (.pointer _) | some .unsafePointer => .eff
    | _ => .pure
  | .move _ | .assign _ | .pick .. | .build .. | .nilCheck _ | .binOp .. | .unOp .. | .makeInterface .. | .makeFunc ..
  | .slice .. | .fieldAddr .. | .field .. | .indexAddr .. | .index .. | .typeAssert .. | .extract .. => .pure
  | .call { callee := .builtin .len, .. } | .call { callee := .builtin .min, .. } | .call { callee := .builtin .max, .. } | .call { callee := .builtin .unsafeSliceData, .. } => .pure
  | .load .. => .load
  | .alloc _ | .box .. | .buildSlice .. => .alloc
  | _ => .eff

/-! ### The operations on memory -/
def oload (P : Program) (t : TypeId) (p : Value) (H : AHeap) : Option Value :=
  match p with
  | .pointer (some ⟨b, o, none⟩) => match (H.get b).bind rdO, isAggA P t with
    | some cs, some true => match sizeOfA P t with
      | some n => if o + n ≤ cs.length then some (.agg ⟨(cs.drop o).take n⟩) else none
      | none => none
    | some cs, some false => cs[o]?
    | _, _ => none
  | _ => none

/-- New cells in the place of some. -/
def over (cs : List Value) (o : Nat) (vs : List Value) : List Value := cs.take o ++ vs ++ cs.drop (o + vs.length)

def one : Value → Bool
  | .agg _ | .tuple _ => false
  | _ => true
def allOne : List Value → Bool
  | [] => true
  | v :: l => one v && allOne l

def ostoreCells (b o : Nat) (vs : List Value) : AM Unit := fun H =>
  match H.get b with
  | some (.cells cs e p) => if o + vs.length ≤ cs.length ∧ allOne vs = true then some ((), H.put b (.cells (over cs o vs) e p)) else none
  | _ => none

def ostore (P : Program) (t : TypeId) (p v : Value) : AM Unit := fun H =>
  match p with
  | .pointer (some ⟨b, o, none⟩) => if sizeOfA P t = some v.cells.toList.length then ostoreCells b o v.cells.toList H else none
  | _ => none

def elemA (P : Program) (t : TypeId) : Option TypeId :=
  match P.underlying t with
  | some (.slice e) => some e
  | _ => none

/-- So many elements of zero. -/
def zeros (z : List Value) : Nat → List Value
  | 0 => []
  | n + 1 => z ++ zeros z n

/-- What an operation makes, without a look at memory: the value, given the new object's name; its cells; their type. -/
def mk (P : Program) (τ : Env) : Op → Option ((Nat → Value) × List Value × TypeId)
  | .alloc t => match zeroA P t with
    | some z => some ((fun i => .pointer (some ⟨i, 0, none⟩)), z.cells.toList, t)
    | none => none
  | .box t x => match ask P τ x with
    | some v => some ((fun i => .pointer (some ⟨i, 0, none⟩)), v.cells.toList, t)
    | none => none
  | .buildSlice t n ps => match asksP P τ ps.toList, elemA P t with
    | some parts, some e => match sizeOfA P e, zeroA P e with
      | some z, some zv => if z = zv.cells.toList.length ∧ 0 < z ∧ n * z ≤ 2 ^ 24 then
          match ifill (fun i => some (i * z, z)) (zeros zv.cells.toList n) parts with
          | some cs => some ((fun i => .slice (some ⟨i, 0, none⟩) n n), cs, e)
          | none => none
        else none
      | _, _ => none
    | _, _ => none
  | _ => none

def omakeSlice (P : Program) (t : TypeId) (l c : Value) : AM Value := fun H =>
  match elemA P t, inat l, inat c with
  | some e, some n, some m => match sizeOfA P e, zeroA P e, (P.info? e).map (·.bytes) with
    | some z, some zv, some by_ => if z = zv.cells.toList.length ∧ 0 < z ∧ n ≤ m ∧ m < 2 ^ 40 ∧ by_ * m ≤ 2 ^ 47 then
        some (.slice (some ⟨H.next, 0, none⟩) n m, H.push (.cells (zeros zv.cells.toList m) e false)) else none
    | _, _, _ => none
  | _, _, _ => none

/-- The cells of a slice, or of a string as bytes. -/
def cellsOf (H : AHeap) (z : Nat) : Value → Option (List Value)
  | .slice none 0 0 => some []
  | .slice _ 0 _ => some []
  | .slice (some ⟨b, o, _⟩) n _ => match (H.get b).bind rdO with
    | some cs => if o + n * z ≤ cs.length then some ((cs.drop o).take (n * z)) else none
    | _ => none
  | .string s => some (s.data.toList.map fun c => .int .u8 c.toNat)
  | _ => none

def lenA : Value → Option Nat
  | .slice _ n _ => some n
  | .string s => some s.size
  | _ => none

/-- A new row that may have room behind it. -/
def ogrown (e : TypeId) (z : Nat) (cs : List Value) (n : Nat) : AM Value := fun H =>
  some (.slice (some ⟨H.next, 0, some z⟩) n 0, H.push (.cells cs e true))

def oappend (P : Program) (t : TypeId) (s x : Value) : AM Value := fun H =>
  match elemA P t with
  | some e => match sizeOfA P e, zeroA P e, (P.info? e).map (·.bytes) with
    | some z, some zv, some by_ => match cellsOf H z s, cellsOf H z x, lenA s, lenA x with
      | some old, some more, some n, some k =>
        if z = zv.cells.toList.length ∧ 0 < z ∧ 0 < by_ ∧ (n + k + 1000) * by_ < 2 ^ 40 ∧ allOne more = true then
          match s with
          | .slice none 0 0 => if k = 0 then some (.slice none 0 0, H) else ogrown e z more k H
          | .slice (some ⟨b, _, some (y + 1)⟩) _ 0 => match H.get b with
            | some (.cells _ e0 true) => if y + 1 = z ∧ e0 = e then ogrown e z (old ++ more) (n + k) (H.del b) else none
            | _ => none
          | .slice (some ⟨b, o, none⟩) _ c =>
            if n + k ≤ c then
              if k = 0 then some (.slice (some ⟨b, o, none⟩) n c, H) else
              match ostoreCells b (o + n * z) more H with
              | some (_, H') => some (.slice (some ⟨b, o, none⟩) (n + k) c, H')
              | none => none
            else ogrown e z (old ++ more) (n + k) H
          | _ => none
        else none
      | _, _, _, _ => none
    | _, _, _ => none
  | none => none

def oappendS (P : Program) (t : TypeId) (s x : Value) : AM Value :=
  match x with
  | .string _ => if (elemA P t).bind (sizeOfA P) = some 1 then oappend P t s x else fun _ => none
  | _ => oappend P t s x

def oappendT (P : Program) (t t' : TypeId) (s x : Value) : AM Value :=
  match P.underlying t' with
  | none | some (.int _) => fun _ => none
  | some _ => oappendS P t s x

def lenS : Value → Option Nat
  | .slice _ n _ => some n
  | _ => none

def ocopy (P : Program) (t : TypeId) (d s : Value) : AM Value := fun H =>
  match elemA P t with
  | some e => match sizeOfA P e, lenS d, lenA s with
    | some z, some n, some k =>
      if Nat.min k n = 0 then some (goInt 0, H) else
      match d, s with
      | .slice (some ⟨b, o, _⟩) _ _, .slice (some ⟨b', o', _⟩) _ _ => match (H.get b').bind rdO with
        | some cs => if o' + Nat.min k n * z ≤ cs.length then
            match ostoreCells b o ((cs.drop o').take (Nat.min k n * z)) H with
            | some (_, H') => some (goInt (Nat.min k n), H')
            | none => none
          else none
        | _ => none
      | _, _ => none
    | _, _, _ => none
  | none => none

def ocap (P : Program) (t : TypeId) (x : Value) : AM Value := fun H =>
  match P.underlying t, x with
  | some (.slice _), .slice none 0 0 => some (goInt 0, H)
  | some (.slice _), .slice (some ⟨_, _, none⟩) _ c => some (goInt c, H)
  | _, _ => none

def oclear (P : Program) (t : TypeId) (x : Value) : AM Value := fun H =>
  match elemA P t with
  | none => none
  | some e => match x with
    | .slice _ 0 _ => some (.tuple #[], H)
    | .slice (some ⟨b, o, _⟩) n _ => match zeroA P e with
      | some zv => match ostoreCells b o (zeros zv.cells.toList n) H with
        | some (_, H') => some (.tuple #[], H')
        | none => none
      | none => none
    | _ => none

def orange (P : Program) (t : TypeId) (x : Value) : AM Value := fun H =>
  match P.underlying t, x with
  | some .string, .string s => some (.pointer (some ⟨H.next, 0, none⟩), H.push (.iter s 0))
  | _, _ => none

def onext (x : Value) (str : Bool) : AM Value := fun H =>
  match str with
  | false => none
  | true => match x with
    | .pointer (some ⟨r, 0, none⟩) => match H.get r with
      | some (.iter s pos) =>
        if pos < s.size then
          some (.tuple #[.bool true, goInt pos, .int .i32 (Utf8.decode s pos).1], H.put r (.iter s (pos + (Utf8.decode s pos).2)))
        else some (.tuple #[.bool false], H)
      | _ => none
    | _ => none

def omakeMap (P : Program) (t : TypeId) : AM Value := fun H =>
  match P.underlying t with
  | some (.map _ _) => some (.map (some H.next), H.push (.amap [] 0))
  | _ => none

def bytesA : List Value → Option (List UInt8)
  | [] => some []
  | .int .u8 n :: l => match bytesA l with | some bs => if 0 ≤ n ∧ n < 256 then some (UInt8.ofNat n.toNat :: bs) else none | none => none
  | _ => none

/-- string(b) of bytes. -/
def obytes (P : Program) (s d : TypeId) (x : Value) : AM Value := fun H =>
  match P.underlying s, P.underlying d with
  | some (.slice e), some .string => match P.underlying e with
    | some (.int .u8) => match x with
      | .slice none 0 0 => some (.string ⟨#[]⟩, H)
      | .slice _ 0 _ => some (.string ⟨#[]⟩, H)
      | .slice (some ⟨b, o, _⟩) n _ => match (H.get b).bind rdO with
        | some cs => if o + n ≤ cs.length then
            match bytesA ((cs.drop o).take n) with
            | some bs => some (.string ⟨⟨bs⟩⟩, H)
            | none => none
          else none
        | _ => none
      | _ => none
    | _ => none
  | _, _ => none

/-- A pointer as an unsafe.Pointer, and back: the same. -/
def ounsafeTo (P : Program) (t d : TypeId) (x : Value) : AM Value := fun H =>
  match P.underlying d, x with
  | some .unsafePointer, .pointer none => some (.pointer none, H)
  | some .unsafePointer, .pointer (some ⟨b, o, none⟩) => match H.get b, sizeOfA P t with
    | some (.cells cs _ _), some (_ + 1) => if o < cs.length then some (.pointer (some ⟨b, o, none⟩), H) else none
    | _, _ => none
  | _, _ => none
def ounsafeFrom (P : Program) (d : TypeId) (x : Value) : AM Value := fun H =>
  match P.underlying d, x with
  | some (.pointer _), .pointer none => some (.pointer none, H)
  | some (.pointer u), .pointer (some ⟨b, o, none⟩) => match H.get b, sizeOfA P u with
    | some (.cells cs e false), some _ => if liesAt P P.depth e (cs.length / P.cellsOf e) o u 1 = true then some (.pointer (some ⟨b, o, none⟩), H) else none
    | _, _ => none
  | _, _ => none
def oconvE (P : Program) (s d : TypeId) (x : Value) : AM Value :=
  match P.underlying s with
  | some (.slice _) => obytes P s d x
  | some (.pointer t) => ounsafeTo P t d x
  | some .unsafePointer => ounsafeFrom P d x
  | _ => fun _ => none

/-- unsafe.String: the bytes; the row is given away. -/
def ounsafeString (P : Program) (t : TypeId) (p n : Value) : AM Value := fun H =>
  match p, n with
  | .pointer none, .int .i64 n => if n = 0 then some (.string .empty, H) else none
  | .pointer (some ⟨b, o, none⟩), .int .i64 n =>
    if n = 0 then some (.string .empty, H) else
    match P.underlying t, H.get b with
    | some (.pointer e'), some (.cells cs e _) =>
      if 0 < n ∧ n ≤ IntKind.i64.max ∧ e' = e ∧ P.cellsOf e = 1 ∧ o + n.toNat ≤ cs.length then
        match bytesA ((cs.drop o).take n.toNat) with
        | some bs => some (.string ⟨⟨bs⟩⟩, H.del b)
        | none => none
      else none
    | _, _ => none
  | _, _ => none

def ounit (m : AM Unit) : AM Value := fun H => match m H with | some (_, H') => some (.tuple #[], H') | none => none

/-- The operations that are carried out one behind the other; 'call' is how a function is called. -/
def aeff (P : Program) (call : ACallee → List Value → AM Value) (ext : FuncId → List Value → AM Value) (τ : Env) (o : Oper) : AM Value := fun H =>
  match o.op with
  | .convert s d x => match ask P τ x with | some a => oconvE P s d a H | none => none
  | .store t a x => match ask P τ a, ask P τ x with | some p, some y => ounit (ostore P t p y) H | _, _ => none
  | .makeSlice t l c => match ask P τ l, ask P τ c with | some a, some b => omakeSlice P t a b H | _, _ => none
  | .makeMap t none => omakeMap P t H
  | .makeMap t (some x) => match ask P τ x with | some (.int _ _) => omakeMap P t H | _ => none
  | .range t x => match ask P τ x with | some a => orange P t a H | none => none
  | .next x s => match ask P τ x with | some a => onext a s H | none => none
  | .call { callee := .builtin .cap, args, argTypes } => match args.toList, argTypes.toList with
    | [x], [t] => match ask P τ x with | some a => ocap P t a H | none => none
    | _, _ => none
  | .call { callee := .builtin .append, args, argTypes } => match args.toList, argTypes.toList with
    | [x, y], [t, t'] => match ask P τ x, ask P τ y with
      | some a, some b => oappendT P t t' a b H
      | _, _ => none
    | _, _ => none
  | .call { callee := .builtin .copy, args, argTypes } => match args.toList, argTypes.toList with
    | [x, y], [t, _] => match ask P τ x, ask P τ y with | some a, some b => ocopy P t a b H | _, _ => none
    | _, _ => none
  | .call { callee := .builtin .clear, args, argTypes } => match args.toList, argTypes.toList with
    | [x], [t] => match ask P τ x with | some a => oclear P t a H | _ => none
    | _, _ => none
  | .call { callee := .builtin .unsafeString, args, argTypes } => match args.toList, argTypes.toList with
    | [x, y], [t, _] => match ask P τ x, ask P τ y with | some a, some b => ounsafeString P t a b H | _, _ => none
    | _, _ => none
  | .call { callee := .value f, args, .. } => match ask P τ f, asks P τ args.toList with
    | some (.func (.func g) ⟨first⟩ ⟨capt⟩), some vs => match P.funcs[g]? with
      | some fn => match fn.body with
        | some _ => call (.fn g) (first ++ vs ++ capt) H
        | none => ext g (first ++ vs ++ capt) H
      | none => none
    | some (.func (.yield l) ⟨[]⟩ ⟨[]⟩), some vs => call (.yield l) vs H
    | _, _ => none
  | _ => none

/-- Is an operation carried out? none: it isn't known. -/
def awanted (ops : Array Oper) (τ : Env) (o : Oper) : Option Bool :=
  match o.guard with
  | none => some true
  | some (j, w) => match (ops[j]?).bind (·.dst) with
    | none => none
    | some t => match τ.get t with
      | some (.bool b) => some (b == w)
      | some _ => some false
      | none => none

def putE (τ : Env) (t : Nat) (v : Value) : Env := Env.rec (motive := fun _ => Env) (fun n l => Bool.rec (motive := fun _ => Env) ⟨n, l⟩ ⟨n, (t, v) :: l⟩ (Nat.blt t n)) τ

def setT (τ : Env) (d : Option Tmp) (v : Value) : Env :=
  match d with
  | some t => putE τ t v
  | none => τ

theorem putE_eq (τ : Env) (t : Nat) (v : Value) : putE τ t v = Bool.rec (motive := fun _ => Env) τ ⟨τ.n, (t, v) :: τ.l⟩ (Nat.blt t τ.n) := rfl
theorem putE_lt {τ : Env} {t : Nat} {v : Value} (h : t < τ.n) : putE τ t v = ⟨τ.n, (t, v) :: τ.l⟩ := by
  have : Nat.blt t τ.n = true := by rw [Nat.blt_eq]; exact h
  rw [putE_eq, this]
theorem putE_ge {τ : Env} {t : Nat} {v : Value} (h : ¬ t < τ.n) : putE τ t v = τ := by
  have : Nat.blt t τ.n = false := by
    cases hb : Nat.blt t τ.n with
    | false => rfl
    | true => exact absurd (by rw [Nat.blt_eq] at hb; exact hb) h
  rw [putE_eq, this]
theorem putE_n (τ : Env) (t : Nat) (v : Value) : (putE τ t v).n = τ.n := by
  by_cases h : t < τ.n
  · rw [putE_lt h]
  · rw [putE_ge h]
theorem putE_get {τ : Env} {t u : Nat} {v x : Value} (h : (putE τ t v).get u = some x) : (t = u ∧ t < τ.n ∧ x = v) ∨ (t ≠ u ∧ τ.get u = some x) ∨ (¬ t < τ.n ∧ τ.get u = some x) := by
  by_cases ht : t < τ.n
  · rw [putE_lt ht] at h
    unfold Env.get at h ⊢
    rw [lookL_cons] at h
    split at h
    · rename_i e; cases h; exact .inl ⟨e, ht, rfl⟩
    · rename_i e; exact .inr (.inl ⟨e, h⟩)
  · rw [putE_ge ht] at h; exact .inr (.inr ⟨ht, h⟩)
theorem putE_same {τ : Env} {t : Nat} {v : Value} (h : t < τ.n) : (putE τ t v).get t = some v := by rw [putE_lt h]; unfold Env.get; rw [lookL_cons, if_pos rfl]
theorem putE_ne {τ : Env} {t u : Nat} {v : Value} (h : t ≠ u) : (putE τ t v).get u = τ.get u := by
  by_cases ht : t < τ.n
  · rw [putE_lt ht]; unfold Env.get; rw [lookL_cons, if_neg h]
  · rw [putE_ge ht]

/-- One operation, whatever it is. -/
def aop (P : Program) (call : ACallee → List Value → AM Value) (ext : FuncId → List Value → AM Value) (τ : Env) (o : Oper) : AM Value := fun H =>
  match cls P o.op with
  | .pure => match apure P τ o.op with | some v => some (v, H) | none => none
  | .load => match o.op with
    | .load t x => match ask P τ x with
      | some p => match oload P t p H with | some v => some (v, H) | none => none
      | none => none
    | _ => none
  | .alloc => match mk P τ o.op with
    | some (f, cs, e) => some (f H.next, H.push (.cells cs e false))
    | none => none
  | .eff => aeff P call ext τ o H

end
end Go.Bk
