/- RUNS OF THE ABSTRACT MACHINE AT VALUES THAT ARE NOT KNOWN: points of a function's code, how one leads to others, what holds at last whatever the fuel. No condition. -/
import Derived.Test.YtifnbnlghfedfaaGreatDoorBkRun
namespace Go.Bk
open Go
noncomputable section

/-! ### Points of code -/
inductive Dir where
  | l | r | b | h
  | o (j : Nat)
  | d (j n0 : Nat)

section
variable (P : Program) (call : ACallee → List Value → AM Value) (ext : FuncId → List Value → AM Value) (lp : Loops) (okDraw : Array Oper → Bool) (rd : Bool) (r : Nat)

/-- What is done from a point of code on: the road to it; how often its loops may still go round. -/
def goTo : List Dir → List Nat → Code → Nat → (Nat → Nat) → AK → Env → AM Value
  | [], _, c, out, ex, k => acode P call ext lp okDraw rd r c out ex k
  | .l :: p, ms, .seq a b, out, ex, k => goTo p ms a (live r b out ex) ex (fun e τ' => match e with
      | .normal => acode P call ext lp okDraw rd r b out ex k τ'
      | e => k e τ')
  | .r :: p, ms, .seq _ b, out, ex, k => goTo p ms b out ex k
  | .l :: p, ms, .cond _ a _, out, ex, k => goTo p ms a out ex k
  | .r :: p, ms, .cond _ _ b, out, ex, k => goTo p ms b out ex k
  | .b :: p, ms, .block id b, out, ex, k => goTo p ms b out (fun i => if i = id then out else ex i) (fun e τ' => match e with
      | .exit i => if i = id then k .normal τ' else k (.exit i) τ'
      | e => k e τ')
  | .b :: p, m :: ms, .loop b, out, ex, k => goTo p ms b (live r (.loop b) out ex) ex (fun e τ' => match e with
      | .normal => lpN m (live r (.loop b) out ex) (acode P call ext lp okDraw rd r b (live r (.loop b) out ex) ex) k τ'
      | e => k e τ')
  | .h :: _, m :: _, .loop b, out, ex, k => lpN m (live r (.loop b) out ex) (acode P call ext lp okDraw rd r b (live r (.loop b) out ex) ex) k
  | .b :: p, ms, .scope b, out, ex, k => goTo p ms b out ex k
  | .o j :: _, _, .region _ ops false, out, _, k => aops P call ext ops (ops.toList.drop j) (fun τ' => k .normal (forget out τ'))
  | .d j n0 :: _, _, .region _ ops true, out, _, k => adraw P call ext n0 ops ((plan P ops).drop j) (fun τ' => k .normal (forget out τ'))
  | _, _, _, _, _, _ => fun _ _ => none

end

/-- The machine at a fuel. -/
abbrev Sp := FuncId → Option (List Value → AM Value)
def run (P : Program) (sp : Sp) (n : Nat) : ACallee → List Value → AM Value := acallN P (extA P) sp (drawOk P) n

/-- What a function does from a point on. -/
def pt (P : Program) (sp : Sp) (f : FuncId) (n : Nat) (path : List Dir) (ms : List Nat) (τ : Env) : AM Value :=
  match P.funcs[f]? with
  | none => fun _ => none
  | some fn => match fn.body with
    | none => fun _ => none
    | some c => goTo P (run P sp n) (extA P) (lpN n) (drawOk P) false (resultBits fn.results.toList) path ms c (resultBits fn.results.toList) (fun _ => 0) (afin P fn) τ

/-! ### Steps -/
abbrev Res := Option (Value × AHeap)

/-- An operation that asks memory nothing, or reads it. -/
def stepP (X : Option Value) (H : AHeap) (K : Value → AHeap → Res) : Res :=
  match (match X with | some v => some (v, H) | none => none) with
  | none => none
  | some (v, H') => K v H'
/-- An operation that makes an object. -/
def stepA (X : Option ((Nat → Value) × List Value × TypeId)) (H : AHeap) (K : Value → AHeap → Res) : Res :=
  match (match X with | some (f, cs, e) => some (f H.next, H.push (.cells cs e false)) | none => none) with
  | none => none
  | some (v, H') => K v H'
/-- .. in a drawn statement: under a name that is kept for it. -/
def stepD (X : Option ((Nat → Value) × List Value × TypeId)) (i : Nat) (H : AHeap) (K : Value → AHeap → Res) : Res :=
  match (match X, H.get i with | some (f, cs, e), none => some (f i, H.put i (.cells cs e false)) | _, _ => none) with
  | none => none
  | some (v, H') => K v H'
/-- An operation on memory, or a call. -/
def stepE (X : Res) (K : Value → AHeap → Res) : Res :=
  match X with
  | none => none
  | some (v, H') => K v H'
/-- A guarded operation: left out, or done. -/
def guardB (v : Value) (w : Bool) (A B : Res) : Res :=
  match (match v with | .bool b => some (b == w) | _ => some false) with
  | none => none
  | some false => A
  | some true => B
/-- A branch. -/
def condB (v : Value) (A B : AM Value) : AM Value :=
  match some v with
  | some (.bool t) => match t with
    | true => A
    | false => B
  | _ => fun _ => none
def mkSlice (n : Nat) (e : TypeId) (X : Option (List Value)) : Option ((Nat → Value) × List Value × TypeId) :=
  match X with
  | some cs => some ((fun i => .slice (some ⟨i, 0, none⟩) n n), cs, e)
  | none => none
def pickV (c a b : Value) : Option Value :=
  match c with
  | .bool true => some a
  | .bool false => some b
  | _ => none

def ounary (P : Program) (op : UnOp) (v : Value) : Option Value := if flat v then pureVal P (Op.unary op v) else none
/-- A call of a function's value. -/
def callV (P : Program) (call : ACallee → List Value → AM Value) (ext : FuncId → List Value → AM Value) (v : Value) (vs : List Value) : AM Value := fun H =>
  match some v, some vs with
  | some (.func (.func g) ⟨first⟩ ⟨capt⟩), some vs => match P.funcs[g]? with
    | some fn => match fn.body with
      | some _ => call (.fn g) (first ++ vs ++ capt) H
      | none => ext g (first ++ vs ++ capt) H
    | none => none
  | some (.func (.yield l) ⟨[]⟩ ⟨[]⟩), some vs => call (.yield l) vs H
  | _, _ => none
/-- A load is looked at once more. -/
def stepR (v : Value) (X : Option Value) (A : Res) : Res :=
  match X with
  | some u => if beqV u v then A else none
  | none => none
def consR (X : Option Value) (Y : Option (List Value)) : Option (List Value) :=
  match X with
  | some v => match Y with
    | some vs => some (v :: vs)
    | none => none
  | none => none
def resC (X : Option (List Value)) (H : AHeap) : Res :=
  match X with
  | some [v] => some (v, H)
  | some vs => some (.tuple ⟨vs⟩, H)
  | none => none

@[simp] theorem stepP_some (v : Value) (H : AHeap) (K : Value → AHeap → Res) : stepP (some v) H K = K v H := rfl
@[simp] theorem stepA_some (f : Nat → Value) (cs : List Value) (e : TypeId) (H : AHeap) (K : Value → AHeap → Res) : stepA (some (f, cs, e)) H K = K (f H.next) (H.push (.cells cs e false)) := rfl
theorem stepD_some {f : Nat → Value} {cs : List Value} {e : TypeId} {i : Nat} {H : AHeap} {K : Value → AHeap → Res} (h : H.get i = none) : stepD (some (f, cs, e)) i H K = K (f i) (H.put i (.cells cs e false)) := by simp [stepD, h]
@[simp] theorem stepE_some (v : Value) (H : AHeap) (K : Value → AHeap → Res) : stepE (some (v, H)) K = K v H := rfl
@[simp] theorem guardB_bool (b w : Bool) (A B : Res) : guardB (.bool b) w A B = if b = w then B else A := by cases b <;> cases w <;> rfl
@[simp] theorem condB_true (A B : AM Value) (H : AHeap) : condB (.bool true) A B H = A H := rfl
@[simp] theorem condB_false (A B : AM Value) (H : AHeap) : condB (.bool false) A B H = B H := rfl
theorem condB_bool (b : Bool) (A B : AM Value) (H : AHeap) : condB (.bool b) A B H = if b = true then A H else B H := by cases b <;> rfl
@[simp] theorem pickV_true (a b : Value) : pickV (.bool true) a b = some a := rfl
@[simp] theorem pickV_false (a b : Value) : pickV (.bool false) a b = some b := rfl

/-! ### What holds at last, whatever the fuel -/
/-- A run that ends, of fuels that are great enough, so that a claim holds. -/
def Ev (F : Nat → Nat → Nat → Nat → Res) (Q : Value → AHeap → Prop) : Prop :=
  ∃ v H, Q v H ∧ ∃ N, ∀ n m1 m2 m3, N ≤ n → N ≤ m1 → N ≤ m2 → N ≤ m3 → F n m1 m2 m3 = some (v, H)

theorem Ev.ret {v : Value} {H : AHeap} {Q : Value → AHeap → Prop} (h : Q v H) : Ev (fun _ _ _ _ => some (v, H)) Q := ⟨v, H, h, 0, fun _ _ _ _ _ _ _ _ => rfl⟩
theorem Ev.mono {F : Nat → Nat → Nat → Nat → Res} {Q Q' : Value → AHeap → Prop} (h : Ev F Q) (hq : ∀ v H, Q v H → Q' v H) : Ev F Q' := let ⟨v, H, q, N, e⟩ := h; ⟨v, H, hq v H q, N, e⟩
theorem Ev.of_eq {F G : Nat → Nat → Nat → Nat → Res} {Q : Value → AHeap → Prop} (e : ∀ n m1 m2 m3, F n m1 m2 m3 = G n m1 m2 m3) (h : Ev G Q) : Ev F Q := by
  have : F = G := funext fun n => funext fun m1 => funext fun m2 => funext fun m3 => e n m1 m2 m3
  rw [this]; exact h
theorem Ev.step {X : Nat → Nat → Nat → Nat → Res} {K : Nat → Nat → Nat → Nat → Value → AHeap → Res} {Q1 Q : Value → AHeap → Prop} (hx : Ev X Q1) (hk : ∀ v H, Q1 v H → Ev (fun n m1 m2 m3 => K n m1 m2 m3 v H) Q) :
    Ev (fun n m1 m2 m3 => stepE (X n m1 m2 m3) (K n m1 m2 m3)) Q := by
  obtain ⟨v, H, q, N, e⟩ := hx
  obtain ⟨v', H', q', N', e'⟩ := hk v H q
  refine ⟨v', H', q', N + N', fun n m1 m2 m3 h h1 h2 h3 => ?_⟩
  simp only [e n m1 m2 m3 (by omega) (by omega) (by omega) (by omega), stepE_some]
  exact e' n m1 m2 m3 (by omega) (by omega) (by omega) (by omega)
/-- A callee's run does not hang on the caller's loops. -/
theorem Ev.call {X : Nat → Res} {Q : Value → AHeap → Prop} (h : Ev (fun n _ _ _ => X n) Q) : Ev (fun n _ _ _ => X n) Q := h
theorem Ev.succ {F : Nat → Nat → Nat → Nat → Res} {Q : Value → AHeap → Prop} (h : Ev (fun n m1 m2 m3 => F (n + 1) m1 m2 m3) Q) : Ev F Q := by
  obtain ⟨v, H, q, N, e⟩ := h
  refine ⟨v, H, q, N + 1, fun n m1 m2 m3 h h1 h2 h3 => ?_⟩
  obtain ⟨k, rfl⟩ : ∃ k, n = k + 1 := ⟨n - 1, by omega⟩
  exact e k m1 m2 m3 (by omega) (by omega) (by omega) (by omega)
theorem Ev.succ1 {F : Nat → Nat → Nat → Nat → Res} {Q : Value → AHeap → Prop} (h : Ev (fun n m1 m2 m3 => F n (m1 + 1) m2 m3) Q) : Ev F Q := by
  obtain ⟨v, H, q, N, e⟩ := h
  refine ⟨v, H, q, N + 1, fun n m1 m2 m3 h h1 h2 h3 => ?_⟩
  obtain ⟨k, rfl⟩ : ∃ k, m1 = k + 1 := ⟨m1 - 1, by omega⟩
  exact e n k m2 m3 (by omega) (by omega) (by omega) (by omega)
theorem Ev.succ2 {F : Nat → Nat → Nat → Nat → Res} {Q : Value → AHeap → Prop} (h : Ev (fun n m1 m2 m3 => F n m1 (m2 + 1) m3) Q) : Ev F Q := by
  obtain ⟨v, H, q, N, e⟩ := h
  refine ⟨v, H, q, N + 1, fun n m1 m2 m3 h h1 h2 h3 => ?_⟩
  obtain ⟨k, rfl⟩ : ∃ k, m2 = k + 1 := ⟨m2 - 1, by omega⟩
  exact e n m1 k m3 (by omega) (by omega) (by omega) (by omega)
theorem Ev.succ3 {F : Nat → Nat → Nat → Nat → Res} {Q : Value → AHeap → Prop} (h : Ev (fun n m1 m2 m3 => F n m1 m2 (m3 + 1)) Q) : Ev F Q := by
  obtain ⟨v, H, q, N, e⟩ := h
  refine ⟨v, H, q, N + 1, fun n m1 m2 m3 h h1 h2 h3 => ?_⟩
  obtain ⟨k, rfl⟩ : ∃ k, m3 = k + 1 := ⟨m3 - 1, by omega⟩
  exact e n m1 m2 k (by omega) (by omega) (by omega) (by omega)
/-- A loop is begun: as often as the calls' fuel says. -/
theorem Ev.loop1 {F : Nat → Nat → Nat → Nat → Res} {Q : Value → AHeap → Prop} (h : Ev F Q) : Ev (fun n _ m2 m3 => F n n m2 m3) Q := let ⟨v, H, q, N, e⟩ := h; ⟨v, H, q, N, fun n _ m2 m3 h _ h2 h3 => e n n m2 m3 h h h2 h3⟩
theorem Ev.loop2 {F : Nat → Nat → Nat → Nat → Res} {Q : Value → AHeap → Prop} (h : Ev F Q) : Ev (fun n m1 _ m3 => F n m1 n m3) Q := let ⟨v, H, q, N, e⟩ := h; ⟨v, H, q, N, fun n m1 _ m3 h h1 _ h3 => e n m1 n m3 h h1 h h3⟩
theorem Ev.loop3 {F : Nat → Nat → Nat → Nat → Res} {Q : Value → AHeap → Prop} (h : Ev F Q) : Ev (fun n m1 m2 _ => F n m1 m2 n) Q := let ⟨v, H, q, N, e⟩ := h; ⟨v, H, q, N, fun n m1 m2 _ h h1 h2 _ => e n m1 m2 n h h1 h2 h⟩

end
end Go.Bk
