/- DRAWN REGIONS, first part: what waits for what; operations under two environments that agree; the trace of the one order. No condition. -/
import Derived.Test.YtifnbnlghfedfaaGreatDoorBkCall
namespace Go.Bk
open Go

section
variable {P : Program}

/-! ### Equal values -/
mutual
theorem beqV_eq : ∀ {a b : Value}, beqV a b = true → a = b
  | .bool a, .bool b, h => by simp [beqV] at h; rw [h]
  | .int j a, .int k b, h => by simp [beqV] at h; rw [h.1, h.2]
  | .string a, .string b, h => by
    simp only [beqV, decide_eq_true_eq] at h
    have : a = b := by
      obtain ⟨⟨a⟩⟩ := a
      obtain ⟨⟨b⟩⟩ := b
      simp only at h
      rw [h]
    rw [this]
  | .pointer a, .pointer b, h => by simp [beqV] at h; rw [h]
  | .slice a n c, .slice b m d, h => by simp [beqV] at h; rw [h.1.1, h.1.2, h.2]
  | .map a, .map b, h => by simp [beqV] at h; rw [h]
  | .nilFunc, .nilFunc, _ => rfl
  | .nilIface, .nilIface, _ => rfl
  | .iface t v, .iface u w, h => by simp [beqV] at h; rw [h.1, beqV_eq h.2]
  | .agg ⟨a⟩, .agg ⟨b⟩, h => by simp [beqV] at h; rw [beqVs_eq h]
  | .tuple ⟨a⟩, .tuple ⟨b⟩, h => by simp [beqV] at h; rw [beqVs_eq h]
  | .func (.func f) ⟨a⟩ ⟨b⟩, .func (.func g) ⟨c⟩ ⟨d⟩, h => by simp [beqV] at h; rw [h.1.1, beqVs_eq h.1.2, beqVs_eq h.2]
theorem beqVs_eq : ∀ {a b : List Value}, beqVs a b = true → a = b
  | [], [], _ => rfl
  | a :: l, b :: m, h => by simp [beqVs] at h; rw [beqV_eq h.1, beqVs_eq h.2]
end

/-! ### What waits for what -/
theorem ancFrom_length : ∀ (l : List Oper) (acc : List Nat), (ancFrom acc l).length = acc.length + l.length
  | [], acc => by simp [ancFrom]
  | o :: l, acc => by rw [ancFrom, ancFrom_length l]; simp; omega

theorem ancFrom_old : ∀ (l : List Oper) (acc : List Nat) (k : Nat), k < acc.length → (ancFrom acc l)[k]? = acc[k]?
  | [], acc, k, _ => rfl
  | o :: l, acc, k, h => by
    rw [ancFrom, ancFrom_old l _ k (by simp; omega)]
    rw [List.getElem?_append_left h]

theorem ancFrom_take : ∀ (l : List Oper) (acc : List Nat), (ancFrom acc l).take acc.length = acc := by
  intro l acc
  apply List.ext_getElem?
  intro k
  rw [List.getElem?_take]
  split
  · rename_i h; exact ancFrom_old l acc k h
  · rename_i h; rw [List.getElem?_eq_none (by omega)]

theorem ancFrom_get : ∀ (l : List Oper) (acc : List Nat) (k : Nat) (o : Oper), l[k]? = some o → (ancFrom acc l)[acc.length + k]? = some (ancStep ((ancFrom acc l).take (acc.length + k)) o)
  | [], acc, k, o, h => by simp at h
  | o0 :: l, acc, 0, o, h => by
    simp at h
    subst h
    rw [Nat.add_zero, ancFrom_take (o0 :: l) acc, ancFrom, ancFrom_old l _ acc.length (by simp)]
    simp
  | o0 :: l, acc, k + 1, o, h => by
    have := ancFrom_get l (acc ++ [ancStep acc o0]) k o (by simpa using h)
    simp only [List.length_append, List.length_singleton] at this
    rw [ancFrom]
    rw [show acc.length + (k + 1) = acc.length + 1 + k by omega]
    exact this

theorem ancStep_bit (acc : List Nat) (j : Nat) : ∀ (l : List Edge) (s : Nat),
    (l.foldl (fun s e => if Region.binds .any e then s ||| 2 ^ e.on ||| acc.getD e.on 0 else s) s).testBit j = true →
    s.testBit j = true ∨ ∃ e ∈ l, Region.binds .any e = true ∧ (e.on = j ∨ (acc.getD e.on 0).testBit j = true)
  | [], s, h => .inl h
  | e :: l, s, h => by
    rw [List.foldl_cons] at h
    rcases ancStep_bit acc j l _ h with h | ⟨e', h1, h2⟩
    · split at h
      · rename_i hb
        simp only [Nat.testBit_or, Bool.or_eq_true, Nat.testBit_two_pow, decide_eq_true_eq] at h
        rcases h with (h | h) | h
        · exact .inl h
        · exact .inr ⟨e, by simp, hb, .inl h⟩
        · exact .inr ⟨e, by simp, hb, .inr h⟩
      · exact .inl h
    · exact .inr ⟨e', by simp [h1], h2⟩

theorem waits_spec {ops : Array Oper} {i j : Nat} (h : waits (ancs ops) i j = true) : ∃ o e, ops[i]? = some o ∧ e ∈ o.after ∧ Region.binds .any e = true ∧ (e.on = j ∨ waits (ancs ops) e.on j = true) := by
  unfold waits at h
  have hlen : (ancs ops).length = ops.size := by simp [ancs, ancFrom_length]
  by_cases hi : i < ops.size
  · have ho : ops.toList[i]? = some ops[i] := by simp [hi]
    have hg := ancFrom_get ops.toList [] i ops[i] ho
    simp only [List.length_nil, Nat.zero_add] at hg
    have hd : (ancs ops).getD i 0 = ancStep ((ancs ops).take i) ops[i] := by
      simp only [List.getD_eq_getElem?_getD, ancs] at hg ⊢
      rw [hg]; rfl
    rw [hd] at h
    rcases ancStep_bit _ j _ 0 h with h | ⟨e, h1, h2, h3⟩
    · simp at h
    · refine ⟨ops[i], e, by simp [hi], by simpa using h1, h2, ?_⟩
      rcases h3 with h3 | h3
      · exact .inl h3
      · right
        unfold waits
        simp only [List.getD_eq_getElem?_getD, List.getElem?_take] at h3 ⊢
        split at h3
        · exact h3
        · simp at h3
  · have : (ancs ops).getD i 0 = 0 := by simp [List.getD_eq_getElem?_getD, List.getElem?_eq_none (show (ancs ops).length ≤ i by omega)]
    rw [this] at h
    simp at h

/-- A set of operations that holds what each of its own waits for. -/
def Closed (ops : Array Oper) (S : Nat → Prop) : Prop := ∀ i o, S i → ops[i]? = some o → ∀ e ∈ o.after, Region.binds .any e = true → S e.on
def Early (ops : Array Oper) : Prop := ∀ i o, ops[i]? = some o → ∀ e ∈ o.after, Region.binds .any e = true → e.on < i

theorem Closed.waits {ops : Array Oper} {S : Nat → Prop} (hS : Closed ops S) (hE : Early ops) : ∀ (i j : Nat), (∀ o, ops[i]? = some o → ∀ e ∈ o.after, Region.binds .any e = true → S e.on) → Bk.waits (ancs ops) i j = true → S j := by
  intro i
  induction i using Nat.strongRecOn with
  | _ i ih =>
    intro j hr hw
    obtain ⟨o, e, ho, he, hb, h⟩ := waits_spec hw
    have hs := hr o ho e he hb
    rcases h with h | h
    · rw [← h]; exact hs
    · exact ih e.on (hE i o ho e he hb) j (fun o' ho' => hS e.on o' hs ho') h

/-! ### Environments that agree on what is looked at -/
variable {call : ACallee → List Value → AM Value} {ext : FuncId → List Value → AM Value} {τ τ' : Env}

theorem asks_congr : ∀ {l : List Operand}, (∀ x ∈ l, ask P τ x = ask P τ' x) → asks P τ l = asks P τ' l
  | [], _ => rfl
  | x :: l, h => by simp only [asks, h x (by simp), asks_congr (l := l) fun y hy => h y (by simp [hy])]
theorem asksP_congr : ∀ {l : List (Nat × Operand)}, (∀ x ∈ l.map (·.2), ask P τ x = ask P τ' x) → asksP P τ l = asksP P τ' l
  | [], _ => rfl
  | (i, x) :: l, h => by simp only [asksP, h x (by simp), asksP_congr (l := l) fun y hy => h y (by simp at hy ⊢; exact .inr hy)]

theorem opt_congr {o : Option Operand} (h : ∀ x ∈ o.toArray.toList, ask P τ x = ask P τ' x) : o.map (ask P τ) = o.map (ask P τ') := by
  cases o with
  | none => rfl
  | some x => simp [h x (by simp)]

theorem apure_congr {op : Op} (h : ∀ x ∈ op.operands.toList, ask P τ x = ask P τ' x) : apure P τ op = apure P τ' op := by
  cases op <;> (try rfl) <;> simp only [Op.operands] at h
  case move x => exact h x (by simp)
  case assign x => exact h x (by simp)
  case pick c a b => simp only [apure, h c (by simp), h a (by simp), h b (by simp)]
  case build t ps => simp only [apure]; rw [asksP_congr (by simpa using h)]
  case nilCheck x => simp only [apure, h x (by simp)]
  case binOp op t x y yt => simp only [apure, h x (by simp), h y (by simp)]
  case unOp op t x => simp only [apure, h x (by simp)]
  case convert s d x => simp only [apure, h x (by simp)]
  case makeInterface t x => simp only [apure, h x (by simp)]
  case makeFunc fn a b => simp only [apure]; rw [asks_congr (l := a.toList) fun x hx => h x (by simp at hx ⊢; exact .inl hx), asks_congr (l := b.toList) fun x hx => h x (by simp at hx ⊢; exact .inr hx)]
  case slice t x lo hi mx =>
    simp only [apure, h x (by simp)]
    rw [opt_congr (o := lo) fun y hy => h y (by simp at hy ⊢; simp [hy]), opt_congr (o := hi) fun y hy => h y (by simp at hy ⊢; simp [hy]), opt_congr (o := mx) fun y hy => h y (by simp at hy ⊢; simp [hy])]
  case fieldAddr s x f => simp only [apure, h x (by simp)]
  case field s x f => simp only [apure, h x (by simp)]
  case indexAddr t x i => simp only [apure, h x (by simp), h i (by simp)]
  case index t x i => simp only [apure, h x (by simp), h i (by simp)]
  case typeAssert x xt d ok => simp only [apure, h x (by simp)]
  case extract x i => simp only [apure, h x (by simp)]
  case call c =>
    obtain ⟨callee, args, argTypes⟩ := c
    cases callee <;> (try rfl)
    rename_i b
    have ha : ∀ x ∈ args.toList, ask P τ x = ask P τ' x := fun x hx => h x (by simp [Call.operands] at hx ⊢; exact hx)
    cases b <;> (try rfl)
    case len =>
      simp only [apure]
      split
      · rename_i x t e1 e2; rw [ha x (by rw [e1]; simp)]
      · rfl
    case unsafeSliceData =>
      simp only [apure]
      split
      · rename_i x e1; rw [ha x (by rw [e1]; simp)]
      · rfl
    case min => simp only [apure]; rw [asks_congr ha]
    case max => simp only [apure]; rw [asks_congr ha]

theorem mk_congr {op : Op} (h : ∀ x ∈ op.operands.toList, ask P τ x = ask P τ' x) : mk P τ op = mk P τ' op := by
  cases op <;> (try rfl) <;> simp only [Op.operands] at h
  case box t x => simp only [mk, h x (by simp)]
  case buildSlice t n ps => simp only [mk]; rw [asksP_congr (by simpa using h)]

theorem aeff_congr {o : Oper} {H : AHeap} (h : ∀ x ∈ o.op.operands.toList, ask P τ x = ask P τ' x) : aeff P call ext τ o H = aeff P call ext τ' o H := by
  obtain ⟨dst, op, type, pos, after, guard⟩ := o
  simp only at h
  cases op <;> (try rfl) <;> simp only [Op.operands] at h
  case convert s d x => simp only [aeff, h x (by simp)]
  case store t a x => simp only [aeff, h x (by simp), h a (by simp)]
  case makeSlice t l c => simp only [aeff, h l (by simp), h c (by simp)]
  case makeMap t r => cases r with
    | none => rfl
    | some x => simp only [aeff, h x (by simp)]
  case range t x => simp only [aeff, h x (by simp)]
  case next x s => simp only [aeff, h x (by simp)]
  case call c =>
    obtain ⟨callee, args, argTypes⟩ := c
    cases callee <;> (try rfl)
    case value f =>
      have ha : ∀ x ∈ args.toList, ask P τ x = ask P τ' x := fun x hx => h x (by simp [Call.operands] at hx ⊢; exact .inr hx)
      have hf : ask P τ f = ask P τ' f := h f (by simp [Call.operands])
      simp only [aeff, hf]
      rw [asks_congr ha]
    case builtin b =>
      have ha : ∀ x ∈ args.toList, ask P τ x = ask P τ' x := fun x hx => h x (by simp [Call.operands] at hx ⊢; exact hx)
      cases b <;> (try rfl)
      case cap => simp only [aeff]; split; · rename_i x t e1 e2; rw [ha x (by rw [e1]; simp)]
                  · rfl
      case append => simp only [aeff]; split; · rename_i x y t t' e1 e2; rw [ha x (by rw [e1]; simp), ha y (by rw [e1]; simp)]
                     · rfl
      case copy => simp only [aeff]; split; · rename_i x y t t' e1 e2; rw [ha x (by rw [e1]; simp), ha y (by rw [e1]; simp)]
                   · rfl
      case unsafeString => simp only [aeff]; split; · rename_i x y t t' e1 e2; rw [ha x (by rw [e1]; simp), ha y (by rw [e1]; simp)]
                           · rfl
      case clear => simp only [aeff]; split; · rename_i x t e1 e2; rw [ha x (by rw [e1]; simp)]
                    · rfl

theorem aop_congr {o : Oper} {H : AHeap} (h : ∀ x ∈ o.op.operands.toList, ask P τ x = ask P τ' x) : aop P call ext τ o H = aop P call ext τ' o H := by
  unfold aop
  rw [apure_congr h, mk_congr h, aeff_congr h]
  split
  · rfl
  · split
    · rename_i t x e
      rw [h x (by rw [e]; simp [Op.operands])]
    · rfl
  · rfl
  · rfl

theorem dop_congr {n0 i : Nat} {o : Oper} {H : AHeap} (h : ∀ x ∈ o.op.operands.toList, ask P τ x = ask P τ' x) : dop P call ext n0 i τ o H = dop P call ext n0 i τ' o H := by
  unfold dop
  rw [mk_congr h, aop_congr h]

/-- Two environments know the same of some slots. -/
def Agree (L : List Tmp) (τ τ' : Env) : Prop := ∀ t ∈ L, τ.get t = τ'.get t

theorem ask_agree {L : List Tmp} (h : Agree L τ τ') {x : Operand} (hx : ∀ t, x = .tmp t → t ∈ L) : ask P τ x = ask P τ' x := by
  cases x with
  | tmp t => simp only [ask, h t (hx t rfl)]
  | _ => rfl

theorem operands_agree {ops : Array Oper} {o : Oper} (h : Agree (looks ops o) τ τ') : ∀ x ∈ o.op.operands.toList, ask P τ x = ask P τ' x := by
  intro x hx
  refine ask_agree h fun t e => ?_
  subst e
  unfold looks
  exact List.mem_append.2 (.inl (List.mem_filterMap.2 ⟨.tmp t, hx, rfl⟩))

theorem awanted_agree {ops : Array Oper} {o : Oper} (h : Agree (looks ops o) τ τ') : awanted ops τ o = awanted ops τ' o := by
  unfold awanted
  cases hg : o.guard with
  | none => rfl
  | some g =>
    obtain ⟨j, want⟩ := g
    simp only
    cases hd : (ops[j]?).bind (·.dst) with
    | none => rfl
    | some t =>
      have : τ.get t = τ'.get t := h t (by unfold looks; rw [hg]; simp [hd])
      simp only [this]

end
end Go.Bk
