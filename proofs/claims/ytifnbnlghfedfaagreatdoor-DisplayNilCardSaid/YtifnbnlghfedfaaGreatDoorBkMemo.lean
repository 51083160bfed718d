/- RUNS THAT ARE KEPT: a call's outcome at given arguments and at a given heap, once found, serves wherever the same stands. No condition. -/
import Derived.Test.YtifnbnlghfedfaaGreatDoorBkExtOk
namespace Go.Bk
open Go

noncomputable section

def beqO : AObj → AObj → Bool
  | .cells a e p, .cells b f q => beqVs a b && Nat.beq e f && (p == q)
  | _, _ => false

theorem beqO_eq {a b : AObj} (h : beqO a b = true) : a = b := by
  cases a <;> cases b <;> simp only [beqO] at h <;> try (cases h; done)
  simp only [Bool.and_eq_true, beq_iff_eq, Nat.beq_eq] at h
  rw [beqVs_eq h.1.1, h.1.2, h.2]

def built : List (Nat × AObj) → Tr
  | [] => .nil
  | p :: l => (built l).put p.1 p.1 (some p.2) |> fun t => t
def heapOf (n : Nat) (l : List (Nat × AObj)) : AHeap := ⟨n, built l⟩

def has (H : AHeap) : List (Nat × AObj) → Bool
  | [] => true
  | p :: l => (match H.get p.1 with | some o => beqO o p.2 | none => false) && has H l

theorem has_sub {H : AHeap} {n : Nat} : ∀ {l : List (Nat × AObj)}, has H l = true → ∀ i o, (heapOf n l).get i = some o → H.get i = some o
  | [], _, i, o, e => by cases e
  | p :: l, h, i, o, e => by
    simp only [has, Bool.and_eq_true] at h
    have e' : (if i = p.1 then some p.2 else (built l).get i) = some o := by rw [← Tr.get_put p.1 (built l) p.1 i (some p.2) (Nat.le_refl _)]; exact e
    split at e'
    · rename_i hi
      cases e'
      subst hi
      split at h
      · rename_i o' ho; rw [ho, beqO_eq h.1]
      · cases h.1
    · exact has_sub (n := n) h.2 i o e'

theorem has_nv {H : AHeap} {n : Nat} : ∀ {l : List (Nat × AObj)}, has H l = true → ∀ i o, (heapOf n l).get i = some o → isV o = false
  | [], _, i, o, e => by cases e
  | p :: l, h, i, o, e => by
    simp only [has, Bool.and_eq_true] at h
    have e' : (if i = p.1 then some p.2 else (built l).get i) = some o := by rw [← Tr.get_put p.1 (built l) p.1 i (some p.2) (Nat.le_refl _)]; exact e
    split at e'
    · cases e'
      split at h
      · rename_i o' ho
        have h1 := h.1
        cases o' <;> cases hp : p.2 <;> rw [hp] at h1 <;> first | rfl | (simp [beqO] at h1)
      · cases h.1
    · exact has_nv (n := n) h.2 i o e'

section
variable {P : Program} {ρ : Ren} {H H0 : AHeap} {w : World}

theorem Rel.sub (R : Rel P ρ H w) (hn : H0.next = H.next) (hs : ∀ i o, H0.get i = some o → H.get i = some o) : Rel P ρ H0 w := by
  refine ⟨fun i hi => R.dom i (by omega), fun i hi => ?_, fun i o h => R.obj i o (hs i o h), fun i j o o' l l' h1 h2 => R.inj i j o o' l l' (hs _ _ h1) (hs _ _ h2), R.glob⟩
  cases hg : H0.get i with
  | none => rfl
  | some o => have := hs i o hg; rw [R.fresh i (by omega)] at this; cases this

theorem Lies.sub (hs : ∀ i o, H0.get i = some o → H.get i = some o) {b : Nat} (h : Lies ρ H0 b) : Lies ρ H b :=
  let ⟨i, o, l, h1, h2, h3⟩ := h; ⟨i, o, l, hs i o h1, h2, h3⟩

/-- Fewer objects are known ahead; fewer behind. -/
theorem Post.sub {H1 H2 : AHeap} {v : Value} (hn0 : H0.next = H.next) (h0 : ∀ i o, H0.get i = some o → H.get i = some o) (hn : H2.next = H1.next) (h1 : ∀ i o, H2.get i = some o → H1.get i = some o) {e : Ending} {w' : World}
    (h : Post P ρ H0 w v H1 e w') : Post P ρ H w v H2 e w' := by
  obtain ⟨v', ρ', e1, hv, R, F⟩ := h
  refine ⟨v', ρ', e1, hv, R.sub hn h1, F.os, F.tape, F.output, F.size, by have := F.next; omega, F.ext, fun i hi => F.old i (by omega), fun b hb hnl => F.keep b hb fun hl => hnl (hl.sub h0), fun b hl => ?_⟩
  exact (F.lies b (hl.sub h1)).imp id fun hl => hl.sub h0

/-! ### What is not looked at stays -/
def cut : List (Nat × AObj) → Tr → Tr
  | [], t => t
  | p :: l, t => (cut l t).put p.1 p.1 none
def lay : List (Nat × AObj) → Tr → Tr
  | [], t => t
  | p :: l, t => (lay l t).put p.1 p.1 (some p.2)
def inOf (i : Nat) : List (Nat × AObj) → Bool
  | [] => false
  | p :: l => Nat.beq p.1 i || inOf i l
def upd (H : AHeap) (l0 l1 : List (Nat × AObj)) (n1 : Nat) : AHeap := ⟨n1, lay l1 (cut l0 H.tr)⟩

theorem cut_get (t : Tr) (i : Nat) : ∀ (l : List (Nat × AObj)), (cut l t).get i = if inOf i l = true then none else t.get i
  | [] => rfl
  | p :: l => by
    simp only [cut, inOf, Tr.get_put _ _ _ _ _ (Nat.le_refl _), cut_get t i l, Bool.or_eq_true, Nat.beq_eq]
    by_cases h : i = p.1
    · simp [h]
    · simp [h, Ne.symm h]

theorem built_in {n : Nat} : ∀ {l : List (Nat × AObj)} {i : Nat}, inOf i l = false → (heapOf n l).get i = none
  | [], _, _ => rfl
  | p :: l, i, h => by
    simp only [inOf, Bool.or_eq_false_iff] at h
    have e : (heapOf n (p :: l)).get i = if i = p.1 then some p.2 else (heapOf n l).get i := Tr.get_put p.1 (built l) p.1 i (some p.2) (Nat.le_refl _)
    have hne : i ≠ p.1 := by
      intro e'
      have := h.1
      rw [e'] at this
      have h2 : Nat.beq p.1 p.1 = true := by rw [Nat.beq_eq]
      rw [h2] at this; cases this
    rw [e, if_neg hne]
    exact built_in h.2

theorem lay_get {n : Nat} (t : Tr) (i : Nat) : ∀ (l : List (Nat × AObj)), (lay l t).get i = match (heapOf n l).get i with | some o => some o | none => t.get i
  | [] => rfl
  | p :: l => by
    have e : (heapOf n (p :: l)).get i = if i = p.1 then some p.2 else (heapOf n l).get i := Tr.get_put p.1 (built l) p.1 i (some p.2) (Nat.le_refl _)
    rw [e]
    simp only [lay, Tr.get_put _ _ _ _ _ (Nat.le_refl _), lay_get (n := n) t i l]
    by_cases h : i = p.1 <;> simp [h]

/-- **The frame law.** -/
theorem Post.frame {l0 l1 : List (Nat × AObj)} {n1 : Nat} {v : Value} {e : Ending} {w' : World} (R : Rel P ρ H w) (hs : ∀ i o, (heapOf H.next l0).get i = some o → H.get i = some o)
    (hnv : ∀ i o, (heapOf H.next l0).get i = some o → isV o = false)
    (h : Post P ρ (heapOf H.next l0) w v (heapOf n1 l1) e w') : Post P ρ H w v (upd H l0 l1 n1) e w' := by
  obtain ⟨v', ρ', e1, hv, R1, F⟩ := h
  have hg : ∀ i, (upd H l0 l1 n1).get i = match (heapOf n1 l1).get i with | some o => some o | none => if inOf i l0 = true then none else H.get i := fun i => by
    rw [show (upd H l0 l1 n1).get i = (lay l1 (cut l0 H.tr)).get i from rfl, lay_get (n := n1), cut_get]
    rfl
  have hnext : H.next ≤ n1 := F.next
  -- an object of the new heap is one of the kept ones, or one of the old that was not looked at
  have two : ∀ i o, (upd H l0 l1 n1).get i = some o → (heapOf n1 l1).get i = some o ∨ ((heapOf n1 l1).get i = none ∧ inOf i l0 = false ∧ H.get i = some o) := fun i o ho => by
    rw [hg] at ho
    split at ho
    · rename_i o' ho'; cases ho; exact .inl ho'
    · rename_i hn
      split at ho
      · cases ho
      · rename_i hin; exact .inr ⟨hn, by simpa using hin, ho⟩
  have old : ∀ i o l, inOf i l0 = false → H.get i = some o → ρ i = some l → ¬ Lies ρ (heapOf H.next l0) l.block := by
    rintro i o l hi ho hl ⟨j, oj, lj, q1, q2, q3⟩
    have := R.inj j i oj o lj l (hs j oj q1) ho q2 hl q3 (by rw [hnv j oj q1, Bool.false_and])
    subst this
    rw [built_in hi] at q1; cases q1
  refine ⟨v', ρ', e1, hv, ⟨R1.dom, fun i hi => ?_, fun i o ho => ?_, fun i j o o' l l' hi hj hl hl' hb h6 => ?_, R1.glob⟩, F.os, F.tape, F.output, F.size, hnext, F.ext, F.old, fun b hb hn => F.keep b hb fun hl => hn (hl.sub hs), fun b hl => ?_⟩
  · cases ho : (upd H l0 l1 n1).get i with
    | none => rfl
    | some o =>
      rcases two i o ho with h | ⟨_, _, h⟩
      · rw [R1.fresh i hi] at h; cases h
      · have hi' : n1 ≤ i := hi
        rw [R.fresh i (by omega)] at h; cases h
  · rcases two i o ho with h | ⟨_, hin, h⟩
    · exact R1.obj i o h
    · obtain ⟨l, ob, q1, q2, q3⟩ := R.obj i o h
      exact ⟨l, ob, F.ext _ _ q1, by rw [F.keep l.block (Array.getElem?_eq_some_iff.1 q2).1 (old i o l hin h q1)]; exact q2, q3.mono F.ext⟩
  · have mixed : ∀ i j o o' l l', (heapOf n1 l1).get i = some o → inOf j l0 = false → H.get j = some o' → ρ' i = some l → ρ' j = some l' → l.block = l'.block → False := by
      intro i j o o' l l' hi hin hj hl hl' hb
      obtain ⟨lj, ob, q1, q2, _⟩ := R.obj j o' hj
      rw [F.ext _ _ q1] at hl'; cases hl'
      rcases F.lies l'.block ⟨i, o, l, hi, hl, hb⟩ with h | h
      · have := (Array.getElem?_eq_some_iff.1 q2).1; omega
      · exact old j o' l' hin hj q1 h
    rcases two i o hi with h1 | ⟨_, h1, h1'⟩ <;> rcases two j o' hj with h2 | ⟨_, h2, h2'⟩
    · exact R1.inj i j o o' l l' h1 h2 hl hl' hb h6
    · exact (mixed i j o o' l l' h1 h2 h2' hl hl' hb).elim
    · exact (mixed j i o' o l' l h2 h1 h1' hl' hl hb.symm).elim
    · obtain ⟨li, _, q1, _, _⟩ := R.obj i o h1'
      obtain ⟨lj, _, q2, _, _⟩ := R.obj j o' h2'
      rw [F.ext _ _ q1] at hl; cases hl
      rw [F.ext _ _ q2] at hl'; cases hl'
      exact R.inj i j o o' l l' h1' h2' q1 q2 hb h6
  · obtain ⟨i, o, l, q1, q2, q3⟩ := hl
    rcases two i o q1 with h | ⟨_, _, h⟩
    · exact (F.lies b ⟨i, o, l, h, q2, q3⟩).imp id fun hl => hl.sub hs
    · obtain ⟨li, _, p1, _, _⟩ := R.obj i o h
      rw [F.ext _ _ p1] at q2; cases q2
      exact .inr ⟨i, o, l, h, p1, q3⟩

structure Memo where
  f : FuncId
  args : List Value
  n0 : Nat
  l0 : List (Nat × AObj)
  v : Value
  n1 : Nat
  l1 : List (Nat × AObj)

def Memo.Ok (P : Program) (m : Memo) : Prop := ∀ (ρ : Ren) (w : World) (args' : List Value), Rel P ρ (heapOf m.n0 m.l0) w → VRs ρ m.args args' →
  CallsIn Fence.wide 0 P m.f ⟨args'⟩ w (Post P ρ (heapOf m.n0 m.l0) w m.v (heapOf m.n1 m.l1))

/-- Is a run's outcome the kept one? -/
def Memo.ends (m : Memo) : Option (Value × AHeap) → Bool
  | some (v, H) => beqV v m.v && Nat.beq H.next m.n1 && has H m.l1
  | none => false

theorem Memo.ok_of_run {call : ACallee → List Value → AM Value} (hcall : CallOk P call) {m : Memo} (h : m.ends (call (.fn m.f) m.args (heapOf m.n0 m.l0)) = true) : m.Ok P := by
  intro ρ w args' R ha
  cases hr : call (.fn m.f) m.args (heapOf m.n0 m.l0) with
  | none => rw [hr] at h; cases h
  | some q =>
    obtain ⟨v, H'⟩ := q
    rw [hr] at h
    simp only [Memo.ends, Bool.and_eq_true, Nat.beq_eq] at h
    obtain ⟨⟨hv, hn⟩, hh⟩ := h
    have hv' := beqV_eq hv
    subst hv'
    have := hcall (.fn m.f) m.args (heapOf m.n0 m.l0) _ H' ρ w args' hr R ha
    exact this.mono fun e w' hp => Post.sub rfl (fun _ _ h => h) hn.symm (has_sub hh) hp

def Memo.hit (m : Memo) (args : List Value) : AM Value := fun H =>
  if (beqVs args m.args && Nat.beq H.next m.n0 && has H m.l0) = true then some (m.v, upd H m.l0 m.l1 m.n1) else none

def memoRun : List Memo → FuncId → List Value → AM Value
  | [], _, _ => fun _ => none
  | m :: l, f, args => fun H => match (if Nat.beq m.f f = true then m.hit args H else none) with
    | some r => some r
    | none => memoRun l f args H

def memoSp (ms : List Memo) (f : FuncId) : Option (List Value → AM Value) := if (ms.any fun m => Nat.beq m.f f) = true then some (memoRun ms f) else none

theorem Memo.hit_ok {m : Memo} (hm : m.Ok P) {args args' : List Value} {v : Value} {H' : AHeap} (h : m.hit args H = some (v, H')) (R : Rel P ρ H w) (ha : VRs ρ args args') : CallsIn Fence.wide 0 P m.f ⟨args'⟩ w (Post P ρ H w v H') := by
  unfold Memo.hit at h
  split at h
  · rename_i hc
    cases h
    simp only [Bool.and_eq_true, Nat.beq_eq] at hc
    obtain ⟨⟨h1, h2⟩, h3⟩ := hc
    have h1' := beqVs_eq h1
    subst h1'
    have hsub := has_sub (n := m.n0) h3
    have hR := R.sub h2.symm hsub
    have hm' := hm ρ w args' hR ha
    rw [← h2] at hm' hsub
    exact hm'.mono fun e w' hp => Post.frame R hsub (fun i o ho => has_nv h3 i o ho) hp
  · cases h

theorem memoRun_ok : ∀ {ms : List Memo}, (∀ m ∈ ms, m.Ok P) → ∀ {f : FuncId} {args args' : List Value} {v : Value} {H' : AHeap}, memoRun ms f args H = some (v, H') → Rel P ρ H w → VRs ρ args args' → CallsIn Fence.wide 0 P f ⟨args'⟩ w (Post P ρ H w v H')
  | [], _, f, args, args', v, H', h, _, _ => by cases h
  | m :: l, hms, f, args, args', v, H', h, R, ha => by
    simp only [memoRun] at h
    by_cases hf : Nat.beq m.f f = true
    · rw [if_pos hf] at h
      have hf' : m.f = f := by rw [Nat.beq_eq] at hf; exact hf
      cases hh : m.hit args H with
      | none => rw [hh] at h; exact memoRun_ok (fun x hx => hms x (List.mem_cons_of_mem _ hx)) h R ha
      | some r =>
        rw [hh] at h
        cases h
        rw [← hf']
        exact Memo.hit_ok (hms m (List.mem_cons_self ..)) hh R ha
    · rw [if_neg hf] at h
      exact memoRun_ok (fun x hx => hms x (List.mem_cons_of_mem _ hx)) h R ha

/-- **Kept runs are right.** -/
theorem memoSp_ok {ms : List Memo} (h : ∀ m ∈ ms, m.Ok P) : SpOk P (memoSp ms) := by
  intro f s hs args H v H' ρ w args' hr R ha
  unfold memoSp at hs
  split at hs
  · cases hs; exact memoRun_ok h hr R ha
  · cases hs

end
end
end Go.Bk
