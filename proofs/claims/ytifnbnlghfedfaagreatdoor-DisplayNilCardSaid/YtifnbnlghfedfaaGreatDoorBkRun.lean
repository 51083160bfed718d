/- A CLOSED RUN OF THE ABSTRACT MACHINE THAT ENDS IN TRUE: the call returns true, and old memory is as it was. No condition. -/
import Derived.Test.YtifnbnlghfedfaaGreatDoorBkMemo
import Derived.Test.YtifnbnlghfedfaaGreatDoorBkTrue
namespace Go.Bk
open Go
noncomputable section

/-- Package-level variables that hold plain cells. -/
abbrev Vars := List (Nat × List Value × TypeId)
def varObjs (l : Vars) : List (Nat × AObj) := l.map fun x => (x.1, .cells x.2.1 x.2.2 false)

/-- The variables hold what is listed. -/
def VarsMet (P : Program) (l : Vars) (W : World) : Prop := ∀ x ∈ l, x.1 < P.globals.size ∧ flats x.2.1 = true ∧ W.heap[x.1]? = some (.cells ⟨x.2.1⟩ x.2.2 (0, 0))

def startRen (n : Nat) : Ren := fun i => if i < n then some ⟨i, 0, 1, 0⟩ else none

theorem heapOf_mem {n : Nat} : ∀ {l : List (Nat × AObj)} {i : Nat} {o : AObj}, (heapOf n l).get i = some o → (i, o) ∈ l
  | [], _, _, h => by cases h
  | p :: l, i, o, h => by
    have e : (heapOf n (p :: l)).get i = if i = p.1 then some p.2 else (heapOf n l).get i := Tr.get_put p.1 (built l) p.1 i (some p.2) (Nat.le_refl _)
    rw [e] at h
    split at h
    · rename_i hi; cases h; subst hi; exact List.mem_cons_self ..
    · exact List.mem_cons_of_mem _ (heapOf_mem h)

theorem varObjs_mem {l : Vars} {i : Nat} {o : AObj} (h : (i, o) ∈ varObjs l) : ∃ cs e, (i, cs, e) ∈ l ∧ o = .cells cs e false := by
  obtain ⟨x, hx, e⟩ := List.mem_map.1 h
  cases e
  exact ⟨x.2.1, x.2.2, hx, rfl⟩

/-- The heap of the start stands for a world in which the variables hold what is listed, and all else is whatever it is. -/
theorem start_rel {P : Program} {l : Vars} {W : World} (h : VarsMet P l W) : Rel P (startRen P.globals.size) (heapOf P.globals.size (varObjs l)) W := by
  have hm : ∀ i o, (heapOf P.globals.size (varObjs l)).get i = some o → i < P.globals.size ∧ ∃ cs e, o = .cells cs e false ∧ flats cs = true ∧ W.heap[i]? = some (.cells ⟨cs⟩ e (0, 0)) := fun i o ho => by
    obtain ⟨cs, e, hx, rfl⟩ := varObjs_mem (heapOf_mem ho)
    obtain ⟨h1, h2, h3⟩ := h _ hx
    exact ⟨h1, cs, e, rfl, h2, h3⟩
  refine ⟨fun i hi => ?_, fun i hi => ?_, fun i o ho => ?_, fun i j o o' l1 l2 hi hj e1 e2 hb _ => ?_, fun g hg => ?_⟩
  · have hi : P.globals.size ≤ i := hi
    simp [startRen, Nat.not_lt.2 hi]
  · have hi : P.globals.size ≤ i := hi
    cases hg : (heapOf P.globals.size (varObjs l)).get i with
    | none => rfl
    | some o => have := (hm i o hg).1; omega
  · obtain ⟨h1, cs, e, rfl, h2, h3⟩ := hm i o ho
    exact ⟨⟨i, 0, 1, 0⟩, _, by simp [startRen, h1], h3, .shut rfl (VRs.of_flats h2)⟩
  · have a := (hm i o hi).1
    have b := (hm j o' hj).1
    simp only [startRen, a, b, if_true, Option.some.injEq] at e1 e2
    subst e1; subst e2
    exact hb
  · exact ⟨⟨g, 0, 1, 0⟩, by simp [startRen, hg], rfl, rfl⟩

/-- Does a run end in true, the listed variables as they were? -/
def endsTrue (l : List (Nat × AObj)) : Option (Value × AHeap) → Bool
  | some (v, H) => beqV v (.bool true) && has H l
  | none => false

/-- What a step leaves that ends in a heap in which the listed variables are as they were. -/
theorem kept_of_post {P : Program} {l : Vars} {W W' : World} {ρ' : Ren} {H' : AHeap} (h : VarsMet P l W) (hh : has H' (varObjs l) = true) (R' : Rel P ρ' H' W') (F : Fr (startRen P.globals.size) (heapOf P.globals.size (varObjs l)) W ρ' H' W') : Kept W W' := by
  refine ⟨F.os, F.output, fun b hb => ?_⟩
  by_cases hl : Lies (startRen P.globals.size) (heapOf P.globals.size (varObjs l)) b
  · obtain ⟨i, o, lo, h1, h2, h3⟩ := hl
    obtain ⟨cs, e, hx, rfl⟩ := varObjs_mem (heapOf_mem h1)
    obtain ⟨q1, q2, q3⟩ := h _ hx
    have hg := has_sub hh i _ h1
    obtain ⟨lo', ob, p1, p2, p3⟩ := R'.obj i _ hg
    rw [F.ext _ _ h2] at p1; cases p1
    have hlo : lo = ⟨i, 0, 1, 0⟩ := by
      simp only [startRen] at h2
      rw [if_pos q1] at h2
      exact (Option.some.inj h2).symm
    subst hlo
    simp only at h3 p2 q3
    subst h3
    cases p3 with
    | shut hb hc =>
      rename_i C
      obtain ⟨lc⟩ := C
      have := VRs.eq_of_flats hc q2
      simp only at this
      subst this
      rw [p2, q3]
  · exact F.keep b hb hl

/-- **The closed run.** -/
theorem true_of_run {P : Program} {call : ACallee → List Value → AM Value} (hcall : CallOk P call) {f : FuncId} {args args' : List Value} {l : Vars} {W : World} (h : VarsMet P l W) (ha : VRs (startRen P.globals.size) args args')
    (hr : endsTrue (varObjs l) (call (.fn f) args (heapOf P.globals.size (varObjs l))) = true) : Calls P f ⟨args'⟩ W fun e W' => e = .returned (.bool true) ∧ Kept W W' := by
  cases hc : call (.fn f) args (heapOf P.globals.size (varObjs l)) with
  | none => rw [hc] at hr; cases hr
  | some q =>
    obtain ⟨v, H'⟩ := q
    rw [hc] at hr
    simp only [endsTrue, Bool.and_eq_true] at hr
    have hv := beqV_eq hr.1
    subst hv
    have := hcall (.fn f) args (heapOf P.globals.size (varObjs l)) _ H' (startRen P.globals.size) W args' hc (start_rel h) ha
    refine (callsIn_wide.1 this).mono fun e W' ⟨v', ρ', e1, hv, R', F⟩ => ?_
    have e2 : v' = .bool true := hv.eq_of_flat rfl
    subst e2
    exact ⟨e1, kept_of_post h hr.2 R' F⟩

end
end Go.Bk
