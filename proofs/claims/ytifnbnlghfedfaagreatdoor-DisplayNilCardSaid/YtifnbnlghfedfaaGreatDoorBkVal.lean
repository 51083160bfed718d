/- WHAT SINGLE OPERATIONS GIVE AT VALUES OF A KNOWN FORM; slices as lists; heaps that grow. No condition. -/
import Derived.Test.YtifnbnlghfedfaaGreatDoorBkSym
namespace Go.Bk
open Go
noncomputable section

/-! ### Numbers -/
section
variable (P : Program) (t : TypeId) (xo yo : Operand) (a b : Int)
@[simp] theorem obin_lss : obin P .lss t xo yo (.int .i64 a) (.int .i64 b) = some (.bool (decide (a < b))) := rfl
@[simp] theorem obin_leq : obin P .leq t xo yo (.int .i64 a) (.int .i64 b) = some (.bool (decide (a ≤ b))) := rfl
@[simp] theorem obin_gtr : obin P .gtr t xo yo (.int .i64 a) (.int .i64 b) = some (.bool (decide (a > b))) := rfl
@[simp] theorem obin_geq : obin P .geq t xo yo (.int .i64 a) (.int .i64 b) = some (.bool (decide (a ≥ b))) := rfl
@[simp] theorem obin_eql : obin P .eql t xo yo (.int .i64 a) (.int .i64 b) = some (.bool (a == b)) := rfl
@[simp] theorem obin_neq : obin P .neq t xo yo (.int .i64 a) (.int .i64 b) = some (.bool (a != b)) := rfl
@[simp] theorem obin_add : obin P .add t xo yo (.int .i64 a) (.int .i64 b) = some (.int .i64 (IntKind.i64.wrap (a + b))) := rfl
@[simp] theorem obin_sub : obin P .sub t xo yo (.int .i64 a) (.int .i64 b) = some (.int .i64 (IntKind.i64.wrap (a - b))) := rfl
@[simp] theorem obin_mul : obin P .mul t xo yo (.int .i64 a) (.int .i64 b) = some (.int .i64 (IntKind.i64.wrap (a * b))) := rfl
end

theorem wrap64 {a : Int} (h1 : -9223372036854775808 ≤ a) (h2 : a < 9223372036854775808) : IntKind.i64.wrap a = a := by
  unfold IntKind.wrap
  have e1 : IntKind.i64.bits = 64 := rfl
  have e2 : IntKind.i64.signed = true := rfl
  simp only [e1, e2, Bool.true_and]
  split
  · rename_i h
    simp only [ge_iff_le, decide_eq_true_eq] at h
    omega
  · rename_i h
    simp only [ge_iff_le, decide_eq_true_eq] at h
    omega

@[simp] theorem padd_ptr (n b o : Nat) : padd n (.pointer (some ⟨b, o, none⟩)) = some (.pointer (some ⟨b, o + n, none⟩)) := rfl

theorem olen_slice {P : Program} {t e : TypeId} (h : P.underlying t = some (.slice e)) (a : Option Addr) (n c : Nat) : olen P t (.slice a n c) = some (.int .i64 n) := by
  unfold olen; rw [h]; rfl
theorem olen_string {P : Program} {t : TypeId} (h : P.underlying t = some .string) (s : ByteArray) : olen P t (.string s) = some (.int .i64 s.size) := by
  unfold olen; rw [h]; rfl

/-! ### Heaps that grow -/
/-- Nothing lies beyond the heap's end. -/
def WF (H : AHeap) : Prop := ∀ i, H.next ≤ i → H.get i = none
/-- All objects stay as they are. -/
structure Keeps (H H' : AHeap) : Prop where
  next : H.next ≤ H'.next
  get : ∀ i o, H.get i = some o → H'.get i = some o
theorem Keeps.refl (H : AHeap) : Keeps H H := ⟨Nat.le_refl _, fun _ _ h => h⟩
theorem Keeps.trans {a b c : AHeap} (h : Keeps a b) (k : Keeps b c) : Keeps a c := ⟨Nat.le_trans h.next k.next, fun i o e => k.get i o (h.get i o e)⟩
theorem WF.lt {H : AHeap} (h : WF H) {i : Nat} {o : AObj} (e : H.get i = some o) : i < H.next := by
  rcases Nat.lt_or_ge i H.next with h' | h'
  · exact h'
  · rw [h i h'] at e; cases e
theorem WF.push {H : AHeap} (h : WF H) (o : AObj) : WF (H.push o) := fun i hi => by
  simp only [AHeap.next_push] at hi
  rw [AHeap.get_push, if_neg (by omega)]; exact h i (by omega)
theorem Keeps.push {H : AHeap} (h : WF H) (o : AObj) : Keeps H (H.push o) := ⟨by simp, fun i o' e => by rw [AHeap.get_push, if_neg (by have := h.lt e; omega)]; exact e⟩
@[simp] theorem get_push_self (H : AHeap) (o : AObj) : (H.push o).get H.next = some o := by rw [AHeap.get_push, if_pos rfl]

theorem Tr.put_put : ∀ (f : Nat) (t : Tr) (n : Nat) (x y : Option AObj), Tr.put f (Tr.put f t n x) n y = Tr.put f t n y := by
  intro f
  induction f with
  | zero => intro t n x y; simp only [Tr.put_zero]; cases t <;> rfl
  | succ f ih =>
    intro t n x y
    cases n with
    | zero => simp only [Tr.put_succ_zero]; cases t <;> rfl
    | succ k =>
      by_cases hk : k % 2 = 0
      · cases t <;> simp [Tr.put_succ_succ, hk, ih]
      · cases t <;> simp [Tr.put_succ_succ, hk, ih]

/-- What is written over a new object is as if it had been made so. -/
@[simp] theorem put_push (H : AHeap) (o o' : AObj) : (H.push o).put H.next o' = H.push o' := by
  simp only [AHeap.put, AHeap.push, Tr.put_put]

/-! ### Loads and stores -/
theorem oload_one {P : Program} {t : TypeId} {b o : Nat} {H : AHeap} {cs : List Value} {v : Value} (ha : isAggA P t = some false) (hg : (H.get b).bind rdO = some cs) (hv : cs[o]? = some v) : oload P t (.pointer (some ⟨b, o, none⟩)) H = some v := by
  simp only [oload, hg, ha, hv]
theorem oload_agg {P : Program} {t : TypeId} {b o z : Nat} {H : AHeap} {cs : List Value} (ha : isAggA P t = some true) (hs : sizeOfA P t = some z) (hg : (H.get b).bind rdO = some cs) (hl : o + z ≤ cs.length) :
    oload P t (.pointer (some ⟨b, o, none⟩)) H = some (.agg ⟨(cs.drop o).take z⟩) := by
  simp only [oload, hg, ha, hs, hl, if_true]
/-- A whole value over a new object. -/
theorem ostore_new {P : Program} {t e : TypeId} {H : AHeap} {cs : List Value} {v : Value} (hs : sizeOfA P t = some v.cells.toList.length) (hl : v.cells.toList.length = cs.length) (ho : allOne v.cells.toList = true) :
    ostore P t (.pointer (some ⟨H.next, 0, none⟩)) v (H.push (.cells cs e false)) = some ((), H.push (.cells v.cells.toList e false)) := by
  simp only [ostore, hs, if_true, ostoreCells, get_push_self, Nat.zero_add, hl, Nat.le_refl, true_and, ho, put_push]
  simp [over, hl]

/-! ### Slices as lists -/
/-- A slice whose elements, so many cells each, are these. -/
def IsSlice (H : AHeap) (v : Value) (z : Nat) (es : List (List Value)) : Prop :=
  (∀ e ∈ es, e.length = z) ∧ ((es = [] ∧ ∃ a c, v = .slice a 0 c) ∨ ∃ b o s c cs, v = .slice (some ⟨b, o, s⟩) es.length c ∧ (H.get b).bind rdO = some cs ∧ o + es.length * z ≤ cs.length ∧ (cs.drop o).take (es.length * z) = es.flatten)

theorem Keeps.rd {H H' : AHeap} (h : Keeps H H') {b : Nat} {cs : List Value} (e : (H.get b).bind rdO = some cs) : (H'.get b).bind rdO = some cs := by
  cases hg : H.get b with
  | none => rw [hg] at e; cases e
  | some o => rw [hg] at e; rw [h.get b o hg]; exact e

theorem IsSlice.keep {H H' : AHeap} {v : Value} {z : Nat} {es : List (List Value)} (h : IsSlice H v z es) (k : Keeps H H') : IsSlice H' v z es :=
  ⟨h.1, h.2.imp id fun ⟨b, o, s, c, cs, h1, h2, h3, h4⟩ => ⟨b, o, s, c, cs, h1, k.rd h2, h3, h4⟩⟩
theorem IsSlice.form {H : AHeap} {v : Value} {z : Nat} {es : List (List Value)} (h : IsSlice H v z es) : ∃ a c, v = .slice a es.length c := by
  rcases h.2 with ⟨rfl, a, c, rfl⟩ | ⟨b, o, s, c, _, rfl, _⟩
  · exact ⟨a, c, rfl⟩
  · exact ⟨_, c, rfl⟩
theorem IsSlice.one {H : AHeap} {v : Value} {z : Nat} {es : List (List Value)} (h : IsSlice H v z es) : one v = true := by
  obtain ⟨a, c, rfl⟩ := h.form; rfl
theorem IsSlice.len {P : Program} {t e : TypeId} {H : AHeap} {v : Value} {z : Nat} {es : List (List Value)} (ht : P.underlying t = some (.slice e)) (h : IsSlice H v z es) : olen P t v = some (.int .i64 es.length) := by
  obtain ⟨a, c, rfl⟩ := h.form; exact olen_slice ht a _ c

theorem flatten_take {α : Type} {z : Nat} : ∀ {es : List (List α)} {i : Nat} (_ : ∀ e ∈ es, e.length = z) (hi : i < es.length), (es.flatten.drop (i * z)).take z = es[i]
  | [], i, _, hi => by simp at hi
  | e :: es, 0, hz, _ => by
    have : e.length = z := hz e (List.mem_cons_self ..)
    simp [← this]
  | e :: es, i + 1, hz, hi => by
    have h0 : e.length = z := hz e (List.mem_cons_self ..)
    have ih := flatten_take (es := es) (i := i) (fun x hx => hz x (List.mem_cons_of_mem _ hx)) (by simpa using hi)
    rw [List.flatten_cons, List.drop_append, List.drop_eq_nil_of_le (by rw [h0]; rw [Nat.add_mul]; omega), List.nil_append, h0, Nat.add_mul, Nat.one_mul, Nat.add_sub_cancel]
    simpa using ih

/-- An element's place, and what stands there. -/
theorem IsSlice.at {P : Program} {t e : TypeId} {H : AHeap} {v : Value} {z : Nat} {es : List (List Value)} (ht : P.underlying t = some (.slice e)) (hz : sizeOfA P e = some z) (h : IsSlice H v z es) {i : Nat} (hi : i < es.length) :
    ∃ b o cs, oindexAddr P t v (.int .i64 (i : Int)) = some (.pointer (some ⟨b, o, none⟩)) ∧ (H.get b).bind rdO = some cs ∧ o + z ≤ cs.length ∧ (cs.drop o).take z = es[i] := by
  rcases h.2 with ⟨rfl, _⟩ | ⟨b, o, s, c, cs, rfl, h1, h2, h3⟩
  · simp at hi
  · refine ⟨b, o + i * z, cs, ?_, h1, ?_, ?_⟩
    · simp only [oindexAddr, ht, inat]
      rw [if_pos (by omega)]
      simp only [hz, Int.toNat_natCast, hi, if_true]
    · have : i * z + z ≤ es.length * z := by
        have := Nat.mul_le_mul_right z hi
        rw [Nat.succ_mul] at this; exact this
      omega
    · rw [← flatten_take h.1 hi, ← h3, List.drop_take, List.take_take, List.drop_drop]
      have : i * z + z ≤ es.length * z := by
        have := Nat.mul_le_mul_right z hi
        rw [Nat.succ_mul] at this; exact this
      rw [Nat.min_eq_left (by omega)]

end
end Go.Bk
