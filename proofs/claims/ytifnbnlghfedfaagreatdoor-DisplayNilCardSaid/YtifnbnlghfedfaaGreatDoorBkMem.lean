/- WHAT THE ABSTRACT MACHINE SAYS OF MEMORY IS WHAT THE MODEL DOES: heaps that grow, change, lose an object; cells read and written. No condition. -/
import Derived.Test.YtifnbnlghfedfaaGreatDoorBkPure
import Derived.Laws.LoneSync
import Derived.Lib.UnsafeStr
namespace Go.Bk
open Go

section
variable {P : Program} {ρ : Ren} {H : AHeap} {w : World}

theorem Rel.mono_world {w' : World} (R : Rel P ρ H w) (h : ∀ i o l, H.get i = some o → ρ i = some l → w'.heap[l.block]? = w.heap[l.block]?) : Rel P ρ H w' :=
  ⟨R.dom, R.fresh, fun i o e => by
    obtain ⟨l, ob, h1, h2, h3⟩ := R.obj i o e
    exact ⟨l, ob, h1, by rw [h i o l e h1]; exact h2, h3⟩, R.inj, R.glob⟩

theorem Rel.of_heap {w' : World} (R : Rel P ρ H w) (h : w'.heap = w.heap) : Rel P ρ H w' := R.mono_world fun _ _ _ _ _ => by rw [h]

theorem Rel.lies_lt (R : Rel P ρ H w) {b : Nat} (h : Lies ρ H b) : b < w.heap.size := by
  obtain ⟨i, o, l, h1, h2, rfl⟩ := h
  obtain ⟨l', ob, h3, h4, _⟩ := R.obj i o h1
  rw [h2] at h3
  cases h3
  exact (Array.getElem?_eq_some_iff.1 h4).1

theorem Fr.of_heap {w' : World} (h : w'.heap = w.heap) (h1 : w'.os = w.os) (h2 : w'.tape = w.tape) (h3 : w'.output = w.output) : Fr ρ H w ρ H w' :=
  ⟨h1, h2, h3, by rw [h]; exact Nat.le_refl _, Nat.le_refl _, Ext.refl _, fun _ _ => rfl, fun _ _ _ => by rw [h], fun _ h => .inr h⟩

/-- ρ, and one object more. -/
def Ren.add (ρ : Ren) (i : Nat) (l : Loc) : Ren := fun j => if j = i then some l else ρ j

theorem Rel.ext_add (R : Rel P ρ H w) (l : Loc) : Ext ρ (ρ.add H.next l) := fun j l' h => by
  have : j ≠ H.next := fun e => by rw [e, R.dom H.next (Nat.le_refl _)] at h; cases h
  simp [Ren.add, this, h]

@[simp] theorem Ren.add_same (ρ : Ren) (i : Nat) (l : Loc) : ρ.add i l i = some l := by simp [Ren.add]

/-- A new object, in a block in which none lies. -/
theorem Rel.push (R : Rel P ρ H w) {o : AObj} {l : Loc} {ob : Obj} {w' : World} (hw : ∀ i oi li, H.get i = some oi → ρ i = some li → w'.heap[li.block]? = w.heap[li.block]?)
    (hb : w'.heap[l.block]? = some ob) (ho : ObjR P (ρ.add H.next l) l o ob) (hfree : ¬ Lies ρ H l.block) : Rel P (ρ.add H.next l) (H.push o) w' := by
  have he := R.ext_add l
  have hne : ∀ i o', H.get i = some o' → i ≠ H.next := fun i o' h e => by rw [e, R.fresh _ (Nat.le_refl _)] at h; cases h
  refine ⟨fun i hi => ?_, fun i hi => ?_, fun i o' h => ?_, fun i j oi oj li lj h1 h2 h3 h4 h5 h6 => ?_, fun g hg => ?_⟩
  · simp only [AHeap.next_push] at hi
    simp only [Ren.add]; rw [if_neg (by omega)]; exact R.dom i (by omega)
  · simp only [AHeap.next_push] at hi
    rw [AHeap.get_push, if_neg (by omega)]; exact R.fresh i (by omega)
  · rw [AHeap.get_push] at h
    split at h
    · rename_i e; cases h; subst e; exact ⟨l, ob, by simp, hb, ho⟩
    · obtain ⟨l', ob', e1, e2, e3⟩ := R.obj i o' h
      exact ⟨l', ob', he _ _ e1, by rw [hw i o' l' h e1]; exact e2, e3.mono he⟩
  · rw [AHeap.get_push] at h1 h2
    split at h1 <;> split at h2
    · rename_i e1 e2; rw [e1, e2]
    · rename_i e1 e2
      subst e1
      simp only [Ren.add_same, Option.some.injEq] at h3
      obtain ⟨lj', obj', e3, _, _⟩ := R.obj j oj h2
      rw [he _ _ e3] at h4
      cases h4
      subst h3
      exact absurd ⟨j, oj, _, h2, e3, h5.symm⟩ hfree
    · rename_i e1 e2
      subst e2
      simp only [Ren.add_same, Option.some.injEq] at h4
      obtain ⟨li', obj', e3, _, _⟩ := R.obj i oi h1
      rw [he _ _ e3] at h3
      cases h3
      subst h4
      exact absurd ⟨i, oi, _, h1, e3, h5⟩ hfree
    · obtain ⟨li', _, e3, _, _⟩ := R.obj i oi h1
      obtain ⟨lj', _, e4, _, _⟩ := R.obj j oj h2
      rw [he _ _ e3] at h3
      rw [he _ _ e4] at h4
      cases h3; cases h4
      exact R.inj i j oi oj _ _ h1 h2 e3 e4 h5 h6
  · obtain ⟨l', h1, h2⟩ := R.glob g hg
    exact ⟨l', he _ _ h1, h2⟩

/-- A new object in a new block. -/
theorem Rel.alloc (R : Rel P ρ H w) {o : AObj} {l : Loc} {ob : Obj} (hl : l.block = w.heap.size) (ho : ObjR P (ρ.add H.next l) l o ob) :
    Rel P (ρ.add H.next l) (H.push o) (w.alloc ob) ∧ Fr ρ H w (ρ.add H.next l) (H.push o) (w.alloc ob) := by
  have hfree : ¬ Lies ρ H l.block := fun h => by have := R.lies_lt h; omega
  have hold : ∀ b, b < w.heap.size → (w.alloc ob).heap[b]? = w.heap[b]? := fun b hb => Go.RowKit.Below.heap_alloc w ob b hb
  refine ⟨R.push (fun i oi li h1 h2 => hold _ (R.lies_lt ⟨i, oi, li, h1, h2, rfl⟩)) (by rw [hl]; show (w.heap.push ob)[w.heap.size]? = _; simp) ho hfree, ?_⟩
  refine ⟨rfl, rfl, rfl, by simp, by simp, R.ext_add l, fun i hi => by simp only [Ren.add]; rw [if_neg (by omega)], fun b hb _ => hold b hb, ?_⟩
  rintro b ⟨i, o', l', h1, h2, rfl⟩
  rw [AHeap.get_push] at h1
  split at h1
  · rename_i e
    subst e
    simp only [Ren.add_same, Option.some.injEq] at h2
    subst h2
    exact .inl (by omega)
  · rename_i e
    simp only [Ren.add, e, if_false] at h2
    exact .inr ⟨i, o', l', h1, h2, rfl⟩

/-- An object is given away. -/
theorem Rel.del (R : Rel P ρ H w) (i : Nat) : Rel P ρ (H.del i) w ∧ Fr ρ H w ρ (H.del i) w := by
  have hsub : ∀ j o, (H.del i).get j = some o → H.get j = some o ∧ j ≠ i := fun j o h => by
    rw [AHeap.get_del] at h; split at h <;> simp_all
  refine ⟨⟨R.dom, fun j hj => ?_, fun j o h => R.obj j o (hsub j o h).1, fun a b oa ob la lb h1 h2 => R.inj a b oa ob la lb (hsub _ _ h1).1 (hsub _ _ h2).1, R.glob⟩, ?_⟩
  · rw [AHeap.get_del]; split
    · rfl
    · exact R.fresh j hj
  · refine ⟨rfl, rfl, rfl, Nat.le_refl _, Nat.le_refl _, Ext.refl _, fun _ _ => rfl, fun _ _ _ => rfl, ?_⟩
    rintro b ⟨j, o, l, h1, h2, h3⟩
    exact .inr ⟨j, o, l, (hsub _ _ h1).1, h2, h3⟩

theorem Rel.not_lies_del (R : Rel P ρ H w) {i : Nat} {o : AObj} {l : Loc} (hi : H.get i = some o) (hl : ρ i = some l) (hv : isV o = false := by rfl) : ¬ Lies ρ (H.del i) l.block := by
  rintro ⟨j, oj, lj, h1, h2, h3⟩
  rw [AHeap.get_del] at h1
  split at h1
  · cases h1
  · rename_i hne
    exact hne (R.inj j i oj o lj l h1 hi h2 hl h3 (by rw [hv, Bool.and_false]))

/-- The worlds are the same but for a block that is there. -/
structure But (w w' : World) (b : Nat) : Prop where
  os : w'.os = w.os
  tape : w'.tape = w.tape
  output : w'.output = w.output
  size : w'.heap.size = w.heap.size
  other : ∀ k, k ≠ b → w'.heap[k]? = w.heap[k]?

theorem But.refl (w : World) (b : Nat) : But w w b := ⟨rfl, rfl, rfl, rfl, fun _ _ => rfl⟩
theorem But.trans {a b c : World} {k : Nat} (h : But a b k) (g : But b c k) : But a c k :=
  ⟨g.os.trans h.os, g.tape.trans h.tape, g.output.trans h.output, g.size.trans h.size, fun j hj => (g.other j hj).trans (h.other j hj)⟩
theorem But.setCell (w : World) (a : Addr) (v : Value) : But w (w.setCell a v) a.block :=
  ⟨rfl, rfl, rfl, by simp, fun k hk => Go.RowKit.Below.heap_setCell w a v k hk⟩

/-- An object changes. -/
theorem Rel.put (R : Rel P ρ H w) {i : Nat} {o o' : AObj} {l : Loc} {ob : Obj} {w' : World} (hi : H.get i = some o) (hl : ρ i = some l) (hbut : But w w' l.block)
    (hb : w'.heap[l.block]? = some ob) (ho : ObjR P ρ l o' ob) (hv : isV o = false := by rfl) : Rel P ρ (H.put i o') w' ∧ Fr ρ H w ρ (H.put i o') w' := by
  have hlt : i < H.next := by
    rcases Nat.lt_or_ge i H.next with h | h
    · exact h
    · rw [R.fresh i h] at hi; cases hi
  refine ⟨⟨R.dom, fun j hj => ?_, fun j oj h => ?_, fun a b oa ob' la lb h1 h2 h3 h4 h5 h6 => ?_, R.glob⟩, ?_⟩
  · simp only [AHeap.next_put] at hj
    rw [AHeap.get_put, if_neg (by omega)]; exact R.fresh j hj
  · rw [AHeap.get_put] at h
    split at h
    · rename_i e; cases h; subst e; exact ⟨l, ob, hl, hb, ho⟩
    · rename_i e
      obtain ⟨lj, obj, e1, e2, e3⟩ := R.obj j oj h
      refine ⟨lj, obj, e1, ?_, e3⟩
      rw [hbut.other _ (fun hh => e (R.inj j i oj o lj l h hi e1 hl hh (by rw [hv, Bool.and_false])))]; exact e2
  · rw [AHeap.get_put] at h1 h2
    have g1 : ∃ o1, H.get a = some o1 ∧ (isV oa = false → isV o1 = false) := by
      split at h1
      · rename_i e; exact ⟨o, by rw [e]; exact hi, fun _ => hv⟩
      · exact ⟨oa, h1, id⟩
    have g2 : ∃ o1, H.get b = some o1 ∧ (isV ob' = false → isV o1 = false) := by
      split at h2
      · rename_i e; exact ⟨o, by rw [e]; exact hi, fun _ => hv⟩
      · exact ⟨ob', h2, id⟩
    obtain ⟨o1, g1, k1⟩ := g1
    obtain ⟨o2, g2, k2⟩ := g2
    exact R.inj a b o1 o2 la lb g1 g2 h3 h4 h5 (by
      rw [Bool.and_eq_false_iff] at h6 ⊢
      exact h6.imp k1 k2)
  · refine ⟨hbut.os, hbut.tape, hbut.output, by rw [hbut.size]; exact Nat.le_refl _, by simp, Ext.refl _, fun _ _ => rfl, fun b hb' hn => ?_, ?_⟩
    · exact hbut.other b (fun e => hn ⟨i, o, l, hi, hl, e.symm⟩)
    · rintro b ⟨j, oj, lj, h1, h2, h3⟩
      rw [AHeap.get_put] at h1
      split at h1
      · rename_i e; subst e; rw [hl] at h2; cases h2; exact .inr ⟨_, o, l, hi, hl, h3⟩
      · exact .inr ⟨j, oj, lj, h1, h2, h3⟩

/-! ### Cells -/
theorem cell?_of {w : World} {b o : Nat} {C : Array Value} {e : TypeId} {fr : Nat × Nat} (h : w.heap[b]? = some (.cells C e fr)) : w.cell? ⟨b, o, none⟩ = C[o]? := by
  simp [World.cell?, h]
theorem frozen?_of {w : World} {b o : Nat} {C : Array Value} {e : TypeId} (h : w.heap[b]? = some (.cells C e (0, 0))) : w.frozen? ⟨b, o, none⟩ = false := by
  simp [World.frozen?, h]

/-- What is known of an object of cells. -/
theorem Rel.cells (R : Rel P ρ H w) {b : Nat} {cs : List Value} {e : TypeId} {p : Bool} (h : H.get b = some (.cells cs e p)) :
    ∃ l C, ρ b = some l ∧ w.heap[l.block]? = some (.cells C e (0, 0)) ∧ ObjR P ρ l (.cells cs e p) (.cells C e (0, 0)) ∧ l.base + cs.length ≤ C.size ∧
      (∀ (k : Nat) v, cs[k]? = some v → ∃ v', C[l.base + k]? = some v' ∧ VR ρ v v') := by
  obtain ⟨l, ob, h1, h2, h3⟩ := R.obj b _ h
  cases h3 with
  | shut hb hc =>
    rename_i C
    refine ⟨l, C, h1, h2, .shut hb hc, ?_, fun k v hk => ?_⟩
    · rw [hb]; have := hc.length; simp at this; omega
    · obtain ⟨v', e1, r⟩ := hc.get hk
      exact ⟨v', by simpa [hb] using e1, r⟩
  | opn hs hz hl hL hc => exact ⟨l, _, h1, h2, .opn hs hz hl hL hc, by omega, hc⟩

/-- What is known of cells that may be read. -/
theorem Rel.reads (R : Rel P ρ H w) {b : Nat} {cs : List Value} (h : (H.get b).bind rdO = some cs) :
    ∃ l C e fr, ρ b = some l ∧ w.heap[l.block]? = some (.cells C e fr) ∧ l.base + cs.length ≤ C.size ∧
      (∀ (k : Nat) v, cs[k]? = some v → ∃ v', C[l.base + k]? = some v' ∧ VR ρ v v') := by
  cases hg : H.get b with
  | none => rw [hg] at h; cases h
  | some o =>
    rw [hg, Option.bind_some] at h
    cases o <;> simp only [rdO, Option.some.injEq, reduceCtorEq] at h
    · subst h
      obtain ⟨l, C, h1, h2, _, h4, h5⟩ := R.cells hg
      exact ⟨l, C, _, _, h1, h2, h4, h5⟩
    · subst h
      obtain ⟨l, ob, h1, h2, h3⟩ := R.obj b _ hg
      cases h3 with
      | view hl hc => exact ⟨l, _, _, _, h1, h2, hl, hc⟩

/-- Some cells of it, as a list. -/
theorem cells_list {cs : List Value} {C : Array Value} {base o n : Nat} (hs : base + cs.length ≤ C.size)
    (hc : ∀ (k : Nat) v, cs[k]? = some v → ∃ v', C[base + k]? = some v' ∧ VR ρ v v') (hn : o + n ≤ cs.length) :
    VRs ρ ((cs.drop o).take n) ((C.toList.drop (base + o)).take n) ∧ ((C.toList.drop (base + o)).take n).length = n := by
  refine ⟨.of_get ?_ fun k v hk => ?_, ?_⟩
  · simp; omega
  · rw [List.getElem?_take] at hk ⊢
    split at hk
    · rename_i hlt
      rw [List.getElem?_drop] at hk ⊢
      rw [if_pos hlt]
      obtain ⟨v', e, r⟩ := hc _ v hk
      exact ⟨v', by rw [← e, Nat.add_assoc]; simp, r⟩
    · cases hk
  · simp; omega

theorem loadCellsFrom_run (b o : Nat) : ∀ (vs : List Value) (i : Nat) (acc : Array Value), (∀ (k : Nat) v, vs[k]? = some v → w.cell? ⟨b, o + i + k, none⟩ = some v) →
    (loadCellsFrom ⟨b, o, none⟩ i vs.length acc).run P w = .ok ⟨acc.toList ++ vs⟩ w
  | [], i, acc, _ => by simp [loadCellsFrom]
  | v :: vs, i, acc, h => by
    have h0 : w.cell? ⟨b, o + i, none⟩ = some v := h 0 v rfl
    have ih := loadCellsFrom_run b o vs (i + 1) (acc.push v) (fun k u hk => by
      have := h (k + 1) u (by simpa using hk)
      rw [show o + (i + 1) + k = o + i + (k + 1) by omega]; exact this)
    have h1 : (load (⟨b, o + i, none⟩ : Addr)).run P w = .ok v w := by simp [load, Sem.run, h0]
    rw [List.length_cons, loadCellsFrom, Sem.run_bind, addr_add, h1, Result.andThen_ok, ih]
    simp

theorem loadCells_run {b o n : Nat} {vs : List Value} (hn : vs.length = n) (h : ∀ (k : Nat) v, vs[k]? = some v → w.cell? ⟨b, o + k, none⟩ = some v) :
    (loadCells ⟨b, o, none⟩ n).run P w = .ok ⟨vs⟩ w := by
  subst hn
  have := loadCellsFrom_run (P := P) (w := w) b o vs 0 #[] (by simpa using h)
  simpa [loadCells] using this

/-- Some cells of an object are read. -/
theorem loadCells_obj' (R : Rel P ρ H w) {b : Nat} {cs : List Value} {l : Loc} (h : (H.get b).bind rdO = some cs) (hl : ρ b = some l) {o n : Nat} (hn : o + n ≤ cs.length) :
    ∃ vs, (∀ w' : World, w'.heap = w.heap → (loadCells ⟨l.block, l.base + o, none⟩ n).run P w' = .ok ⟨vs⟩ w') ∧ VRs ρ ((cs.drop o).take n) vs := by
  obtain ⟨l', C, _, _, h1, h2, h4, h5⟩ := R.reads h
  rw [hl] at h1; cases h1
  obtain ⟨r1, r2⟩ := cells_list h4 h5 hn
  refine ⟨_, fun w' hw => loadCells_run r2 fun k v hk => ?_, r1⟩
  rw [cell?_of (by rw [hw]; exact h2)]
  rw [List.getElem?_take] at hk
  split at hk
  · rw [List.getElem?_drop] at hk; simpa using hk
  · cases hk

theorem loadCells_obj (R : Rel P ρ H w) {b : Nat} {cs : List Value} {l : Loc} (h : (H.get b).bind rdO = some cs) (hl : ρ b = some l) {o n : Nat} (hn : o + n ≤ cs.length) :
    ∃ vs, (loadCells ⟨l.block, l.base + o, none⟩ n).run P w = .ok ⟨vs⟩ w ∧ VRs ρ ((cs.drop o).take n) vs :=
  let ⟨vs, e, r⟩ := loadCells_obj' R h hl hn
  ⟨vs, e w rfl, r⟩

theorem load_sound (R : Rel P ρ H w) {t : TypeId} {p p' v : Value} (hp : VR ρ p p') (h : oload P t p H = some v) :
    ∃ v', (Instr.loadAt t p').run P w = .ok v' w ∧ VR ρ v v' := by
  unfold oload at h
  cases hp <;> simp only at h <;> try (cases h; done)
  rename_i b o l hl
  cases hb : (H.get b).bind rdO with
  | none => simp [hb] at h
  | some cs =>
    cases ha : isAggA P t with
    | none => simp [hb, ha] at h
    | some g =>
      cases g with
      | true =>
        simp only [hb, ha] at h
        cases hs : sizeOfA P t with
        | none => simp [hs] at h
        | some n =>
          simp only [hs] at h
          split at h
          · rename_i hle
            cases h
            obtain ⟨vs, e1, r⟩ := loadCells_obj R hb hl hle
            exact ⟨.agg ⟨vs⟩, by simp [Instr.loadAt, Instr.sureAddr, loadVar, run_isAgg ha, run_sizeOf hs, e1], .agg r⟩
          · cases h
      | false =>
        simp only [hb, ha] at h
        obtain ⟨l', C, _, _, h1, h2, h4, h5⟩ := R.reads hb
        rw [hl] at h1; cases h1
        obtain ⟨v', e1, r⟩ := h5 o v h
        refine ⟨v', ?_, r⟩
        have h0 : w.cell? ⟨l.block, l.base + o, none⟩ = some v' := by rw [cell?_of h2]; exact e1
        have h1 : (load (⟨l.block, l.base + o, none⟩ : Addr)).run P w = .ok v' w := by simp [load, Sem.run, h0]
        simp only [Instr.loadAt, Instr.sureAddr, loadVar, Sem.run_bind, run_isAgg ha, Result.andThen_ok]
        exact h1

/-! ### Stores -/
theorem run_store_one {w : World} {b o : Nat} {v v0 : Value} {C : Array Value} {e : TypeId} (h : w.heap[b]? = some (.cells C e (0, 0))) (hc : C[o]? = some v0) (hv : one v = true) :
    (store (⟨b, o, none⟩ : Addr) v).run P w = .ok () (w.setCell ⟨b, o, none⟩ v) := by
  have h0 : w.cell? ⟨b, o, none⟩ = some v0 := by rw [cell?_of h]; exact hc
  have h1 : w.frozen? ⟨b, o, none⟩ = false := frozen?_of h
  cases v <;> simp_all [store, Sem.run, one]

theorem heap_setCell_same {w : World} {b o : Nat} {v : Value} {C : Array Value} {e : TypeId} {fr : Nat × Nat} (h : w.heap[b]? = some (.cells C e fr)) :
    (w.setCell ⟨b, o, none⟩ v).heap[b]? = some (.cells (C.setIfInBounds o v) e fr) := by
  simp [World.setCell, Array.getElem?_modify, h]

theorem storeCells_run {b o : Nat} {e : TypeId} : ∀ (vs : List Value) (i : Nat) (w : World) (C : Array Value), w.heap[b]? = some (.cells C e (0, 0)) → o + i + vs.length ≤ C.size → allOne vs = true →
    ∃ w' C', (storeCells ⟨b, o, none⟩ vs i).run P w = .ok () w' ∧ But w w' b ∧ w'.heap[b]? = some (.cells C' e (0, 0)) ∧ C'.toList = over C.toList (o + i) vs
  | [], i, w, C, h, hs, _ => ⟨w, C, by simp [storeCells], .refl _ _, h, by simp [over]⟩
  | v :: vs, i, w, C, h, hs, ho => by
    simp only [List.length_cons] at hs
    simp only [allOne, Bool.and_eq_true] at ho
    have h0 : C[o + i]? = some C[o + i] := by simp
    have h1 := run_store_one (P := P) h h0 ho.1
    obtain ⟨w', C', e1, e2, e3, e4⟩ := storeCells_run (o := o) vs (i + 1) (w.setCell ⟨b, o + i, none⟩ v) _ (heap_setCell_same (o := o + i) (v := v) h) (by simp; omega) ho.2
    refine ⟨w', C', ?_, (But.setCell w ⟨b, o + i, none⟩ v).trans e2, e3, ?_⟩
    · rw [storeCells, Sem.run_bind, addr_add, h1, Result.andThen_ok]; exact e1
    · rw [e4, Array.toList_setIfInBounds]
      simp only [over, List.length_cons]
      have h1 : (C.toList.set (o + i) v).take (o + (i + 1)) = C.toList.take (o + i) ++ [v] := by
        have hlt : o + i < C.toList.length := by simp; omega
        rw [List.take_set, show o + (i + 1) = (o + i) + 1 from rfl, List.take_succ_eq_append_getElem hlt, List.set_append_right _ _ (by simp; omega)]
        simp [Nat.min_eq_left (show o + i ≤ C.size by omega)]
      have h2 : (C.toList.set (o + i) v).drop (o + (i + 1) + vs.length) = C.toList.drop (o + i + (vs.length + 1)) := by
        rw [List.drop_set_of_lt (by omega)]
        congr 1; omega
      rw [h1, h2]
      simp

theorem over_length {cs vs : List Value} {o : Nat} (h : o + vs.length ≤ cs.length) : (over cs o vs).length = cs.length := by simp [over]; omega

theorem over_get {cs vs : List Value} {o k : Nat} (h : o + vs.length ≤ cs.length) : (over cs o vs)[k]? = if k < o then cs[k]? else if k < o + vs.length then vs[k - o]? else cs[k]? := by
  unfold over
  by_cases h1 : k < o
  · rw [if_pos h1, List.append_assoc, List.getElem?_append_left (by simp; omega), List.getElem?_take, if_pos h1]
  · rw [if_neg h1]
    by_cases h2 : k < o + vs.length
    · rw [if_pos h2, List.append_assoc, List.getElem?_append_right (by simp; omega), List.getElem?_append_left (by simp; omega)]
      congr 1; simp; omega
    · rw [if_neg h2, List.getElem?_append_right (by simp; omega), List.getElem?_drop]
      congr 1; simp; omega

/-- Cells are written into an object. -/
theorem storeCells_sound (R : Rel P ρ H w) {b o : Nat} {l : Loc} {vs vs' : List Value} {H' : AHeap} (hl : ρ b = some l) (hv : VRs ρ vs vs') (h : ostoreCells b o vs H = some ((), H')) :
    ∃ w', (storeCells ⟨l.block, l.base + o, none⟩ vs').run P w = .ok () w' ∧ Rel P ρ H' w' ∧ Fr ρ H w ρ H' w' := by
  unfold ostoreCells at h
  cases hb : H.get b with
  | none => simp [hb] at h
  | some ob =>
    cases ob <;> simp only [hb] at h <;> try (cases h; done)
    rename_i cs e q
    split at h
    · rename_i hc
      cases h
      obtain ⟨l', C, h1, h2, h3, h4, h5⟩ := R.cells hb
      rw [hl] at h1; cases h1
      have hlen := hv.length
      obtain ⟨w', C', e1, e2, e3, e4⟩ := storeCells_run (P := P) (o := l.base + o) vs' 0 w C h2 (by omega) (by rw [hv.allOne]; exact hc.2)
      rw [Nat.add_zero] at e4
      have hsize : C'.size = C.size := by
        have := congrArg List.length e4
        rw [over_length (by simp; omega)] at this
        simpa using this
      have hget : ∀ (k : Nat) v, (over cs o vs)[k]? = some v → ∃ v', C'[l.base + k]? = some v' ∧ VR ρ v v' := by
        intro k v hk
        rw [over_get hc.1] at hk
        have hC : C'[l.base + k]? = (over C.toList (l.base + o) vs')[l.base + k]? := by rw [← e4]; simp
        rw [hC, over_get (by simp; omega)]
        by_cases g1 : k < o
        · rw [if_pos g1] at hk
          rw [if_pos (by omega)]
          simpa using h5 k v hk
        · rw [if_neg g1] at hk
          rw [if_neg (by omega)]
          by_cases g2 : k < o + vs.length
          · rw [if_pos g2] at hk
            rw [if_pos (by omega)]
            obtain ⟨v', e5, r⟩ := hv.get hk
            exact ⟨v', by rw [← e5]; congr 1; omega, r⟩
          · rw [if_neg g2] at hk
            rw [if_neg (by omega)]
            simpa using h5 k v hk
      have hob : ObjR P ρ l (.cells (over cs o vs) e q) (.cells C' e (0, 0)) := by
        cases h3 with
        | shut hb0 hcs =>
          refine .shut hb0 (.of_get ?_ fun k v hk => ?_)
          · rw [over_length hc.1]
            have := hcs.length
            simp at this ⊢; omega
          · obtain ⟨v', e5, r⟩ := hget k v hk
            exact ⟨v', by simpa [hb0] using e5, r⟩
        | opn hs hz hlm hL hcs => exact .opn hs hz (by rw [over_length hc.1]; exact hlm) (by omega) hget
      obtain ⟨R', F⟩ := R.put hb hl e2 e3 hob
      exact ⟨w', e1, R', F⟩
    · cases h

theorem store_sound (R : Rel P ρ H w) {t : TypeId} {p p' v v' : Value} {H' : AHeap} (hp : VR ρ p p') (hv : VR ρ v v') (h : ostore P t p v H = some ((), H')) :
    ∃ w', (Instr.storeAt t p' v').run P w = .ok () w' ∧ Rel P ρ H' w' ∧ Fr ρ H w ρ H' w' := by
  unfold ostore at h
  cases hp <;> simp only at h <;> try (cases h; done)
  rename_i b o l hl
  split at h
  · rename_i hs
    obtain ⟨w', e, R', F⟩ := storeCells_sound R hl hv.cells h
    refine ⟨w', ?_, R', F⟩
    have hlen : v'.cells.size = v.cells.toList.length := by have := hv.cells.length; simpa using this
    simp [Instr.storeAt, Instr.sureAddr, storeVar, run_sizeOf hs, hlen]
    simpa using e
  · cases h

/-! ### What makes an object -/
/-- What a step of the abstract machine is worth: the model takes one that stands for it. -/
def Does (P : Program) (ρ : Ren) (H : AHeap) (w : World) (v : Value) (H' : AHeap) (r : Result Value) : Prop :=
  ∃ v' w' ρ', r = .ok v' w' ∧ VR ρ' v v' ∧ Rel P ρ' H' w' ∧ Fr ρ H w ρ' H' w'

theorem Fr.base {ρ' : Ren} {H' : AHeap} {w' : World} (h : Fr ρ H w ρ' H' w') : Ext ρ ρ' := h.ext

theorem Does.new (R : Rel P ρ H w) {cs : List Value} {C : Array Value} {e : TypeId} (hc : VRs ρ cs C.toList) :
    ∃ ρ', ρ' H.next = some ⟨w.heap.size, 0, 0, 0⟩ ∧ Rel P ρ' (H.push (.cells cs e false)) (w.alloc (.cells C e)) ∧ Fr ρ H w ρ' (H.push (.cells cs e false)) (w.alloc (.cells C e)) := by
  have he := R.ext_add ⟨w.heap.size, 0, 0, 0⟩
  obtain ⟨R', F⟩ := R.alloc (l := ⟨w.heap.size, 0, 0, 0⟩) rfl (.shut rfl (hc.mono he))
  exact ⟨_, Ren.add_same _ _ _, R', F⟩

theorem elemA_spec {t e : TypeId} (h : elemA P t = some e) : P.underlying t = some (.slice e) := by
  unfold elemA at h
  cases hd : P.underlying t with
  | none => simp [hd] at h
  | some d => cases d <;> simp [hd] at h; rw [h]

theorem zeros_length (z : List Value) : ∀ n, (zeros z n).length = n * z.length
  | 0 => by simp [zeros]
  | n + 1 => by simp [zeros, zeros_length z n, Nat.add_mul]; omega

theorem zeros_get (z : List Value) : ∀ (n i : Nat), i < n * z.length → (zeros z n)[i]? = z[i % z.length]?
  | 0, i, h => by simp at h
  | n + 1, i, h => by
    have hz : 0 < z.length := by
      rcases Nat.eq_zero_or_pos z.length with h0 | h0
      · simp [h0] at h
      · exact h0
    simp only [zeros]
    by_cases hi : i < z.length
    · rw [List.getElem?_append_left hi, Nat.mod_eq_of_lt hi]
    · have h1 : i - z.length < n * z.length := by rw [Nat.add_mul] at h; omega
      rw [List.getElem?_append_right (by omega), zeros_get z n (i - z.length) h1]
      congr 1
      conv => rhs; rw [Nat.mod_eq_sub_mod (show i ≥ z.length by omega)]

theorem range_zeros (z : Array Value) (n : Nat) : (Array.range (n * z.size)).map (fun i => z[i % z.size]!) = ⟨zeros z.toList n⟩ := by
  apply Array.toList_inj.1
  apply List.ext_getElem?
  intro i
  simp only [Array.toList_map, List.getElem?_map, Array.toList_range]
  by_cases hi : i < n * z.size
  · have hz : 0 < z.size := by
      rcases Nat.eq_zero_or_pos z.size with h0 | h0
      · simp [h0] at hi
      · exact h0
    rw [zeros_get _ _ _ (by simpa using hi), List.getElem?_range hi]
    have hm : i % z.size < z.size := Nat.mod_lt _ hz
    simp [hm]
  · rw [List.getElem?_eq_none (by simpa using hi), List.getElem?_eq_none (by rw [zeros_length]; simpa using hi)]
    rfl

theorem buildSlice_run {t e : TypeId} {n z : Nat} {zv : Value} {parts parts' : List (Nat × Value)} {cs : List Value} (hp : PR ρ parts parts') (he : elemA P t = some e) (hs : sizeOfA P e = some z)
    (hz : zeroA P e = some zv) (hzl : z = zv.cells.toList.length) (hz0 : 0 < z) (hle : n * z ≤ 2 ^ 24) (hfl : ifill (fun i => some (i * z, z)) (zeros zv.cells.toList n) parts = some cs) :
    ∃ C, VRs ρ cs C.toList ∧ ∀ w, (Instr.buildSlice t n ⟨parts'⟩).run P w = .ok (.slice (some ⟨w.heap.size, 0, none⟩) n n) (w.alloc (.cells C e)) := by
  have hd := elemA_spec he
  have hf := (zeroA_spec (w := default) hz).1
  have hzs : zv.cells.size = z := by simpa using hzl.symm
  obtain ⟨C, e1, r⟩ := fill_sound (cells' := ⟨zeros zv.cells.toList n⟩) hp (VRs.zeros (flats_cells hf) n) hfl
  refine ⟨C, r, fun w => ?_⟩
  have hr := (zeroA_spec (w := w) hz).2
  have hcells : Instr.fill (fun i => some (i * z, z)) ((Array.range (n * z)).map fun i => (if n * z = 0 then #[] else zv.cells)[i % (if n * z = 0 then #[] else zv.cells).size]!) parts' = some C := by
    rw [← e1]
    congr 1
    by_cases h0 : n * z = 0
    · have : n = 0 := by
        rcases Nat.mul_eq_zero.1 h0 with h | h
        · exact h
        · omega
      subst this
      simp [zeros]
    · rw [if_neg h0, ← hzs]; exact range_zeros _ _
  have hle' : ¬ (n * z > 2 ^ 24) := by omega
  by_cases h0 : n * z = 0
  · rw [if_pos h0] at hcells
    simp only [Instr.buildSlice, Sem.run_bind, run_underlying hd, Result.andThen_ok, run_sizeOf hs, Sem.run_ite, h0, if_true, Sem.run_pure] at hcells ⊢
    simp only [hcells]
    simp [newRow]
  · rw [if_neg h0] at hcells
    simp only [Instr.buildSlice, Sem.run_bind, run_underlying hd, Result.andThen_ok, run_sizeOf hs, Sem.run_ite, hle', if_false, h0, hr, Sem.run_pure] at hcells ⊢
    simp only [hcells]
    simp [newRow]

/-- **An operation that makes an object**: its cells, and the value of its name. -/
theorem mk_sound {τ : Env} {a : Act} {o : Oper} {f : Nat → Value} {cs : List Value} {e : TypeId} (ht : TR ρ τ a.tmps) (hg : ∀ g, g < P.globals.size → ∃ l, ρ g = some l ∧ l.block = g ∧ l.base = 0)
    (h : mk P τ o.op = some (f, cs, e)) : ∃ (C : Array Value) (fc : Nat → Value), VRs ρ cs C.toList ∧ (∀ w, (execOp a.eval o).run P w = .ok (.value (fc w.heap.size)) (w.alloc (.cells C e))) ∧
      ∀ (ρ' : Ren) (i : Nat) (l : Loc), ρ' i = some l → l.base = 0 → VR ρ' (f i) (fc l.block) := by
  obtain ⟨dst, op, type, pos, after, guard⟩ := o
  cases op <;> simp only [mk] at h <;> try (cases h; done)
  case alloc t =>
    cases hz : zeroA P t with
    | none => simp [hz] at h
    | some z =>
      simp only [hz, Option.some.injEq, Prod.mk.injEq] at h
      obtain ⟨rfl, rfl, rfl⟩ := h
      have hf := (zeroA_spec (w := default) hz).1
      refine ⟨z.cells, fun b => .pointer (some ⟨b, 0, none⟩), .of_flats (flats_cells hf), fun w => ?_, fun ρ' i l hl hb => ?_⟩
      · have hr := (zeroA_spec (w := w) hz).2
        simp [execOp, Instr.alloc, hr, newVar, newRow]
      · have := VR.ptr (o := 0) hl; rw [hb] at this; exact this
  case box t x =>
    cases hx : ask P τ x with
    | none => simp [hx] at h
    | some u =>
      simp only [hx, Option.some.injEq, Prod.mk.injEq] at h
      obtain ⟨rfl, rfl, rfl⟩ := h
      refine ⟨(a.eval x).cells, fun b => .pointer (some ⟨b, 0, none⟩), (ask_sound ht hg hx).cells, fun w => ?_, fun ρ' i l hl hb => ?_⟩
      · simp [execOp, Instr.box, newVar, newRow]
      · have := VR.ptr (o := 0) hl; rw [hb] at this; exact this
  case buildSlice t n ps =>
    cases hp : asksP P τ ps.toList with
    | none => simp [hp] at h
    | some parts =>
      cases he : elemA P t with
      | none => simp [hp, he] at h
      | some e0 =>
        simp only [hp, he] at h
        cases hs : sizeOfA P e0 with
        | none => simp [hs] at h
        | some z =>
          cases hz : zeroA P e0 with
          | none => simp [hs, hz] at h
          | some zv =>
            simp only [hs, hz] at h
            split at h
            · rename_i hc
              cases hfl : ifill (fun i => some (i * z, z)) (zeros zv.cells.toList n) parts with
              | none => simp [hfl] at h
              | some cs0 =>
                simp only [hfl, Option.some.injEq, Prod.mk.injEq] at h
                obtain ⟨rfl, rfl, rfl⟩ := h
                obtain ⟨C, r, hrun⟩ := buildSlice_run (asksP_sound ht hg hp) he hs hz hc.1 hc.2.1 hc.2.2 hfl
                have e1 : (ps.map fun (i, x) => (i, a.eval x)) = ⟨ps.toList.map fun p => (p.1, a.eval p.2)⟩ := by apply Array.toList_inj.1; simp
                have e2 : execOp a.eval ⟨dst, .buildSlice t n ps, type, pos, after, guard⟩ = (do pure (Next.value (← Instr.buildSlice t n ⟨ps.toList.map fun p => (p.1, a.eval p.2)⟩)) : Sem Next) := by
                  rw [← e1]; rfl
                refine ⟨C, fun b => .slice (some ⟨b, 0, none⟩) n n, r, fun w => ?_, fun ρ' i l hl hb => ?_⟩
                · rw [e2]; simp [hrun]
                · have := VR.sliceK (o := 0) (n := n) (c := n) hl; rw [hb] at this; exact this
            · cases h

/-! ### append -/
theorem wrap_small {n : Int} (h0 : 0 ≤ n) (h : n < 2 ^ 62) : IntKind.i64.wrap n = n := by
  have h1 : n % (2 ^ 64 : Int) = n := Int.emod_eq_of_lt h0 (by omega)
  simp only [IntKind.wrap, IntKind.bits, IntKind.signed, h1]
  rw [if_neg (by simp; omega)]

theorem cellsOf_sound (R : Rel P ρ H w) {z n : Nat} {x x' : Value} {cs : List Value} (hx : VR ρ x x') (hn : lenA x = some n) (h : cellsOf H z x = some cs) :
    ∃ vs, (∀ w' : World, w'.heap = w.heap → (Builtin.firstCells z n x').run P w' = .ok ⟨vs⟩ w') ∧ VRs ρ cs vs ∧ (Builtin.lenOf x').run P w = .ok n w := by
  have h0 : ∀ (a : Addr) (w : World), (loadCells a (0 * z)).run P w = .ok ⟨[]⟩ w := fun a w => by simp [loadCells, loadCellsFrom]
  cases hx <;> simp only [lenA, Option.some.injEq, reduceCtorEq] at hn <;> subst hn
  case string s =>
    simp only [cellsOf, Option.some.injEq] at h
    subst h
    refine ⟨s.data.toList.map fun c => .int .u8 c.toNat, fun w' _ => ?_, .of_flats ?_, by simp [Builtin.lenOf]⟩
    · have : (s.extract 0 s.size) = s := by simp
      simp only [Builtin.firstCells, this, Sem.run_pure]
      congr 1
      apply Array.toList_inj.1
      simp
    · generalize s.data.toList = l
      induction l with
      | nil => rfl
      | cons a l ih => simp [flats, flat, ih]
  case nilslice =>
    simp only [cellsOf, Option.some.injEq] at h
    subst h
    exact ⟨[], fun w' _ => by simp [Builtin.firstCells], .nil, by simp [Builtin.lenOf]⟩
  case ghost a c =>
    simp only [cellsOf, Option.some.injEq] at h
    subst h
    refine ⟨[], fun w' _ => ?_, .nil, by simp [Builtin.lenOf]⟩
    cases a with
    | none => simp [Builtin.firstCells]
    | some a => simp only [Builtin.firstCells]; exact h0 a w'
  case sliceK i o m c l hl =>
    cases m with
    | zero =>
      simp only [cellsOf, Option.some.injEq] at h
      subst h
      exact ⟨[], fun w' _ => by simp only [Builtin.firstCells]; exact h0 _ w', .nil, by simp [Builtin.lenOf]⟩
    | succ m =>
      simp only [cellsOf] at h
      cases hb : (H.get i).bind rdO with
      | none => simp [hb] at h
      | some cs0 =>
        simp only [hb] at h
        split at h
        · rename_i hle
          cases h
          obtain ⟨vs, e1, r⟩ := loadCells_obj' R hb hl hle
          exact ⟨vs, fun w' hw => by simp only [Builtin.firstCells]; exact e1 w' hw, r, by simp [Builtin.lenOf]⟩
        · cases h
  case sliceT i o m c z0 l hl hz hm hc =>
    cases m with
    | zero =>
      simp only [cellsOf, Option.some.injEq] at h
      subst h
      exact ⟨[], fun w' _ => by simp only [Builtin.firstCells]; exact h0 _ w', .nil, by simp [Builtin.lenOf]⟩
    | succ m =>
      simp only [cellsOf] at h
      cases hb : (H.get i).bind rdO with
      | none => simp [hb] at h
      | some cs0 =>
        simp only [hb] at h
        split at h
        · rename_i hle
          cases h
          obtain ⟨vs, e1, r⟩ := loadCells_obj' R hb hl hle
          exact ⟨vs, fun w' hw => by simp only [Builtin.firstCells]; exact e1 w' hw, r, by simp [Builtin.lenOf]⟩
        · cases h

theorem growBy_le (newLen : Nat) : ∀ (r c : Nat), c ≤ newLen + (newLen + 768) / 4 → Builtin.growBy newLen r c ≤ newLen + (newLen + 768) / 4
  | 0, c, h => by simpa [Builtin.growBy] using h
  | r + 1, c, h => by
    simp only [Builtin.growBy]
    split
    · exact h
    · exact growBy_le newLen r _ (by omega)

theorem nextslicecap_le {n c : Nat} (h : c < n) : Builtin.nextslicecap n c ≤ 2 * n + 1000 := by
  unfold Builtin.nextslicecap
  split
  · omega
  · split
    · omega
    · have := growBy_le n 4 c (by omega)
      omega

theorem zeroCells_eq (z : Array Value) (n : Nat) : Builtin.zeroCells z n = ⟨zeros z.toList n⟩ := range_zeros z n

theorem type_bytes {e : TypeId} {b : Nat} (h : (P.info? e).map (·.bytes) = some b) : ∃ i, P.info? e = some i ∧ i.bytes = b := by
  cases hi : P.info? e with
  | none => simp [hi] at h
  | some i => exact ⟨i, rfl, by simpa [hi] using h⟩

/-- What append does where it makes a new row. -/
theorem append_grows (R : Rel P ρ H w) {t t' e : TypeId} {z zl n k by_ c : Nat} {zv : Value} {base : Option Addr} {x' : Value} {d' : TypeDesc} {old more vo vm : List Value}
    (hd : P.underlying t = some (.slice e)) (hd' : P.underlying t' = some d') (hni : ∀ kd, d' ≠ .int kd) (hs : sizeOfA P e = some z) (hz : zeroA P e = some zv) (hby : (P.info? e).map (·.bytes) = some by_)
    (hzl : z = zv.cells.toList.length) (hz0 : 0 < z) (hb0 : 0 < by_) (hsm : (n + k + 1000) * by_ < 2 ^ 40)
    (hzl' : z = zl + 1) (hlx : (Builtin.lenOf x').run P w = .ok k w) (hold : ∀ w' : World, w'.heap = w.heap → (Builtin.firstCells z n (.slice base n c)).run P w' = .ok ⟨vo⟩ w')
    (hnew : ∀ w' : World, w'.heap = w.heap → (Builtin.firstCells z k x').run P w' = .ok ⟨vm⟩ w') (hro : VRs ρ old vo) (hrm : VRs ρ more vm) (hlo : old.length = n * z) (hlm : more.length = k * z) (hgt : c < n + k) :
    Does P ρ H w (.slice (some ⟨H.next, 0, some z⟩) (n + k) 0) (H.push (.cells (old ++ more) e true)) ((Builtin.append_ #[t, t'] 0 #[.slice base n c, x']).run P w) := by
  obtain ⟨inf, hinf, hbytes⟩ := type_bytes hby
  have hzrun : ∀ w' : World, (zeroValue e).run P w' = .ok zv w' := fun w' => (zeroA_spec (w := w') hz).2
  have hcap : ¬ (Builtin.nextslicecap (n + k) c * by_ > 2 ^ 48) := by
    have h1 := nextslicecap_le hgt
    have h2 : Builtin.nextslicecap (n + k) c * by_ ≤ (2 * (n + k) + 1000) * by_ := Nat.mul_le_mul_right _ h1
    have h3 : (2 * (n + k) + 1000) * by_ ≤ 2 * ((n + k + 1000) * by_) := by rw [← Nat.mul_assoc]; exact Nat.mul_le_mul_right _ (by omega)
    omega
  -- what is drawn
  let nc := (Question.appendCap (n + k) c e).cut (w.tape w.drawn (.appendCap (n + k) c e))
  have hnc : n + k ≤ nc := by simp only [nc, Question.cut]; omega
  let w1 : World := { w with drawn := w.drawn + 1 }
  let C : Array Value := ⟨vo ++ vm ++ zeros zv.cells.toList (nc - (n + k))⟩
  have R1 : Rel P ρ H w1 := R.of_heap rfl
  have hrc : VRs ρ (old ++ more) (vo ++ vm) := hro.append hrm
  have hlen : (old ++ more).length = (n + k) * z := by simp [hlo, hlm, Nat.add_mul]
  have hCs : C.size = nc * z := by
    have h1 := hrc.length
    simp only [C, List.size_toArray, List.length_append, zeros_length, ← hzl]
    rw [← List.length_append, h1, hlen, ← Nat.add_mul]
    congr 1; omega
  let l : Loc := ⟨w.heap.size, 0, z, nc * z⟩
  have he := R1.ext_add l
  obtain ⟨R2, F2⟩ := R1.alloc (o := .cells (old ++ more) e true) (l := l) (ob := .cells C e) rfl
    (.opn hs hz0 (by simp only [l, hlen, Nat.zero_add]; exact Nat.mul_le_mul_right _ hnc) (by simp [l, hCs]) fun j v hj => by
      obtain ⟨v', e1, r⟩ := hrc.get hj
      refine ⟨v', ?_, r.mono he⟩
      have hlt := (List.getElem?_eq_some_iff.1 e1).1
      simp only [l, Nat.zero_add, C, List.getElem?_toArray]
      rw [List.getElem?_append_left hlt]; exact e1)
  refine ⟨.slice (some ⟨w.heap.size, 0, none⟩) (n + k) nc, w1.alloc (.cells C e), ρ.add H.next l, ?_, ?_, R2, Fr.trans (Fr.of_heap (w := w) (w' := w1) rfl rfl rfl rfl) F2⟩
  · have hq : (choose (.appendCap (n + k) c e)).run P w = .ok nc w1 := by simp only [choose, Sem.run, Question.forced, Bool.false_eq_true, if_false, nc, w1]
    have hle : ¬ (n + k ≤ c) := by omega
    have h1 := hold w1 rfl
    have h2 := hnew w1 rfl
    simp only [Builtin.append_]
    simp only [List.getElem?_toArray, List.getElem?_cons_zero, List.getElem?_cons_succ, Sem.run_bind, run_underlying hd, Result.andThen_ok, run_sizeOf hs, run_underlying hd', Sem.run_pure, hlx, Sem.run_ite, hle, if_false]
    have hb1 : ¬ inf.bytes = 0 := by omega
    rw [← hbytes] at hcap
    simp only [run_typeInfo hinf, Result.andThen_ok, Bool.false_eq_true, hb1, or_self, and_false, if_false, hcap, hq, run_askRoom, h1, h2, Bool.not_false, if_true, hzrun, zeroCells_eq]
    simp [newRow, C, w1]
    rfl
  · have := VR.sliceT (ρ := ρ.add H.next l) (i := H.next) (o := 0) (n := n + k) (c := nc) (z := zl) (l := l) (by simp) (by simp [l, hzl']) hnc (by simp [l, hzl'])
    rw [hzl']; simpa [l] using this

/-- append in a row that has room, of which the abstract machine knows: or of none. -/
theorem append_room {t t' e : TypeId} {z n k c : Nat} {a : Option Addr} {x' : Value} {d' : TypeDesc} {vm : List Value} {w' : World}
    (hd : P.underlying t = some (.slice e)) (hd' : P.underlying t' = some d') (hni : ∀ kd, d' ≠ .int kd) (hs : sizeOfA P e = some z)
    (hlx : (Builtin.lenOf x').run P w = .ok k w) (hnew : (Builtin.firstCells z k x').run P w = .ok ⟨vm⟩ w) (hle : n + k ≤ c)
    (hst : ∀ ad, a = some ad → (storeCells (ad.add (n * z)) vm).run P w = .ok () w') (hno : a = none → w' = w) :
    (Builtin.append_ #[t, t'] 0 #[.slice a n c, x']).run P w = .ok (.slice a (n + k) c) w' := by
  have hzs : (match d' with | .int _ => true | _ => false) = false := by cases d' <;> first | rfl | exact absurd rfl (hni _)
  simp only [Builtin.append_]
  simp only [List.getElem?_toArray, List.getElem?_cons_zero, List.getElem?_cons_succ, Sem.run_bind, run_underlying hd, Result.andThen_ok, run_sizeOf hs, run_underlying hd', Sem.run_pure, hlx, Sem.run_ite, hle, if_true]
  cases a with
  | none => rw [hno rfl]; cases d' <;> first | exact absurd rfl (hni _) | simp [hnew]
  | some ad =>
    have := hst ad rfl
    cases d' <;> first | exact absurd rfl (hni _) | simp [hnew, this]

theorem cellsOf_length {H : AHeap} {z n : Nat} {x : Value} {cs : List Value} (hn : lenA x = some n) (h : cellsOf H z x = some cs) (hz : z = 1 ∨ ∀ s, x ≠ .string s) : cs.length = n * z := by
  cases x <;> simp only [lenA, Option.some.injEq, reduceCtorEq] at hn
  case string s =>
    rcases hz with rfl | hz
    · subst hn; simp only [cellsOf, Option.some.injEq] at h; subst h; simp
    · exact absurd rfl (hz s)
  case slice a m c =>
    subst hn
    unfold cellsOf at h
    split at h
    · rename_i e; cases e; cases h; simp
    · rename_i e; cases e; cases h; simp
    · rename_i e
      cases e
      split at h
      · split at h
        · cases h; simp; omega
        · cases h
      · cases h
    · rename_i e; cases e
    · cases h

theorem append_sound (R : Rel P ρ H w) {t t' : TypeId} {s s' x x' v : Value} {H' : AHeap} {d' : TypeDesc} (hd' : P.underlying t' = some d') (hni : ∀ kd, d' ≠ .int kd)
    (hstr : ∀ b e, x = .string b → elemA P t = some e → sizeOfA P e = some 1)
    (hs : VR ρ s s') (hx : VR ρ x x') (h : oappend P t s x H = some (v, H')) : Does P ρ H w v H' ((Builtin.append_ #[t, t'] 0 #[s', x']).run P w) := by
  unfold oappend at h
  cases he : elemA P t with
  | none => simp [he] at h
  | some e =>
    have hd := elemA_spec he
    simp only [he] at h
    cases hsz : sizeOfA P e with
    | none => simp [hsz] at h
    | some z =>
      cases hz : zeroA P e with
      | none => simp [hsz, hz] at h
      | some zv =>
        cases hby : (P.info? e).map (·.bytes) with
        | none => simp [hsz, hz, hby] at h
        | some by_ =>
          cases hco : cellsOf H z s with
          | none => simp [hsz, hz, hby, hco] at h
          | some old =>
            cases hcm : cellsOf H z x with
            | none => simp [hsz, hz, hby, hco, hcm] at h
            | some more =>
              cases hln : lenA s with
              | none => simp [hsz, hz, hby, hco, hcm, hln] at h
              | some n =>
                cases hlk : lenA x with
                | none => simp [hsz, hz, hby, hco, hcm, hln, hlk] at h
                | some k =>
                  simp only [hsz, hz, hby, hco, hcm, hln, hlk] at h
                  split at h
                  · rename_i hc
                    obtain ⟨hzl, hz0, hb0, hsm, hone⟩ := hc
                    obtain ⟨vo, ho, hro, hlo⟩ := cellsOf_sound R hs hln hco
                    obtain ⟨vm, hm, hrm, hlm⟩ := cellsOf_sound R hx hlk hcm
                    have hx1 : z = 1 ∨ ∀ b, x ≠ .string b := by
                      by_cases hb : ∃ b, x = .string b
                      · obtain ⟨b, hb⟩ := hb
                        have := hstr b e hb he
                        rw [hsz] at this
                        exact .inl (by simpa using this)
                      · exact .inr fun b e => hb ⟨b, e⟩
                    have hlenm := cellsOf_length hlk hcm hx1
                    have hleno : old.length = n * z := cellsOf_length hln hco (.inr fun b hb => by subst hb; cases hs; simp at h)
                    obtain ⟨zl, hzl'⟩ : ∃ zl, z = zl + 1 := ⟨z - 1, by omega⟩
                    cases hs <;> simp only at h <;> try (cases h; done)
                    case nilslice =>
                      simp only [lenA, Option.some.injEq] at hln
                      subst hln
                      simp only [cellsOf, Option.some.injEq] at hco
                      subst hco
                      split at h
                      · rename_i hk0
                        subst hk0
                        simp only [Option.some.injEq, Prod.mk.injEq] at h
                        obtain ⟨rfl, rfl⟩ := h
                        exact ⟨_, w, ρ, append_room hd hd' hni hsz hlm (hm w rfl) (by omega) (fun _ h => by cases h) (fun _ => rfl), .nilslice, R, .refl _ _ _⟩
                      · simp only [ogrown, Option.some.injEq, Prod.mk.injEq] at h
                        obtain ⟨rfl, rfl⟩ := h
                        have := append_grows R (c := 0) (base := none) hd hd' hni hsz hz hby hzl hz0 hb0 hsm hzl' hlm ho hm hro hrm (by simp) hlenm (by omega)
                        simpa using this
                    case sliceK i o m c l hl =>
                      simp only [lenA, Option.some.injEq] at hln
                      subst hln
                      split at h
                      · rename_i hle
                        split at h
                        · rename_i hk0
                          subst hk0
                          simp only [Option.some.injEq, Prod.mk.injEq] at h
                          obtain ⟨rfl, rfl⟩ := h
                          have hvm : vm = [] := by
                            have h1 := hrm.length
                            rw [hlenm] at h1
                            simpa using h1
                          subst hvm
                          exact ⟨_, w, ρ, append_room hd hd' hni hsz hlm (hm w rfl) (by omega) (fun _ _ => by simp [storeCells]) (fun _ => rfl), .sliceK hl, R, .refl _ _ _⟩
                        · cases hst : ostoreCells i (o + m * z) more H with
                          | none => simp [hst] at h
                          | some q =>
                            obtain ⟨u, H1⟩ := q
                            simp only [hst, Option.some.injEq, Prod.mk.injEq] at h
                            obtain ⟨rfl, rfl⟩ := h
                            obtain ⟨w', e1, R1, F1⟩ := storeCells_sound R hl hrm hst
                            refine ⟨_, w', ρ, append_room hd hd' hni hsz hlm (hm w rfl) hle (fun ad h => ?_) (fun h => by cases h), .sliceK hl, R1, F1⟩
                            cases h
                            rw [addr_add, Nat.add_assoc]; exact e1
                      · simp only [ogrown, Option.some.injEq, Prod.mk.injEq] at h
                        obtain ⟨rfl, rfl⟩ := h
                        exact append_grows R hd hd' hni hsz hz hby hzl hz0 hb0 hsm hzl' hlm ho hm hro hrm hleno hlenm (by omega)
                    case sliceT i o m c y l hl hlz hmc hcap =>
                      simp only [lenA, Option.some.injEq] at hln
                      subst hln
                      cases hg : H.get i with
                      | none => simp [hg] at h
                      | some ob =>
                        cases ob <;> simp only [hg] at h <;> try (cases h; done)
                        rename_i cs e0 q
                        cases q <;> simp only at h <;> try (cases h; done)
                        split at h
                        · rename_i hyz
                          obtain ⟨hyz, rfl⟩ := hyz
                          simp only [ogrown, Option.some.injEq, Prod.mk.injEq] at h
                          obtain ⟨rfl, rfl⟩ := h
                          obtain ⟨R1, F1⟩ := R.del i
                          by_cases hle : m + k ≤ c
                          · -- in the row's room
                            obtain ⟨l', C, g1, g2, g3, g4, g5⟩ := R.cells hg
                            rw [hl] at g1; cases g1
                            have hlz' : l.esz = z := by omega
                            cases g3 with
                            | opn q1 q2 q3 q4 q5 =>
                              have hvm : vm.length = k * z := by rw [hrm.length, hlenm]
                              have hroom : m * z + k * z ≤ c * z := by rw [← Nat.add_mul]; exact Nat.mul_le_mul_right _ hle
                              have hcap' : l.base + o + c * z = l.limit := by rw [← hyz]; exact hcap
                              obtain ⟨w', C', e1, e2, e3, e4⟩ := storeCells_run (P := P) (o := l.base + o + m * z) vm 0 w C g2 (by omega) (by rw [hrm.allOne]; exact hone)
                              rw [Nat.add_zero] at e4
                              have hsize : C'.size = C.size := by
                                have := congrArg List.length e4
                                rw [over_length (by simp; omega)] at this
                                simpa using this
                              have hold : ∀ (j : Nat) v, old[j]? = some v → cs[o + j]? = some v ∧ j < m * z := by
                                intro j v hj
                                cases m with
                                | zero => simp only [cellsOf, Option.some.injEq] at hco; subst hco; simp at hj
                                | succ m =>
                                  simp only [cellsOf, hg, Option.bind_some, rdO] at hco
                                  split at hco
                                  · simp only [Option.some.injEq] at hco
                                    subst hco
                                    rw [List.getElem?_take] at hj
                                    split at hj
                                    · rename_i hlt; rw [List.getElem?_drop] at hj; exact ⟨hj, hlt⟩
                                    · cases hj
                                  · cases hco
                              have he := R1.ext_add ⟨l.block, l.base + o, z, l.limit⟩
                              have hnl := R.not_lies_del hg hl
                              have hob : ObjR P (ρ.add H.next ⟨l.block, l.base + o, z, l.limit⟩) ⟨l.block, l.base + o, z, l.limit⟩ (.cells (old ++ more) e0 true) (.cells C' e0 (0, 0)) := by
                                refine .opn hsz hz0 (by simp only [List.length_append, hleno, hlenm]; omega) (by rw [hsize]; exact q4) fun j v hj => ?_
                                have hC : C'[l.base + o + j]? = (over C.toList (l.base + o + m * z) vm)[l.base + o + j]? := by rw [← e4]; simp
                                rw [hC, over_get (by simp; omega)]
                                by_cases g : j < m * z
                                · rw [List.getElem?_append_left (by omega)] at hj
                                  rw [if_pos (by omega)]
                                  obtain ⟨v', e5, r5⟩ := g5 _ v (hold j v hj).1
                                  exact ⟨v', by rw [← e5, Nat.add_assoc]; simp, r5.mono he⟩
                                · rw [List.getElem?_append_right (by omega), hleno] at hj
                                  obtain ⟨v', e5, r5⟩ := hrm.get hj
                                  have hlt := (List.getElem?_eq_some_iff.1 e5).1
                                  rw [if_neg (by omega), if_pos (by omega)]
                                  exact ⟨v', by rw [← e5]; congr 1; omega, r5.mono he⟩
                              have R2 := R1.push (l := ⟨l.block, l.base + o, z, l.limit⟩) (w' := w') (o := .cells (old ++ more) e0 true) (ob := .cells C' e0 (0, 0))
                                (fun j oj lj h1 h2 => e2.other _ (fun hh => hnl ⟨j, oj, lj, h1, h2, hh⟩)) e3 hob hnl
                              refine ⟨_, w', _, append_room hd hd' hni hsz hlm (hm w rfl) hle (fun ad h => ?_) (fun h => by cases h), ?_, R2, ?_⟩
                              · cases h; rw [addr_add]; exact e1
                              · have := VR.sliceT (ρ := ρ.add (H.del i).next ⟨l.block, l.base + o, z, l.limit⟩) (i := (H.del i).next) (o := 0) (n := m + k) (c := c) (z := zl) (l := ⟨l.block, l.base + o, z, l.limit⟩) (by simp) hzl' hle (by rw [← hzl']; simpa using hcap')
                                rw [← hzl'] at this
                                exact this
                              · refine ⟨e2.os, e2.tape, e2.output, by rw [e2.size]; exact Nat.le_refl _, by simp, he, fun i hi => by simp only [Ren.add]; rw [if_neg (by simp only [AHeap.next_del]; omega)], fun b _ hn => e2.other b (fun hh => hn ⟨i, _, l, hg, hl, hh.symm⟩), ?_⟩
                                rintro b ⟨j, oj, lj, h1, h2, rfl⟩
                                right
                                rw [AHeap.get_push] at h1
                                split at h1
                                · rename_i ej
                                  subst ej
                                  simp only [AHeap.next_del, Ren.add_same, Option.some.injEq] at h2
                                  subst h2
                                  exact ⟨i, _, l, hg, hl, rfl⟩
                                · rename_i ej
                                  have ej' : ¬ j = (H.del i).next := ej
                                  simp only [Ren.add] at h2
                                  rw [if_neg ej'] at h2
                                  exact F1.lies _ ⟨j, oj, lj, h1, h2, rfl⟩ |>.elim (fun h => absurd (R1.lies_lt ⟨j, oj, lj, h1, h2, rfl⟩) (by omega)) id
                          · have := append_grows R1 hd hd' hni hsz hz hby hzl hz0 hb0 hsm hzl' hlm ho hm hro hrm hleno hlenm (c := c) (by omega)
                            obtain ⟨v', w', ρ', e1, r1, R2, F2⟩ := this
                            exact ⟨v', w', ρ', e1, r1, R2, F1.trans F2⟩
                        · cases h
                  · cases h

/-! ### The others -/
theorem makeSlice_sound (R : Rel P ρ H w) {t : TypeId} {a a' b b' v : Value} {H' : AHeap} (ha : VR ρ a a') (hb : VR ρ b b') (h : omakeSlice P t a b H = some (v, H')) :
    Does P ρ H w v H' ((Instr.makeSlice t a' b').run P w) := by
  unfold omakeSlice at h
  cases he : elemA P t with
  | none => simp [he] at h
  | some e =>
    have hd := elemA_spec he
    cases hn : inat a with
    | none => simp [he, hn] at h
    | some n =>
      cases hm : inat b with
      | none => simp [he, hn, hm] at h
      | some m =>
        simp only [he, hn, hm] at h
        cases hs : sizeOfA P e with
        | none => simp [hs] at h
        | some z =>
          cases hz : zeroA P e with
          | none => simp [hs, hz] at h
          | some zv =>
            cases hby : (P.info? e).map (·.bytes) with
            | none => simp [hs, hz, hby] at h
            | some by_ =>
              simp only [hs, hz, hby] at h
              split at h
              · rename_i hc
                obtain ⟨hzl, hz0, hnm, hm40, hbm⟩ := hc
                simp only [Option.some.injEq, Prod.mk.injEq] at h
                obtain ⟨rfl, rfl⟩ := h
                obtain ⟨inf, hinf, hbytes⟩ := type_bytes hby
                obtain ⟨kd, x, rfl, hx0, hx⟩ := nat_of_inat ha hn
                obtain ⟨kd', y, rfl, hy0, hy⟩ := nat_of_inat hb hm
                have hzr := (zeroA_spec (w := w) hz).2
                have hzs : zv.cells.size = z := by simpa using hzl.symm
                have hw1 : IntKind.i64.wrap x = x := wrap_small hx0 (by omega)
                have hw2 : IntKind.i64.wrap y = y := wrap_small hy0 (by omega)
                obtain ⟨ρ', h1, R', F⟩ := Does.new R (e := e) (C := ⟨zeros zv.cells.toList m⟩) (VRs.zeros (flats_cells (zeroA_spec (w := w) hz).1) m)
                refine ⟨_, _, ρ', ?_, .sliceK h1, R', F⟩
                have hbig : ¬ ((y < 0 ∨ (inf.bytes : Int) * y > 2 ^ 48) ∨ x < 0 ∨ x > y) := by
                  have : (inf.bytes : Int) * y ≤ 2 ^ 47 := by
                    rw [hbytes, show y = ((m : Nat) : Int) by omega]; exact_mod_cast hbm
                  omega
                have hcells : (Array.range (m * z)).map (fun i => (if m * z = 0 then #[] else zv.cells)[i % (if m * z = 0 then #[] else zv.cells).size]!) = ⟨zeros zv.cells.toList m⟩ := by
                  by_cases h0 : m * z = 0
                  · have : m = 0 := by
                      rcases Nat.mul_eq_zero.1 h0 with h | h
                      · exact h
                      · omega
                    subst this
                    simp [zeros]
                  · rw [if_neg h0, ← hzs]; exact range_zeros _ _
                simp only [Instr.makeSlice, Sem.run_bind, run_underlying hd, Result.andThen_ok, asInt, asIntOf, Sem.run_pure, run_typeInfo hinf, hw1, hw2]
                split
                · rename_i hcon
                  exfalso
                  apply hbig
                  simp only [Bool.or_eq_true, decide_eq_true_eq] at hcon
                  omega
                · rw [← hy] at hcells ⊢
                  rw [← hx]
                  by_cases h0 : y.toNat * z = 0
                  · rw [if_pos h0] at hcells
                    simp only [Sem.run_bind, run_askRoom, Result.andThen_ok, run_sizeOf hs, Sem.run_ite, h0, if_true, Sem.run_pure] at hcells ⊢
                    rw [← hcells]
                    simp [newRow]
                  · rw [if_neg h0] at hcells
                    simp only [Sem.run_bind, run_askRoom, Result.andThen_ok, run_sizeOf hs, Sem.run_ite, h0, if_false, hzr, Sem.run_pure] at hcells ⊢
                    rw [← hcells]
                    simp [newRow]
              · cases h

theorem range_sound (R : Rel P ρ H w) {t : TypeId} {x x' v : Value} {H' : AHeap} (hx : VR ρ x x') (h : orange P t x H = some (v, H')) : Does P ρ H w v H' ((Instr.range t x').run P w) := by
  unfold orange at h
  cases hd : P.underlying t with
  | none => simp [hd] at h
  | some d =>
    cases d <;> simp only [hd] at h <;> try (cases h; done)
    cases hx <;> simp only at h <;> try (cases h; done)
    rename_i s
    simp only [Option.some.injEq, Prod.mk.injEq] at h
    obtain ⟨rfl, rfl⟩ := h
    obtain ⟨R', F⟩ := R.alloc (o := .iter s 0) (l := ⟨w.heap.size, 0, 0, 0⟩) (ob := .stringIter s 0) rfl (.iter s 0 rfl)
    exact ⟨_, _, _, by simp [Instr.range, run_underlying hd], .ptr (o := 0) (Ren.add_same _ _ _), R', F⟩

theorem run_getObj {w : World} {b : Nat} {o : Obj} (h : w.heap[b]? = some o) (hc : ∀ c e f, o ≠ .cells c e f) : (getObj b).run P w = .ok o w := by
  cases o <;> first | exact absurd rfl (hc _ _ _) | simp [getObj, Sem.run, h]
theorem run_setObj {w : World} {b : Nat} {o o' : Obj} (h : w.heap[b]? = some o) (hc : ∀ c e f, o ≠ .cells c e f) : (setObj b o').run P w = .ok () { w with heap := w.heap.setIfInBounds b o' } := by
  cases o <;> first | exact absurd rfl (hc _ _ _) | simp [setObj, Sem.run, h]

theorem But.setObj (w : World) (b : Nat) (o : Obj) : But w { w with heap := w.heap.setIfInBounds b o } b :=
  ⟨rfl, rfl, rfl, by simp, fun k hk => by simp [Ne.symm hk]⟩
theorem setObj_same {w : World} {b : Nat} {o o' : Obj} (h : w.heap[b]? = some o) : ({ w with heap := w.heap.setIfInBounds b o' } : World).heap[b]? = some o' := by
  have := (Array.getElem?_eq_some_iff.1 h).1
  simp [this]

theorem next_sound (R : Rel P ρ H w) {ty : TypeId} {x x' v : Value} {str : Bool} {H' : AHeap} (hx : VR ρ x x') (h : onext x str H = some (v, H')) : Does P ρ H w v H' ((Instr.next x' str ty).run P w) := by
  unfold onext at h
  cases str with
  | false => simp at h
  | true =>
    cases hx <;> simp only at h <;> try (cases h; done)
    rename_i r o l hl
    cases o with
    | succ o => simp at h
    | zero =>
      simp only at h
      cases hr : H.get r with
      | none => simp [hr] at h
      | some ob =>
        cases ob <;> simp only [hr] at h <;> try (cases h; done)
        rename_i s pos
        obtain ⟨l', ob', h1, h2, h3⟩ := R.obj r _ hr
        rw [hl] at h1; cases h1
        cases h3 with
        | iter _ _ hb =>
          have hg := run_getObj (P := P) h2 (by simp)
          split at h
          · rename_i hlt
            simp only [Option.some.injEq, Prod.mk.injEq] at h
            obtain ⟨rfl, rfl⟩ := h
            have hs := run_setObj (P := P) (o' := .stringIter s (pos + (Utf8.decode s pos).2)) h2 (by simp)
            obtain ⟨R', F⟩ := R.put (o' := .iter s (pos + (Utf8.decode s pos).2)) hr hl (But.setObj w l.block (.stringIter s (pos + (Utf8.decode s pos).2))) (setObj_same h2) (.iter _ _ hb)
            refine ⟨.tuple #[.bool true, goInt pos, .int .i32 (Utf8.decode s pos).1], _, ρ, ?_, .tuple (.cons (.bool _) (.cons (.int _ _) (.cons (.int _ _) .nil))), R', F⟩
            rw [hb]
            simp [Instr.next, hg, hlt, hs]
          · rename_i hlt
            simp only [Option.some.injEq, Prod.mk.injEq] at h
            obtain ⟨rfl, rfl⟩ := h
            refine ⟨.tuple #[.bool false], w, ρ, ?_, .tuple (.cons (.bool _) .nil), R, .refl _ _ _⟩
            rw [hb]
            simp [Instr.next, hg, hlt]

theorem makeMap_sound (R : Rel P ρ H w) {t : TypeId} {v : Value} {r : Option Value} {H' : AHeap} (hr : ∀ x, r = some x → ∃ k n, x = .int k n) (h : omakeMap P t H = some (v, H')) : Does P ρ H w v H' ((Instr.makeMap t r).run P w) := by
  unfold omakeMap at h
  cases hd : P.underlying t with
  | none => simp [hd] at h
  | some d =>
    cases d <;> simp only [hd] at h <;> try (cases h; done)
    simp only [Option.some.injEq, Prod.mk.injEq] at h
    obtain ⟨rfl, rfl⟩ := h
    obtain ⟨R', F⟩ := R.alloc (o := .amap [] 0) (l := ⟨w.heap.size, 0, 0, 0⟩) (ob := .map #[] 0) rfl (.amap .nil)
    refine ⟨_, _, _, ?_, .map (Ren.add_same _ _ _), R', F⟩
    cases r with
    | none => simp [Instr.makeMap]
    | some x => obtain ⟨k, n, rfl⟩ := hr x rfl; simp [Instr.makeMap, run_underlying hd, asInt, asIntOf]

theorem cap_sound (R : Rel P ρ H w) {t : TypeId} {x x' v : Value} {H' : AHeap} (hx : VR ρ x x') (h : ocap P t x H = some (v, H')) : Does P ρ H w v H' ((Builtin.cap_ #[t] 0 #[x']).run P w) := by
  unfold ocap at h
  cases hd : P.underlying t with
  | none => simp [hd] at h
  | some d =>
    cases d <;> simp only [hd] at h <;> try (cases h; done)
    cases hx <;> simp only at h <;> try (cases h; done)
    all_goals
      simp only [Option.some.injEq, Prod.mk.injEq] at h
      obtain ⟨rfl, rfl⟩ := h
      exact ⟨_, _, ρ, by simp [Builtin.cap_, run_underlying hd]; rfl, .int _ _, R, .refl _ _ _⟩

theorem clear_sound (R : Rel P ρ H w) {t : TypeId} {x x' v : Value} {H' : AHeap} (hx : VR ρ x x') (h : oclear P t x H = some (v, H')) : Does P ρ H w v H' ((Builtin.clear_ #[t] 0 #[x']).run P w) := by
  unfold oclear at h
  cases he : elemA P t with
  | none => simp [he] at h
  | some e =>
    have hd := elemA_spec he
    simp only [he] at h
    have zero : ∀ (a : Option Addr) (c : Nat), (Builtin.clear_ #[t] 0 #[.slice a 0 c]).run P w = .ok (.tuple #[]) w := by
      intro a c
      cases a <;> simp [Builtin.clear_, run_underlying hd]
    have more : ∀ (b o m c : Nat) (l : Loc), ρ b = some l → (match zeroA P e with
      | some zv => match ostoreCells b o (zeros zv.cells.toList (m + 1)) H with
        | some (_, H') => some (Value.tuple #[], H')
        | none => none
      | none => none) = some (v, H') → Does P ρ H w v H' ((Builtin.clear_ #[t] 0 #[.slice (some ⟨l.block, l.base + o, none⟩) (m + 1) c]).run P w) := by
      intro b o m c l hl h
      cases hz : zeroA P e with
      | none => simp [hz] at h
      | some zv =>
        simp only [hz] at h
        cases hst : ostoreCells b o (zeros zv.cells.toList (m + 1)) H with
        | none => simp [hst] at h
        | some q =>
          obtain ⟨u, H1⟩ := q
          simp only [hst, Option.some.injEq, Prod.mk.injEq] at h
          obtain ⟨rfl, rfl⟩ := h
          obtain ⟨hf, hr⟩ := zeroA_spec (w := w) hz
          obtain ⟨w', e1, R1, F1⟩ := storeCells_sound R hl (VRs.zeros (flats_cells hf) (m + 1)) hst
          refine ⟨.tuple #[], w', ρ, ?_, .tuple .nil, R1, F1⟩
          simp [Builtin.clear_, run_underlying hd, hr, zeroCells_eq, e1]
    cases hx <;> (try simp only at h) <;> try (cases h; done)
    case nilslice => simp only [Option.some.injEq, Prod.mk.injEq] at h; obtain ⟨rfl, rfl⟩ := h; exact ⟨_, w, ρ, zero _ _, .tuple .nil, R, .refl _ _ _⟩
    case ghost a c => simp only [Option.some.injEq, Prod.mk.injEq] at h; obtain ⟨rfl, rfl⟩ := h; exact ⟨_, w, ρ, zero _ _, .tuple .nil, R, .refl _ _ _⟩
    case sliceK i o m c l hl =>
      cases m with
      | zero => simp only [Option.some.injEq, Prod.mk.injEq] at h; obtain ⟨rfl, rfl⟩ := h; exact ⟨_, w, ρ, zero _ _, .tuple .nil, R, .refl _ _ _⟩
      | succ m => exact more i o m c l hl h
    case sliceT i o m c z l hl hz hm hc =>
      cases m with
      | zero => simp only [Option.some.injEq, Prod.mk.injEq] at h; obtain ⟨rfl, rfl⟩ := h; exact ⟨_, w, ρ, zero _ _, .tuple .nil, R, .refl _ _ _⟩
      | succ m => exact more i o m c l hl h

/-- Of a slice's or a string's length the model says the same. -/
theorem lenA_run {x x' : Value} {n : Nat} (hx : VR ρ x x') (h : lenA x = some n) : (Builtin.lenOf x').run P w = .ok n w ∧ ((∃ a c, x' = .slice a n c) ∨ ∃ s, x' = .string s ∧ s.size = n) := by
  cases hx <;> simp only [lenA, Option.some.injEq, reduceCtorEq] at h <;> subst h <;> simp [Builtin.lenOf]

theorem slice_addr {x x' : Value} {b o : Nat} {sp : Option Nat} {n c : Nat} (hx : VR ρ x x') (he : x = .slice (some ⟨b, o, sp⟩) n c) (hn : n ≠ 0) :
    ∃ l c', ρ b = some l ∧ x' = .slice (some ⟨l.block, l.base + o, none⟩) n c' := by
  subst he
  cases hx with
  | sliceK hl => exact ⟨_, _, hl, rfl⟩
  | sliceT hl _ _ _ => exact ⟨_, _, hl, rfl⟩
  | ghost a c => exact absurd rfl hn

theorem copy_sound (R : Rel P ρ H w) {t t' : TypeId} {x x' y y' v : Value} {H' : AHeap} (hx : VR ρ x x') (hy : VR ρ y y') (h : ocopy P t x y H = some (v, H')) :
    Does P ρ H w v H' ((Builtin.copy_ #[t, t'] 0 #[x', y']).run P w) := by
  unfold ocopy at h
  cases he : elemA P t with
  | none => simp [he] at h
  | some e =>
    have hd := elemA_spec he
    simp only [he] at h
    cases hs : sizeOfA P e with
    | none => simp [hs] at h
    | some z =>
      cases hln : lenS x with
      | none => simp [hs, hln] at h
      | some n =>
        cases hlk : lenA y with
        | none => simp [hs, hln, hlk] at h
        | some k =>
          simp only [hs, hln, hlk] at h
          have hl2 : ∃ a c, x' = .slice a n c := by cases hx <;> simp only [lenS, Option.some.injEq, reduceCtorEq] at hln <;> subst hln <;> exact ⟨_, _, rfl⟩
          obtain ⟨hk1, hk2⟩ := lenA_run (P := P) (w := w) hy hlk
          split at h
          · rename_i hm
            simp only [Option.some.injEq, Prod.mk.injEq] at h
            obtain ⟨rfl, rfl⟩ := h
            refine ⟨goInt 0, w, ρ, ?_, .int _ _, R, .refl _ _ _⟩
            obtain ⟨a, c, rfl⟩ := hl2
            · have hf : (Builtin.firstCells z 0 y').run P w = .ok #[] w := by
                rcases hk2 with ⟨a', c', rfl⟩ | ⟨s, rfl, _⟩
                · cases a' <;> simp [Builtin.firstCells, loadCells, loadCellsFrom]
                · simp [Builtin.firstCells]
              cases a with
              | none => simp [Builtin.copy_, run_underlying hd, hk1, run_sizeOf hs, hm, hf]
              | some a => simp [Builtin.copy_, run_underlying hd, hk1, run_sizeOf hs, hm, hf, storeCells]
          · rename_i hm
            split at h
            · rename_i b o sp1 n1 c1 b' o' sp2 n2 c2
              simp only [lenA, lenS, Option.some.injEq] at hln hlk
              subst hln; subst hlk
              cases hg : (H.get b').bind rdO with
              | none => simp [hg] at h
              | some cs =>
                simp only [hg] at h
                split at h
                · rename_i hle
                  cases hst : ostoreCells b o ((cs.drop o').take (Nat.min n2 n1 * z)) H with
                  | none => simp [hst] at h
                  | some q =>
                    obtain ⟨u, H1⟩ := q
                    simp only [hst, Option.some.injEq, Prod.mk.injEq] at h
                    obtain ⟨rfl, rfl⟩ := h
                    have hmin : Nat.min n2 n1 = min n2 n1 := rfl
                    obtain ⟨l, c', hl, rfl⟩ := slice_addr hx rfl (fun h0 => hm (by rw [hmin, h0]; simp))
                    obtain ⟨l', c2', hl', rfl⟩ := slice_addr hy rfl (fun h0 => hm (by rw [hmin, h0]; simp))
                    obtain ⟨vs, e1, r1⟩ := loadCells_obj R hg hl' hle
                    obtain ⟨w', e2, R1, F1⟩ := storeCells_sound R hl r1 hst
                    refine ⟨goInt (Nat.min n2 n1), w', ρ, ?_, .int _ _, R1, F1⟩
                    simp [Builtin.copy_, run_underlying hd, Builtin.lenOf, run_sizeOf hs, Builtin.firstCells, e1, e2]
                · cases h
            · cases h

theorem pushBytes_run : ∀ (l : List Value) (bs : List UInt8) (acc : ByteArray), bytesA l = some bs →
    (forIn l acc (fun c (r : ByteArray) => (match c with
      | .int .u8 n => pure (ForInStep.yield (r.push (UInt8.ofNat n.toNat)))
      | _ => do stuck "bytesToString: byte expected"; pure (ForInStep.yield r) : Sem (ForInStep ByteArray)))).run P w = .ok ⟨⟨acc.data.toList ++ bs⟩⟩ w := by
  intro l
  induction l with
  | nil => intro bs acc h; simp only [bytesA, Option.some.injEq] at h; subst h; simp
  | cons a l ih =>
    intro bs acc h
    unfold bytesA at h
    split at h
    · rename_i e; cases e
    · rename_i n l' e
      cases e
      cases hb : bytesA l with
      | none => simp [hb] at h
      | some bs' =>
        simp only [hb] at h
        split at h
        · cases h
          rw [List.forIn_cons]
          simp only [Sem.run_bind, Sem.run_pure, Result.andThen_ok]
          rw [ih bs' _ hb]
          simp [ByteArray.push]
        · cases h
    · cases h

theorem bytes_sound (R : Rel P ρ H w) {s d : TypeId} {x x' v : Value} {H' : AHeap} (hx : VR ρ x x') (h : obytes P s d x H = some (v, H')) : Does P ρ H w v H' ((convert s d x').run P w) := by
  unfold obytes at h
  split at h
  · rename_i e hs hd
    split at h
    · rename_i he
      have conv : ∀ (a : Option Addr) (n c : Nat), (convert s d (.slice a n c)).run P w = (Conv.bytesToString (.slice a n c)).run P w := by
        intro a n c
        simp [convert, run_underlying hs, run_underlying hd, run_underlying he]
      have none_ : ∀ (a : Option Addr) (c : Nat), (convert s d (.slice a 0 c)).run P w = .ok (.string ⟨#[]⟩) w := by
        intro a c
        rw [conv]
        cases a with
        | none => rfl
        | some a => simp [Conv.bytesToString, loadCells, loadCellsFrom]; rfl
      have some_ : ∀ (b o m c : Nat) (l : Loc), ρ b = some l → (match (H.get b).bind rdO with
        | some cs => if o + m ≤ cs.length then
            match bytesA ((cs.drop o).take m) with
            | some bs => some (Value.string ⟨⟨bs⟩⟩, H)
            | none => none
          else none
        | _ => none) = some (v, H') → Does P ρ H w v H' ((convert s d (.slice (some ⟨l.block, l.base + o, none⟩) m c)).run P w) := by
        intro b o m c l hl h
        cases hg : (H.get b).bind rdO with
        | none => simp [hg] at h
        | some cs =>
          simp only [hg] at h
          split at h
          · rename_i hle
            cases hb : bytesA ((cs.drop o).take m) with
            | none => simp [hb] at h
            | some bs =>
              simp only [hb, Option.some.injEq, Prod.mk.injEq] at h
              obtain ⟨rfl, rfl⟩ := h
              obtain ⟨vs, e1, r⟩ := loadCells_obj R hg hl hle
              have hf : ∀ (l : List Value) (bs : List UInt8), bytesA l = some bs → flats l = true := by
                intro l
                induction l with
                | nil => intro _ _; rfl
                | cons a l ih =>
                  intro bs h
                  unfold bytesA at h
                  split at h
                  · rename_i e; cases e
                  · rename_i n l' e; cases e
                    cases hb : bytesA l with
                    | none => simp [hb] at h
                    | some bs' => simp [flats, flat, ih bs' hb]
                  · cases h
              have := r.eq_of_flats (hf _ _ hb)
              subst this
              refine ⟨_, w, ρ, ?_, .string _, R, .refl _ _ _⟩
              rw [conv]
              have hp := pushBytes_run (P := P) (w := w) _ _ ByteArray.empty hb
              simp only [Conv.bytesToString, Sem.run_bind, e1, Result.andThen_ok]
              rw [← Array.forIn_toList]
              refine (congrArg (fun r => Result.andThen r (fun a w' => Sem.run P (pure (Value.string a)) w')) hp).trans ?_
              rfl
          · cases h
      cases hx <;> (try simp only at h) <;> try (cases h; done)
      case nilslice => simp only [Option.some.injEq, Prod.mk.injEq] at h; obtain ⟨rfl, rfl⟩ := h; exact ⟨_, w, ρ, by rw [conv]; rfl, .string _, R, .refl _ _ _⟩
      case ghost a c => simp only [Option.some.injEq, Prod.mk.injEq] at h; obtain ⟨rfl, rfl⟩ := h; exact ⟨_, w, ρ, none_ a c, .string _, R, .refl _ _ _⟩
      case sliceK i o m c l hl =>
        cases m with
        | zero => simp only [Option.some.injEq, Prod.mk.injEq] at h; obtain ⟨rfl, rfl⟩ := h; exact ⟨_, w, ρ, none_ _ c, .string _, R, .refl _ _ _⟩
        | succ m => exact some_ i o (m + 1) c l hl h
      case sliceT i o m c z l hl hz hm hc =>
        cases m with
        | zero => simp only [Option.some.injEq, Prod.mk.injEq] at h; obtain ⟨rfl, rfl⟩ := h; exact ⟨_, w, ρ, none_ _ c, .string _, R, .refl _ _ _⟩
        | succ m => exact some_ i o (m + 1) c l hl h
    · cases h
  · cases h

theorem appendT_sound (R : Rel P ρ H w) {t t' : TypeId} {s s' x x' v : Value} {H' : AHeap} (hs : VR ρ s s') (hx : VR ρ x x') (h : oappendT P t t' s x H = some (v, H')) :
    Does P ρ H w v H' ((Builtin.append_ #[t, t'] 0 #[s', x']).run P w) := by
  unfold oappendT at h
  cases hd : P.underlying t' with
  | none => simp [hd] at h
  | some d =>
    have hni : ∀ kd, d ≠ .int kd := by rintro kd rfl; simp [hd] at h
    have h' : oappendS P t s x H = some (v, H') := by
      rw [hd] at h
      cases d <;> first | exact absurd rfl (hni _) | exact h
    clear h
    unfold oappendS at h'
    by_cases hb : ∃ b, x = .string b
    · obtain ⟨b, rfl⟩ := hb
      simp only at h'
      split at h'
      · rename_i hc
        exact append_sound R hd hni (fun b e _ he => by rw [he] at hc; simpa using hc) hs hx h'
      · cases h'
    · have h2 : oappend P t s x H = some (v, H') := by
        cases x <;> first | exact absurd ⟨_, rfl⟩ hb | exact h'
      exact append_sound R hd hni (fun b e hx _ => absurd ⟨b, hx⟩ hb) hs hx h2

/-! ### unsafe -/
theorem seenAt_cells {b : Nat} {C : Array Value} {e : TypeId} {fr : Nat × Nat} {o : Nat} (h : w.heap[b]? = some (.cells C e fr)) : (Conv.seenAt ⟨b, o, none⟩).run P w = .ok ⟨b, o, none⟩ w := by
  have hsh : w.shape? b = some (e, C.size) := by simp [World.shape?, h]
  simp [Conv.seenAt, viewAt, hsh]

theorem unsafeTo_sound (R : Rel P ρ H w) {s d t : TypeId} {x x' v : Value} {H' : AHeap} (hs : P.underlying s = some (.pointer t)) (hx : VR ρ x x') (h : ounsafeTo P t d x H = some (v, H')) : Does P ρ H w v H' ((convert s d x').run P w) := by
  unfold ounsafeTo at h
  split at h
  · rename_i hd
    cases h
    cases hx
    exact ⟨.pointer none, w, ρ, by simp [convert, Conv.unsafePointer, run_underlying hs, run_underlying hd], .nilptr, R, .refl _ _ _⟩
  · rename_i b o hd
    cases hg : H.get b with
    | none => simp [hg] at h
    | some ob =>
      cases ob <;> simp only [hg] at h <;> try (cases h; done)
      rename_i cs e p
      cases hz : sizeOfA P t with
      | none => simp [hz] at h
      | some z =>
        cases z with
        | zero => simp [hz] at h
        | succ z =>
          simp only [hz] at h
          split at h
          · rename_i hlt
            cases h
            cases hx with
            | @ptr _ _ l hl =>
              obtain ⟨l', C, h1, h2, _, h4, _⟩ := R.cells hg
              rw [hl] at h1; cases h1
              have hlt' : l.base + o < C.size := by omega
              have hc : w.cell? ⟨l.block, l.base + o, none⟩ = some C[l.base + o] := by rw [cell?_of h2]; simp [hlt']
              have hsz : (P.info? t).map (fun i => decide (i.size = 0)) = some false := by
                unfold sizeOfA at hz
                cases hi : P.info? t with
                | none => simp [hi] at hz
                | some i => simp [hi] at hz; simp [hz]
              exact ⟨_, w, ρ, Go.run_convert_to_unsafe hs hd hsz hc, .ptr hl, R, .refl _ _ _⟩
          · cases h
  · cases h

theorem unsafeFrom_sound (R : Rel P ρ H w) {s d : TypeId} {x x' v : Value} {H' : AHeap} (hs : P.underlying s = some .unsafePointer) (hx : VR ρ x x') (h : ounsafeFrom P d x H = some (v, H')) : Does P ρ H w v H' ((convert s d x').run P w) := by
  unfold ounsafeFrom at h
  split at h
  · rename_i u hd
    cases h
    cases hx
    exact ⟨.pointer none, w, ρ, by simp [convert, Conv.unsafePointer, run_underlying hs, run_underlying hd], .nilptr, R, .refl _ _ _⟩
  · rename_i u b o hd
    cases hg : H.get b with
    | none => simp [hg] at h
    | some ob =>
      cases ob <;> simp only [hg] at h <;> try (cases h; done)
      rename_i cs e p
      cases p with
      | true => cases h
      | false =>
        cases hz : sizeOfA P u with
        | none => simp [hz] at h
        | some z =>
        simp only [hz] at h
        split at h
        · rename_i hlies
          cases h
          cases hx with
          | @ptr _ _ l hl =>
            obtain ⟨l', ob, h1, h2, h3⟩ := R.obj _ _ hg
            rw [hl] at h1; cases h1
            cases h3 with
            | shut hb hc =>
              rename_i C
              have hsize : C.size = cs.length := by have := hc.length; simpa using this
              have hsh : w.shape? l.block = some (e, C.size) := by simp [World.shape?, h2]
              refine ⟨_, w, ρ, ?_, .ptr hl, R, .refl _ _ _⟩
              rw [← hsize] at hlies
              have hva : (variablesAt ⟨l.block, l.base + o, none⟩ u 1).run P w = .ok true w := by
                rw [hb, Nat.zero_add]
                simp [variablesAt, hsh, hlies]
              simp [convert, Conv.unsafePointer, run_underlying hs, run_underlying hd, seenAt_cells h2, run_sizeOf hz, hva]
        · cases h
  · cases h

theorem bytesA_cells : ∀ {l : List Value} {bs : List UInt8}, bytesA l = some bs → l = Go.Lib.byteCells bs
  | [], bs, h => by simp only [bytesA, Option.some.injEq] at h; subst h; rfl
  | v :: l, bs, h => by
    unfold bytesA at h
    split at h
    · rename_i e; cases e
    · rename_i n l' e
      cases e
      cases hb : bytesA l with
      | none => simp [hb] at h
      | some bs' =>
        simp only [hb] at h
        split at h
        · rename_i hn
          cases h
          rw [bytesA_cells hb]
          have : (UInt8.ofNat n.toNat).toNat = n.toNat := by simp; omega
          simp only [Go.Lib.byteCells, List.map_cons, this]
          congr 2
          omega
        · cases h
    · cases h

/-- unsafe.String over a part of a row of bytes. -/
theorem unsafeString_run (w : World) (pt it ty e : TypeId) (hp : P.underlying pt = some (.pointer e)) (hc : P.cellsOf e = 1) (g o cells : Nat) (hsh : w.shape? g = some (e, cells)) (l : List UInt8) (h0 : l ≠ []) (hn : o + l.length ≤ cells) (h63 : (l.length : Int) ≤ IntKind.i64.max)
    (hcell : ∀ j x, l[j]? = some x → w.cell? ((⟨g, o, none⟩ : Addr).add j) = some (.int .u8 x.toNat)) :
    (Builtin.unsafeString_ #[pt, it] ty #[.pointer (some ⟨g, o, none⟩), .int .i64 l.length]).run P w = .ok (.string ⟨⟨l⟩⟩) (w.freeze ⟨g, o, none⟩ l.length) := by
  have hl : l.length ≠ 0 := by simpa using h0
  have hlb := Go.Lib.run_loadBytes (P := P) w l ⟨g, o, none⟩ .empty hcell
  have hlies : liesAt P P.depth e (cells / P.cellsOf e) o e l.length = true := by
    have hd : P.depth = (2 * (P.types.size + Made.depth) + 1) + 1 := rfl
    rw [hd]
    simp only [liesAt, Bool.or_eq_true]
    left
    rw [hd]
    simp [rowAt, hc, hn, sameLayout, Nat.mod_one]
  have hdef : Builtin.unsafeString_ #[pt, it] ty #[.pointer (some ⟨g, o, none⟩), .int .i64 l.length] =
      (do
        let n ← asInt (.int .i64 l.length)
        if n < 0 then runtimePanic (.error "unsafe.String: len out of range")
        if n > IntKind.i64.max then unsupported (.unsafePointer "String: a length above the largest int")
        if n = 0 then pure (.string .empty)
        else if ← variablesAt ⟨g, o, none⟩ (← elemOf pt) n.toNat then do
          let s ← loadBytes ⟨g, o, none⟩ .empty n.toNat
          freeze ⟨g, o, none⟩ n.toNat
          pure (.string s)
        else unsupported (.unsafePointer "String: not so many bytes at ptr")) := rfl
  rw [hdef]
  have hmax : IntKind.i64.max = 9223372036854775807 := rfl
  have h63' : ¬ (9223372036854775807 : Int) < (l.length : Int) := by omega
  have hneg : ¬ (l.length : Int) < 0 := by omega
  simp [asInt, asIntOf, hmax, h63', hneg, hl, variablesAt, hsh, elemOf, run_underlying hp, hlies, hlb]

theorem unsafeString_sound (R : Rel P ρ H w) {t it ty : TypeId} {p p' n n' v : Value} {H' : AHeap} (hp : VR ρ p p') (hn : VR ρ n n') (h : ounsafeString P t p n H = some (v, H')) :
    Does P ρ H w v H' ((Builtin.unsafeString_ #[t, it] ty #[p', n']).run P w) := by
  have zero : ∀ (q : Option Addr), (Builtin.unsafeString_ #[t, it] ty #[.pointer q, .int .i64 0]).run P w = .ok (.string .empty) w := fun q => Go.Lib.run_unsafeString_none w t it ty q
  unfold ounsafeString at h
  split at h
  · rename_i m
    split at h
    · rename_i hm
      cases h
      subst hm
      cases hp
      cases hn
      exact ⟨_, w, ρ, zero _, .string _, R, .refl _ _ _⟩
    · cases h
  · rename_i b o m
    cases hn
    cases hp with
    | @ptr _ _ l hl =>
    split at h
    · rename_i hm
      cases h
      subst hm
      exact ⟨_, w, ρ, zero _, .string _, R, .refl _ _ _⟩
    · split at h
      · rename_i e' cs e q ht hg
        split at h
        · rename_i hc
          obtain ⟨h0, hmax, rfl, hce, hle⟩ := hc
          cases hb : bytesA ((cs.drop o).take m.toNat) with
          | none => simp [hb] at h
          | some bs =>
            simp only [hb, Option.some.injEq, Prod.mk.injEq] at h
            obtain ⟨rfl, rfl⟩ := h
            obtain ⟨l', C, e1, e2, _, e3, e4⟩ := R.cells hg
            rw [hl] at e1; cases e1
            obtain ⟨hv, hvl⟩ := cells_list e3 e4 hle
            have hcs := bytesA_cells hb
            have hfl : flats (Go.Lib.byteCells bs) = true := by
              clear hcs hb
              induction bs with
              | nil => rfl
              | cons x bs ih => simpa [Go.Lib.byteCells, flats, flat] using ih
            rw [hcs] at hv
            have hCl := hv.eq_of_flats hfl
            have hlen : bs.length = m.toNat := by
              have := congrArg List.length hcs
              rw [Go.Lib.byteCells_length, List.length_take, List.length_drop] at this
              omega
            have hm : m = (bs.length : Int) := by omega
            have hne : bs ≠ [] := by intro e'; rw [e'] at hlen; simp at hlen; omega
            have hcell : ∀ j x, bs[j]? = some x → w.cell? ((⟨l.block, l.base + o, none⟩ : Addr).add j) = some (.int .u8 x.toNat) := fun j x hj => by
              have hjl := (List.getElem?_eq_some_iff.1 hj).1
              have h1 : (Go.Lib.byteCells bs)[j]? = some (.int .u8 x.toNat) := by simp [Go.Lib.byteCells, hj]
              rw [← hCl, List.getElem?_take, if_pos (by omega), List.getElem?_drop] at h1
              have h2 : (⟨l.block, l.base + o, none⟩ : Addr).add j = ⟨l.block, l.base + o + j, none⟩ := by
                unfold Addr.add
                by_cases h : j = 0
                · subst h; simp
                · simp [h]
              rw [h2, cell?_of e2]
              simpa using h1
            have hsh : w.shape? l.block = some (e', C.size) := by simp [World.shape?, e2]
            have hrun := unsafeString_run (P := P) w t it ty e' ht hce l.block (l.base + o) C.size hsh bs hne (by omega) (by omega) hcell
            rw [hm]
            obtain ⟨R1, F1⟩ := R.del b
            have hnl := R.not_lies_del hg hl
            have hother : ∀ k, k ≠ l.block → (w.freeze ⟨l.block, l.base + o, none⟩ bs.length).heap[k]? = w.heap[k]? := fun k hk => by
              unfold World.freeze
              split
              · rfl
              · simp only [Array.getElem?_modify]
                rw [if_neg (by omega)]
            have R2 : Rel P ρ (H.del b) (w.freeze ⟨l.block, l.base + o, none⟩ bs.length) := R1.mono_world fun i oi li q1 q2 => hother _ fun e => hnl ⟨i, oi, li, q1, q2, e⟩
            refine ⟨_, _, ρ, hrun, .string _, R2, ?_⟩
            refine ⟨?_, ?_, ?_, ?_, F1.next, F1.ext, F1.old, fun k hk hnk => ?_, F1.lies⟩
            · unfold World.freeze; split <;> rfl
            · unfold World.freeze; split <;> rfl
            · unfold World.freeze; split <;> rfl
            · unfold World.freeze; split <;> simp
            · exact hother k fun e => hnk ⟨b, _, l, hg, hl, e.symm⟩
        · cases h
      · cases h
  · cases h

end
end Go.Bk
