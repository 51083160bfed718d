/- DRAWN REGIONS, second part: the trace of the one order, and what is known of each stage. No condition. -/
import Derived.Test.YtifnbnlghfedfaaGreatDoorBkDrawA
namespace Go.Bk
open Go

section
variable {P : Program} {call : ACallee → List Value → AM Value} {ext : FuncId → List Value → AM Value} {n0 : Nat} {ops : Array Oper}

inductive DR (P : Program) (call : ACallee → List Value → AM Value) (ext : FuncId → List Value → AM Value) (n0 : Nat) (ops : Array Oper) (τf : Env) (Hf : AHeap) : List PI → Env → AHeap → Prop
  | nil : DR P call ext n0 ops τf Hf [] τf Hf
  | unw {i : Nat} {rest : List PI} {τ : Env} {H : AHeap} {o : Oper} (ho : ops[i]? = some o) (hw : awanted ops τ o = some false)
      (h : DR P call ext n0 ops τf Hf rest (setT τ o.dst (.tuple #[])) H) : DR P call ext n0 ops τf Hf (.op i :: rest) τ H
  | op {i : Nat} {rest : List PI} {τ : Env} {H H1 : AHeap} {o : Oper} {v : Value} (ho : ops[i]? = some o) (hw : awanted ops τ o = some true) (hd : dop P call ext n0 i τ o H = some (v, H1))
      (h : DR P call ext n0 ops τf Hf rest (setT τ o.dst v) H1) : DR P call ext n0 ops τf Hf (.op i :: rest) τ H
  | reu {i : Nat} {rest : List PI} {τ : Env} {H : AHeap} {o : Oper} (ho : ops[i]? = some o) (hw : awanted ops τ o = some false)
      (h : DR P call ext n0 ops τf Hf rest τ H) : DR P call ext n0 ops τf Hf (.re i :: rest) τ H
  | re {i : Nat} {rest : List PI} {τ : Env} {H : AHeap} {o : Oper} {t : TypeId} {x : Operand} {d : Tmp} {p v : Value} (ho : ops[i]? = some o) (hw : awanted ops τ o = some true)
      (hop : o.op = .load t x) (hdst : o.dst = some d) (hp : ask P τ x = some p) (hv : τ.get d = some v) (hl : oload P t p H = some v)
      (h : DR P call ext n0 ops τf Hf rest τ H) : DR P call ext n0 ops τf Hf (.re i :: rest) τ H

theorem adraw_DR {k : Env → AM Value} {res : Value × AHeap} : ∀ (l : List PI) (τ : Env) (H : AHeap), adraw P call ext n0 ops l k τ H = some res → ∃ τf Hf, DR P call ext n0 ops τf Hf l τ H ∧ k τf Hf = some res := by
  intro l
  induction l with
  | nil => intro τ H h; exact ⟨τ, H, .nil, h⟩
  | cons x rest ih =>
    intro τ H h
    cases x with
    | op i =>
      simp only [adraw] at h
      cases ho : ops[i]? with
      | none => simp [ho] at h
      | some o =>
        simp only [ho] at h
        cases hw : awanted ops τ o with
        | none => simp [hw] at h
        | some b =>
          cases b with
          | false =>
            simp only [hw] at h
            obtain ⟨τf, Hf, h1, h2⟩ := ih _ _ h
            exact ⟨τf, Hf, .unw ho hw h1, h2⟩
          | true =>
            simp only [hw] at h
            cases hd : dop P call ext n0 i τ o H with
            | none => simp [hd] at h
            | some q =>
              obtain ⟨v, H1⟩ := q
              simp only [hd] at h
              obtain ⟨τf, Hf, h1, h2⟩ := ih _ _ h
              exact ⟨τf, Hf, .op ho hw hd h1, h2⟩
    | re i =>
      simp only [adraw] at h
      cases ho : ops[i]? with
      | none => simp [ho] at h
      | some o =>
        simp only [ho] at h
        cases hw : awanted ops τ o with
        | none => simp [hw] at h
        | some b =>
          cases b with
          | false =>
            simp only [hw] at h
            obtain ⟨τf, Hf, h1, h2⟩ := ih _ _ h
            exact ⟨τf, Hf, .reu ho hw h1, h2⟩
          | true =>
            simp only [hw] at h
            split at h
            · rename_i t x d hop hdst
              split at h
              · rename_i p v hp hv
                cases hl : oload P t p H with
                | none => simp [hl] at h
                | some u =>
                  simp only [hl] at h
                  split at h
                  · rename_i hb
                    have := beqV_eq hb
                    subst this
                    obtain ⟨τf, Hf, h1, h2⟩ := ih _ _ h
                    exact ⟨τf, Hf, .re ho hw hop hdst hp hv hl h1, h2⟩
                  · cases h
              · cases h
            · cases h

theorem setT_n (τ : Env) (d : Option Tmp) (v : Value) : (setT τ d v).n = τ.n := by cases d <;> simp [setT, putE_n]

theorem DR.length {τf : Env} {Hf : AHeap} {l : List PI} {τ : Env} {H : AHeap} (h : DR P call ext n0 ops τf Hf l τ H) : τf.n = τ.n := by
  induction h with
  | nil => rfl
  | unw ho hw h ih => rw [ih, setT_n]
  | op ho hw hd h ih => rw [ih, setT_n]
  | reu ho hw h ih => exact ih
  | re ho hw hop hdst hp hv hl h ih => exact ih

/-- No slot is known that isn't there. -/
def Env.In (τ : Env) : Prop := ∀ t v, τ.get t = some v → t < τ.n

theorem Env.In.setT {τ : Env} (h : τ.In) (d : Option Tmp) (v : Value) : (setT τ d v).In := by
  cases d with
  | none => exact h
  | some d =>
    intro t u e
    simp only [Bk.setT] at e ⊢
    rw [putE_n]
    rcases putE_get e with ⟨rfl, hl, _⟩ | ⟨_, e⟩ | ⟨_, e⟩
    · exact hl
    · exact h t u e
    · exact h t u e

theorem DR.inside {τf : Env} {Hf : AHeap} {l : List PI} {τ : Env} {H : AHeap} (h : DR P call ext n0 ops τf Hf l τ H) (hin : τ.In) : τf.In := by
  induction h with
  | nil => exact hin
  | unw ho hw h ih => exact ih (hin.setT _ _)
  | op ho hw hd h ih => exact ih (hin.setT _ _)
  | reu ho hw h ih => exact ih hin
  | re ho hw hop hdst hp hv hl h ih => exact ih hin

theorem setT_ne {τ : Env} {d : Option Tmp} {v : Value} {t : Tmp} (h : d ≠ some t) : (setT τ d v).get t = τ.get t := by
  cases d with
  | none => rfl
  | some d => simp only [setT]; rw [putE_ne (by intro e; exact h (by rw [e]))]

theorem setT_same {τ : Env} {v : Value} {t : Tmp} (h : t < τ.n) : (setT τ (some t) v).get t = some v := by simp only [setT]; exact putE_same h

theorem sparesT_op {t : Tmp} {i : Nat} {o : Oper} (ho : ops[i]? = some o) : sparesT ops t (.op i) = true ↔ o.dst ≠ some t := by simp [sparesT, dstAt, ho]

theorem DR.spare {τf : Env} {Hf : AHeap} {l : List PI} {τ : Env} {H : AHeap} (h : DR P call ext n0 ops τf Hf l τ H) {t : Tmp} (hs : l.all (sparesT ops t) = true) : τ.get t = τf.get t := by
  induction h with
  | nil => rfl
  | unw ho hw h ih => simp only [List.all_cons, Bool.and_eq_true] at hs; rw [← ih hs.2, setT_ne ((sparesT_op ho).1 hs.1)]
  | op ho hw hd h ih => simp only [List.all_cons, Bool.and_eq_true] at hs; rw [← ih hs.2, setT_ne ((sparesT_op ho).1 hs.1)]
  | reu ho hw h ih => simp only [List.all_cons, Bool.and_eq_true] at hs; exact ih hs.2
  | re ho hw hop hdst hp hv hl h ih => simp only [List.all_cons, Bool.and_eq_true] at hs; exact ih hs.2

/-- What an operation sees of the slots, whenever it stands. -/
noncomputable def sees (ops : Array Oper) (τ0 τf : Env) (i : Nat) (t : Nat) : Option Value := if wr ops (ancs ops) i t then τf.get t else τ0.get t
noncomputable def view (ops : Array Oper) (τ0 τf : Env) (i : Nat) : Env :=
  ⟨τ0.n, (looksI ops i).filterMap fun t => (sees ops τ0 τf i t).map fun v => (t, v)⟩

theorem lookL_filterMap (f : Nat → Option Value) (t : Nat) : ∀ (l : List Nat), lookL (l.filterMap fun u => (f u).map fun v => (u, v)) t = if t ∈ l then f t else none
  | [] => rfl
  | u :: l => by
    have ih := lookL_filterMap f t l
    rw [List.filterMap_cons]
    cases hu : f u with
    | none =>
      simp only [Option.map_none]
      rw [ih]
      by_cases e : t = u
      · subst e; simp [hu]
      · simp [e]
    | some v =>
      simp only [Option.map_some]
      rw [lookL_cons, ih]
      by_cases e : u = t
      · subst e; simp [hu]
      · simp [e, Ne.symm e]

theorem view_n (τ0 τf : Env) (i : Nat) : (view ops τ0 τf i).n = τ0.n := rfl

theorem view_get {τ0 τf : Env} {i t : Nat} (h : t ∈ looksI ops i) : (view ops τ0 τf i).get t = if wr ops (ancs ops) i t then τf.get t else τ0.get t := by
  unfold Env.get view
  rw [lookL_filterMap, if_pos h]
  rfl

theorem view_some {τ0 τf : Env} {i t : Nat} {v : Value} (h : (view ops τ0 τf i).get t = some v) :
    t ∈ looksI ops i ∧ (if wr ops (ancs ops) i t then τf.get t else τ0.get t) = some v := by
  have hm : t ∈ looksI ops i := by
    unfold Env.get view at h
    rw [lookL_filterMap] at h
    split at h
    · assumption
    · cases h
  exact ⟨hm, by rw [← view_get hm]; exact h⟩

def DstF (τf : Env) (d : Option Tmp) (v : Value) : Prop := ∀ t, d = some t → t < τf.n → τf.get t = some v

/-- The same trace, each operation with what it sees. -/
inductive DV (P : Program) (call : ACallee → List Value → AM Value) (ext : FuncId → List Value → AM Value) (n0 : Nat) (ops : Array Oper) (τ0 τf : Env) : List PI → AHeap → AHeap → Prop
  | nil (H : AHeap) : DV P call ext n0 ops τ0 τf [] H H
  | unw {i : Nat} {rest : List PI} {H Hf : AHeap} {o : Oper} (ho : ops[i]? = some o) (hw : awanted ops (view ops τ0 τf i) o = some false) (hd : DstF τf o.dst (.tuple #[]))
      (h : DV P call ext n0 ops τ0 τf rest H Hf) : DV P call ext n0 ops τ0 τf (.op i :: rest) H Hf
  | op {i : Nat} {rest : List PI} {H H1 Hf : AHeap} {o : Oper} {v : Value} (ho : ops[i]? = some o) (hw : awanted ops (view ops τ0 τf i) o = some true) (hop : dop P call ext n0 i (view ops τ0 τf i) o H = some (v, H1)) (hd : DstF τf o.dst v)
      (h : DV P call ext n0 ops τ0 τf rest H1 Hf) : DV P call ext n0 ops τ0 τf (.op i :: rest) H Hf
  | reu {i : Nat} {rest : List PI} {H Hf : AHeap} {o : Oper} (ho : ops[i]? = some o) (hw : awanted ops (view ops τ0 τf i) o = some false) (hd : DstF τf o.dst (.tuple #[]) ∨ True)
      (h : DV P call ext n0 ops τ0 τf rest H Hf) : DV P call ext n0 ops τ0 τf (.re i :: rest) H Hf
  | re {i : Nat} {rest : List PI} {H Hf : AHeap} {o : Oper} {t : TypeId} {x : Operand} {p v : Value} (ho : ops[i]? = some o) (hw : awanted ops (view ops τ0 τf i) o = some true)
      (hop : o.op = .load t x) (hp : ask P (view ops τ0 τf i) x = some p) (hd : DstF τf o.dst v) (hl : oload P t p H = some v)
      (h : DV P call ext n0 ops τ0 τf rest H Hf) : DV P call ext n0 ops τ0 τf (.re i :: rest) H Hf

theorem DR.toDV {τ0 τf : Env} {Hf : AHeap} {l : List PI} {τ : Env} {H : AHeap} (h : DR P call ext n0 ops τf Hf l τ H) :
    ∀ (pre : List PI), planOk ops (ancs ops) pre l = true → τ.n = τ0.n → (∀ t, pre.all (sparesT ops t) = true → τ.get t = τ0.get t) → DV P call ext n0 ops τ0 τf l H Hf := by
  induction h with
  | nil => intro _ _ _ _; exact .nil _
  | @unw i rest τ H o ho hw h ih =>
    intro pre hp hlen h0
    have hall := DR.unw ho hw h
    have hfl := hall.length
    simp only [planOk, Bool.and_eq_true, List.all_eq_true] at hp
    obtain ⟨⟨hp1, hp2⟩, hp3⟩ := hp
    have hag : Agree (looks ops o) τ (view ops τ0 τf i) := fun t ht => by
      have ht' : t ∈ looksI ops i := by simpa [looksI, ho] using ht
      have := hp1 t ht'
      rw [view_get ht']
      split at this
      · rename_i hwr; rw [if_pos hwr]; exact hall.spare (by rw [List.all_eq_true]; exact (List.all_eq_true.1 this))
      · rename_i hwr; rw [if_neg hwr]; exact h0 t this
    have hdst : DstF τf o.dst (.tuple #[]) := fun t e ht => by
      rw [← h.spare (t := t) (List.all_eq_true.2 (by have := hp2 t (by simp [dstAt, ho, e]); simpa using this)), e, setT_same (by rw [← hfl]; exact ht)]
    refine .unw ho (by rw [← awanted_agree hag]; exact hw) hdst (ih (pre ++ [.op i]) hp3 (by rw [setT_n]; exact hlen) fun t ht => ?_)
    simp only [List.all_append, Bool.and_eq_true, List.all_cons, List.all_nil, Bool.and_true] at ht
    rw [setT_ne ((sparesT_op ho).1 ht.2), h0 t ht.1]
  | @op i rest τ H H1 o v ho hw hd h ih =>
    intro pre hp hlen h0
    have hall := DR.op ho hw hd h
    have hfl := hall.length
    simp only [planOk, Bool.and_eq_true, List.all_eq_true] at hp
    obtain ⟨⟨hp1, hp2⟩, hp3⟩ := hp
    have hag : Agree (looks ops o) τ (view ops τ0 τf i) := fun t ht => by
      have ht' : t ∈ looksI ops i := by simpa [looksI, ho] using ht
      have := hp1 t ht'
      rw [view_get ht']
      split at this
      · rename_i hwr; rw [if_pos hwr]; exact hall.spare (by rw [List.all_eq_true]; exact (List.all_eq_true.1 this))
      · rename_i hwr; rw [if_neg hwr]; exact h0 t this
    have hdst : DstF τf o.dst v := fun t e ht => by
      rw [← h.spare (t := t) (List.all_eq_true.2 (by have := hp2 t (by simp [dstAt, ho, e]); simpa using this)), e, setT_same (by rw [← hfl]; exact ht)]
    refine .op ho (by rw [← awanted_agree hag]; exact hw) (by rw [← dop_congr (operands_agree hag)]; exact hd) hdst (ih (pre ++ [.op i]) hp3 (by rw [setT_n]; exact hlen) fun t ht => ?_)
    simp only [List.all_append, Bool.and_eq_true, List.all_cons, List.all_nil, Bool.and_true] at ht
    rw [setT_ne ((sparesT_op ho).1 ht.2), h0 t ht.1]
  | @reu i rest τ H o ho hw h ih =>
    intro pre hp hlen h0
    have hall := DR.reu ho hw h
    have hfl := hall.length
    simp only [planOk, Bool.and_eq_true, List.all_eq_true] at hp
    obtain ⟨⟨hp1, hp2⟩, hp3⟩ := hp
    have hag : Agree (looks ops o) τ (view ops τ0 τf i) := fun t ht => by
      have ht' : t ∈ looksI ops i := by simpa [looksI, ho] using ht
      have := hp1 t ht'
      rw [view_get ht']
      split at this
      · rename_i hwr; rw [if_pos hwr]; exact h.spare (by rw [List.all_eq_true]; exact (List.all_eq_true.1 this))
      · rename_i hwr; rw [if_neg hwr]; exact h0 t this
    refine .reu ho (by rw [← awanted_agree hag]; exact hw) (.inr trivial) (ih (pre ++ [.re i]) hp3 hlen fun t ht => ?_)
    simp only [List.all_append, Bool.and_eq_true] at ht
    exact h0 t ht.1
  | @re i rest τ H o t x d p v ho hw hop hdst hp' hv hl h ih =>
    intro pre hp hlen h0
    have hfl := h.length
    simp only [planOk, Bool.and_eq_true, List.all_eq_true] at hp
    obtain ⟨⟨hp1, hp2⟩, hp3⟩ := hp
    have hag : Agree (looks ops o) τ (view ops τ0 τf i) := fun t ht => by
      have ht' : t ∈ looksI ops i := by simpa [looksI, ho] using ht
      have := hp1 t ht'
      rw [view_get ht']
      split at this
      · rename_i hwr; rw [if_pos hwr]; exact h.spare (by rw [List.all_eq_true]; exact (List.all_eq_true.1 this))
      · rename_i hwr; rw [if_neg hwr]; exact h0 t this
    have hds : DstF τf o.dst v := fun t e ht => by
      rw [hdst] at e; cases e
      rw [← h.spare (t := d) (List.all_eq_true.2 (by have := hp2 d (by simp [dstAt, ho, hdst]); simpa using this)), hv]
    refine .re ho (by rw [← awanted_agree hag]; exact hw) hop (by rw [← operands_agree (P := P) hag x (by rw [hop]; simp [Op.operands])]; exact hp') hds hl (ih (pre ++ [.re i]) hp3 hlen fun t ht => ?_)
    simp only [List.all_append, Bool.and_eq_true] at ht
    exact h0 t ht.1

theorem DV.split {τ0 τf : Env} : ∀ {l m : List PI} {H Hf : AHeap}, DV P call ext n0 ops τ0 τf (l ++ m) H Hf → ∃ H1, DV P call ext n0 ops τ0 τf l H H1 ∧ DV P call ext n0 ops τ0 τf m H1 Hf
  | [], m, H, Hf, h => ⟨H, .nil _, h⟩
  | .op i :: l, m, H, Hf, h => by
    cases h with
    | unw ho hw hd h => obtain ⟨H1, h1, h2⟩ := DV.split h; exact ⟨H1, .unw ho hw hd h1, h2⟩
    | op ho hw hop hd h => obtain ⟨H1, h1, h2⟩ := DV.split h; exact ⟨H1, .op ho hw hop hd h1, h2⟩
  | .re i :: l, m, H, Hf, h => by
    cases h with
    | reu ho hw hd h => obtain ⟨H1, h1, h2⟩ := DV.split h; exact ⟨H1, .reu ho hw hd h1, h2⟩
    | re ho hw hop hp hd hl h => obtain ⟨H1, h1, h2⟩ := DV.split h; exact ⟨H1, .re ho hw hop hp hd hl h1, h2⟩

/-! ### Stages -/
def W (ops : Array Oper) (τ0 τf : Env) (i : Nat) : Prop := ∃ o, ops[i]? = some o ∧ awanted ops (view ops τ0 τf i) o = some true

/-- What is known of an operation that is no effect, in a heap. -/
inductive OpF (P : Program) (n0 : Nat) (ops : Array Oper) (τ0 τf : Env) (i : Nat) (o : Oper) (H : AHeap) : Prop
  | unw (hw : awanted ops (view ops τ0 τf i) o = some false) (hd : DstF τf o.dst (.tuple #[]))
  | pure {v : Value} (hw : awanted ops (view ops τ0 τf i) o = some true) (hc : cls P o.op = .pure) (h : apure P (view ops τ0 τf i) o.op = some v) (hd : DstF τf o.dst v)
  | load {t : TypeId} {x : Operand} {p v : Value} (hw : awanted ops (view ops τ0 τf i) o = some true) (hc : cls P o.op = .load) (hop : o.op = .load t x) (hp : ask P (view ops τ0 τf i) x = some p)
      (hl : oload P t p H = some v) (hd : DstF τf o.dst v)
  | alloc {f : Nat → Value} {cs : List Value} {e : TypeId} (hw : awanted ops (view ops τ0 τf i) o = some true) (hc : cls P o.op = .alloc) (h : mk P (view ops τ0 τf i) o.op = some (f, cs, e))
      (hg : H.get (n0 + i) = some (.cells cs e false)) (hd : DstF τf o.dst (f (n0 + i)))

/-- The heap grows. -/
def Grows (H H' : AHeap) : Prop := ∀ j o, H.get j = some o → H'.get j = some o
theorem Grows.refl (H : AHeap) : Grows H H := fun _ _ h => h
theorem Grows.trans {A B C : AHeap} (h : Grows A B) (k : Grows B C) : Grows A C := fun j o e => k j o (h j o e)

theorem oload_grows {H H' : AHeap} (h : ∀ b o, H.get b = some o → H'.get b = some o) {t : TypeId} {p v : Value} (hl : oload P t p H = some v) : oload P t p H' = some v := by
  unfold oload at hl ⊢
  split at hl
  · rename_i b o
    cases hg : H.get b with
    | none => simp [hg] at hl
    | some ob => rw [hg] at hl; simp only [h b ob hg]; exact hl
  · cases hl

theorem OpF.grows {τ0 τf : Env} {i : Nat} {o : Oper} {H H' : AHeap} (h : OpF P n0 ops τ0 τf i o H) (g : Grows H H') : OpF P n0 ops τ0 τf i o H' := by
  cases h with
  | unw hw hd => exact .unw hw hd
  | pure hw hc h hd => exact .pure hw hc h hd
  | load hw hc hop hp hl hd => exact .load hw hc hop hp (oload_grows g hl) hd
  | alloc hw hc h hg hd => exact .alloc hw hc h (g _ _ hg) hd

structure Fills (P : Program) (n0 : Nat) (ops : Array Oper) (τ0 τf : Env) (L : List Nat) (H H' : AHeap) : Prop where
  next : H'.next = H.next
  get : ∀ j, H'.get j = H.get j ∨ (H.get j = none ∧ ∃ i ∈ L, j = n0 + i ∧ clsAt P ops .alloc i = true ∧ W ops τ0 τf i)
  op : ∀ i ∈ L, ∃ o, ops[i]? = some o ∧ OpF P n0 ops τ0 τf i o H'

theorem Fills.grows {τ0 τf : Env} {L : List Nat} {H H' : AHeap} (h : Fills P n0 ops τ0 τf L H H') : Grows H H' := fun j o e => by
  rcases h.get j with h' | ⟨h', _⟩
  · rw [h', e]
  · rw [h'] at e; cases e

theorem dop_fill {τ : Env} {i : Nat} {o : Oper} {v : Value} {H H1 : AHeap} (hc : cls P o.op ≠ .eff) (h : dop P call ext n0 i τ o H = some (v, H1)) :
    (H1 = H ∧ ((cls P o.op = .pure ∧ apure P τ o.op = some v) ∨ (cls P o.op = .load ∧ ∃ t x p, o.op = .load t x ∧ ask P τ x = some p ∧ oload P t p H = some v))) ∨
    (cls P o.op = .alloc ∧ ∃ f cs e, mk P τ o.op = some (f, cs, e) ∧ H.get (n0 + i) = none ∧ v = f (n0 + i) ∧ H1 = H.put (n0 + i) (.cells cs e false)) := by
  unfold dop at h
  cases hcl : cls P o.op with
  | eff => exact absurd hcl hc
  | pure =>
    simp only [hcl, aop] at h
    cases hp : apure P τ o.op with
    | none => simp [hp] at h
    | some u => simp only [hp, Option.some.injEq, Prod.mk.injEq] at h; exact .inl ⟨h.2.symm, .inl ⟨rfl, by rw [h.1]⟩⟩
  | load =>
    simp only [hcl, aop] at h
    split at h
    · rename_i t x hop
      cases hp : ask P τ x with
      | none => simp [hp] at h
      | some p =>
        simp only [hp] at h
        cases hl : oload P t p H with
        | none => simp [hl] at h
        | some u => simp only [hl, Option.some.injEq, Prod.mk.injEq] at h; exact .inl ⟨h.2.symm, .inr ⟨rfl, t, x, p, hop, hp, by rw [hl, h.1]⟩⟩
    · cases h
  | alloc =>
    simp only [hcl] at h
    split at h
    · rename_i f cs e hm hg
      simp only [Option.some.injEq, Prod.mk.injEq] at h
      exact .inr ⟨rfl, f, cs, e, hm, hg, h.1.symm, h.2.symm⟩
    · cases h

theorem DV.fills {τ0 τf : Env} : ∀ {L : List Nat} {H H' : AHeap}, (∀ i ∈ L, clsAt P ops .eff i = false) → DV P call ext n0 ops τ0 τf (L.map .op) H H' → Fills P n0 ops τ0 τf L H H'
  | [], H, H', _, h => by cases h; exact ⟨rfl, fun _ => .inl rfl, fun i hi => by cases hi⟩
  | i :: L, H, H', hL, h => by
    rw [List.map_cons] at h
    cases h with
    | unw ho hw hd h =>
      have := DV.fills (fun j hj => hL j (List.mem_cons_of_mem _ hj)) h
      refine ⟨this.next, fun j => (this.get j).imp id fun ⟨a, k, hk, b⟩ => ⟨a, k, List.mem_cons_of_mem _ hk, b⟩, fun k hk => ?_⟩
      rcases List.mem_cons.1 hk with rfl | hk
      · exact ⟨_, ho, .unw hw hd⟩
      · exact this.op k hk
    | @op _ _ _ H1 _ o v ho hw hop hd h =>
      have ih := DV.fills (fun j hj => hL j (List.mem_cons_of_mem _ hj)) h
      have hne : cls P o.op ≠ .eff := by have := hL i (List.mem_cons_self ..); simpa [clsAt, ho] using this
      rcases dop_fill hne hop with ⟨rfl, h1⟩ | ⟨hc, f, cs, e, hm, hg, rfl, rfl⟩
      · refine ⟨ih.next, fun j => (ih.get j).imp id fun ⟨a, k, hk, b⟩ => ⟨a, k, List.mem_cons_of_mem _ hk, b⟩, fun k hk => ?_⟩
        rcases List.mem_cons.1 hk with rfl | hk
        · rcases h1 with ⟨hc, h1⟩ | ⟨hc, t, x, p, h1, h2, h3⟩
          · exact ⟨_, ho, .pure hw hc h1 hd⟩
          · exact ⟨_, ho, .load hw hc h1 h2 (oload_grows ih.grows h3) hd⟩
        · exact ih.op k hk
      · refine ⟨ih.next, fun j => ?_, fun k hk => ?_⟩
        · have hj := ih.get j
          rw [AHeap.get_put] at hj
          by_cases e' : j = n0 + i
          · subst e'
            exact .inr ⟨hg, i, List.mem_cons_self .., rfl, by simp [clsAt, ho, hc], o, ho, hw⟩
          · rw [if_neg e'] at hj
            exact hj.imp id fun ⟨a, k, hk, b⟩ => ⟨a, k, List.mem_cons_of_mem _ hk, b⟩
        · rcases List.mem_cons.1 hk with rfl | hk
          · exact ⟨_, ho, .alloc hw hc hm (ih.grows _ _ (by rw [AHeap.get_put, if_pos rfl])) hd⟩
          · exact ih.op k hk

theorem DV.looks {τ0 τf : Env} : ∀ {L : List Nat} {H H' : AHeap}, (∀ i ∈ L, clsAt P ops .load i = true) → DV P call ext n0 ops τ0 τf (L.map .re) H H' → H' = H ∧ ∀ i ∈ L, ∃ o, ops[i]? = some o ∧ (awanted ops (view ops τ0 τf i) o = some false ∨ OpF P n0 ops τ0 τf i o H)
  | [], H, H', _, h => by cases h; exact ⟨rfl, fun i hi => by cases hi⟩
  | i :: L, H, H', hL, h => by
    rw [List.map_cons] at h
    cases h with
    | @reu _ _ _ _ o ho hw hd h =>
      obtain ⟨e, ih⟩ := DV.looks (fun j hj => hL j (List.mem_cons_of_mem _ hj)) h
      have hc : cls P o.op = .load := by have := hL i (List.mem_cons_self ..); simpa [clsAt, ho] using this
      refine ⟨e, fun k hk => ?_⟩
      rcases List.mem_cons.1 hk with rfl | hk
      · exact ⟨_, ho, .inl hw⟩
      · exact ih k hk
    | @re _ _ _ _ o t x p v ho hw hop hp hd hl h =>
      obtain ⟨e, ih⟩ := DV.looks (fun j hj => hL j (List.mem_cons_of_mem _ hj)) h
      have hc : cls P o.op = .load := by have := hL i (List.mem_cons_self ..); simpa [clsAt, ho] using this
      refine ⟨e, fun k hk => ?_⟩
      rcases List.mem_cons.1 hk with rfl | hk
      · exact ⟨_, ho, .inr (.load hw hc hop hp hl hd)⟩
      · exact ih k hk

end
end Go.Bk
