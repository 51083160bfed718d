/- THE ABSTRACT MACHINE AND THE MODEL's: which values, frames and heaps stand for which. No condition. -/
import Derived.Test.YtifnbnlghfedfaaGreatDoorBkExt
import Derived.Below
namespace Go.Bk
open Go

/-- Where an object of the abstract heap lies: its block, the first cell, the cells of an element, and (of an open row) where the row ends. -/
structure Loc where
  block : Nat
  base : Nat
  esz : Nat
  limit : Nat

abbrev Ren := Nat → Option Loc

mutual
inductive VR (ρ : Ren) : Value → Value → Prop
  | bool (b : Bool) : VR ρ (.bool b) (.bool b)
  | int (k : IntKind) (n : Int) : VR ρ (.int k n) (.int k n)
  | string (s : ByteArray) : VR ρ (.string s) (.string s)
  | nilptr : VR ρ (.pointer none) (.pointer none)
  | ptr {i o : Nat} {l : Loc} (h : ρ i = some l) : VR ρ (.pointer (some ⟨i, o, none⟩)) (.pointer (some ⟨l.block, l.base + o, none⟩))
  | nilslice : VR ρ (.slice none 0 0) (.slice none 0 0)
  | sliceK {i o n c : Nat} {l : Loc} (h : ρ i = some l) : VR ρ (.slice (some ⟨i, o, none⟩) n c) (.slice (some ⟨l.block, l.base + o, none⟩) n c)
  | sliceT {i o n c z : Nat} {l : Loc} (h : ρ i = some l) (hz : l.esz = z + 1) (hn : n ≤ c) (hc : l.base + o + c * (z + 1) = l.limit) :
      VR ρ (.slice (some ⟨i, o, some (z + 1)⟩) n 0) (.slice (some ⟨l.block, l.base + o, none⟩) n c)
  | ghost (a : Option Addr) (c : Nat) : VR ρ (.slice (some ⟨0, 0, some 0⟩) 0 0) (.slice a 0 c)
  | nilmap : VR ρ (.map none) (.map none)
  | map {i : Nat} {l : Loc} (h : ρ i = some l) : VR ρ (.map (some i)) (.map (some l.block))
  | nilFunc : VR ρ .nilFunc .nilFunc
  | nilIface : VR ρ .nilIface .nilIface
  | iface (t : TypeId) {v v' : Value} (h : VR ρ v v') : VR ρ (.iface t v) (.iface t v')
  | agg {l l' : List Value} (h : VRs ρ l l') : VR ρ (.agg ⟨l⟩) (.agg ⟨l'⟩)
  | tuple {l l' : List Value} (h : VRs ρ l l') : VR ρ (.tuple ⟨l⟩) (.tuple ⟨l'⟩)
  | func (f : FuncId) {a a' b b' : List Value} (h : VRs ρ a a') (g : VRs ρ b b') : VR ρ (.func (.func f) ⟨a⟩ ⟨b⟩) (.func (.func f) ⟨a'⟩ ⟨b'⟩)
  | yield {i : Nat} {l : Loc} (h : ρ i = some l) : VR ρ (.func (.yield i) ⟨[]⟩ ⟨[]⟩) (.func (.yield l.block) ⟨[]⟩ ⟨[]⟩)
inductive VRs (ρ : Ren) : List Value → List Value → Prop
  | nil : VRs ρ [] []
  | cons {v v' : Value} {l l' : List Value} (h : VR ρ v v') (t : VRs ρ l l') : VRs ρ (v :: l) (v' :: l')
end

/-- More is known. -/
def Ext (ρ ρ' : Ren) : Prop := ∀ i l, ρ i = some l → ρ' i = some l
theorem Ext.refl (ρ : Ren) : Ext ρ ρ := fun _ _ h => h
theorem Ext.trans {a b c : Ren} (h : Ext a b) (k : Ext b c) : Ext a c := fun i l e => k i l (h i l e)

mutual
theorem VR.mono {ρ ρ' : Ren} (he : Ext ρ ρ') : ∀ {v v' : Value}, VR ρ v v' → VR ρ' v v'
  | _, _, .bool b => .bool b
  | _, _, .int k n => .int k n
  | _, _, .string s => .string s
  | _, _, .nilptr => .nilptr
  | _, _, .ptr h => .ptr (he _ _ h)
  | _, _, .nilslice => .nilslice
  | _, _, .sliceK h => .sliceK (he _ _ h)
  | _, _, .sliceT h hz hn hc => .sliceT (he _ _ h) hz hn hc
  | _, _, .ghost a c => .ghost a c
  | _, _, .nilmap => .nilmap
  | _, _, .map h => .map (he _ _ h)
  | _, _, .nilFunc => .nilFunc
  | _, _, .nilIface => .nilIface
  | _, _, .iface t h => .iface t (VR.mono he h)
  | _, _, .agg h => .agg (VRs.mono he h)
  | _, _, .tuple h => .tuple (VRs.mono he h)
  | _, _, .func f h g => .func f (VRs.mono he h) (VRs.mono he g)
  | _, _, .yield h => .yield (he _ _ h)
theorem VRs.mono {ρ ρ' : Ren} (he : Ext ρ ρ') : ∀ {l l' : List Value}, VRs ρ l l' → VRs ρ' l l'
  | _, _, .nil => .nil
  | _, _, .cons h t => .cons (VR.mono he h) (VRs.mono he t)
end

mutual
/-- A value without an address stands for itself alone. -/
theorem VR.of_flat {ρ : Ren} : ∀ {v : Value}, flat v = true → VR ρ v v
  | .bool b, _ => .bool b
  | .int k n, _ => .int k n
  | .string s, _ => .string s
  | .pointer none, _ => .nilptr
  | .slice none 0 0, _ => .nilslice
  | .map none, _ => .nilmap
  | .nilFunc, _ => .nilFunc
  | .nilIface, _ => .nilIface
  | .iface t v, h => .iface t (VR.of_flat (by simpa [flat] using h))
  | .agg ⟨l⟩, h => .agg (VRs.of_flats (by simpa [flat] using h))
  | .tuple ⟨l⟩, h => .tuple (VRs.of_flats (by simpa [flat] using h))
  | .func (.func f) ⟨a⟩ ⟨b⟩, h => .func f (VRs.of_flats (by simp [flat] at h; exact h.1)) (VRs.of_flats (by simp [flat] at h; exact h.2))
theorem VRs.of_flats {ρ : Ren} : ∀ {l : List Value}, flats l = true → VRs ρ l l
  | [], _ => .nil
  | v :: l, h => .cons (VR.of_flat (by simp [flats] at h; exact h.1)) (VRs.of_flats (by simp [flats] at h; exact h.2))
end

mutual
theorem VR.eq_of_flat {ρ : Ren} : ∀ {v v' : Value}, VR ρ v v' → flat v = true → v' = v
  | _, _, .bool _, _ => rfl
  | _, _, .int _ _, _ => rfl
  | _, _, .string _, _ => rfl
  | _, _, .nilptr, _ => rfl
  | _, _, .ptr _, h => by simp [flat] at h
  | _, _, .nilslice, _ => rfl
  | _, _, .sliceK _, h => by simp [flat] at h
  | _, _, .sliceT _ _ _ _, h => by simp [flat] at h
  | _, _, .ghost _ _, h => by simp [flat] at h
  | _, _, .nilmap, _ => rfl
  | _, _, .map _, h => by simp [flat] at h
  | _, _, .nilFunc, _ => rfl
  | _, _, .nilIface, _ => rfl
  | _, _, .iface t h, hf => by rw [VR.eq_of_flat h (by simpa [flat] using hf)]
  | _, _, .agg h, hf => by rw [VRs.eq_of_flats h (by simpa [flat] using hf)]
  | _, _, .tuple h, hf => by rw [VRs.eq_of_flats h (by simpa [flat] using hf)]
  | _, _, .func f h g, hf => by simp [flat] at hf; rw [VRs.eq_of_flats h hf.1, VRs.eq_of_flats g hf.2]
  | _, _, .yield _, h => by simp [flat] at h
theorem VRs.eq_of_flats {ρ : Ren} : ∀ {l l' : List Value}, VRs ρ l l' → flats l = true → l' = l
  | _, _, .nil, _ => rfl
  | _, _, .cons h t, hf => by simp [flats] at hf; rw [VR.eq_of_flat h hf.1, VRs.eq_of_flats t hf.2]
end

theorem VRs.length {ρ : Ren} : ∀ {l l' : List Value}, VRs ρ l l' → l'.length = l.length
  | _, _, .nil => rfl
  | _, _, .cons _ t => by simp [VRs.length t]

theorem VRs.get {ρ : Ren} : ∀ {l l' : List Value}, VRs ρ l l' → ∀ {k : Nat} {v : Value}, l[k]? = some v → ∃ v', l'[k]? = some v' ∧ VR ρ v v'
  | _, _, .nil, _, _, h => by simp at h
  | _, _, .cons h t, 0, _, e => by simp at e; subst e; exact ⟨_, rfl, h⟩
  | _, _, .cons h t, k + 1, v, e => by simp at e; simpa using VRs.get t e

theorem VRs.of_get {ρ : Ren} : ∀ {l l' : List Value}, l'.length = l.length → (∀ (k : Nat) v, l[k]? = some v → ∃ v', l'[k]? = some v' ∧ VR ρ v v') → VRs ρ l l'
  | [], [], _, _ => .nil
  | [], _ :: _, h, _ => by simp at h
  | _ :: _, [], h, _ => by simp at h
  | a :: l, b :: l', h, g => by
    obtain ⟨v', e, r⟩ := g 0 a rfl
    simp at e; subst e
    exact .cons r (VRs.of_get (by simpa using h) fun k v hk => by simpa using g (k + 1) v (by simpa using hk))

theorem VRs.append {ρ : Ren} : ∀ {l l' m m' : List Value}, VRs ρ l l' → VRs ρ m m' → VRs ρ (l ++ m) (l' ++ m')
  | _, _, _, _, .nil, k => k
  | _, _, _, _, .cons h t, k => .cons h (VRs.append t k)

theorem VRs.drop {ρ : Ren} : ∀ {l l' : List Value}, VRs ρ l l' → ∀ n, VRs ρ (l.drop n) (l'.drop n)
  | _, _, h, 0 => by simpa using h
  | _, _, .nil, n + 1 => by simpa using VRs.nil
  | _, _, .cons _ t, n + 1 => by simpa using VRs.drop t n

theorem VRs.take {ρ : Ren} : ∀ {l l' : List Value}, VRs ρ l l' → ∀ n, VRs ρ (l.take n) (l'.take n)
  | _, _, _, 0 => by simpa using VRs.nil
  | _, _, .nil, n + 1 => by simpa using VRs.nil
  | _, _, .cons h t, n + 1 => by simpa using VRs.cons h (VRs.take t n)

theorem VRs.zeros {ρ : Ren} {z : List Value} (h : flats z = true) : ∀ n, VRs ρ (zeros z n) (zeros z n)
  | 0 => .nil
  | n + 1 => (VRs.of_flats h).append (VRs.zeros h n)

/-- The cells of a value. -/
theorem VR.cells {ρ : Ren} {v v' : Value} (h : VR ρ v v') : VRs ρ v.cells.toList v'.cells.toList := by
  cases h <;> first
    | (simp only [Value.cells]; assumption)
    | (simp only [Value.cells]; exact .cons (by constructor <;> assumption) .nil)
    | (simp only [Value.cells]; exact .cons (by constructor) .nil)

theorem flats_cells {v : Value} (h : flat v = true) : flats v.cells.toList = true := by
  cases v <;> simp_all [Value.cells, flats, flat]

theorem VR.one {ρ : Ren} {v v' : Value} (h : VR ρ v v') : one v' = one v := by cases h <;> rfl

theorem VRs.allOne {ρ : Ren} : ∀ {l l' : List Value}, VRs ρ l l' → allOne l' = allOne l
  | _, _, .nil => rfl
  | _, _, .cons h t => by simp only [Bk.allOne, h.one, VRs.allOne t]

/-! ### Frames -/
/-- An environment stands for a frame's slots: what it knows of a slot stands for what the slot holds. -/
structure TR (ρ : Ren) (τ : Env) (tmps : Array Value) : Prop where
  size : tmps.size = τ.n
  get : ∀ (t : Nat) v, τ.get t = some v → ∃ v', tmps[t]? = some v' ∧ VR ρ v v'

theorem TR.mono {ρ ρ' : Ren} (he : Ext ρ ρ') {τ : Env} {tmps : Array Value} (h : TR ρ τ tmps) : TR ρ' τ tmps :=
  ⟨h.size, fun t v e => let ⟨v', e', r⟩ := h.get t v e; ⟨v', e', r.mono he⟩⟩

theorem TR.bound {ρ : Ren} {τ : Env} {tmps : Array Value} (h : TR ρ τ tmps) (t : Nat) (v : Value) (e : τ.get t = some v) : t < τ.n := by
  obtain ⟨v', e', _⟩ := h.get t v e
  rw [← h.size]
  exact (Array.getElem?_eq_some_iff.1 e').1

theorem TR.put {ρ : Ren} {τ : Env} {a : Act} (h : TR ρ τ a.tmps) (d : Option Tmp) {v v' : Value} (r : VR ρ v v') : TR ρ (setT τ d v) (a.put d v').tmps := by
  cases d with
  | none => exact h
  | some t =>
    refine ⟨by simp [Act.put, setT, putE_n, h.size], fun k u e => ?_⟩
    simp only [setT] at e
    simp only [Act.put, Array.getElem?_setIfInBounds]
    rcases putE_get e with ⟨rfl, hl, rfl⟩ | ⟨hk, e⟩ | ⟨hl, e⟩
    · simp [h.size, hl]; exact r
    · rw [if_neg hk]; exact h.get k u e
    · have := h.bound k u e
      rw [if_neg (by intro e'; exact hl (e' ▸ this))]
      exact h.get k u e

theorem bitN_eq (m t : Nat) : bitN m t = m.testBit t := by
  unfold bitN Nat.testBit
  show Nat.beq (1 &&& (m >>> t)) 1 = _
  rw [Nat.one_and_eq_mod_two]
  rcases Nat.mod_two_eq_zero_or_one (m >>> t) with h | h <;> rw [h] <;> rfl

theorem forgetL_cons (p : Nat × Value) (l : List (Nat × Value)) (m : Nat) : forgetL (p :: l) m = if m = 0 then [] else if m.testBit p.1 then p :: forgetL l (m ^^^ (1 <<< p.1)) else forgetL l m := by
  show Bool.rec (motive := fun _ => List (Nat × Value)) (Bool.rec (motive := fun _ => List (Nat × Value)) (forgetL l m) (p :: forgetL l (m ^^^ (1 <<< p.1))) (bitN m p.1)) [] (Nat.beq m 0) = _
  rw [bitN_eq]
  by_cases h0 : m = 0
  · subst h0; rfl
  · have : Nat.beq m 0 = false := by
      cases hb : Nat.beq m 0 with
      | false => rfl
      | true => exact absurd (by rw [Nat.beq_eq] at hb; exact hb) h0
    rw [this, if_neg h0]
    cases m.testBit p.1 <;> rfl

theorem lookL_forgetL : ∀ (l : List (Nat × Value)) (m t : Nat), (m.testBit t = false → lookL (forgetL l m) t = none) ∧ (∀ v, lookL (forgetL l m) t = some v → lookL l t = some v)
  | [], m, t => ⟨fun _ => rfl, fun v h => by cases h⟩
  | p :: l, m, t => by
    rw [forgetL_cons]
    split
    · exact ⟨fun _ => rfl, fun v h => by cases h⟩
    · split
      · rename_i hb
        have hbit : p.1 ≠ t → (m ^^^ (1 <<< p.1)).testBit t = m.testBit t := fun hne => by
          rw [Nat.testBit_xor, Nat.one_shiftLeft, Nat.testBit_two_pow_of_ne hne, Bool.xor_false]
        refine ⟨fun ht => ?_, fun v h => ?_⟩
        · have hne : p.1 ≠ t := fun e => by rw [e, ht] at hb; cases hb
          rw [lookL_cons, if_neg hne]
          exact (lookL_forgetL l _ t).1 (by rw [hbit hne]; exact ht)
        · rw [lookL_cons] at h ⊢
          split at h
          · rename_i e; rw [if_pos e]; exact h
          · rename_i e; rw [if_neg e]; exact (lookL_forgetL l _ t).2 v h
      · rename_i hb
        refine ⟨fun ht => (lookL_forgetL l m t).1 ht, fun v h => ?_⟩
        rw [lookL_cons]
        by_cases e : p.1 = t
        · subst e
          rw [(lookL_forgetL l m p.1).1 (by simpa using hb)] at h; cases h
        · rw [if_neg e]; exact (lookL_forgetL l m t).2 v h

theorem nat_beq_ne {a b : Nat} (h : a ≠ b) : Nat.beq a b = false := by
  cases hb : Nat.beq a b with
  | false => rfl
  | true => exact absurd (by rw [Nat.beq_eq] at hb; exact hb) h

theorem lookL_ins (p : Nat × Value) (t : Nat) : ∀ (l : List (Nat × Value)), lookL (ins p l) t = if p.1 = t then some p.2 else lookL l t
  | [] => by
    show lookL [p] t = _
    rw [lookL_cons]
  | q :: l => by
    have ih := lookL_ins p t l
    have e : ins p (q :: l) = Bool.rec (motive := fun _ => List (Nat × Value)) (Bool.rec (motive := fun _ => List (Nat × Value)) (q :: ins p l) (p :: l) (Nat.beq p.1 q.1)) (p :: q :: l) (Nat.blt p.1 q.1) := rfl
    rw [e]
    cases Nat.blt p.1 q.1 with
    | true => exact lookL_cons p (q :: l) t
    | false =>
      by_cases hq : p.1 = q.1
      · have hb : Nat.beq p.1 q.1 = true := by rw [Nat.beq_eq]; exact hq
        rw [hb]
        show lookL (p :: l) t = _
        rw [lookL_cons, lookL_cons]
        by_cases h : p.1 = t
        · rw [if_pos h, if_pos h]
        · rw [if_neg h, if_neg h, if_neg (by rw [← hq]; exact h)]
      · rw [nat_beq_ne hq]
        show lookL (q :: ins p l) t = _
        rw [lookL_cons, lookL_cons, ih]
        by_cases h : p.1 = t
        · rw [if_pos h, if_pos h, if_neg (by intro e'; exact hq (h.trans e'.symm))]
        · rw [if_neg h, if_neg h]

theorem lookL_sortL (t : Nat) : ∀ (l : List (Nat × Value)), lookL (sortL l) t = lookL l t
  | [] => rfl
  | p :: l => by
    show lookL (ins p (sortL l)) t = _
    rw [lookL_ins, lookL_cons, lookL_sortL t l]

theorem TR.forget {ρ : Ren} {τ : Env} {tmps : Array Value} (h : TR ρ τ tmps) (keep : Nat) : TR ρ (forget keep τ) tmps :=
  ⟨h.size, fun t v e => h.get t v ((lookL_forgetL τ.l keep t).2 v (by rw [← lookL_sortL]; exact e))⟩

/-! ### Heaps -/
def codeOf : AExit → Option Code
  | .normal => none
  | .exit id => some (.exit id)
  | .ret => some .ret

inductive ESR (ρ : Ren) : List (Value × Value × Nat) → List MapEntry → Prop
  | nil : ESR ρ [] []
  | cons {k v v' : Value} {b : Nat} {l : List (Value × Value × Nat)} {l' : List MapEntry} (hk : flat k = true) (h : VR ρ v v') (t : ESR ρ l l') :
      ESR ρ ((k, v, b) :: l) ({ key := k, val := v', born := b } :: l')

theorem ESR.mono {ρ ρ' : Ren} (he : Ext ρ ρ') : ∀ {l : List (Value × Value × Nat)} {l' : List MapEntry}, ESR ρ l l' → ESR ρ' l l'
  | _, _, .nil => .nil
  | _, _, .cons hk h t => .cons hk (h.mono he) (ESR.mono he t)

inductive ObjR (P : Program) (ρ : Ren) (l : Loc) : AObj → Obj → Prop
  | shut {cs : List Value} {e : TypeId} {C : Array Value} (hb : l.base = 0) (hc : VRs ρ cs C.toList) : ObjR P ρ l (.cells cs e false) (.cells C e (0, 0))
  | opn {cs : List Value} {e : TypeId} {C : Array Value} (hs : sizeOfA P e = some l.esz) (hz : 0 < l.esz) (hl : l.base + cs.length ≤ l.limit) (hL : l.limit ≤ C.size)
      (hc : ∀ (k : Nat) v, cs[k]? = some v → ∃ v', C[l.base + k]? = some v' ∧ VR ρ v v') : ObjR P ρ l (.cells cs e true) (.cells C e (0, 0))
  | iter (s : ByteArray) (pos : Nat) (hb : l.base = 0) : ObjR P ρ l (.iter s pos) (.stringIter s pos)
  | amap {es : List (Value × Value × Nat)} {es' : List MapEntry} {clock : Nat} (h : ESR ρ es es') : ObjR P ρ l (.amap es clock) (.map ⟨es'⟩ clock)
  | aloop {τ : Env} {ps : List Tmp} {assign body : Code} {fn : FuncId} {tmps : Array Value} {D : Nat} (h : TR ρ τ tmps) :
      ObjR P ρ l (.aloop τ ps assign body) (.loop { state := .ready, pending := none, fn, tmps, params := ⟨ps⟩, assign, body, defers := D })
  | view {cs : List Value} {e : TypeId} {C : Array Value} {fr : Nat × Nat} (hl : l.base + cs.length ≤ C.size) (hc : ∀ (k : Nat) v, cs[k]? = some v → ∃ v', C[l.base + k]? = some v' ∧ VR ρ v v') :
      ObjR P ρ l (.view cs (.cells C e fr)) (.cells C e fr)
  | adone {e : AExit} {c : Code} {fn : FuncId} {tmps : Array Value} {ps : Array Tmp} {assign body : Code} {D : Nat} (h : codeOf e = some c) :
      ObjR P ρ l (.adone e) (.loop { state := .done, pending := some c, fn, tmps, params := ps, assign, body, defers := D })

theorem ObjR.mono {P : Program} {ρ ρ' : Ren} (he : Ext ρ ρ') {l : Loc} {o : AObj} {ob : Obj} (h : ObjR P ρ l o ob) : ObjR P ρ' l o ob := by
  cases h with
  | shut hb hc => exact .shut hb (hc.mono he)
  | opn hs hz hl hL hc => exact .opn hs hz hl hL fun k v e => let ⟨v', e', r⟩ := hc k v e; ⟨v', e', r.mono he⟩
  | iter s pos hb => exact .iter s pos hb
  | amap h => exact .amap (h.mono he)
  | aloop h => exact .aloop (h.mono he)
  | adone h => exact .adone h
  | view hl hc => exact .view hl fun k v e => let ⟨v', e', r⟩ := hc k v e; ⟨v', e', r.mono he⟩

structure Rel (P : Program) (ρ : Ren) (H : AHeap) (w : World) : Prop where
  dom : ∀ i, H.next ≤ i → ρ i = none
  fresh : ∀ i, H.next ≤ i → H.get i = none
  obj : ∀ i o, H.get i = some o → ∃ l ob, ρ i = some l ∧ w.heap[l.block]? = some ob ∧ ObjR P ρ l o ob
  inj : ∀ i j o o' l l', H.get i = some o → H.get j = some o' → ρ i = some l → ρ j = some l' → l.block = l'.block → (isV o && isV o') = false → i = j
  glob : ∀ g, g < P.globals.size → ∃ l, ρ g = some l ∧ l.block = g ∧ l.base = 0

/-- Does an object of the abstract heap lie in a block? -/
def Lies (ρ : Ren) (H : AHeap) (b : Nat) : Prop := ∃ i o l, H.get i = some o ∧ ρ i = some l ∧ l.block = b

/-- What a step does to what it doesn't own: nothing. -/
structure Fr (ρ : Ren) (H : AHeap) (w : World) (ρ' : Ren) (H' : AHeap) (w' : World) : Prop where
  os : w'.os = w.os
  tape : w'.tape = w.tape
  output : w'.output = w.output
  size : w.heap.size ≤ w'.heap.size
  next : H.next ≤ H'.next
  ext : Ext ρ ρ'
  old : ∀ i, i < H.next → ρ' i = ρ i
  keep : ∀ b, b < w.heap.size → ¬ Lies ρ H b → w'.heap[b]? = w.heap[b]?
  lies : ∀ b, Lies ρ' H' b → w.heap.size ≤ b ∨ Lies ρ H b

theorem Fr.refl (ρ : Ren) (H : AHeap) (w : World) : Fr ρ H w ρ H w := ⟨rfl, rfl, rfl, Nat.le_refl _, Nat.le_refl _, Ext.refl _, fun _ _ => rfl, fun _ _ _ => rfl, fun _ h => .inr h⟩
theorem Fr.trans {ρ₁ ρ₂ ρ₃ : Ren} {H₁ H₂ H₃ : AHeap} {w₁ w₂ w₃ : World} (h : Fr ρ₁ H₁ w₁ ρ₂ H₂ w₂) (k : Fr ρ₂ H₂ w₂ ρ₃ H₃ w₃) : Fr ρ₁ H₁ w₁ ρ₃ H₃ w₃ := by
  refine ⟨k.os.trans h.os, k.tape.trans h.tape, k.output.trans h.output, Nat.le_trans h.size k.size, Nat.le_trans h.next k.next, h.ext.trans k.ext, fun i hi => (k.old i (Nat.lt_of_lt_of_le hi h.next)).trans (h.old i hi), ?_, ?_⟩
  · intro b hb hn
    rw [k.keep b (Nat.lt_of_lt_of_le hb h.size) (fun hl => (h.lies b hl).elim (fun h' => by omega) hn), h.keep b hb hn]
  · intro b hl
    rcases k.lies b hl with h' | h'
    · exact .inl (Nat.le_trans h.size h')
    · exact h.lies b h'

end Go.Bk
