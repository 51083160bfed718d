/- DRAWN REGIONS, last part: what the one order gives, every order does. Condition: the program is read with mixed orders. -/
import Derived.Test.YtifnbnlghfedfaaGreatDoorBkDrawC
namespace Go.Bk
open Go

section
variable {P : Program} {call : ACallee → List Value → AM Value} {ext : FuncId → List Value → AM Value} {n0 : Nat} {ops : Array Oper} {τ0 τf : Env}
variable {ρ ρ0 : Ren} {H H0 : AHeap} {w w0 : World}

theorem Ext.add {i : Nat} (h : ρ i = none) (l : Loc) : Ext ρ (ρ.add i l) := fun j l' e => by
  simp only [Ren.add]
  split
  · rename_i e'; rw [e', h] at e; cases e
  · exact e

theorem Ren.add_ne' {i j : Nat} (h : j ≠ i) (l : Loc) : (ρ.add i l) j = ρ j := by simp only [Ren.add]; rw [if_neg h]

theorem Rel.not_get (R : Rel P ρ H w) {i : Nat} (h : ρ i = none) : H.get i = none := by
  cases hg : H.get i with
  | none => rfl
  | some o => obtain ⟨l, _, e, _⟩ := R.obj i o hg; rw [h] at e; cases e

theorem Rel.lies_add (R : Rel P ρ H w) {i : Nat} (h : ρ i = none) {l : Loc} {b : Nat} (hl : Lies (ρ.add i l) H b) : Lies ρ H b := by
  obtain ⟨j, o, l', h1, h2, h3⟩ := hl
  have hne : j ≠ i := fun e => by rw [e, R.not_get h] at h1; cases h1
  rw [Ren.add_ne' hne] at h2
  exact ⟨j, o, l', h1, h2, h3⟩

theorem Rel.early (R : Rel P ρ H w) {i : Nat} (hi : i < H.next) (h : ρ i = none) (l : Loc) (ob : Obj) : Rel P (ρ.add i l) H (w.alloc ob) := by
  have he := Ext.add h l
  refine ⟨fun j hj => by rw [Ren.add_ne' (by omega)]; exact R.dom j hj, R.fresh, fun j o hg => ?_, fun a b oa ob' la lb h1 h2 h3 h4 h5 h6 => ?_, fun g hg => ?_⟩
  · obtain ⟨l', ob', h1, h2, h3⟩ := R.obj j o hg
    exact ⟨l', ob', he _ _ h1, by rw [Go.RowKit.Below.heap_alloc w ob _ (Array.getElem?_eq_some_iff.1 h2).1]; exact h2, h3.mono he⟩
  · have na : a ≠ i := fun e => by rw [e, R.not_get h] at h1; cases h1
    have nb : b ≠ i := fun e => by rw [e, R.not_get h] at h2; cases h2
    rw [Ren.add_ne' na] at h3
    rw [Ren.add_ne' nb] at h4
    exact R.inj a b oa ob' la lb h1 h2 h3 h4 h5 h6
  · obtain ⟨l', h1, h2⟩ := R.glob g hg
    exact ⟨l', he _ _ h1, h2⟩

theorem Rel.congr {H' : AHeap} (R : Rel P ρ H w) (hn : H'.next = H.next) (hg : ∀ j, H'.get j = H.get j) : Rel P ρ H' w :=
  ⟨fun i hi => R.dom i (by omega), fun i hi => by rw [hg]; exact R.fresh i (by omega), fun i o h => R.obj i o (by rw [← hg]; exact h),
    fun i j o o' l l' h1 h2 => R.inj i j o o' l l' (by rw [← hg]; exact h1) (by rw [← hg]; exact h2), R.glob⟩

theorem Lies.congr {H' : AHeap} (hg : ∀ j, H'.get j = H.get j) {b : Nat} (h : Lies ρ H' b) : Lies ρ H b :=
  let ⟨i, o, l, h1, h2, h3⟩ := h; ⟨i, o, l, by rw [← hg]; exact h1, h2, h3⟩

theorem Fr.congr {H' : AHeap} (F : Fr ρ0 H0 w0 ρ H w) (hn : H'.next = H.next) (hg : ∀ j, H'.get j = H.get j) : Fr ρ0 H0 w0 ρ H' w :=
  ⟨F.os, F.tape, F.output, F.size, by rw [hn]; exact F.next, F.ext, F.old, F.keep, fun b hb => F.lies b (hb.congr hg)⟩

theorem Fr.early (F : Fr ρ0 H0 w0 ρ H w) (R : Rel P ρ H w) {i : Nat} (hi : H0.next ≤ i) (h : ρ i = none) (l : Loc) (ob : Obj) : Fr ρ0 H0 w0 (ρ.add i l) H (w.alloc ob) := by
  refine ⟨F.os, F.tape, F.output, Nat.le_trans F.size (by simp), F.next, F.ext.trans (Ext.add h l), fun j hj => by rw [Ren.add_ne' (by omega)]; exact F.old j hj, fun b hb hn => ?_, fun b hb => F.lies b (R.lies_add h hb)⟩
  rw [Go.RowKit.Below.heap_alloc w ob _ (Nat.lt_of_lt_of_le hb F.size)]
  exact F.keep b hb hn

theorem Lies.put {i : Nat} {o : AObj} {l : Loc} (hl : ρ i = some l) {b : Nat} (h : Lies ρ (H.put i o) b) : b = l.block ∨ Lies ρ H b := by
  obtain ⟨j, oj, lj, h1, h2, h3⟩ := h
  rw [AHeap.get_put] at h1
  split at h1
  · rename_i e; subst e; rw [hl] at h2; cases h2; exact .inl h3.symm
  · exact .inr ⟨j, oj, lj, h1, h2, h3⟩

theorem Fr.revive (F : Fr ρ0 H0 w0 ρ H w) {i : Nat} {o : AObj} {l : Loc} (hl : ρ i = some l) (hb : w0.heap.size ≤ l.block) : Fr ρ0 H0 w0 ρ (H.put i o) w :=
  ⟨F.os, F.tape, F.output, F.size, F.next, F.ext, F.old, F.keep, fun b h => (h.put hl).elim (fun e => .inl (by omega)) (F.lies b)⟩

/-! ### The heap, when some are done -/
def AW (P : Program) (ops : Array Oper) (τ0 τf : Env) (i : Nat) : Prop := clsAt P ops .alloc i = true ∧ W ops τ0 τf i

def Early1 (P : Program) (n0 : Nat) (ops : Array Oper) (τ0 τf : Env) (w0 : World) (ρ : Ren) (H : AHeap) (w : World) (i : Nat) : Prop :=
  ∃ o f cs e C b, ops[i]? = some o ∧ Bk.mk P (view ops τ0 τf i) o.op = some (f, cs, e) ∧ ρ (n0 + i) = some ⟨b, 0, 0, 0⟩ ∧ w.heap[b]? = some (.cells C e (0, 0)) ∧ VRs ρ cs C.toList ∧ ¬ Lies ρ H b ∧ w0.heap.size ≤ b

structure Hp (P : Program) (n0 : Nat) (ops : Array Oper) (τ0 τf : Env) (ρ0 : Ren) (H0 : AHeap) (w0 : World) (listed : Array Bool) (s : Nat) (Hs Ha : AHeap) (ρ : Ren) (HA : AHeap) (w : World) : Prop where
  rel : Rel P ρ HA w
  next : HA.next = Hs.next
  room : n0 + ops.size ≤ HA.next
  fr : Fr ρ0 H0 w0 ρ HA w
  none : ∀ i, clsAt P ops .alloc i = true → ¬ On listed i → ρ (n0 + i) = none
  get1 : ∀ i, AW P ops τ0 τf i → On listed i → stg P ops i = s → HA.get (n0 + i) = Ha.get (n0 + i)
  get2 : ∀ j, (∀ i, AW P ops τ0 τf i → On listed i → stg P ops i = s → j ≠ n0 + i) → HA.get j = Hs.get j
  early : ∀ i, AW P ops τ0 τf i → On listed i → s < stg P ops i → Early1 P n0 ops τ0 τf w0 ρ HA w i
  dis : ∀ i i' l l', AW P ops τ0 τf i → On listed i → s < stg P ops i → AW P ops τ0 τf i' → On listed i' → s < stg P ops i' → ρ (n0 + i) = some l → ρ (n0 + i') = some l' → l.block = l'.block → i = i'

theorem AW.lt {i : Nat} (h : AW P ops τ0 τf i) : i < ops.size := let ⟨_, ho, _⟩ := h.2; size_of_get ho

section
variable {listed : Array Bool} {s : Nat} {Hs Ha HA : AHeap} (G : Hp P n0 ops τ0 τf ρ0 H0 w0 listed s Hs Ha ρ HA w)
include G

theorem Hp.frame {ρ1 : Ren} {w1 : World} (R : Rel P ρ1 HA w1) (F : Fr ρ HA w ρ1 HA w1) : Hp P n0 ops τ0 τf ρ0 H0 w0 listed s Hs Ha ρ1 HA w1 := by
  have hold : ∀ i, i < ops.size → ρ1 (n0 + i) = ρ (n0 + i) := fun i hi => F.old _ (by have := G.room; omega)
  refine ⟨R, G.next, G.room, G.fr.trans F, fun i hc hn => ?_, G.get1, G.get2, fun i h1 h2 h3 => ?_, fun i i' l l' h1 h2 h3 h4 h5 h6 h7 h8 h9 => ?_⟩
  · have hi : i < ops.size := by
      unfold clsAt at hc
      split at hc
      · rename_i o ho; exact size_of_get ho
      · cases hc
    rw [hold i hi]; exact G.none i hc hn
  · obtain ⟨o, f, cs, e, C, b, e1, e2, e3, e4, e5, e6, e7⟩ := G.early i h1 h2 h3
    have hb := (Array.getElem?_eq_some_iff.1 e4).1
    exact ⟨o, f, cs, e, C, b, e1, e2, F.ext _ _ e3, by rw [F.keep b hb e6]; exact e4, e5.mono F.ext, fun hl => (F.lies b hl).elim (fun h => by omega) e6, e7⟩
  · rw [hold i h1.lt] at h7
    rw [hold i' h4.lt] at h8
    exact G.dis i i' l l' h1 h2 h3 h4 h5 h6 h7 h8 h9

theorem Hp.quiet {i : Nat} (hi : ¬ AW P ops τ0 τf i) : Hp P n0 ops τ0 τf ρ0 H0 w0 (listed.setIfInBounds i true) s Hs Ha ρ HA w := by
  have on : ∀ j, AW P ops τ0 τf j → On (listed.setIfInBounds i true) j → On listed j := fun j h1 h2 => by
    rcases On_set.1 h2 with ⟨rfl, _⟩ | h
    · exact absurd h1 hi
    · exact h
  exact ⟨G.rel, G.next, G.room, G.fr, fun j hc hn => G.none j hc fun h => hn (On_set.2 (.inr h)), fun j h1 h2 h3 => G.get1 j h1 (on j h1 h2) h3,
    fun j h => G.get2 j fun k h1 h2 h3 => h k h1 (On_set.2 (.inr h2)) h3, fun j h1 h2 h3 => G.early j h1 (on j h1 h2) h3,
    fun a b l l' h1 h2 h3 h4 h5 h6 => G.dis a b l l' h1 (on a h1 h2) h3 h4 (on b h4 h5) h6⟩

theorem Hp.alloc {i : Nat} {o : Oper} {f : Nat → Value} {cs : List Value} {e : TypeId} {C : Array Value} (h0 : H0.next = n0) (hsz : listed.size = ops.size) (hw : AW P ops τ0 τf i) (hn : ¬ On listed i) (ho : ops[i]? = some o)
    (hm : Bk.mk P (view ops τ0 τf i) o.op = some (f, cs, e)) (hC : VRs ρ cs C.toList) (hs : s ≤ stg P ops i) (hg : stg P ops i = s → Ha.get (n0 + i) = some (.cells cs e false)) :
    ∃ HA', Hp P n0 ops τ0 τf ρ0 H0 w0 (listed.setIfInBounds i true) s Hs Ha (ρ.add (n0 + i) ⟨w.heap.size, 0, 0, 0⟩) HA' (w.alloc (.cells C e)) := by
  have hlt : n0 + i < HA.next := by have := G.room; have := hw.lt; omega
  have hni := G.none i hw.1 hn
  have hext := Ext.add hni ⟨w.heap.size, 0, 0, 0⟩
  have R1 := G.rel.early hlt hni ⟨w.heap.size, 0, 0, 0⟩ (.cells C e)
  have F1 := G.fr.early G.rel (i := n0 + i) (by omega) hni ⟨w.heap.size, 0, 0, 0⟩ (.cells C e)
  have hid : (ρ.add (n0 + i) ⟨w.heap.size, 0, 0, 0⟩) (n0 + i) = some ⟨w.heap.size, 0, 0, 0⟩ := by simp [Ren.add]
  have hblk : (w.alloc (.cells C e)).heap[w.heap.size]? = some (.cells C e (0, 0)) := by show (w.heap.push _)[w.heap.size]? = _; simp
  have hold : ∀ b, b < w.heap.size → (w.alloc (.cells C e)).heap[b]? = w.heap[b]? := fun b hb => Go.RowKit.Below.heap_alloc w _ b hb
  have hnl : ¬ Lies (ρ.add (n0 + i) ⟨w.heap.size, 0, 0, 0⟩) HA w.heap.size := fun h => by have := G.rel.lies_lt (G.rel.lies_add hni h); omega
  have on : ∀ j, j ≠ i → On (listed.setIfInBounds i true) j → On listed j := fun j h1 h2 => by
    rcases On_set.1 h2 with ⟨rfl, _⟩ | h
    · exact absurd rfl h1
    · exact h
  have hadd : ∀ j, j ≠ i → (ρ.add (n0 + i) ⟨w.heap.size, 0, 0, 0⟩) (n0 + j) = ρ (n0 + j) := fun j hj => Ren.add_ne' (by omega) _
  have hnone : ∀ j, clsAt P ops .alloc j = true → ¬ On (listed.setIfInBounds i true) j → (ρ.add (n0 + i) ⟨w.heap.size, 0, 0, 0⟩) (n0 + j) = Option.none := fun j hc hj => by
    have hlj : j ≠ i := by
      rintro rfl
      exact hj (On_set.2 (.inl ⟨rfl, by rw [hsz]; exact hw.lt⟩))
    rw [hadd j hlj]
    exact G.none j hc fun h => hj (On_set.2 (.inr h))
  have hearly : ∀ HA', (∀ b, b < w.heap.size → Lies (ρ.add (n0 + i) ⟨w.heap.size, 0, 0, 0⟩) HA' b → Lies ρ HA b) → ∀ j, j ≠ i → AW P ops τ0 τf j → On (listed.setIfInBounds i true) j → s < stg P ops j →
      Early1 P n0 ops τ0 τf w0 (ρ.add (n0 + i) ⟨w.heap.size, 0, 0, 0⟩) HA' (w.alloc (.cells C e)) j := fun HA' hl j hj h1 h2 h3 => by
    obtain ⟨o, f, cs, e, C, b, e1, e2, e3, e4, e5, e6, e7⟩ := G.early j h1 (on j hj h2) h3
    have hb := (Array.getElem?_eq_some_iff.1 e4).1
    exact ⟨o, f, cs, e, C, b, e1, e2, hext _ _ e3, by rw [hold b hb]; exact e4, e5.mono hext, fun h => e6 (hl b hb h), e7⟩
  by_cases e' : stg P ops i = s
  · have ne1 : ∀ j, s < stg P ops j → j ≠ i := fun j h e1 => by subst e1; omega
    have hput : ∀ j, j ≠ n0 + i → (HA.put (n0 + i) (.cells cs e false)).get j = HA.get j := fun j hj => by rw [AHeap.get_put, if_neg hj]
    have hsame : (HA.put (n0 + i) (.cells cs e false)).get (n0 + i) = some (.cells cs e false) := by rw [AHeap.get_put, if_pos rfl]
    refine ⟨HA.put (n0 + i) (.cells cs e false), R1.revive hlt hid hnl hblk (.shut rfl (hC.mono hext)), G.next, G.room, F1.revive hid G.fr.size, hnone, fun j h1 h2 h3 => ?_, fun j h => ?_, fun j h1 h2 h3 => ?_, fun a b l l' h1 h2 h3 h4 h5 h6 h7 h8 => ?_⟩
    · by_cases hj : j = i
      · subst hj; rw [hsame, hg e']
      · rw [hput _ (by omega)]; exact G.get1 j h1 (on j hj h2) h3
    · have hj : j ≠ n0 + i := h i hw (On_set.2 (.inl ⟨rfl, by rw [hsz]; exact hw.lt⟩)) e'
      rw [hput j hj]
      exact G.get2 j fun k k1 k2 k3 => h k k1 (On_set.2 (.inr k2)) k3
    · exact hearly _ (fun b hb h => (h.put hid).elim (fun h' => by simp at h'; omega) (G.rel.lies_add hni)) j (ne1 j h3) h1 h2 h3
    · rw [hadd a (ne1 a h3)] at h7
      rw [hadd b (ne1 b h6)] at h8
      exact G.dis a b l l' h1 (on a (ne1 a h3) h2) h3 h4 (on b (ne1 b h6) h5) h6 h7 h8
  · refine ⟨HA, R1, G.next, G.room, F1, hnone, fun j h1 h2 h3 => G.get1 j h1 (on j (fun e1 => by subst e1; exact e' h3) h2) h3, fun j h => G.get2 j fun k k1 k2 k3 => h k k1 (On_set.2 (.inr k2)) k3, fun j h1 h2 h3 => ?_, fun a b l l' h1 h2 h3 h4 h5 h6 h7 h8 h9 => ?_⟩
    · by_cases hj : j = i
      · subst hj
        exact ⟨o, f, cs, e, C, w.heap.size, ho, hm, hid, hblk, hC.mono hext, hnl, G.fr.size⟩
      · exact hearly HA (fun b _ h => G.rel.lies_add hni h) j hj h1 h2 h3
    · have lt : ∀ j l, j ≠ i → AW P ops τ0 τf j → On (listed.setIfInBounds i true) j → s < stg P ops j → ρ (n0 + j) = some l → l.block < w.heap.size := fun j l hj k1 k2 k3 k4 => by
        obtain ⟨o, f, cs, e, C, b, e1, e2, e3, e4, e5, e6, e7⟩ := G.early j k1 (on j hj k2) k3
        rw [e3] at k4; cases k4
        exact (Array.getElem?_eq_some_iff.1 e4).1
      by_cases ha : a = i <;> by_cases hb : b = i
      · rw [ha, hb]
      · subst ha
        rw [hid] at h7; cases h7
        rw [hadd b hb] at h8
        have := lt b l' hb h4 h5 h6 h8
        simp at h9; omega
      · subst hb
        rw [hid] at h8; cases h8
        rw [hadd a ha] at h7
        have := lt a l ha h1 h2 h3 h7
        simp at h9; omega
      · rw [hadd a ha] at h7
        rw [hadd b hb] at h8
        exact G.dis a b l l' h1 (on a ha h2) h3 h4 (on b hb h5) h6 h7 h8 h9

/-- All allocs of the stage are done: the heap is the one order's. -/
theorem Hp.full {Ep : List Nat} (st : StF P n0 ops τ0 τf s Ep Hs Ha) (hon : ∀ i, clsAt P ops .alloc i = true → stg P ops i = s → On listed i) : ∀ j, HA.get j = Ha.get j := fun j => by
  by_cases h : ∃ i, AW P ops τ0 τf i ∧ On listed i ∧ stg P ops i = s ∧ j = n0 + i
  · obtain ⟨i, h1, h2, h3, rfl⟩ := h
    exact G.get1 i h1 h2 h3
  · rw [G.get2 j fun i h1 h2 h3 e => h ⟨i, h1, h2, h3, e⟩]
    rcases st.get j with h' | ⟨_, i, e, h1, h2, h3⟩
    · exact h'.symm
    · exact absurd ⟨i, ⟨h1, h2⟩, hon i h1 h3, h3, e⟩ h

end

/-- Early objects take their places. -/
theorem revives {Hb : AHeap} : ∀ (L : List Nat), L.Nodup → (∀ i ∈ L, ∃ o l ob, Hb.get (n0 + i) = some o ∧ ρ (n0 + i) = some l ∧ w.heap[l.block]? = some ob ∧ ObjR P ρ l o ob ∧ ¬ Lies ρ H l.block ∧ w0.heap.size ≤ l.block ∧ n0 + i < H.next) →
    (∀ i ∈ L, ∀ j ∈ L, ∀ l l', ρ (n0 + i) = some l → ρ (n0 + j) = some l' → l.block = l'.block → i = j) → Rel P ρ H w → Fr ρ0 H0 w0 ρ H w →
    ∃ HB, HB.next = H.next ∧ (∀ i ∈ L, HB.get (n0 + i) = Hb.get (n0 + i)) ∧ (∀ j, (∀ i ∈ L, j ≠ n0 + i) → HB.get j = H.get j) ∧ Rel P ρ HB w ∧ Fr ρ0 H0 w0 ρ HB w ∧
      (∀ b, Lies ρ HB b → Lies ρ H b ∨ ∃ i ∈ L, ∃ l, ρ (n0 + i) = some l ∧ l.block = b)
  | [], _, _, _, R, F => ⟨H, rfl, (fun i hi => by cases hi), fun _ _ => rfl, R, F, fun _ h => .inl h⟩
  | i :: L, hnd, hL, hdis, R, F => by
    obtain ⟨HB, h1, h2, h3, h4, h5, h6⟩ := revives L (List.nodup_cons.1 hnd).2 (fun j hj => hL j (List.mem_cons_of_mem _ hj)) (fun a ha b hb => hdis a (List.mem_cons_of_mem _ ha) b (List.mem_cons_of_mem _ hb)) R F
    obtain ⟨o, l, ob, g1, g2, g3, g4, g5, g6, g7⟩ := hL i (List.mem_cons_self ..)
    have hni : i ∉ L := (List.nodup_cons.1 hnd).1
    have hnl : ¬ Lies ρ HB l.block := fun h => by
      rcases h6 _ h with h | ⟨j, hj, l', e1, e2⟩
      · exact g5 h
      · have := hdis i (List.mem_cons_self ..) j (List.mem_cons_of_mem _ hj) l l' g2 e1 e2.symm
        subst this; exact hni hj
    refine ⟨HB.put (n0 + i) o, h1, fun j hj => ?_, fun j hj => ?_, h4.revive (by omega) g2 hnl g3 g4, h5.revive g2 g6, fun b hb => ?_⟩
    · rw [AHeap.get_put]
      rcases List.mem_cons.1 hj with rfl | hj'
      · rw [if_pos rfl, g1]
      · rw [if_neg (by intro e; have : j = i := by omega
                       subst this; exact hni hj')]
        exact h2 j hj'
    · rw [AHeap.get_put, if_neg (hj i (List.mem_cons_self ..))]
      exact h3 j fun k hk => hj k (List.mem_cons_of_mem _ hk)
    · rcases hb.put g2 with rfl | hb
      · exact .inr ⟨i, List.mem_cons_self .., l, g2, rfl⟩
      · rcases h6 b hb with h | ⟨j, hj, h⟩
        · exact .inl h
        · exact .inr ⟨j, List.mem_cons_of_mem _ hj, h⟩

open Classical in
theorem Hp.effect {Ep : List Nat} {listed : Array Bool} {s e : Nat} {Hs Ha HA H' Ha' : AHeap} {ρ2 : Ren} {w2 : World} (G : Hp P n0 ops τ0 τf ρ0 H0 w0 listed s Hs Ha ρ HA w) (hn : Ha.next = HA.next) (hfull : ∀ j, HA.get j = Ha.get j) (he : clsAt P ops .eff e = true)
    (st : StF P n0 ops τ0 τf (s + 1) Ep H' Ha') (R2 : Rel P ρ2 H' w2) (F2 : Fr ρ Ha w ρ2 H' w2) :
    ∃ HB, Hp P n0 ops τ0 τf ρ0 H0 w0 (listed.setIfInBounds e true) (s + 1) H' Ha' ρ2 HB w2 := by
  have F0 : Fr ρ0 H0 w0 ρ Ha w := G.fr.congr hn fun j => (hfull j).symm
  have F := F0.trans F2
  have hroom : n0 + ops.size ≤ H'.next := by have := G.room; have := F2.next; omega
  have hold : ∀ i, i < ops.size → ρ2 (n0 + i) = ρ (n0 + i) := fun i hi => F2.old _ (by have := G.room; omega)
  have nal : ∀ j, clsAt P ops .alloc j = true → j ≠ e := fun j hj e' => by
    subst e'
    unfold clsAt at hj he
    split at hj
    · rename_i o ho; rw [ho] at he; simp at hj he; rw [hj] at he; cases he
    · cases hj
  have on : ∀ j, clsAt P ops .alloc j = true → On (listed.setIfInBounds e true) j → On listed j := fun j h1 h2 => by
    rcases On_set.1 h2 with ⟨rfl, _⟩ | h
    · exact absurd rfl (nal j h1)
    · exact h
  have lies : ∀ b, b < w.heap.size → Lies ρ2 H' b → Lies ρ HA b := fun b hb h => (F2.lies b h).elim (fun h => by omega) (fun h => h.congr fun j => (hfull j).symm)
  have ear : ∀ i, AW P ops τ0 τf i → On (listed.setIfInBounds e true) i → s < stg P ops i → Early1 P n0 ops τ0 τf w0 ρ2 H' w2 i ∧ ∀ l, ρ2 (n0 + i) = some l → l.block < w.heap.size := fun i h1 h2 h3 => by
    obtain ⟨o, f, cs, e, C, b, e1, e2, e3, e4, e5, e6, e7⟩ := G.early i h1 (on i h1.1 h2) h3
    have hb := (Array.getElem?_eq_some_iff.1 e4).1
    refine ⟨⟨o, f, cs, e, C, b, e1, e2, F2.ext _ _ e3, ?_, e5.mono F2.ext, fun h => e6 (lies b hb h), e7⟩, fun l hl => ?_⟩
    · rw [F2.keep b hb fun h => e6 (h.congr fun j => (hfull j).symm)]; exact e4
    · rw [hold i h1.lt, e3] at hl; cases hl; exact hb
  have dis : ∀ i i' l l', AW P ops τ0 τf i → On (listed.setIfInBounds e true) i → s < stg P ops i → AW P ops τ0 τf i' → On (listed.setIfInBounds e true) i' → s < stg P ops i' → ρ2 (n0 + i) = some l → ρ2 (n0 + i') = some l' → l.block = l'.block → i = i' :=
    fun i i' l l' h1 h2 h3 h4 h5 h6 h7 h8 h9 => by
      rw [hold i h1.lt] at h7
      rw [hold i' h4.lt] at h8
      exact G.dis i i' l l' h1 (on i h1.1 h2) h3 h4 (on i' h4.1 h5) h6 h7 h8 h9
  let L := (List.range ops.size).filter fun i => decide (AW P ops τ0 τf i ∧ On (listed.setIfInBounds e true) i ∧ stg P ops i = s + 1)
  have hmem : ∀ i, i ∈ L ↔ AW P ops τ0 τf i ∧ On (listed.setIfInBounds e true) i ∧ stg P ops i = s + 1 := fun i => by
    simp only [L, List.mem_filter, List.mem_range, decide_eq_true_eq]
    exact ⟨fun h => h.2, fun h => ⟨h.1.lt, h⟩⟩
  obtain ⟨HB, g1, g2, g3, g4, g5, g6⟩ := revives (Hb := Ha') (n0 := n0) L (List.Pairwise.filter _ List.nodup_range) (fun i hi => by
      obtain ⟨k1, k2, k3⟩ := (hmem i).1 hi
      obtain ⟨⟨o, f, cs, e, C, b, e1, e2, e3, e4, e5, e6, e7⟩, _⟩ := ear i k1 k2 (by omega)
      have hne : clsAt P ops .eff i = false := by
        have := k1.1
        unfold clsAt at this ⊢
        rw [e1] at this ⊢
        simp only [decide_eq_true_eq, decide_eq_false_iff_not] at this ⊢
        rw [this]; simp
      obtain ⟨o', ho', hF⟩ := st.op i k1.lt hne k3
      rw [e1] at ho'; cases ho'
      have hca : cls P o.op = .alloc := by have := k1.1; unfold clsAt at this; rw [e1] at this; simpa using this
      obtain ⟨o2, ho2, hw2⟩ := k1.2
      rw [e1] at ho2; cases ho2
      cases hF with
      | unw hw => rw [hw2] at hw; cases hw
      | pure hw hc => rw [hca] at hc; cases hc
      | load hw hc => rw [hca] at hc; cases hc
      | alloc hw hc hm hg hd =>
        rw [e2] at hm; cases hm
        exact ⟨_, _, _, hg, e3, e4, .shut rfl e5, e6, e7, by have := k1.lt; omega⟩)
    (fun i hi j hj l l' => by
      obtain ⟨k1, k2, k3⟩ := (hmem i).1 hi
      obtain ⟨m1, m2, m3⟩ := (hmem j).1 hj
      exact dis i j l l' k1 k2 (by omega) m1 m2 (by omega)) R2 F
  refine ⟨HB, g4, g1, by omega, g5, fun i hc hn => ?_, fun i h1 h2 h3 => g2 i ((hmem i).2 ⟨h1, h2, h3⟩), fun j h => g3 j fun i hi => ?_, fun i h1 h2 h3 => ?_, fun i i' l l' h1 h2 h3 h4 h5 h6 => dis i i' l l' h1 h2 (by omega) h4 h5 (by omega)⟩
  · have hi : i < ops.size := by
      unfold clsAt at hc
      split at hc
      · rename_i o ho; exact size_of_get ho
      · cases hc
    rw [hold i hi]
    exact G.none i hc fun h => hn (On_set.2 (.inr h))
  · obtain ⟨k1, k2, k3⟩ := (hmem i).1 hi
    exact h i k1 k2 k3
  · obtain ⟨⟨o, f, cs, e', C, b, e1, e2, e3, e4, e5, e6, e7⟩, _⟩ := ear i h1 h2 (by omega)
    refine ⟨o, f, cs, e', C, b, e1, e2, e3, e4, e5, fun h => ?_, e7⟩
    rcases g6 b h with h | ⟨j, hj, l, k1, k2⟩
    · exact e6 h
    · obtain ⟨m1, m2, m3⟩ := (hmem j).1 hj
      have := dis i j _ l h1 h2 (by omega) m1 m2 (by omega) e3 k1 k2.symm
      subst this
      omega

theorem mk_wp {ro : Option Nat} {n : Nat} {τ : Env} {a : Act} {o : Oper} {f : Nat → Value} {cs : List Value} {e : TypeId} (ht : TR ρ τ a.tmps) (R : Rel P ρ H w) (h : Bk.mk P τ o.op = some (f, cs, e)) :
    ∃ (C : Array Value) (fc : Nat → Value), VRs ρ cs C.toList ∧ (∀ (ρ' : Ren) (i : Nat) (l : Loc), ρ' i = some l → l.base = 0 → VR ρ' (f i) (fc l.block)) ∧
      ∀ (K : Act → World → Prop) (Q : Exit → Act → World → Prop), K (a.put o.dst (fc w.heap.size)) (w.alloc (.cells C e)) → o.wpIn { Fence.wide with round := ro } n P a w K Q := by
  obtain ⟨C, fc, h1, h2, h3⟩ := mk_sound ht R.glob h
  refine ⟨C, fc, h1, h3, fun K Q hK => ?_⟩
  refine ⟨fun _ _ => trivial, ?_⟩
  have hnd : ∀ c, o.op ≠ .defer c := by
    intro c e'
    rw [e'] at h
    simp [Bk.mk] at h
  rw [Oper.semAt_eq _ _ _ hnd, h2 w]
  exact hK

theorem count_set {l : List Bool} {i : Nat} (hi : i < l.length) (h : l[i]? = some false) : (l.set i true).count true = l.count true + 1 := by
  rw [List.count_set (h := hi)]
  rw [List.getElem?_eq_getElem hi] at h
  simp only [Option.some.injEq] at h
  simp [h]

section
variable (hcall : CallOk P call) (hext : ExtOk P ext) (hng : NoCount P) (C : Chk P ops) (hlen : τf.n = τ0.n) (hin : τf.In) (h0 : H0.next = n0)
include C

theorem all_on {listed : Array Bool} {s : Nat} {Ep Erest : List Nat} (L : Lst P ops listed s Ep Erest) (hr : Region.ready .any ops listed = []) : ∀ i, i < ops.size → On listed i := by
  intro i
  induction i using Nat.strongRecOn with
  | _ i ih =>
    intro hi
    by_cases h : On listed i
    · exact h
    · exfalso
      have hl : i < listed.size := by rw [L.size]; exact hi
      have : i ∈ Region.ready .any ops listed := by
        rw [mem_ready]
        refine ⟨?_, ops[i], by simp [hi], fun e he hb => ?_⟩
        · unfold On at h
          simp only [Array.getD_eq_getD_getElem?, Array.getElem?_eq_getElem hl, Option.getD_some, Bool.not_eq_true] at h ⊢
          exact h
        · have hlt := C.early i ops[i] (by simp [hi]) e he hb
          exact ih e.on hlt (by omega)
      rw [hr] at this
      cases this

include hcall hext hng hlen hin h0

theorem draw_any {ro : Option Nat} {n : Nat} {Q : Exit → Act → World → Prop} {Hf : AHeap} {a0 : Act}
    (hall : ∀ i, i < ops.size → clsAt P ops .eff i = false → ∃ o H, ops[i]? = some o ∧ OpF P n0 ops τ0 τf i o H)
    (hspare : ∀ t, (∀ j, j < ops.size → dstAt ops j ≠ some t) → τ0.get t = τf.get t)
    (fin : ∀ ρ' a' w', TR ρ' τf a'.tmps → Rel P ρ' Hf w' → Fr ρ0 H0 w0 ρ' Hf w' → a'.defers = a0.defers → Q .normal a' w') :
    ∀ (fuel s : Nat) (Ep Erest : List Nat) (Hs Ha : AHeap) (listed : Array Bool) (ρ : Ren) (HA : AHeap) (a : Act) (w : World),
    Facts P call ext n0 ops τ0 τf Erest s Ep Hs Ha Hf → Lst P ops listed s Ep Erest → Tm ops τ0 τf a0 ρ listed a → Hp P n0 ops τ0 τf ρ0 H0 w0 listed s Hs Ha ρ HA w → ops.size ≤ fuel + listed.toList.count true →
    wpAnyIn { Fence.wide with round := ro } n P .any ops Q fuel listed a w := by
  -- the end
  have done : ∀ (s : Nat) (Ep Erest : List Nat) (Hs Ha : AHeap) (listed : Array Bool) (ρ : Ren) (HA : AHeap) (a : Act) (w : World),
      Facts P call ext n0 ops τ0 τf Erest s Ep Hs Ha Hf → Lst P ops listed s Ep Erest → Tm ops τ0 τf a0 ρ listed a → Hp P n0 ops τ0 τf ρ0 H0 w0 listed s Hs Ha ρ HA w → (∀ i, i < ops.size → On listed i) → Q .normal a w := by
    intro s Ep Erest Hs Ha listed ρ HA a w hF L T G hon
    have hE : Erest = [] := by
      cases Erest with
      | nil => rfl
      | cons e l => exact absurd (hon e (mem_effs (P := P) (by rw [L.split]; simp)).2) (L.rest e (List.mem_cons_self ..))
    subst hE
    obtain ⟨st, rfl⟩ := hF
    have hfull := G.full st fun i hc _ => hon i (by
      unfold clsAt at hc
      split at hc
      · rename_i o ho; exact size_of_get ho
      · cases hc)
    have hnext : Ha.next = HA.next := by rw [st.next, G.next]
    refine fin ρ a w ⟨by rw [hlen]; exact T.size, fun t v hv => ?_⟩ (G.rel.congr hnext fun j => (hfull j).symm) (G.fr.congr hnext fun j => (hfull j).symm) T.defers
    by_cases h : ∃ j, j < ops.size ∧ dstAt ops j = some t
    · obtain ⟨j, hj, hd⟩ := h
      exact T.tf j t v (hon j hj) hd hv
    · exact T.t0 t v (fun j hj hd => h ⟨j, L.on_lt hj, hd⟩) (by rw [hspare t fun j hj hd => h ⟨j, hj, hd⟩]; exact hv)
  intro fuel
  induction fuel with
  | zero =>
    intro s Ep Erest Hs Ha listed ρ HA a w hF L T G hc
    have hon : ∀ i, i < ops.size → On listed i := by
      have hle := List.count_le_length (a := true) (l := listed.toList)
      have hcl : listed.toList.count true = listed.toList.length := by
        have := L.size
        simp only [Array.length_toList] at *
        omega
      intro i hi
      have hl : i < listed.size := by rw [L.size]; exact hi
      have := List.count_eq_length.1 hcl listed[i] (by simp)
      unfold On
      simp [hl, ← this]
    refine ⟨?_, done s Ep Erest Hs Ha listed ρ HA a w hF L T G hon⟩
    rw [List.eq_nil_iff_forall_not_mem]
    intro j hj
    obtain ⟨h1, o, ho, _⟩ := mem_ready.1 hj
    have h2 := hon j (size_of_get ho)
    have hl : j < listed.size := by rw [L.size]; exact size_of_get ho
    unfold On at h2
    simp [hl] at h1 h2
    rw [h1] at h2; cases h2
  | succ fuel ih =>
    intro s Ep Erest Hs Ha listed ρ HA a w hF L T G hc
    refine ⟨fun hr => done s Ep Erest Hs Ha listed ρ HA a w hF L T G (all_on C L hr), fun i hi => ?_⟩
    obtain ⟨hun, o, ho, hafter⟩ := mem_ready.1 hi
    have hisz := size_of_get ho
    have hl : i < listed.size := by rw [L.size]; exact hisz
    have hlf : listed[i]? = some false := by
      simp [hl] at hun ⊢; exact hun
    have hn : ¬ On listed i := by
      unfold On
      rw [Array.getD_eq_getD_getElem?, hlf]; simp
    have hr : Rdy ops listed i := fun o' ho' e he hb => by rw [ho] at ho'; cases ho'; exact hafter e he hb
    have hcount : ops.size ≤ fuel + (listed.setIfInBounds i true).toList.count true := by
      rw [Array.toList_setIfInBounds, count_set (by simpa using hl) (by simpa using hlf)]
      omega
    have V := T.view L C hr hn
    unfold wpOpIn
    rw [ho]
    simp only
    by_cases hce : clsAt P ops .eff i = true
    · -- an effect
      obtain ⟨l, rfl⟩ := L.next_eff C hr hn hce hisz
      obtain ⟨st, H', Ha', hE, hF'⟩ := hF
      have hnext : Ha.next = HA.next := by rw [st.next, G.next]
      have hfull := G.full st fun j h1 h2 => L.alloc_on C hr h1 h2
      have RA := G.rel.congr hnext fun j => (hfull j).symm
      have L' := L.stepE hr
      cases hE with
      | @unw o' ho' hw hh hd =>
        rw [ho] at ho'; cases ho'
        subst hh
        rw [wanted_sound V hw]
        simp only [Bool.false_eq_true, if_false]
        refine ⟨fun _ _ => trivial, ?_⟩
        obtain ⟨HB, G'⟩ := G.effect hnext hfull hce hF'.stF RA (.refl _ _ _)
        exact ih _ _ _ _ _ _ _ _ _ _ hF' L' (T.put hlen hin L.size ho (v := .tuple #[]) (v' := undef) (.tuple .nil) hd) G' hcount
      | @op o' v ho' hw hop hd =>
        rw [ho] at ho'; cases ho'
        rw [wanted_sound V hw]
        simp only [if_true]
        refine aop_wp hcall hext hng V RA hop fun v' w1 ρ1 hv R1 F1 => ?_
        obtain ⟨HB, G'⟩ := G.effect hnext hfull hce hF'.stF R1 F1
        exact ih _ _ _ _ _ _ _ _ _ _ hF' L' ((T.mono F1.ext).put hlen hin L.size ho hv hd) G' hcount
    · have hce' : clsAt P ops .eff i = false := by simpa using hce
      have L' := L.step hr hce'
      obtain ⟨o', H', ho', hO⟩ := hall i hisz hce'
      rw [ho] at ho'; cases ho'
      have hnaw : cls P o.op ≠ .alloc ∨ awanted ops (view ops τ0 τf i) o = some false → ¬ AW P ops τ0 τf i := by
        rintro h ⟨h1, o2, ho2, h2⟩
        rw [ho] at ho2; cases ho2
        rcases h with h | h
        · unfold clsAt at h1; rw [ho] at h1; exact h (by simpa using h1)
        · rw [h] at h2; cases h2
      have one : ∀ v, aop P call ext (view ops τ0 τf i) o HA = some (v, HA) → awanted ops (view ops τ0 τf i) o = some true → DstF τf o.dst v → cls P o.op ≠ .alloc →
          (if Region.wanted o (yielded ops a.tmps) = true then o.wpIn { Fence.wide with round := ro } n P a w (wpAnyIn { Fence.wide with round := ro } n P .any ops Q fuel (listed.setIfInBounds i true)) Q
            else (∀ f, o.about P w a.eval = some f → ({ Fence.wide with round := ro } : Fence).fn f) ∧ wpAnyIn { Fence.wide with round := ro } n P .any ops Q fuel (listed.setIfInBounds i true) (a.put o.dst undef) w) := by
        intro v hop hw hd hna
        rw [wanted_sound V hw]
        simp only [if_true]
        refine aop_wp hcall hext hng V G.rel hop fun v' w1 ρ1 hv R1 F1 => ?_
        exact ih _ _ _ _ _ _ _ _ _ _ hF L' ((T.mono F1.ext).put hlen hin L.size ho hv hd) ((G.frame R1 F1).quiet (hnaw (.inl hna))) hcount
      cases hO with
      | unw hw hd =>
        rw [wanted_sound V hw]
        simp only [Bool.false_eq_true, if_false]
        refine ⟨fun _ _ => trivial, ?_⟩
        exact ih _ _ _ _ _ _ _ _ _ _ hF L' (T.put hlen hin L.size ho (v := .tuple #[]) (v' := undef) (.tuple .nil) hd) (G.quiet (hnaw (.inr hw))) hcount
      | @pure v hw hcl h hd =>
        refine one v ?_ hw hd (by rw [hcl]; simp)
        simp only [aop, hcl, h]
      | @load t x p v hw hcl hop hp hl' hd =>
        have hca : clsAt P ops .alloc i = false := by unfold clsAt; rw [ho]; simp [hcl]
        have hcl' : clsAt P ops .load i = true := by unfold clsAt; rw [ho]; simp [hcl]
        have hst := hF.stF
        have hle := L.stage_le C hr hca
        -- what the load gives at the end of this stage
        obtain ⟨u, p2, hp2, hl2, hd2⟩ : ∃ u p2, ask P (view ops τ0 τf i) x = some p2 ∧ oload P t p2 Ha = some u ∧ DstF τf o.dst u := by
          have key : ∀ o2, ops[i]? = some o2 → OpF P n0 ops τ0 τf i o2 Ha → ∃ u p2, ask P (view ops τ0 τf i) x = some p2 ∧ oload P t p2 Ha = some u ∧ DstF τf o.dst u := by
            intro o2 ho2 h2
            rw [ho] at ho2; cases ho2
            cases h2 with
            | unw hw2 => rw [hw] at hw2; cases hw2
            | pure _ hc2 => rw [hcl] at hc2; cases hc2
            | alloc _ hc2 => rw [hcl] at hc2; cases hc2
            | load _ _ hop2 hp2 hl2 hd2 => rw [hop] at hop2; cases hop2; exact ⟨_, _, hp2, hl2, hd2⟩
          rcases Nat.lt_or_ge (stg P ops i) s with hlt | hge
          · obtain ⟨o2, ho2, h2⟩ := hst.re i hisz hcl' hlt (L.unwaited C hn)
            rcases h2 with h2 | h2
            · rw [ho] at ho2; cases ho2; rw [hw] at h2; cases h2
            · exact key o2 ho2 h2
          · obtain ⟨o2, ho2, h2⟩ := hst.op i hisz hce' (by omega)
            exact key o2 ho2 h2
        refine one u ?_ hw hd2 (by rw [hcl]; simp)
        have hVx := ask_sound V G.rel.glob hp2
        have : oload P t p2 HA = some u := by
          unfold oload at hl2 ⊢
          split at hl2
          · rename_i b k
            have hb : ρ b ≠ none := by
              generalize a.eval x = px at hVx
              cases hVx with
              | ptr h => rw [h]; simp
            have hg : HA.get b = Ha.get b := by
              by_cases h : ∃ j, AW P ops τ0 τf j ∧ On listed j ∧ stg P ops j = s ∧ b = n0 + j
              · obtain ⟨j, h1, h2, h3, rfl⟩ := h
                exact G.get1 j h1 h2 h3
              · rw [G.get2 b fun j h1 h2 h3 e => h ⟨j, h1, h2, h3, e⟩]
                rcases hst.get b with h' | ⟨_, j, e, h1, h2, h3⟩
                · exact h'.symm
                · by_cases hj : On listed j
                  · exact absurd ⟨j, ⟨h1, h2⟩, hj, h3, e⟩ h
                  · exact absurd (by rw [e]; exact G.none j h1 hj) hb
            rw [hg]; exact hl2
          · cases hl2
        unfold aop
        rw [hcl]
        simp only [hop, hp2, this]
      | @alloc f cs e hw hcl hm hg hd =>
        have hca : clsAt P ops .alloc i = true := by unfold clsAt; rw [ho]; simp [hcl]
        rw [wanted_sound V hw]
        simp only [if_true]
        obtain ⟨C', fc, h1, h2, h3⟩ := mk_wp (ro := ro) (n := n) V G.rel hm
        refine h3 _ _ ?_
        have hge := L.stage_ge C hn hca
        obtain ⟨HB, G'⟩ := G.alloc h0 L.size ⟨hca, o, ho, hw⟩ hn ho hm h1 hge fun e' => by
          obtain ⟨o2, ho2, h2⟩ := hF.stF.op i hisz hce' e'
          rw [ho] at ho2; cases ho2
          cases h2 with
          | unw hw2 => rw [hw] at hw2; cases hw2
          | pure _ hc2 => rw [hcl] at hc2; cases hc2
          | load _ hc2 => rw [hcl] at hc2; cases hc2
          | alloc _ _ hm2 hg2 => rw [hm] at hm2; cases hm2; exact hg2
        have hext' : Ext ρ (ρ.add (n0 + i) ⟨w.heap.size, 0, 0, 0⟩) := Ext.add (G.none i hca hn) _
        refine ih _ _ _ _ _ _ _ _ _ _ hF L' ((T.mono hext').put hlen hin L.size ho (v := f (n0 + i)) ?_ hd) G' hcount
        exact h2 _ (n0 + i) ⟨w.heap.size, 0, 0, 0⟩ (by simp [Ren.add]) rfl
end

/-- **Drawn regions.** -/
theorem drawOk_ok (hm : P.follows .mixedOrders = true) : DrawOk P (drawOk P) := by
  intro call ext hcall hext hng ro n id ops k res Q τ H ρ a w hok hrun ht R hk
  obtain ⟨C, hplan⟩ := drawOk_chk hok
  obtain ⟨τf, Hf, hDR, hres⟩ := adraw_DR _ _ _ hrun
  have hlen := hDR.length
  have hDV := hDR.toDV [] hplan rfl (fun _ _ => rfl)
  obtain ⟨Ha, hF⟩ := planFrom_facts (effs P ops) 0 [] _ _ (fun e he => (mem_effs he).1) hDV
  have hnone : ∀ j, ¬ On (Array.replicate ops.size false) j := fun j => by
    unfold On
    by_cases h : j < ops.size <;> simp [h]
  refine wpIn_region_any hm ?_
  have Rw : Rel P ρ { H with next := H.next + ops.size } { w with drawn := w.drawn + 1 } :=
    ⟨fun i hi => R.dom i (by simp at hi; omega), fun i hi => R.fresh i (by simp at hi; omega), R.obj, R.inj, R.glob⟩
  refine draw_any (n0 := H.next) (ρ0 := ρ) (H0 := H) (w0 := w) (τ0 := τ) (τf := τf) (a0 := a) hcall hext hng C hlen (hDR.inside ht.bound) rfl
    (fun i hi hc => hF.all i hi hc (Nat.zero_le _) ?_) (fun t ht' => hDR.spare (List.all_eq_true.2 fun x _ => ?_))
    (fun ρ' a' w' h1 h2 h3 h4 => hk τf Hf ρ' a' w' hres h1 h2 h3 h4)
    ops.size 0 [] (effs P ops) _ Ha _ ρ { H with next := H.next + ops.size } a _ hF ⟨by simp, rfl, rfl, (fun e he => by cases he), fun e _ => hnone e, fun i o hi => absurd hi (hnone i)⟩
    ⟨ht.size, fun j t v hj => absurd hj (hnone j), fun t v _ hv => ht.get t v hv, rfl⟩ ?_ (Nat.le_add_right _ _)
  · simp only [stg, stage]
    split <;> (refine Nat.le_trans (List.length_filter_le _ _) ?_; omega)
  · cases x with
    | re j => rfl
    | op j =>
      simp only [sparesT, bne_iff_ne, ne_eq]
      intro hd
      by_cases hj : j < ops.size
      · exact ht' j hj hd
      · have : ops[j]? = none := Array.getElem?_eq_none (by omega)
        simp [dstAt, this] at hd
  · refine ⟨Rw, rfl, Nat.le_refl _, ⟨rfl, rfl, rfl, Nat.le_refl _, Nat.le_add_right _ _, Ext.refl _, fun _ _ => rfl, fun _ _ _ => rfl, fun b hb => .inr hb⟩, fun i _ _ => R.dom _ (Nat.le_add_right _ _), fun i _ hi => absurd hi (hnone i), fun _ _ => rfl,
      fun i _ hi => absurd hi (hnone i), fun i _ _ _ _ hi => absurd hi (hnone i)⟩

end
end Go.Bk
