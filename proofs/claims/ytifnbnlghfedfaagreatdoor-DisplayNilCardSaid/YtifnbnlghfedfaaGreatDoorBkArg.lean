/- ARGUMENTS THAT CAME IN: the cells that a slice's elements are read from. No condition. -/
import Derived.Test.YtifnbnlghfedfaaGreatDoorBkTrue
import Derived.Deep.Slices
namespace Go.Bk
open Go Go.ChangeShapes Go.WideShapes Go.ChangeAt Go.RowKit Go.Deep

variable {H : Type} {enc : TypeId × Value → H} {P : Program} {w : World} {sp : Nat → Bool} {held : Bool} {base : Nat}

theorem cell_add {w : World} {a : Addr} {i : Nat} {v : Value} (h : w.cell? (a.add i) = some v) : ∃ C te fr, w.heap[a.block]? = some (.cells C te fr) ∧ C[a.off + i]? = some v ∧ (i = 0 → a.spot = none) := by
  unfold World.cell? at h
  have hb : (a.add i).block = a.block := by unfold Addr.add; split <;> rfl
  rw [hb] at h
  split at h
  · rename_i c te fr hc
    split at h
    · cases h
    · rename_i hs
      refine ⟨c, te, fr, hc, ?_, fun hi => ?_⟩
      · have : (a.add i).off = a.off + i := by
          unfold Addr.add
          split
          · rename_i h0; rw [h0]; rfl
          · rfl
        rw [← this]; exact h
      · subst hi
        have e : a.add 0 = a := rfl
        rw [e] at hs
        simpa using hs
  · cases h

/-- Chunks of so many cells. -/
def chunks (z : Nat) (l : List Value) : Nat → List (List Value)
  | 0 => []
  | n + 1 => l.take z :: chunks z (l.drop z) n
theorem chunks_length (z : Nat) : ∀ (n : Nat) (l : List Value), (chunks z l n).length = n
  | 0, _ => rfl
  | n + 1, l => by simp [chunks, chunks_length z n]
theorem chunks_flatten (z : Nat) : ∀ (n : Nat) (l : List Value), (chunks z l n).flatten = l.take (n * z)
  | 0, l => by simp [chunks]
  | n + 1, l => by
    simp only [chunks, List.flatten_cons, chunks_flatten z n]
    rw [show (n + 1) * z = z + n * z by rw [Nat.add_mul]; omega, List.take_add]
theorem chunks_get (z : Nat) : ∀ (n : Nat) (l : List Value) (i : Nat), i < n → (chunks z l n)[i]? = some ((l.drop (i * z)).take z)
  | 0, _, _, h => by omega
  | n + 1, l, 0, _ => by simp [chunks]
  | n + 1, l, i + 1, h => by
    simp only [chunks, List.getElem?_cons_succ]
    rw [chunks_get z n (l.drop z) i (by omega), List.drop_drop]
    congr 3
    rw [Nat.add_mul]; omega

/-- **A slice that came in.** -/
theorem slice_cells {t e : TypeId} {z fuel : Nat} {v : Value} {x : DataW H × List MemPlace} (ht : P.underlying t = some (.slice e)) (hz : P.cellsOf e = z) (hz0 : 0 < z) (h : DataW.trod enc P w base (fun _ => true) held fuel t [v] = some x) :
    v = .slice none 0 0 ∨ (∃ a c, v = .slice (some a) 0 c) ∨
    ∃ b o n c es C te fr, v = .slice (some ⟨b, o, none⟩) n c ∧ 0 < n ∧ n ≤ maxLen ∧ List.length es = n ∧ w.heap[b]? = some (.cells C te fr) ∧ o + n * z ≤ C.size ∧ (C.toList.drop o).take (n * z) = es.flatten ∧
      ∀ x ∈ es, x.length = z ∧ ∃ m y, DataW.trod enc P w base (fun _ => true) held m e x = some y := by
  rcases open_slice ht h with ⟨h0, _⟩ | ⟨a, len, cap, m, n, D, Pl, h0, hb, hl, hm, hmc, _, hel⟩
  · exact .inl (List.singleton_inj.1 h0)
  obtain rfl : v = .slice (some a) len cap := List.singleton_inj.1 h0
  have hmc : m = cap := hmc
  rcases Nat.eq_zero_or_pos len with rfl | hpos
  · exact .inr (.inl ⟨a, cap, rfl⟩)
  refine .inr (.inr ?_)

  subst hmc
  have hcell : ∀ i, i < len → ∃ cs', w.cells? base (a.add (i * z)) z = some cs' ∧ ∃ y, DataW.trod enc P w base (fun _ => true) held n e cs' = some y := fun i hi => by
    obtain ⟨cs', h1, h2⟩ := hel i (by omega)
    rw [hz] at h1
    exact ⟨cs', h1, _, h2⟩
  have hone : ∀ i, i < len → ∃ cs', cs'.length = z ∧ (∃ y, DataW.trod enc P w base (fun _ => true) held n e cs' = some y) ∧ ∀ j, j < z → w.cell? ((a.add (i * z)).add j) = cs'[j]? := fun i hi => by
    obtain ⟨cs', h1, h2⟩ := hcell i hi
    obtain ⟨_, h3, h4⟩ := World.cells?_some h1
    exact ⟨cs', h3, h2, h4⟩
  -- the first cell: the block
  obtain ⟨c0, l0, _, g0⟩ := hone 0 hpos
  obtain ⟨v0, hv0⟩ : ∃ v0, c0[0]? = some v0 := ⟨_, List.getElem?_eq_getElem (by omega)⟩
  have g00 := g0 0 hz0
  rw [hv0, Nat.zero_mul] at g00
  have e0 : (a.add 0).add 0 = a.add 0 := rfl
  rw [e0] at g00
  obtain ⟨C, te, fr, hC, _, hs⟩ := cell_add g00
  have hspot : a.spot = none := hs rfl
  obtain ⟨b, o, s⟩ := a
  simp only at hspot hC
  subst hspot
  have hat : ∀ i, i < len → ∃ cs', cs'.length = z ∧ (∃ y, DataW.trod enc P w base (fun _ => true) held n e cs' = some y) ∧ (C.toList.drop (o + i * z)).take z = cs' ∧ o + i * z + z ≤ C.size := fun i hi => by
    obtain ⟨cs', l1, h2, h3⟩ := hone i hi
    have key : ∀ j, j < z → C[o + i * z + j]? = cs'[j]? := fun j hj => by
      obtain ⟨vj, hvj⟩ : ∃ vj, cs'[j]? = some vj := ⟨_, List.getElem?_eq_getElem (by omega)⟩
      have := h3 j hj
      rw [hvj] at this
      obtain ⟨C', _, _, hC', q, _⟩ := cell_add this
      have eb : ((⟨b, o, none⟩ : Addr).add (i * z)).block = b := by unfold Addr.add; split <;> rfl
      have eo : ((⟨b, o, none⟩ : Addr).add (i * z)).off = o + i * z := by
        unfold Addr.add
        split
        · rename_i h0; rw [h0]; rfl
        · rfl
      rw [eb, hC] at hC'
      cases hC'
      rw [eo] at q
      rw [q, hvj]
    have hsz : o + i * z + z ≤ C.size := by
      have := key (z - 1) (by omega)
      obtain ⟨vj, hvj⟩ : ∃ vj, cs'[z - 1]? = some vj := ⟨_, List.getElem?_eq_getElem (by omega)⟩
      rw [hvj] at this
      have := (Array.getElem?_eq_some_iff.1 this).1
      omega
    refine ⟨cs', l1, h2, ?_, hsz⟩
    refine List.ext_getElem? fun j => ?_
    by_cases hj : j < z
    · rw [List.getElem?_take, if_pos hj, List.getElem?_drop, ← key j hj]
      simp
    · rw [List.getElem?_eq_none (by simp; omega), List.getElem?_eq_none (by omega)]
  have hsize : o + len * z ≤ C.size := by
    obtain ⟨_, _, _, _, h5⟩ := hat (len - 1) (by omega)
    have : (len - 1) * z + z = len * z := by rw [← Nat.succ_mul]; congr 1; omega
    omega
  refine ⟨b, o, len, _, chunks z (C.toList.drop o) len, C, te, fr, rfl, hpos, by omega, chunks_length .., hC, hsize, by rw [chunks_flatten], fun x hx => ?_⟩
  obtain ⟨i, hi, rfl⟩ := List.getElem_of_mem hx
  have hi' : i < len := by rw [chunks_length] at hi; exact hi
  have := chunks_get z len (C.toList.drop o) i hi'
  rw [List.getElem?_eq_getElem hi, List.drop_drop] at this
  obtain ⟨cs', l1, h2, h3, _⟩ := hat i hi'
  rw [Option.some.inj this, h3]
  exact ⟨l1, n, h2⟩

end Go.Bk
