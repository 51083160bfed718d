/- WHAT A PLAIN TABLE'S CELLS ARE, out of what it reads as: rows of numbers, and rows of pairs of numbers. No condition. -/
import Derived.ProofKit
import Derived.LaidMore
import Derived.OpenShut
import Derived.Stop.Joined
namespace Go.Bk
open Go Go.ChangeShapes Go.WideShapes Go.ChangeAt Go.RowKit
variable {H : Type} {enc : TypeId × Value → H} {P : Program} {w : World} {base : Nat} {sp : Nat → Bool} {held : Bool} {fuel : Nat} {t e : TypeId} {cs : List Value}

theorem trod_ints {k : IntKind} {n : Nat} {ns : List Int} {ps : List MemPlace} (ht : P.underlying t = some (.array n e)) (he : P.underlying e = some (.int k)) (h1 : P.cellsOf e = 1) (hc : P.cellsOf t = n)
    (h : DataW.trod enc P w base sp held fuel t cs = some (.agg (ns.map fun x => .lit (.int k x)), ps)) : cs = ns.map fun x => .int k x := by
  obtain ⟨xs, m, _, hx, hl, hn, hel⟩ := DataW.trod_array ht h
  simp only [Prod.mk.injEq, DataW.agg.injEq] at hx
  have hlen : ns.length = n := by have := congrArg List.length hx.1; simp at this; omega
  rw [hc] at hl
  refine List.ext_getElem? fun i => ?_
  by_cases hi : i < n
  · have he' := hel i hi
    obtain ⟨x, hxi⟩ : ∃ x, xs[i]? = some x := ⟨_, List.getElem?_eq_getElem (by omega)⟩
    rw [hxi] at he'
    obtain ⟨v, ecs, ex, _⟩ := DataW.trod_int he he'
    have h2 := congrArg (fun l => l[i]?) hx.1
    simp only [List.getElem?_map, hxi, Option.map_some] at h2
    have hni : ns[i]? = some ns[i] := List.getElem?_eq_getElem (by omega)
    rw [hni] at h2
    simp only [Option.map_some, Option.some.injEq] at h2
    rw [ex] at h2
    simp only [DataW.lit.injEq, Lit.int.injEq, true_and] at h2
    rw [h1, Nat.mul_one] at ecs
    have h3 := congrArg (fun l => l[0]?) ecs
    simp only [List.getElem?_take, List.getElem?_drop] at h3
    simp at h3
    rw [h3, List.getElem?_map, hni, Option.map_some, h2]
  · rw [List.getElem?_eq_none (by omega), List.getElem?_eq_none (by simp; omega)]

theorem trod_pairs {s ie : TypeId} {fs : Array Field} {k : IntKind} {n : Nat} {ns : List (Int × Int)} {ps : List MemPlace} (ht : P.underlying t = some (.array n s)) (hs : P.underlying s = some (.struct fs)) (hz : fs.size = 2)
    {f0 f1 : Field} (hf0 : fs[0]? = some f0) (hf1 : fs[1]? = some f1) (o0 : f0.offset = 0) (o1 : f1.offset = 1) (t0 : f0.type = ie) (t1 : f1.type = ie)
    (he : P.underlying ie = some (.int k)) (h1 : P.cellsOf ie = 1) (h2c : P.cellsOf s = 2) (hc : P.cellsOf t = 2 * n)
    (h : DataW.trod enc P w base sp held fuel t cs = some (.agg (ns.map fun x => .agg [.lit (.int k x.1), .lit (.int k x.2)]), ps)) : cs = ns.flatMap fun x => [.int k x.1, .int k x.2] := by
  obtain ⟨xs, m, _, hx, hl, hn, hel⟩ := DataW.trod_array ht h
  simp only [Prod.mk.injEq, DataW.agg.injEq] at hx
  have hlen : ns.length = n := by have := congrArg List.length hx.1; simp at this; omega
  rw [hc] at hl
  have pair : ∀ i (hi : i < n), cs[i * 2]? = some (.int k (ns[i]'(by omega)).1) ∧ cs[i * 2 + 1]? = some (.int k (ns[i]'(by omega)).2) := by
    intro i hi
    have he' := hel i hi
    obtain ⟨x, hxi⟩ : ∃ x, xs[i]? = some x := ⟨_, List.getElem?_eq_getElem (by omega)⟩
    rw [hxi] at he'
    obtain ⟨ys, m', _, ey, _, hyl, hyf⟩ := DataW.trod_struct hs he'
    have h2 := congrArg (fun l => l[i]?) hx.1
    simp only [List.getElem?_map, hxi, Option.map_some] at h2
    have hni : ns[i]? = some (ns[i]'(by omega)) := List.getElem?_eq_getElem (by omega)
    rw [hni] at h2
    simp only [Option.map_some, Option.some.injEq] at h2
    rw [ey] at h2
    simp only [DataW.agg.injEq] at h2
    have g0 := hyf 0 f0 hf0
    have g1 := hyf 1 f1 hf1
    match ys, hyl.trans hz, h2, g0, g1 with
    | [y0, y1], _, h2, g0, g1 =>
      simp only [List.map_cons, List.map_nil, List.cons.injEq, and_true] at h2
      rw [o0, t0, h1] at g0
      rw [o1, t1, h1] at g1
      obtain ⟨v0, ec0, ex0, _⟩ := DataW.trod_int he (show _ = some y0 from g0)
      obtain ⟨v1, ec1, ex1, _⟩ := DataW.trod_int he (show _ = some y1 from g1)
      rw [ex0, ex1] at h2
      simp only [DataW.lit.injEq, Lit.int.injEq, true_and] at h2
      rw [h2c] at ec0 ec1
      have q0 := congrArg (fun l => l[0]?) ec0
      have q1 := congrArg (fun l => l[0]?) ec1
      simp only [List.getElem?_take, List.getElem?_drop] at q0 q1
      simp at q0 q1
      rw [q0, q1, h2.1, h2.2]
      exact ⟨rfl, rfl⟩
  have aux : ∀ (ns : List (Int × Int)) (i : Nat), (ns.flatMap fun x => [Value.int k x.1, Value.int k x.2])[i]? = (ns[i / 2]?).map fun x => if i % 2 = 0 then Value.int k x.1 else Value.int k x.2 := by
    intro ns
    induction ns with
    | nil => intro i; simp
    | cons x l ih =>
      intro i
      match i with
      | 0 => simp
      | 1 => simp
      | i + 2 =>
        have : (i + 2) / 2 = i / 2 + 1 := by omega
        simp [ih i, this]
  refine List.ext_getElem? fun i => ?_
  rw [aux]
  by_cases hi : i < 2 * n
  · have hd : i / 2 < n := by omega
    obtain ⟨p0, p1⟩ := pair (i / 2) hd
    rw [List.getElem?_eq_getElem (show i / 2 < ns.length by omega)]
    by_cases hm : i % 2 = 0
    · rw [show i / 2 * 2 = i by omega] at p0
      rw [p0]; simp [hm]
    · rw [show i / 2 * 2 + 1 = i by omega] at p1
      rw [p1]; simp [hm]
  · rw [List.getElem?_eq_none (by omega), List.getElem?_eq_none (show ns.length ≤ i / 2 by omega)]; rfl

end Go.Bk
