/- 'bodkinref26.Large': whatever operations it is asked of, it answers, and leaves what is there. No condition. -/
import Derived.Test.YtifnbnlghfedfaaGreatDoorBkG5
namespace Go.Proofs.YtifnbnlghfedfaaGreatDoor
open Go Go.Bk
set_option maxRecDepth 1000000

theorem ut29 : Tryz.prog.underlying 29 = some (.slice 26) := by kernel_rfl
theorem ut22 : Tryz.prog.underlying 22 = some (.slice 56) := by kernel_rfl
theorem ut23 : Tryz.prog.underlying 23 = some (.slice 3) := by kernel_rfl
theorem ut24 : Tryz.prog.underlying 24 = some (.slice 58) := by kernel_rfl
theorem ut9 : Tryz.prog.underlying 9 = some .string := by kernel_rfl
theorem sz26 : sizeOfA Tryz.prog 26 = some 6 := by kernel_rfl
theorem sz56 : sizeOfA Tryz.prog 56 = some 3 := by kernel_rfl
theorem sz58 : sizeOfA Tryz.prog 58 = some 5 := by kernel_rfl
theorem ag26 : isAggA Tryz.prog 26 = some true := by kernel_rfl
theorem ag56 : isAggA Tryz.prog 56 = some true := by kernel_rfl
theorem ag58 : isAggA Tryz.prog 58 = some true := by kernel_rfl
theorem ag9 : isAggA Tryz.prog 9 = some false := by kernel_rfl
theorem ag22 : isAggA Tryz.prog 22 = some false := by kernel_rfl
theorem ag23 : isAggA Tryz.prog 23 = some false := by kernel_rfl
theorem ag24 : isAggA Tryz.prog 24 = some false := by kernel_rfl

/-- An edit's cells; an inlay's. -/
def IsEdit (x : List Value) : Prop := ∃ f t s, x = [.int .i64 f, .int .i64 t, .string s]
def IsInlay (x : List Value) : Prop := ∃ a b c d s, x = [.int .i64 a, .int .i64 b, .int .i64 c, .int .i64 d, .string s]
/-- An operation's cells. -/
def IsOp (H : AHeap) (e : List Value) : Prop :=
  ∃ k a b vE vR vA es rs ns, e = [.int .i64 k, .int .i64 a, .int .i64 b, vE, vR, vA] ∧ IsSlice H vE 3 es ∧ (∀ x ∈ es, IsEdit x) ∧ IsSlice H vR 1 rs ∧ IsSlice H vA 5 ns ∧ ∀ x ∈ ns, IsInlay x
theorem IsOp.keep {H H' : AHeap} {e : List Value} (h : IsOp H e) (k : Keeps H H') : IsOp H' e := by
  obtain ⟨a, b, c, vE, vR, vA, es, rs, ns, h1, h2, h3, h4, h5, h6⟩ := h
  exact ⟨a, b, c, vE, vR, vA, es, rs, ns, h1, h2.keep k, h3, h4.keep k, h5.keep k, h6⟩

theorem wrap_succ {i m : Nat} (h : i < m) (hm : m ≤ 9223372036854775807) : IntKind.i64.wrap ((i : Int) + 1) = ((i + 1 : Nat) : Int) := by
  rw [wrap64 (by omega) (by omega)]; omega

theorem edits_loop {Q : Value → AHeap → Prop} {es : List (List Value)} (hes : ∀ x ∈ es, IsEdit x) (hlen : es.length ≤ 70) {v7 v16 v17 v18 v39 : Value} : ∀ (k i : Nat) (H : AHeap) (acc : Int), i + k = es.length → WF H → IsSlice H v39 3 es →
    (∀ H', Keeps H H' → WF H' → Q (.bool true) H') →
    (∀ H' acc' v41 v42, Keeps H H' → WF H' → Ev (fun n m1 _ _ => P5_16 n m1 (.int .i64 acc') v7 v16 v17 v18 v39 (.int .i64 es.length) v41 v42 H') Q) →
    Ev (fun n m1 m2 _ => P5_14 n m1 m2 (.int .i64 acc) v7 v16 v17 v18 v39 (.int .i64 es.length) (.int .i64 i) H) Q := by
  intro k
  induction k with
  | zero =>
    intro i H acc hi hw hs _ hk
    refine Ev.succ2 (Ev.of_eq (fun n m1 m2 m3 => P5_14_eq ..) ?_)
    have : decide ((i : Int) < (es.length : Int)) = false := decide_eq_false (by omega)
    simp only [obin_lss, stepP_some, this, condB_false]
    exact hk H acc _ _ (.refl H) hw
  | succ k ih =>
    intro i H acc hi hw hs ht hk
    refine Ev.succ2 (Ev.of_eq (fun n m1 m2 m3 => P5_14_eq ..) ?_)
    have hlt : decide ((i : Int) < (es.length : Int)) = true := decide_eq_true (by omega)
    have hi' : i < es.length := by omega
    obtain ⟨b, o, cs, e1, e2, e3, e4⟩ := hs.at ut22 sz56 hi'
    obtain ⟨f, t, s, hx⟩ := hes _ (List.getElem_mem hi')
    have e5 : oload Tryz.prog 56 (.pointer (some ⟨b, o, none⟩)) H = some (.agg ⟨[.int .i64 f, .int .i64 t, .string s]⟩) := by
      rw [oload_agg ag56 sz56 e2 e3, e4, hx]
    have e6 := ostore_new (P := Tryz.prog) (t := 56) (e := 56) (H := H) (cs := [.int .i64 0, .int .i64 0, .string ⟨⟨[]⟩⟩]) (v := .agg ⟨[.int .i64 f, .int .i64 t, .string s]⟩) sz56 rfl rfl
    have e7 : oload Tryz.prog 9 (.pointer (some ⟨H.next, 0 + 2, none⟩)) (H.push (.cells (Value.agg ⟨[.int .i64 f, .int .i64 t, .string s]⟩).cells.toList 56 false)) = some (.string s) :=
      oload_one ag9 (by rw [get_push_self]; rfl) rfl
    have hk1 : Keeps H (H.push (.cells (Value.agg ⟨[.int .i64 f, .int .i64 t, .string s]⟩).cells.toList 56 false)) := .push hw _
    simp only [obin_lss, stepP_some, hlt, condB_true, P5_15_eq, e1, e5, stepA_some, e6, ounit, stepE_some, padd_ptr, e7, olen_string ut9, obin_gtr]
    cases decide ((s.size : Int) > 400) with
    | true => simp only [condB_true]; exact .ret (ht _ hk1 (hw.push _))
    | false =>
      simp only [condB_false, P5_17_eq, padd_ptr, stepP_some, e7, olen_string ut9, obin_add, P5_19_eq, wrap_succ hi' (by omega)]
      exact ih (i + 1) _ _ (by omega) (hw.push _) (hs.keep hk1) (fun H' h1 h2 => ht H' (hk1.trans h1) h2) (fun H' a v w h1 h2 => hk H' a v w (hk1.trans h1) h2)

theorem adds_loop {Q : Value → AHeap → Prop} {es : List (List Value)} (hes : ∀ x ∈ es, IsInlay x) (hlen : es.length ≤ 70) {v16 v17 v18 v57 : Value} : ∀ (k i : Nat) (H : AHeap) (acc : Int), i + k = es.length → WF H → IsSlice H v57 5 es →
    (∀ H', Keeps H H' → WF H' → Q (.bool true) H') →
    (∀ H' acc' v59 v60, Keeps H H' → WF H' → Ev (fun n m1 _ _ => P5_21 n m1 (.int .i64 acc') v16 v17 v18 v57 (.int .i64 es.length) v59 v60 H') Q) →
    Ev (fun n m1 m2 _ => P5_18 n m1 m2 (.int .i64 acc) v16 v17 v18 v57 (.int .i64 es.length) (.int .i64 i) H) Q := by
  intro k
  induction k with
  | zero =>
    intro i H acc hi hw hs _ hk
    refine Ev.succ2 (Ev.of_eq (fun n m1 m2 m3 => P5_18_eq ..) ?_)
    have : decide ((i : Int) < (es.length : Int)) = false := decide_eq_false (by omega)
    simp only [obin_lss, stepP_some, this, condB_false]
    exact hk H acc _ _ (.refl H) hw
  | succ k ih =>
    intro i H acc hi hw hs ht hk
    refine Ev.succ2 (Ev.of_eq (fun n m1 m2 m3 => P5_18_eq ..) ?_)
    have hlt : decide ((i : Int) < (es.length : Int)) = true := decide_eq_true (by omega)
    have hi' : i < es.length := by omega
    obtain ⟨b, o, cs, e1, e2, e3, e4⟩ := hs.at ut24 sz58 hi'
    obtain ⟨x0, x1, x2, x3, s, hx⟩ := hes _ (List.getElem_mem hi')
    have e5 : oload Tryz.prog 58 (.pointer (some ⟨b, o, none⟩)) H = some (.agg ⟨[.int .i64 x0, .int .i64 x1, .int .i64 x2, .int .i64 x3, .string s]⟩) := by
      rw [oload_agg ag58 sz58 e2 e3, e4, hx]
    have e6 := ostore_new (P := Tryz.prog) (t := 58) (e := 58) (H := H) (cs := [.int .i64 0, .int .i64 0, .int .i64 0, .int .i64 0, .string ⟨⟨[]⟩⟩]) (v := .agg ⟨[.int .i64 x0, .int .i64 x1, .int .i64 x2, .int .i64 x3, .string s]⟩) sz58 rfl rfl
    have e7 : oload Tryz.prog 9 (.pointer (some ⟨H.next, 0 + 4, none⟩)) (H.push (.cells (Value.agg ⟨[.int .i64 x0, .int .i64 x1, .int .i64 x2, .int .i64 x3, .string s]⟩).cells.toList 58 false)) = some (.string s) :=
      oload_one ag9 (by rw [get_push_self]; rfl) rfl
    have hk1 : Keeps H (H.push (.cells (Value.agg ⟨[.int .i64 x0, .int .i64 x1, .int .i64 x2, .int .i64 x3, .string s]⟩).cells.toList 58 false)) := .push hw _
    simp only [obin_lss, stepP_some, hlt, condB_true, P5_20_eq, e1, e5, stepA_some, e6, ounit, stepE_some, padd_ptr, e7, olen_string ut9, obin_gtr]
    cases decide ((s.size : Int) > 200) with
    | true => simp only [condB_true]; exact .ret (ht _ hk1 (hw.push _))
    | false =>
      simp only [condB_false, P5_22_eq, padd_ptr, stepP_some, e7, olen_string ut9, obin_add, P5_23_eq, wrap_succ hi' (by omega)]
      exact ih (i + 1) _ _ (by omega) (hw.push _) (hs.keep hk1) (fun H' h1 h2 => ht H' (hk1.trans h1) h2) (fun H' a v w h1 h2 => hk H' a v w (hk1.trans h1) h2)

/-- What Large leaves. -/
def Said (H : AHeap) (v : Value) (H' : AHeap) : Prop := (∃ b, v = .bool b) ∧ Keeps H H' ∧ WF H'

theorem ops_loop {H0 : AHeap} {es : List (List Value)} (hlen : es.length ≤ 9223372036854775807) {v16 : Value} : ∀ (k i : Nat) (H : AHeap) (acc : Int), i + k = es.length → Keeps H0 H → WF H → IsSlice H v16 6 es → (∀ x ∈ es, IsOp H x) →
    Ev (fun n m1 _ _ => P5_2 n m1 (.int .i64 acc) v16 (.int .i64 es.length) (.int .i64 i) H) (Said H0) := by
  intro k
  induction k with
  | zero =>
    intro i H acc hi h0 hw hs _
    refine Ev.succ1 (Ev.of_eq (fun n m1 m2 m3 => P5_2_eq ..) ?_)
    have : decide ((i : Int) < (es.length : Int)) = false := decide_eq_false (by omega)
    simp only [obin_lss, stepP_some, this, condB_false, P5_4_eq, obin_gtr]
    exact .ret ⟨⟨_, rfl⟩, h0, hw⟩
  | succ k ih =>
    intro i H acc hi h0 hw hs hes
    refine Ev.succ1 (Ev.of_eq (fun n m1 m2 m3 => P5_2_eq ..) ?_)
    have hlt : decide ((i : Int) < (es.length : Int)) = true := decide_eq_true (by omega)
    have hi' : i < es.length := by omega
    obtain ⟨b, o, cs, e1, e2, e3, e4⟩ := hs.at ut29 sz26 hi'
    obtain ⟨kd, a, b', vE, vR, vA, ee, rr, nn, hx, hE, hEe, hR, hA, hAe⟩ := hes _ (List.getElem_mem hi')
    have e5 : oload Tryz.prog 26 (.pointer (some ⟨b, o, none⟩)) H = some (.agg ⟨[.int .i64 kd, .int .i64 a, .int .i64 b', vE, vR, vA]⟩) := by
      rw [oload_agg ag26 sz26 e2 e3, e4, hx]
    have ho : allOne (Value.agg ⟨[.int .i64 kd, .int .i64 a, .int .i64 b', vE, vR, vA]⟩).cells.toList = true := by
      obtain ⟨_, _, h1⟩ := hE.form
      obtain ⟨_, _, h2⟩ := hR.form
      obtain ⟨_, _, h3⟩ := hA.form
      rw [h1, h2, h3]; rfl
    have e6 := ostore_new (P := Tryz.prog) (t := 26) (e := 26) (H := H) (cs := [.int .i64 0, .int .i64 0, .int .i64 0, .slice none 0 0, .slice none 0 0, .slice none 0 0]) (v := .agg ⟨[.int .i64 kd, .int .i64 a, .int .i64 b', vE, vR, vA]⟩) sz26 rfl ho
    generalize hH1 : H.push (.cells (Value.agg ⟨[.int .i64 kd, .int .i64 a, .int .i64 b', vE, vR, vA]⟩).cells.toList 26 false) = H1 at e6
    have hk1 : Keeps H H1 := by rw [← hH1]; exact .push hw _
    have hw1 : WF H1 := by rw [← hH1]; exact hw.push _
    have hg1 : (H1.get H.next).bind rdO = some [.int .i64 kd, .int .i64 a, .int .i64 b', vE, vR, vA] := by rw [← hH1, get_push_self]; rfl
    have f3 : ∀ H', Keeps H1 H' → oload Tryz.prog 22 (.pointer (some ⟨H.next, 0 + 3, none⟩)) H' = some vE := fun H' k => oload_one ag22 (k.rd hg1) rfl
    have f4 : ∀ H', Keeps H1 H' → oload Tryz.prog 23 (.pointer (some ⟨H.next, 0 + 4, none⟩)) H' = some vR := fun H' k => oload_one ag23 (k.rd hg1) rfl
    have f5 : ∀ H', Keeps H1 H' → oload Tryz.prog 24 (.pointer (some ⟨H.next, 0 + 5, none⟩)) H' = some vA := fun H' k => oload_one ag24 (k.rd hg1) rfl
    have lE := hE.len ut22
    have lR := hR.len ut23
    have lA := hA.len ut24
    have yes : ∀ H', Keeps H1 H' → WF H' → Said H0 (.bool true) H' := fun H' h1 h2 => ⟨⟨_, rfl⟩, (h0.trans hk1).trans h1, h2⟩
    simp only [obin_lss, stepP_some, hlt, condB_true, P5_3_eq, e1, e5, stepA_some, e6, ounit, stepE_some, padd_ptr, f3 _ (.refl _), lE, obin_gtr, guardB_bool]
    by_cases c1 : (ee.length : Int) > 70
    · simp only [decide_eq_true c1, reduceCtorEq, if_false, P5_5_eq, P5_6_eq, P5_7_eq, P5_8_eq, guardB_bool, pickV_true, stepP_some, P5_9_eq, P5_10_eq, P5_11_eq, P5_12_eq, condB_true]
      exact .ret (yes _ (.refl _) hw1)
    · simp only [decide_eq_false c1, if_true, P5_5_eq, guardB_bool, f4 _ (.refl _), stepP_some, P5_6_eq, lR, P5_7_eq, obin_gtr, P5_8_eq, pickV_false, padd_ptr]
      by_cases c2 : (rr.length : Int) > 70
      · simp only [decide_eq_true c2, reduceCtorEq, if_false, P5_9_eq, P5_10_eq, P5_11_eq, guardB_bool, P5_12_eq, pickV_true, stepP_some, condB_true]
        exact .ret (yes _ (.refl _) hw1)
      · simp only [decide_eq_false c2, if_true, P5_9_eq, guardB_bool, f5 _ (.refl _), stepP_some, P5_10_eq, lA, P5_11_eq, obin_gtr, P5_12_eq, pickV_false]
        by_cases c3 : (nn.length : Int) > 70
        · simp only [decide_eq_true c3, condB_true]
          exact .ret (yes _ (.refl _) hw1)
        · simp only [decide_eq_false c3, condB_false, P5_13_eq, padd_ptr, stepP_some, f3 _ (.refl _), lE]
          refine Ev.loop2 (F := fun n m1 m2 _ => P5_14 n m1 m2 _ _ _ _ _ _ _ _ H1) (edits_loop hEe (by omega) ee.length 0 H1 acc (by omega) hw1 (hE.keep hk1) yes ?_)
          intro H2 acc2 v41 v42 k2 w2
          simp only [P5_16_eq, padd_ptr, stepP_some, f5 _ k2, lA]
          refine Ev.loop2 (F := fun n m1 m2 _ => P5_18 n m1 m2 _ _ _ _ _ _ _ H2) (adds_loop hAe (by omega) nn.length 0 H2 acc2 (by omega) w2 ((hA.keep hk1).keep k2) (fun H' h1 h2 => yes H' (k2.trans h1) h2) ?_)
          intro H3 acc3 v59 v60 k3 w3
          have k03 := (hk1.trans k2).trans k3
          simp only [P5_21_eq, obin_add, stepP_some, wrap_succ hi' hlen]
          exact ih (i + 1) H3 acc3 (by omega) (h0.trans k03) w3 (hs.keep k03) (fun x hx => (hes x hx).keep k03)

/-- **Large.** -/
theorem large_ev {H : AHeap} {v : Value} {es : List (List Value)} (most : Int) (hlen : es.length ≤ 9223372036854775807) (hw : WF H) (hs : IsSlice H v 6 es) (hes : ∀ x ∈ es, IsOp H x) :
    Ev (fun n _ _ _ => run Tryz.prog SP n (.fn 5) [v, .int .i64 most] H) (Said H) := by
  refine Ev.succ (Ev.of_eq (fun n m1 m2 m3 => (F5 n v (.int .i64 most) H).trans (P5_0_eq ..)) ?_)
  simp only [hs.len ut29, stepP_some, obin_gtr]
  cases decide ((es.length : Int) > most) with
  | true => simp only [condB_true]; exact .ret ⟨⟨_, rfl⟩, .refl H, hw⟩
  | false =>
    simp only [condB_false, P5_1_eq, hs.len ut29, stepP_some]
    exact Ev.loop1 (F := fun n m1 _ _ => P5_2 n m1 _ _ _ _ H) (ops_loop hlen es.length 0 H 0 (by omega) (.refl H) hw hs hes)
end Go.Proofs.YtifnbnlghfedfaaGreatDoor
