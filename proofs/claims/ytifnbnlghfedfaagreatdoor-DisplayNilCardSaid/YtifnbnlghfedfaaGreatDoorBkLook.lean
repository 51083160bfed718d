/- THE START WITH ARGUMENTS THAT LEAD TO MEMORY: looks at their cells; a closed call's contract. No condition. -/
import Derived.Test.YtifnbnlghfedfaaGreatDoorBkVal
import Derived.Test.YtifnbnlghfedfaaGreatDoorBkArg
namespace Go.Bk
open Go
noncomputable section

theorem heapOf_get {n : Nat} : ∀ {l : List (Nat × AObj)} {i : Nat} {o : AObj}, (l.map (·.1)).Nodup → (i, o) ∈ l → (heapOf n l).get i = some o
  | p :: l, i, o, hd, h => by
    have e : (heapOf n (p :: l)).get i = if i = p.1 then some p.2 else (heapOf n l).get i := Tr.get_put p.1 (built l) p.1 i (some p.2) (Nat.le_refl _)
    rw [List.map_cons, List.nodup_cons] at hd
    rw [e]
    rcases List.mem_cons.1 h with rfl | h
    · rw [if_pos rfl]
    · have hne : i ≠ p.1 := fun e' => hd.1 (by rw [← e']; exact List.mem_map_of_mem (f := fun q : Nat × AObj => q.1) h)
      rw [if_neg hne]
      exact heapOf_get hd.2 h

theorem has_of_get {H : AHeap} : ∀ {l : List (Nat × AObj)}, (∀ p ∈ l, H.get p.1 = some p.2) → (l.all fun p => beqO p.2 p.2) = true → has H l = true
  | [], _, _ => rfl
  | p :: l, h, hb => by
    rw [List.all_cons, Bool.and_eq_true] at hb
    simp only [has, h p (List.mem_cons_self ..), hb.1, Bool.true_and]
    exact has_of_get (fun q hq => h q (List.mem_cons_of_mem _ hq)) hb.2

/-- A look at cells that are there. -/
structure Look (W : World) (l : Loc) (cs : List Value) (ob : Obj) : Prop where
  of : ∃ C te fr, ob = .cells C te fr ∧ l.base + cs.length ≤ C.size ∧ (C.toList.drop l.base).take cs.length = cs
  at' : W.heap[l.block]? = some ob
  flat : flats cs = true

abbrev Looks := List (Option (Loc × List Value × Obj))
def viewObjs : Nat → Looks → List (Nat × AObj)
  | _, [] => []
  | i, none :: r => viewObjs (i + 1) r
  | i, some x :: r => (i, .view x.2.1 x.2.2) :: viewObjs (i + 1) r

theorem viewObjs_mem : ∀ {ls : Looks} {g j : Nat} {o : AObj}, (j, o) ∈ viewObjs g ls ↔ ∃ k x, ls[k]? = some (some x) ∧ j = g + k ∧ o = .view x.2.1 x.2.2
  | [], g, j, o => by simp [viewObjs]
  | none :: r, g, j, o => by
    rw [viewObjs, viewObjs_mem]
    constructor
    · rintro ⟨k, x, h, rfl, rfl⟩; exact ⟨k + 1, x, h, by omega, rfl⟩
    · rintro ⟨k, x, h, rfl, rfl⟩
      cases k with
      | zero => simp at h
      | succ k => exact ⟨k, x, h, by omega, rfl⟩
  | some y :: r, g, j, o => by
    rw [viewObjs, List.mem_cons, viewObjs_mem]
    constructor
    · rintro (h | ⟨k, x, h, rfl, rfl⟩)
      · cases h; exact ⟨0, y, rfl, rfl, rfl⟩
      · exact ⟨k + 1, x, h, by omega, rfl⟩
    · rintro ⟨k, x, h, rfl, rfl⟩
      cases k with
      | zero => simp at h; subst h; exact .inl rfl
      | succ k => exact .inr ⟨k, x, h, by omega, rfl⟩

theorem viewObjs_nodup : ∀ (ls : Looks) (g : Nat), ((viewObjs g ls).map (·.1)).Nodup
  | [], _ => List.nodup_nil
  | none :: r, g => viewObjs_nodup r (g + 1)
  | some y :: r, g => by
    rw [viewObjs, List.map_cons, List.nodup_cons]
    refine ⟨fun h => ?_, viewObjs_nodup r (g + 1)⟩
    obtain ⟨⟨j, o⟩, h1, h2⟩ := List.mem_map.1 h
    obtain ⟨k, _, _, h3, _⟩ := viewObjs_mem.1 h1
    simp only at h2
    omega

def lookRen (g : Nat) (ls : Looks) : Ren := fun i => if i < g then some ⟨i, 0, 1, 0⟩ else (ls[i - g]?).join.map (·.1)

/-- **The start.** -/
theorem start_looks {P : Program} {vars : Vars} {W : World} (h : VarsMet P vars W) (hd : (vars.map (·.1)).Nodup) (hb : ((varObjs vars).all fun p => beqO p.2 p.2) = true) (ls : Looks)
    (hl : ∀ x, some x ∈ ls → Look W x.1 x.2.1 x.2.2 ∧ ∀ y ∈ vars, y.1 ≠ x.1.block) :
    ∃ ρ H, Rel P ρ H W ∧ WF H ∧ has H (varObjs vars) = true ∧ (∀ k x, ls[k]? = some (some x) → ρ (P.globals.size + k) = some x.1 ∧ H.get (P.globals.size + k) = some (.view x.2.1 x.2.2)) ∧
      ∀ ρ' H' W', Rel P ρ' H' W' → Fr ρ H W ρ' H' W' → Keeps H H' → Kept W W' := by
  let g := P.globals.size
  let L := varObjs vars ++ viewObjs g ls
  have hvm : ∀ j o, (j, o) ∈ varObjs vars → j < g ∧ ∃ cs e, o = .cells cs e false ∧ flats cs = true ∧ W.heap[j]? = some (.cells ⟨cs⟩ e (0, 0)) ∧ (j, cs, e) ∈ vars := fun j o ho => by
    obtain ⟨cs, e, hx, rfl⟩ := varObjs_mem ho
    obtain ⟨h1, h2, h3⟩ := h _ hx
    exact ⟨h1, cs, e, rfl, h2, h3, hx⟩
  have hnd : (L.map (·.1)).Nodup := by
    rw [List.map_append, List.nodup_append]
    refine ⟨?_, viewObjs_nodup ls g, ?_⟩
    · rw [show (varObjs vars).map (·.1) = vars.map (·.1) by simp [varObjs, Function.comp_def]]; exact hd
    · rintro a ha b hb rfl
      obtain ⟨⟨j, o⟩, h1, h2⟩ := List.mem_map.1 ha
      obtain ⟨⟨j', o'⟩, h3, h4⟩ := List.mem_map.1 hb
      obtain ⟨k, x, _, h6, _⟩ := viewObjs_mem.1 h3
      have := (hvm j o h1).1
      simp only at h2 h4
      omega
  have hget : ∀ j o, (heapOf (g + ls.length) L).get j = some o → (j < g ∧ ∃ cs e, o = .cells cs e false ∧ flats cs = true ∧ W.heap[j]? = some (.cells ⟨cs⟩ e (0, 0)) ∧ (j, cs, e) ∈ vars) ∨
      ∃ k x, ls[k]? = some (some x) ∧ j = g + k ∧ o = .view x.2.1 x.2.2 := fun j o ho => by
    rcases List.mem_append.1 (heapOf_mem ho) with h1 | h1
    · exact .inl (hvm j o h1)
    · exact .inr (viewObjs_mem.1 h1)
  have hlen : ∀ k x, ls[k]? = some (some x) → k < ls.length := fun k x hk => (List.getElem?_eq_some_iff.1 hk).1
  have hρ1 : ∀ j, j < g → lookRen g ls j = some ⟨j, 0, 1, 0⟩ := fun j hj => by simp [lookRen, hj]
  have hρ2 : ∀ k x, ls[k]? = some (some x) → lookRen g ls (g + k) = some x.1 := fun k x hk => by
    simp only [lookRen, if_neg (show ¬ g + k < g by omega), show g + k - g = k by omega, hk]
    rfl
  have hvars : ∀ p ∈ varObjs vars, (heapOf (g + ls.length) L).get p.1 = some p.2 := fun p hp => heapOf_get hnd (List.mem_append_left _ hp)
  refine ⟨lookRen g ls, heapOf (g + ls.length) L, ⟨fun i hi => ?_, fun i hi => ?_, fun i o ho => ?_, fun i j o o' l l' hi hj e1 e2 hbk hv => ?_, fun i hi => ⟨_, hρ1 i hi, rfl, rfl⟩⟩, fun i hi => ?_, has_of_get hvars hb, fun k x hk => ⟨hρ2 k x hk, ?_⟩, fun ρ' H' W' R' F k => ?_⟩
  · have hi : g + ls.length ≤ i := hi
    simp only [lookRen, if_neg (show ¬ i < g by omega)]
    rw [List.getElem?_eq_none (by omega)]; rfl
  · have hi : g + ls.length ≤ i := hi
    cases hg : (heapOf (g + ls.length) L).get i with
    | none => rfl
    | some o =>
      rcases hget i o hg with ⟨h1, _⟩ | ⟨k, x, h1, h2, _⟩
      · omega
      · have := hlen k x h1; omega
  · rcases hget i o ho with ⟨h1, cs, e, rfl, h2, h3, _⟩ | ⟨k, x, h1, rfl, rfl⟩
    · exact ⟨_, _, hρ1 i h1, h3, .shut rfl (VRs.of_flats h2)⟩
    · obtain ⟨⟨⟨C, te, fr, ho', hsz, hcs⟩, hat, hfl⟩, _⟩ := hl x (List.mem_of_getElem? h1)
      refine ⟨x.1, _, hρ2 k x h1, hat, ?_⟩
      rw [ho']
      refine .view hsz fun j v hj => ⟨v, ?_, ?_⟩
      · have e := hj
        rw [← hcs, List.getElem?_take] at e
        split at e
        · rw [List.getElem?_drop] at e; simpa using e
        · cases e
      · have : ∀ {l : List Value}, flats l = true → ∀ v ∈ l, flat v = true := by
          intro l
          induction l with
          | nil => intro _ v hv; cases hv
          | cons a l ih =>
            intro hf v hv
            simp only [flats, Bool.and_eq_true] at hf
            rcases List.mem_cons.1 hv with rfl | hv
            · exact hf.1
            · exact ih hf.2 v hv
        exact VR.of_flat (this hfl v (List.mem_of_getElem? hj))
  · rcases hget i o hi with ⟨h1, cs, e, rfl, _, _, hx⟩ | ⟨k, x, h1, rfl, rfl⟩ <;> rcases hget j o' hj with ⟨h2, cs', e', rfl, _, _, hx'⟩ | ⟨k', x', h2, rfl, rfl⟩
    · rw [hρ1 i h1] at e1; rw [hρ1 j h2] at e2; cases e1; cases e2; exact hbk
    · rw [hρ1 i h1] at e1; rw [hρ2 k' x' h2] at e2; cases e1; cases e2
      exact absurd hbk ((hl x' (List.mem_of_getElem? h2)).2 _ hx)
    · rw [hρ2 k x h1] at e1; rw [hρ1 j h2] at e2; cases e1; cases e2
      exact absurd hbk.symm ((hl x (List.mem_of_getElem? h1)).2 _ hx')
    · simp [isV] at hv
  · have hi : g + ls.length ≤ i := hi
    cases hg : (heapOf (g + ls.length) L).get i with
    | none => rfl
    | some o =>
      rcases hget i o hg with ⟨h1, _⟩ | ⟨k, x, h1, h2, _⟩
      · omega
      · have := hlen k x h1; omega
  · exact heapOf_get hnd (List.mem_append_right _ (viewObjs_mem.2 ⟨k, x, hk, rfl, rfl⟩))
  · refine ⟨F.os, F.output, fun b hb => ?_⟩
    by_cases hlies : Lies (lookRen g ls) (heapOf (g + ls.length) L) b
    · obtain ⟨i, o, l, h1, h2, h3⟩ := hlies
      obtain ⟨l', ob, p1, p2, p3⟩ := R'.obj i o (k.get i o h1)
      rw [F.ext _ _ h2] at p1; cases p1
      rcases hget i o h1 with ⟨q1, cs, e, rfl, q2, q3, _⟩ | ⟨kk, x, q1, rfl, rfl⟩
      · rw [hρ1 i q1] at h2; cases h2
        simp only at h3 p2
        subst h3
        cases p3 with
        | shut hb' hc =>
          rename_i C
          obtain ⟨lc⟩ := C
          have := VRs.eq_of_flats hc q2
          simp only at this
          subst this
          rw [p2, q3]
      · rw [hρ2 kk x q1] at h2; cases h2
        have hat := (hl x (List.mem_of_getElem? q1)).1.at'
        subst h3
        generalize hx : x.2.2 = obx at p3 hat
        cases p3 with
        | view _ _ => rw [p2, hat]
    · exact F.keep b hb hlies

/-- A call without arguments that returns a flat value and leaves all as it was: as its word. -/
theorem closed_ok {P : Program} {vars : Vars} {ρ : Ren} {H : AHeap} {w : World} {m : Memo} (hm : m.Ok P) (ha : m.args = []) (hn : m.n0 = P.globals.size) (hl : m.l0 = varObjs vars) (hf : flat m.v = true) (hh : has (heapOf m.n1 m.l1) (varObjs vars) = true)
    (hg : (vars.all fun x => decide (x.1 < P.globals.size) && flats x.2.1) = true) (hH : has H (varObjs vars) = true) (hd : (vars.map (·.1)).Nodup) (R : Rel P ρ H w) :
    CallsIn Fence.wide 0 P m.f ⟨[]⟩ w (Post P ρ H w m.v H) := by
  have hv : VarsMet P vars w := fun x hx => by
    have h1 := List.all_eq_true.1 hg x hx
    simp only [Bool.and_eq_true, decide_eq_true_eq] at h1
    have hget := has_sub (n := 0) hH x.1 (.cells x.2.1 x.2.2 false) (heapOf_get (by rw [show (varObjs vars).map (·.1) = vars.map (·.1) by simp [varObjs, Function.comp_def]]; exact hd) (List.mem_map_of_mem (f := fun x : Nat × List Value × TypeId => (x.1, AObj.cells x.2.1 x.2.2 false)) hx))
    obtain ⟨l, ob, p1, p2, p3⟩ := R.obj _ _ hget
    obtain ⟨l', q1, q2, q3⟩ := R.glob x.1 h1.1
    rw [p1] at q1; cases q1
    rw [q2] at p2
    refine ⟨h1.1, h1.2, ?_⟩
    cases p3 with
    | shut hb hc =>
      rename_i C
      obtain ⟨lc⟩ := C
      have := VRs.eq_of_flats hc h1.2
      simp only at this
      rw [← this]; exact p2
  have hs := start_rel hv
  have := hm (startRen P.globals.size) w [] (by rw [hn, hl]; exact hs) (by rw [ha]; exact .nil)
  rw [hn, hl] at this
  refine this.mono fun e w' ⟨v', ρ', e1, hvr, R', F⟩ => ?_
  have hk := kept_of_post hv hh R' F
  refine ⟨v', ρ, e1, by rw [hvr.eq_of_flat hf]; exact VR.of_flat hf, R.mono_world fun i o l h1 h2 => hk.heap _ (R.lies_lt ⟨i, o, l, h1, h2, rfl⟩), F.os, F.tape, F.output, F.size, Nat.le_refl _, Ext.refl _, fun _ _ => rfl, fun b hb _ => hk.heap b hb, fun b hb => .inr hb⟩

/-- A run of the abstract machine that ends in true and keeps what was there. -/
theorem true_of_ev {P : Program} {sp : Sp} (hok : ∀ n, CallOk P (run P sp n)) {f : FuncId} {args args' : List Value} {ρ : Ren} {H : AHeap} {W : World} (R : Rel P ρ H W) (ha : VRs ρ args args')
    (hkept : ∀ ρ' H' W', Rel P ρ' H' W' → Fr ρ H W ρ' H' W' → Keeps H H' → Kept W W') (h : Ev (fun n _ _ _ => run P sp n (.fn f) args H) (fun v H' => v = .bool true ∧ Keeps H H')) :
    Calls P f ⟨args'⟩ W fun e W' => e = .returned (.bool true) ∧ Kept W W' := by
  obtain ⟨v, H', ⟨rfl, hk⟩, N, he⟩ := h
  have hr := he N N N N (Nat.le_refl _) (Nat.le_refl _) (Nat.le_refl _) (Nat.le_refl _)
  have := hok N (.fn f) args H _ H' ρ W args' hr R ha
  refine (callsIn_wide.1 this).mono fun e W' ⟨v', ρ', e1, hv, R', F⟩ => ?_
  have e2 : v' = .bool true := hv.eq_of_flat rfl
  subst e2
  exact ⟨e1, hkept ρ' H' W' R' F hk⟩

/-- No listed variable holds a number of 64 bits. -/
def noI64 : Value → Bool
  | .int .i64 _ => false
  | _ => true

/-- **A slice of flat elements that came in**: how it is looked at. -/
theorem arg_look {H : Type} {enc : TypeId × Value → H} {P : Program} {W : World} {held : Bool} {base : Nat} {vars : Vars} (hvars : VarsMet P vars W) (hno : (vars.all fun x => x.2.1.all noI64) = true)
    {t e : TypeId} {z fuel : Nat} {v : Value} {x : DataW H × List MemPlace} {E : List Value → Prop} (ht : P.underlying t = some (.slice e)) (hz : P.cellsOf e = z) (hz0 : 0 < z)
    (hE : ∀ c m (y : DataW H × List MemPlace), DataW.trod enc P W base (fun _ => true) held m e c = some y → c.length = z → E c) (hfl : ∀ c, E c → flats c = true) (h64 : ∀ c, E c → ∃ n r, c = .int .i64 n :: r)
    (h : DataW.trod enc P W base (fun _ => true) held fuel t [v] = some x) :
    ∃ (av : Nat → Value) (o : Option (Loc × List Value × Obj)) (es : List (List Value)), es.length ≤ maxLen ∧ (∀ x, o = some x → Look W x.1 x.2.1 x.2.2 ∧ ∀ y ∈ vars, y.1 ≠ x.1.block) ∧ (∀ c ∈ es, E c) ∧
      ∀ (ρ : Ren) (H : AHeap) (i : Nat), (∀ x, o = some x → ρ i = some x.1 ∧ H.get i = some (.view x.2.1 x.2.2)) → VR ρ (av i) v ∧ IsSlice H (av i) z es := by
  rcases slice_cells ht hz hz0 h with rfl | ⟨a, c, rfl⟩ | ⟨b, o, n, c, es, C, te, fr, rfl, hn, hmax, hlen, hC, hsz, hfe, hel⟩
  · exact ⟨fun _ => .slice none 0 0, none, [], Nat.zero_le _, (fun _ h => nomatch h), (fun _ h => nomatch h), fun ρ H i _ => ⟨.nilslice, (fun _ h => nomatch h), .inl ⟨rfl, _, _, rfl⟩⟩⟩
  · exact ⟨fun _ => ghost, none, [], Nat.zero_le _, (fun _ h => nomatch h), (fun _ h => nomatch h), fun ρ H i _ => ⟨.ghost _ _, (fun _ h => nomatch h), .inl ⟨rfl, _, _, rfl⟩⟩⟩
  have hEe : ∀ c ∈ es, E c := fun c hc => let ⟨l1, m, y, h1⟩ := hel c hc; hE c m y h1 l1
  have hflen : es.flatten.length = n * z := by
    rw [← hfe, List.length_take, List.length_drop, Array.length_toList]; omega
  have hflat : flats es.flatten = true := by
    have : ∀ (l : List (List Value)), (∀ c ∈ l, E c) → flats l.flatten = true := by
      intro l
      induction l with
      | nil => intro _; rfl
      | cons a l ih =>
        intro hl
        rw [List.flatten_cons]
        have h1 := hfl a (hl a (List.mem_cons_self ..))
        have h2 := ih fun c hc => hl c (List.mem_cons_of_mem _ hc)
        have app : ∀ (p q : List Value), flats p = true → flats q = true → flats (p ++ q) = true := by
          intro p
          induction p with
          | nil => intro q _ h; exact h
          | cons u p ihp => intro q hp hq; simp only [flats, Bool.and_eq_true, List.cons_append] at hp ⊢; exact ⟨hp.1, ihp q hp.2 hq⟩
        exact app _ _ h1 h2
    exact this es hEe
  have hnotvar : ∀ y ∈ vars, y.1 ≠ b := fun y hy hb => by
    obtain ⟨_, _, q⟩ := hvars y hy
    rw [hb, hC] at q
    cases q
    obtain ⟨c0, r, e0⟩ : ∃ c0 r, es = c0 :: r := by
      cases es with
      | nil => simp at hlen; omega
      | cons c0 r => exact ⟨c0, r, rfl⟩
    subst e0
    obtain ⟨k, r', e1⟩ := h64 c0 (hEe c0 (List.mem_cons_self ..))
    have h0 := congrArg (fun l => l[0]?) hfe
    simp only [e1, List.flatten_cons, List.cons_append, List.getElem?_cons_zero, List.getElem?_take, List.getElem?_drop] at h0
    split at h0
    · have hm := List.mem_of_getElem? h0
      have := List.all_eq_true.1 (List.all_eq_true.1 hno y hy) _ hm
      simp [noI64] at this
    · cases h0
  refine ⟨fun i => .slice (some ⟨i, 0, none⟩) n c, some (⟨b, o, 1, 0⟩, es.flatten, .cells C te fr), es, by omega, fun x hx => ?_, hEe, fun ρ H i hi => ?_⟩
  · cases hx
    exact ⟨⟨⟨C, te, fr, rfl, by simp only [hflen]; exact hsz, by simp only [hflen]; exact hfe⟩, hC, hflat⟩, hnotvar⟩
  · obtain ⟨h1, h2⟩ := hi _ rfl
    refine ⟨VR.sliceK (o := 0) h1, fun c hc => (hel c hc).1, .inr ⟨i, 0, none, c, es.flatten, by rw [hlen], by rw [h2]; rfl, by rw [hlen, hflen]; omega, ?_⟩⟩
    rw [List.drop_zero, List.take_of_length_le (by rw [hlen, hflen]; exact Nat.le_refl _)]

end
end Go.Bk
