/- FUNCTIONS AND ROUNDS: what the abstract machine gives of a call is a contract of the model's. Conditions: the words for single functions and for those without a body are right; drawn regions' plans are right. -/
import Derived.Test.YtifnbnlghfedfaaGreatDoorBkCode
namespace Go.Bk
open Go

section
variable {P : Program} {ρ : Ren} {H : AHeap} {w : World}

theorem loadVar_sound (R : Rel P ρ H w) {t : TypeId} {p p' v : Value} (hp : VR ρ p p') (h : oload P t p H = some v) : ∃ ad v', p' = .pointer (some ad) ∧ (loadVar t ad).run P w = .ok v' w ∧ VR ρ v v' := by
  obtain ⟨v', e, r⟩ := load_sound R hp h
  unfold oload at h
  cases hp <;> simp only at h <;> try (cases h; done)
  refine ⟨_, v', rfl, ?_, r⟩
  simpa [Instr.loadAt, Instr.sureAddr] using e

def resultOf (tmps : Array Value) : ResultVar → Sem Value
  | .tmp t => pure (tmps.getD t undef)
  | .cell a t => do loadVar t (← asAddr (tmps.getD a undef))

theorem resultsFrom_sound {tmps : Array Value} {τ : Env} (ht : TR ρ τ tmps) (R : Rel P ρ H w) : ∀ (l : List ResultVar) (vs : List Value), aresultsFrom P τ H l = some vs →
    ∃ vs', (l.mapM (resultOf tmps)).run P w = .ok vs' w ∧ VRs ρ vs vs'
  | [], vs, h => by simp only [aresultsFrom, Option.some.injEq] at h; subst h; exact ⟨[], rfl, .nil⟩
  | .tmp t :: l, vs, h => by
    simp only [aresultsFrom] at h
    cases hτ : τ.get t with
    | none => simp [hτ] at h
    | some v =>
        simp only [hτ] at h
        cases hr : aresultsFrom P τ H l with
        | none => simp [hr] at h
        | some us =>
          simp only [hr, Option.some.injEq] at h
          subst h
          obtain ⟨v', e, r⟩ := ht.get t v hτ
          obtain ⟨us', e', r'⟩ := resultsFrom_sound ht R l us hr
          refine ⟨v' :: us', ?_, .cons r r'⟩
          have hd : tmps.getD t undef = v' := by simp [Array.getD_eq_getD_getElem?, e]
          simp only [List.mapM_cons, resultOf, hd, Sem.run_bind, Sem.run_pure, Result.andThen_ok, e']
  | .cell ad t :: l, vs, h => by
    simp only [aresultsFrom] at h
    cases hτ : τ.get ad with
    | none => simp [hτ] at h
    | some p =>
        simp only [hτ] at h
        cases hl : oload P t p H with
        | none => simp [hl] at h
        | some v =>
          simp only [hl] at h
          cases hr : aresultsFrom P τ H l with
          | none => simp [hr] at h
          | some us =>
            simp only [hr, Option.some.injEq] at h
            subst h
            obtain ⟨p', e, r⟩ := ht.get ad p hτ
            obtain ⟨a', v', rfl, e2, r2⟩ := loadVar_sound R r hl
            obtain ⟨us', e', r'⟩ := resultsFrom_sound ht R l us hr
            refine ⟨v' :: us', ?_, .cons r2 r'⟩
            have hd : tmps.getD ad undef = .pointer (some a') := by simp [Array.getD_eq_getD_getElem?, e]
            simp only [List.mapM_cons, resultOf, hd, Sem.run_bind, asAddr, Sem.run_pure, Result.andThen_ok, e2, e']

theorem results_sound {tmps : Array Value} {τ : Env} {fn : Func} {v : Value} {H' : AHeap} (ht : TR ρ τ tmps) (R : Rel P ρ H w) (h : aresults P fn τ H = some (v, H')) :
    H' = H ∧ ∃ v', (results fn tmps).run P w = .ok v' w ∧ VR ρ v v' := by
  unfold aresults at h
  have hrun : ∀ vs' : List Value, (fn.results.toList.mapM (resultOf tmps)).run P w = .ok vs' w → (results fn tmps).run P w = .ok (if h : (⟨vs'⟩ : Array Value).size = 1 then (⟨vs'⟩ : Array Value)[0] else .tuple ⟨vs'⟩) w := by
    intro vs' e
    have : (fn.results.mapM (fun | .tmp t => pure (tmps.getD t undef) | .cell a t => do loadVar t (← asAddr (tmps.getD a undef)) : ResultVar → Sem Value)).run P w = .ok ⟨vs'⟩ w := by
      rw [Array.mapM_eq_mapM_toList]
      have e2 : (fun | .tmp t => pure (tmps.getD t undef) | .cell a t => do loadVar t (← asAddr (tmps.getD a undef)) : ResultVar → Sem Value) = resultOf tmps := by
        funext x; cases x <;> rfl
      rw [e2]
      simp [e]
    unfold results
    rw [Sem.run_bind]
    exact (congrArg (fun r => Result.andThen r (fun a w' => Sem.run P (pure (if h : a.size = 1 then a[0] else Value.tuple a)) w')) this).trans rfl
  cases hr : aresultsFrom P τ H fn.results.toList with
  | none => simp [hr] at h
  | some vs =>
    obtain ⟨vs', e, r⟩ := resultsFrom_sound ht R _ vs hr
    have hlen := r.length
    cases r with
    | nil =>
      simp only [hr, Option.some.injEq, Prod.mk.injEq] at h
      obtain ⟨rfl, rfl⟩ := h
      exact ⟨rfl, .tuple #[], by rw [hrun _ e]; rfl, .tuple .nil⟩
    | cons r1 r2 =>
      cases r2 with
      | nil =>
        simp only [hr, Option.some.injEq, Prod.mk.injEq] at h
        obtain ⟨rfl, rfl⟩ := h
        exact ⟨rfl, _, by rw [hrun _ e]; rfl, r1⟩
      | cons r2 r3 =>
        simp only [hr, Option.some.injEq, Prod.mk.injEq] at h
        obtain ⟨rfl, rfl⟩ := h
        refine ⟨rfl, .tuple ⟨_⟩, ?_, .tuple (.cons r1 (.cons r2 r3))⟩
        rw [hrun _ e, dif_neg (by simp)]

variable {call : ACallee → List Value → AM Value} {ext : FuncId → List Value → AM Value}

/-- The way out: marks are taken, the results are read. -/
theorem leaves_sound {n : Nat} {fn : Func} {a : Act} {τ : Env} {v : Value} {H0 : AHeap} {ρ0 : Ren} {w0 : World} {H' : AHeap} : ∀ (ds : List Deferred) (w : World), MK w0.heap.size ρ H w ds → TR ρ τ a.tmps → Rel P ρ H w → Fr ρ0 H0 w0 ρ H w →
    aresults P fn τ H = some (v, H') → LeavesInM Fence.wide n P fn a.tmps (Post P ρ0 H0 w0 v H') ds .returning w
  | [], w, _, ht, R, F, h => by
    obtain ⟨rfl, v', e, r⟩ := results_sound ht R h
    exact ⟨v', e, v', ρ, rfl, r, R, F⟩
  | _ :: ds, w, .cons (D := D) hB h1 h2 h3 t, ht, R, F, h => by
    refine ⟨by simp, .inl ⟨D, _, rfl, run_takeDeferred h1, ?_⟩⟩
    have R' := R.aside h2 (.deferred none)
    have F' : Fr ρ0 H0 w0 ρ H (w.putObj D (.deferred none)) := by
      refine ⟨F.os, F.tape, F.output, by simpa [World.putObj] using F.size, F.next, F.ext, F.old, fun b hb hn => ?_, F.lies⟩
      rw [heap_putObj_ne (by omega)]
      exact F.keep b hb hn
    exact leaves_sound ds _ (t.putObj h3) ht R' F' h

theorem lookL_argsL : ∀ (l : List Value) (i t : Nat) (v : Value), lookL (argsL i l) t = some v → i ≤ t ∧ l[t - i]? = some v
  | [], _, _, _, h => by cases h
  | x :: l, i, t, v, h => by
    simp only [argsL, lookL_cons] at h
    split at h
    · rename_i e; cases h; subst e; exact ⟨Nat.le_refl _, by simp⟩
    · rename_i e
      obtain ⟨h1, h2⟩ := lookL_argsL l (i + 1) t v h
      refine ⟨by omega, ?_⟩
      rw [show t - i = (t - (i + 1)) + 1 by omega, List.getElem?_cons_succ]
      exact h2

theorem TR.start {args args' : List Value} (n : Nat) (h : VRs ρ args args') : TR ρ (env0 n args) ((⟨args'⟩ : Array Value) ++ Array.replicate (n - (⟨args'⟩ : Array Value).size) undef) := by
  have hl := h.length
  refine ⟨by simp [env0, hl], fun t v e => ?_⟩
  obtain ⟨_, e1⟩ := lookL_argsL args 0 t v e
  rw [Nat.sub_zero] at e1
  obtain ⟨v', e3, r⟩ := h.get e1
  refine ⟨v', ?_, r⟩
  have ht := (List.getElem?_eq_some_iff.1 e3).1
  rw [Array.getElem?_append_left (by simpa using ht)]
  simpa using e3

/-- **A function.** -/
theorem abody_sound (hcall : CallOk P call) (hext : ExtOk P ext) (hng : NoCount P) {okDraw : Array Oper → Bool} (hdraw : DrawOk P okDraw) {m : Nat} {f : FuncId} {args args' : List Value} {v : Value} {H' : AHeap}
    (h : abody P call ext (lpN m) okDraw f args H = some (v, H')) (R : Rel P ρ H w) (ha : VRs ρ args args') : CallsIn Fence.wide 0 P f ⟨args'⟩ w (Post P ρ H w v H') := by
  unfold abody at h
  cases hf : P.funcs[f]? with
  | none => simp [hf] at h
  | some fn =>
    simp only [hf] at h
    cases hb : fn.body with
    | none => simp [hb] at h
    | some c =>
      simp only [hb] at h
      refine callsIn_of_wp_marks hf hb trivial ?_
      refine acode_wp (B := w.heap.size) hcall hext hng hdraw (ro := none) (fun _ => rfl) c _ _ _ _ H ρ _ w _ h (TR.start fn.ntmps ha) R (.nil (Nat.le_refl _)) ?_
      intro e τ' H1 ρ' a' w' h1 h2 h3 h4 h5
      cases e with
      | normal => exact leaves_sound _ w' h5 h2 h3 h4 h1
      | ret => exact leaves_sound _ w' h5 h2 h3 h4 h1
      | exit id => simp [afin] at h1

theorem putArgs_sound : ∀ (ps : List Tmp) (args args' : List Value) (τ : Env) (tmps : Array Value), VRs ρ args args' → TR ρ τ tmps →
    TR ρ (putArgs ps args τ) ((ps.zip args').foldl (fun t (p, v) => t.setIfInBounds p v) tmps)
  | [], _, _, τ, tmps, _, ht => by simpa [putArgs] using ht
  | p :: ps, _, _, τ, tmps, .nil, ht => by simpa [putArgs] using ht
  | p :: ps, _, _, τ, tmps, .cons (v := v) (v' := v') h t, ht => by
    simp only [putArgs, List.zip_cons_cons, List.foldl_cons]
    exact putArgs_sound ps _ _ _ _ t (TR.put (a := { tmps := tmps, defers := [] }) ht (some p) h)

/-- An object is put where none is alive. -/
theorem Rel.revive (R : Rel P ρ H w) {i : Nat} {o : AObj} {l : Loc} {ob : Obj} (hi : i < H.next) (hl : ρ i = some l) (hn : ¬ Lies ρ H l.block) (hb : w.heap[l.block]? = some ob) (ho : ObjR P ρ l o ob) :
    Rel P ρ (H.put i o) w := by
  refine ⟨R.dom, fun j hj => ?_, fun j oj h => ?_, fun a b oa ob' la lb h1 h2 h3 h4 h5 h6 => ?_, R.glob⟩
  · simp only [AHeap.next_put] at hj
    rw [AHeap.get_put, if_neg (by omega)]; exact R.fresh j hj
  · rw [AHeap.get_put] at h
    split at h
    · rename_i e; cases h; subst e; exact ⟨l, ob, hl, hb, ho⟩
    · exact R.obj j oj h
  · rw [AHeap.get_put] at h1 h2
    split at h1 <;> split at h2
    · rename_i e1 e2; rw [e1, e2]
    · rename_i e1 e2; subst e1; rw [hl] at h3; cases h3; exact absurd ⟨b, ob', lb, h2, h4, h5.symm⟩ hn
    · rename_i e1 e2; subst e2; rw [hl] at h4; cases h4; exact absurd ⟨a, oa, la, h1, h3, h5⟩ hn
    · exact R.inj a b oa ob' la lb h1 h2 h3 h4 h5 h6

/-- **A round.** -/
theorem around_sound (hcall : CallOk P call) (hext : ExtOk P ext) (hng : NoCount P) {okDraw : Array Oper → Bool} (hdraw : DrawOk P okDraw) {m : Nat} {i : Nat} {args args' : List Value} {v : Value} {H' : AHeap}
    (h : around P call ext (lpN m) okDraw i args H = some (v, H')) (R : Rel P ρ H w) (ha : VRs ρ args args') (l : Loc) (hl : ρ i = some l) :
    ∃ fn tmps assign body, (Instr.yield l.block ⟨args'⟩).run P w = .ok (.round l.block fn tmps assign body) w ∧ RoundIn Fence.wide 0 P l.block fn tmps assign body w (Post P ρ H w v H') := by
  unfold around at h
  cases hg : H.get i with
  | none => simp [hg] at h
  | some o =>
    cases o <;> simp only [hg] at h <;> try (cases h; done)
    rename_i τ ps assign body
    split at h
    · rename_i hlen
      obtain ⟨l', ob, e1, e2, e3⟩ := R.obj i _ hg
      rw [hl] at e1
      cases e1
      cases e3 with
      | aloop ht =>
        rename_i fn tmps D
        have hsz : (⟨args'⟩ : Array Value).size = (⟨ps⟩ : Array Tmp).size := by simp [ha.length, hlen]
        refine ⟨_, _, _, _, run_yield e2 hsz, ?_⟩
        have hzip : ((⟨ps⟩ : Array Tmp).zip ⟨args'⟩).foldl (fun tmps (t, a) => tmps.setIfInBounds t a) tmps = (ps.zip args').foldl (fun t (p, v) => t.setIfInBounds p v) tmps := by
          simp
        rw [hzip]
        obtain ⟨R1, F1⟩ := R.del i
        have hnl := R.not_lies_del hg hl
        have hlt := (Array.getElem?_eq_some_iff.1 e2).1
        have hid : i < H.next := by
          rcases Nat.lt_or_ge i H.next with h | h
          · exact h
          · rw [R.fresh i h] at hg; cases hg
        refine roundIn_of_wpIn trivial ?_
        refine acode_wp (B := w.heap.size) hcall hext hng hdraw (ro := some l.block) (rd := true) (fun h => by cases h) assign _ _ _ _ (H.del i) ρ _ w _ h (putArgs_sound ps args args' τ tmps ha ht) R1 (.nil (Nat.le_refl _)) ?_
        intro e τ2 H2 ρ2 a2 w2 h1 h2 h3 h4 h5
        cases e with
        | exit id => simp at h1
        | ret => simp at h1
        | normal =>
          simp only at h1
          have hL2 := (h4.keep _ hlt hnl).trans e2
          have hnl2 : ¬ Lies ρ2 H2 l.block := fun hx => (h4.lies _ hx).elim (fun h' => by omega) hnl
          have hlt2 := (Array.getElem?_eq_some_iff.1 hL2).1
          refine ⟨_, run_beginRound hL2 rfl, ?_⟩
          have R2 := h3.aside hnl2 (.loop { state := .busy, pending := none, fn, tmps, params := ⟨ps⟩, assign, body, defers := D })
          have hM2 := h5.putObj (b := l.block) (o := .loop { state := .busy, pending := none, fn, tmps, params := ⟨ps⟩, assign, body, defers := D }) (fun D' hD' e => by
            have := h5.ge hD'
            omega)
          show Code.wpIn (Fence.wide.inRound l.block) 0 P body (roundPost P l.block (Post P ρ H w v H')) a2 (w2.putObj l.block (.loop { state := .busy, pending := none, fn, tmps, params := ⟨ps⟩, assign, body, defers := D }))
          generalize hw2 : w2.putObj l.block (.loop { state := .busy, pending := none, fn, tmps, params := ⟨ps⟩, assign, body, defers := D }) = w2b at R2 hM2 ⊢
          have hL2b : w2b.heap[l.block]? = some (.loop { state := .busy, pending := none, fn, tmps, params := ⟨ps⟩, assign, body, defers := D }) := by rw [← hw2]; exact heap_putObj hlt2
          have hsz2 : w2b.heap.size = w2.heap.size := by rw [← hw2]; simp [World.putObj]
          -- what a round's end is worth
          have fin : ∀ (τ3 : Env) (H3 : AHeap) (ρ3 : Ren) (a3 : Act) (w3 : World) (jump : Option Code) (o : AObj), Rel P ρ3 H3 w3 → Fr ρ2 H2 w2b ρ3 H3 w3 → v = .bool jump.isNone → H' = H3.put i o →
              (∀ ρ' : Ren, Ext ρ ρ' → ObjR P ρ' l o (.loop { state := if jump.isNone then .ready else .done, pending := jump, fn, tmps, params := ⟨ps⟩, assign, body, defers := D })) →
              ∃ v1 w4, (Instr.endRound l.block jump).run P w3 = .ok v1 w4 ∧ Post P ρ H w v H' (.returned v1) w4 := by
            intro τ3 H3 ρ3 a3 w3 jump o R3 F3 hv hH' hob
            have hL3 := (F3.keep l.block (by omega) hnl2).trans hL2b
            have hlt3 := (Array.getElem?_eq_some_iff.1 hL3).1
            have hnl3 : ¬ Lies ρ3 H3 l.block := fun hx => (F3.lies _ hx).elim (fun h' => by omega) hnl2
            have hext : Ext ρ ρ3 := h4.ext.trans F3.ext
            have hi3 : i < H3.next := by
              have h1 := h4.next
              have h2 := F3.next
              simp only [AHeap.next_del] at h1
              omega
            have R4 := (R3.aside hnl3 (.loop { state := if jump.isNone then .ready else .done, pending := jump, fn, tmps, params := ⟨ps⟩, assign, body, defers := D })).revive (o := o) hi3 (hext _ _ hl) hnl3 (heap_putObj hlt3) (hob ρ3 hext)
            subst hv; subst hH'
            refine ⟨_, _, run_endRound jump hL3, .bool jump.isNone, ρ3, rfl, .bool _, R4, ?_⟩
            refine ⟨?_, ?_, ?_, ?_, ?_, hext, fun j hj => ?_, fun b hb hn => ?_, ?_⟩
            · show w3.os = w.os; rw [F3.os, ← hw2]; exact h4.os
            · show w3.tape = w.tape; rw [F3.tape, ← hw2]; exact h4.tape
            · show w3.output = w.output; rw [F3.output, ← hw2]; exact h4.output
            · have h1 := h4.size; have h2 := F3.size; simp only [World.putObj, Array.size_setIfInBounds]; omega
            · have h1 := h4.next; have h2 := F3.next; simp only [AHeap.next_del] at h1; simp only [AHeap.next_put]; omega
            · have h1 := h4.next; simp only [AHeap.next_del] at h1; exact (F3.old j (by omega)).trans (h4.old j hj)
            · have hbl : b ≠ l.block := fun e => hn ⟨i, _, l, hg, hl, e.symm⟩
              have hn1 : ¬ Lies ρ (H.del i) b := fun hx => hn ((F1.lies b hx).elim (fun h' => by omega) id)
              have hn2 : ¬ Lies ρ2 H2 b := fun hx => (h4.lies _ hx).elim (fun h' => by omega) hn1
              rw [heap_putObj_ne hbl, F3.keep b (by have := h4.size; omega) hn2, ← hw2, heap_putObj_ne hbl]
              exact h4.keep b hb hn1
            · rintro b ⟨j, oj, lj, q1, q2, q3⟩
              rw [AHeap.get_put] at q1
              split at q1
              · rename_i e
                subst e
                rw [hext _ _ hl] at q2
                cases q2
                exact .inr ⟨_, _, l, hg, hl, q3⟩
              · rcases F3.lies b ⟨j, oj, lj, q1, q2, q3⟩ with h' | h'
                · left; have := h4.size; omega
                · rcases h4.lies b h' with h' | h'
                  · exact .inl h'
                  · exact .inr ((F1.lies b h').elim (fun h'' => absurd (R1.lies_lt h') (by omega)) id)
          refine acode_wp (B := w.heap.size) hcall hext hng hdraw (ro := some l.block) (rd := true) (fun h => by cases h) body _ _ _ _ H2 ρ2 _ w2b _ h1 h2 R2 hM2 ?_
          intro e τ3 H3 ρ3 a3 w3 q1 q2 q3 q4 q5
          cases e with
          | normal =>
            simp only [Option.some.injEq, Prod.mk.injEq] at q1
            exact fin τ3 H3 ρ3 a3 w3 none _ q3 q4 q1.1.symm q1.2.symm fun ρ' he => .aloop (ht.mono he)
          | exit id =>
            simp only [Option.some.injEq, Prod.mk.injEq] at q1
            exact fin τ3 H3 ρ3 a3 w3 (some (.exit id)) _ q3 q4 q1.1.symm q1.2.symm fun ρ' he => .adone rfl
          | ret =>
            simp only [Option.some.injEq, Prod.mk.injEq] at q1
            exact fin τ3 H3 ρ3 a3 w3 (some .ret) _ q3 q4 q1.1.symm q1.2.symm fun ρ' he => .adone rfl
    · cases h

/-- The words for single functions are right. -/
def SpOk (P : Program) (sp : FuncId → Option (List Value → AM Value)) : Prop :=
  ∀ (f : FuncId) (s : List Value → AM Value), sp f = some s → ∀ (args : List Value) (H : AHeap) (v : Value) (H' : AHeap) (ρ : Ren) (w : World) (args' : List Value),
    s args H = some (v, H') → Rel P ρ H w → VRs ρ args args' → CallsIn Fence.wide 0 P f ⟨args'⟩ w (Post P ρ H w v H')

/-- **Calls, to whatever depth.** -/
theorem acallN_ok {sp : FuncId → Option (List Value → AM Value)} {okDraw : Array Oper → Bool} (hsp : SpOk P sp) (hext : ExtOk P ext) (hng : NoCount P) (hdraw : DrawOk P okDraw) : ∀ n, CallOk P (acallN P ext sp okDraw n)
  | 0 => fun c args H v H' ρ w args' h _ _ => by simp [acallN] at h
  | n + 1 => by
    have ih := acallN_ok hsp hext hng hdraw n
    intro c args H v H' ρ w args' h R ha
    cases c with
    | fn f =>
      simp only [acallN] at h
      cases hs : sp f with
      | some s =>
        simp only [hs] at h
        cases hr : s args H with
        | some r => simp only [hr, Option.some.injEq] at h; subst h; exact hsp f s hs args H v H' ρ w args' hr R ha
        | none => simp only [hr] at h; exact abody_sound ih hext hng hdraw h R ha
      | none => simp only [hs] at h; exact abody_sound ih hext hng hdraw h R ha
    | yield i => exact fun l hl => around_sound ih hext hng hdraw h R ha l hl

end
end Go.Bk
