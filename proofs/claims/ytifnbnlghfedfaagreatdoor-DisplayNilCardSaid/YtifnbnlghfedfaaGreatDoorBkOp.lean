/- ONE OPERATION: what the abstract machine gives, the model does. No condition but that the calls are right. -/
import Derived.Test.YtifnbnlghfedfaaGreatDoorBkMem
import Derived.CallsIn
import Derived.OrdersIn
import Derived.LoopNIn
import Derived.RangeFuncIn
import Derived.RangeFuncLeaves
namespace Go.Bk
open Go

/-- What a call is worth: the model's comes to an end that stands for it. -/
def Post (P : Program) (ρ : Ren) (H : AHeap) (w : World) (v : Value) (H' : AHeap) : Ending → World → Prop := fun e w' =>
  ∃ v' ρ', e = .returned v' ∧ VR ρ' v v' ∧ Rel P ρ' H' w' ∧ Fr ρ H w ρ' H' w'

/-- The calls are right. -/
def CallOk (P : Program) (call : ACallee → List Value → AM Value) : Prop :=
  ∀ (c : ACallee) (args : List Value) (H : AHeap) (v : Value) (H' : AHeap) (ρ : Ren) (w : World) (args' : List Value),
    call c args H = some (v, H') → Rel P ρ H w → VRs ρ args args' →
    match c with
    | .fn f => CallsIn Fence.wide 0 P f ⟨args'⟩ w (Post P ρ H w v H')
    | .yield i => ∀ l, ρ i = some l → ∃ fn tmps assign body, (Instr.yield l.block ⟨args'⟩).run P w = .ok (.round l.block fn tmps assign body) w ∧
        RoundIn Fence.wide 0 P l.block fn tmps assign body w (Post P ρ H w v H')

/-- The functions without a body are right. -/
def ExtOk (P : Program) (ext : FuncId → List Value → AM Value) : Prop :=
  ∀ (f : FuncId) (args : List Value) (H : AHeap) (v : Value) (H' : AHeap) (ρ : Ren) (w : World) (args' : List Value) (fn : Func),
    P.funcs[f]? = some fn → fn.body = none → ext f args H = some (v, H') → Rel P ρ H w → VRs ρ args args' →
    ∃ v' w' ρ', (callFunc f ⟨args'⟩).run P w = .ok (.value v') w' ∧ VR ρ' v v' ∧ Rel P ρ' H' w' ∧ Fr ρ H w ρ' H' w'

def NoCount (P : Program) : Prop := ∀ (f : FuncId) (fn : Func), P.funcs[f]? = some fn → fn.name ≠ "runtime.NumGoroutine"

section
variable {P : Program} {ρ : Ren} {H : AHeap} {w : World}

/-- A step that gives a value, or nothing. -/
def Gives (P : Program) (ρ : Ren) (H : AHeap) (w : World) (v : Value) (H' : AHeap) (r : Result Next) : Prop :=
  ∃ v' w' ρ', (r = .ok (.value v') w' ∨ (r = .ok .skip w' ∧ v' = undef)) ∧ VR ρ' v v' ∧ Rel P ρ' H' w' ∧ Fr ρ H w ρ' H' w'

theorem Does.gives {v : Value} {H' : AHeap} {s : Sem Value} (h : Does P ρ H w v H' (s.run P w)) : Gives P ρ H w v H' ((do pure (Next.value (← s)) : Sem Next).run P w) := by
  obtain ⟨v', w', ρ', e, r⟩ := h
  exact ⟨v', w', ρ', .inl (by simp [e]), r⟩

theorem store_gives {H' : AHeap} {v : Value} {m : AM Unit} {s : Sem Unit} (hm : ounit m H = some (v, H')) (h : ∀ H', m H = some ((), H') → ∃ w', s.run P w = .ok () w' ∧ Rel P ρ H' w' ∧ Fr ρ H w ρ H' w') :
    Gives P ρ H w v H' ((do s; pure Next.skip : Sem Next).run P w) := by
  unfold ounit at hm
  cases hh : m H with
  | none => simp [hh] at hm
  | some q =>
    obtain ⟨u, H1⟩ := q
    simp only [hh, Option.some.injEq, Prod.mk.injEq] at hm
    obtain ⟨rfl, rfl⟩ := hm
    obtain ⟨w', e, R, F⟩ := h _ hh
    exact ⟨undef, w', ρ, .inr ⟨by simp [e], rfl⟩, .tuple .nil, R, F⟩

/-- What an operation comes to. -/
inductive Comes (P : Program) (ρ : Ren) (H : AHeap) (w : World) (v : Value) (H' : AHeap) (r : Result Next) : Prop
  | gives (h : Gives P ρ H w v H' r)
  | enter {f : FuncId} {args : Array Value} (e : r = .ok (.enter f args) w) (h : CallsIn Fence.wide 0 P f args w (Post P ρ H w v H'))
  | round {l : Nat} {fn : FuncId} {tmps : Array Value} {assign body : Code} (e : r = .ok (.round l fn tmps assign body) w) (h : RoundIn Fence.wide 0 P l fn tmps assign body w (Post P ρ H w v H'))

theorem aeff_sound {call : ACallee → List Value → AM Value} {ext : FuncId → List Value → AM Value} (hcall : CallOk P call) (hext : ExtOk P ext) (hng : NoCount P) {τ : Env} {a : Act} {o : Oper} {v : Value} {H' : AHeap}
    (ht : TR ρ τ a.tmps) (R : Rel P ρ H w) (h : aeff P call ext τ o H = some (v, H')) : Bk.Comes P ρ H w v H' ((execOp a.eval o).run P w) := by
  obtain ⟨dst, op, type, pos, after, guard⟩ := o
  have hg := R.glob
  unfold aeff at h
  cases op <;> simp only at h <;> try (cases h; done)
  case convert s d x =>
    cases hx : ask P τ x with
    | none => simp [hx] at h
    | some u =>
      simp only [hx] at h
      cases hs : P.underlying s with
      | none => simp [oconvE, hs] at h
      | some ds =>
        cases ds <;> simp only [oconvE, hs] at h <;> try (cases h; done)
        case slice => exact .gives (bytes_sound R (ask_sound ht hg hx) h).gives
        case pointer t => exact .gives (unsafeTo_sound R hs (ask_sound ht hg hx) h).gives
        case unsafePointer => exact .gives (unsafeFrom_sound R hs (ask_sound ht hg hx) h).gives
  case store t ad x =>
    cases hx : ask P τ ad with
    | none => simp [hx] at h
    | some u =>
      cases hy : ask P τ x with
      | none => simp [hx, hy] at h
      | some u' =>
        simp only [hx, hy] at h
        exact .gives (store_gives (s := Instr.storeAt t (a.eval ad) (a.eval x)) h fun H1 e => store_sound R (ask_sound ht hg hx) (ask_sound ht hg hy) e)
  case makeSlice t l c =>
    cases hx : ask P τ l with
    | none => simp [hx] at h
    | some u =>
      cases hy : ask P τ c with
      | none => simp [hx, hy] at h
      | some u' => simp only [hx, hy] at h; exact .gives (makeSlice_sound R (ask_sound ht hg hx) (ask_sound ht hg hy) h).gives
  case makeMap t r =>
    cases r with
    | none => simp only at h; exact .gives (makeMap_sound R (r := none) (by simp) h).gives
    | some x =>
      cases hx : ask P τ x with
      | none => simp [hx] at h
      | some u =>
        simp only [hx] at h
        cases u <;> simp only at h <;> try (cases h; done)
        have hv := (ask_sound ht hg hx).eq_of_flat rfl
        exact .gives (makeMap_sound R (r := some (a.eval x)) (by intro y hy; cases hy; exact ⟨_, _, hv⟩) h).gives
  case range t x =>
    cases hx : ask P τ x with
    | none => simp [hx] at h
    | some u => simp only [hx] at h; exact .gives (range_sound R (ask_sound ht hg hx) h).gives
  case next x s =>
    cases hx : ask P τ x with
    | none => simp [hx] at h
    | some u => simp only [hx] at h; exact .gives (next_sound R (ask_sound ht hg hx) h).gives
  case call c =>
    obtain ⟨callee, args, argTypes⟩ := c
    cases callee <;> (try simp only at h) <;> (try (cases h; done))
    case value f =>
      have ha : args.map a.eval = ⟨args.toList.map a.eval⟩ := by apply Array.toList_inj.1; simp
      cases hf : ask P τ f with
      | none => simp [hf] at h
      | some fv =>
        have hfr := ask_sound ht hg hf
        cases hvs : asks P τ args.toList with
        | none => simp [hf, hvs] at h
        | some vs =>
          have hvr := asks_sound ht hg hvs
          simp only [hf, hvs] at h
          cases hfe : a.eval f <;> rw [hfe] at hfr <;> cases hfr <;> (try simp only at h) <;> (try (cases h; done))
          case func g fa fa' fb fb' r1 r2 =>
            have hrun : (execOp a.eval ⟨dst, .call ⟨.value f, args, argTypes⟩, type, pos, after, guard⟩).run P w = (callFunc g ⟨fa' ++ args.toList.map a.eval ++ fb'⟩).run P w := by
              simp [execOp, resolve, hfe, Deferred.ofValue, invoke, ha]
            have hargs : VRs ρ (fa ++ vs ++ fb) (fa' ++ args.toList.map a.eval ++ fb') := (r1.append hvr).append r2
            cases hfn : P.funcs[g]? with
            | none => simp [hfn] at h
            | some fn =>
              simp only [hfn] at h
              cases hb : fn.body with
              | none =>
                simp only [hb] at h
                obtain ⟨v', w', ρ', e, r⟩ := hext g _ H v H' ρ w _ fn hfn hb h R hargs
                exact .gives ⟨v', w', ρ', .inl (by rw [hrun, e]), r⟩
              | some body =>
                simp only [hb] at h
                refine .enter (f := g) (args := ⟨fa' ++ args.toList.map a.eval ++ fb'⟩) ?_ (hcall (.fn g) _ H v H' ρ w _ h R hargs)
                rw [hrun]
                simp [callFunc, hfn, hng g fn hfn, hb]
          case yield i l hl =>
            have hrun : (execOp a.eval ⟨dst, .call ⟨.value f, args, argTypes⟩, type, pos, after, guard⟩).run P w = (Instr.yield l.block ⟨args.toList.map a.eval⟩).run P w := by
              simp [execOp, resolve, hfe, Deferred.ofValue, invoke, ha]
            obtain ⟨fn, tmps, assign, body, e, hr⟩ := hcall (.yield i) vs H v H' ρ w _ h R hvr l hl
            exact .round (by rw [hrun, e]) hr
    case builtin b =>
      have run1 : ∀ (s : Sem Value), (builtin b argTypes type (args.map fun | .const _ => true | _ => false) (args.map a.eval) : Sem Next) = (do pure (Next.value (← s)) : Sem Next) →
          Does P ρ H w v H' (s.run P w) → Bk.Comes P ρ H w v H' ((execOp a.eval ⟨dst, .call ⟨.builtin b, args, argTypes⟩, type, pos, after, guard⟩).run P w) := by
        intro s e hs
        have : execOp a.eval ⟨dst, .call ⟨.builtin b, args, argTypes⟩, type, pos, after, guard⟩ = (do pure (Next.value (← s)) : Sem Next) := by
          rw [← e]; rfl
        rw [this]; exact .gives hs.gives
      cases b <;> (try (cases h; done)) <;> (try simp only at h)
      case cap =>
        split at h
        · rename_i x t hargs htys
          cases hx : ask P τ x with
          | none => simp [hx] at h
          | some u =>
            simp only [hx] at h
            have ha : args.map a.eval = #[a.eval x] := by apply Array.toList_inj.1; simp [hargs]
            have ht' : argTypes = #[t] := by apply Array.toList_inj.1; simp [htys]
            refine run1 (Builtin.cap_ argTypes type (args.map a.eval)) rfl ?_
            rw [ha, ht']
            exact cap_sound R (ask_sound ht hg hx) h
        · cases h
      case append =>
        split at h
        · rename_i x y t t' hargs htys
          cases hx : ask P τ x with
          | none => simp [hx] at h
          | some u =>
            cases hy : ask P τ y with
            | none => simp [hx, hy] at h
            | some u' =>
              simp only [hx, hy] at h
              have ha : args.map a.eval = #[a.eval x, a.eval y] := by apply Array.toList_inj.1; simp [hargs]
              have ht' : argTypes = #[t, t'] := by apply Array.toList_inj.1; simp [htys]
              refine run1 (Builtin.append_ argTypes type (args.map a.eval)) rfl ?_
              rw [ha, ht']
              exact appendT_sound R (ask_sound ht hg hx) (ask_sound ht hg hy) h
        · cases h
      case copy =>
        split at h
        · rename_i x y t t' hargs htys
          cases hx : ask P τ x with
          | none => simp [hx] at h
          | some u =>
            cases hy : ask P τ y with
            | none => simp [hx, hy] at h
            | some u' =>
              simp only [hx, hy] at h
              have ha : args.map a.eval = #[a.eval x, a.eval y] := by apply Array.toList_inj.1; simp [hargs]
              have ht' : argTypes = #[t, t'] := by apply Array.toList_inj.1; simp [htys]
              refine run1 (Builtin.copy_ argTypes type (args.map a.eval)) rfl ?_
              rw [ha, ht']
              exact copy_sound R (ask_sound ht hg hx) (ask_sound ht hg hy) h
        · cases h
      case unsafeString =>
        split at h
        · rename_i x y t t' hargs htys
          cases hx : ask P τ x with
          | none => simp [hx] at h
          | some u =>
            cases hy : ask P τ y with
            | none => simp [hx, hy] at h
            | some u' =>
              simp only [hx, hy] at h
              have ha : args.map a.eval = #[a.eval x, a.eval y] := by apply Array.toList_inj.1; simp [hargs]
              have ht' : argTypes = #[t, t'] := by apply Array.toList_inj.1; simp [htys]
              refine run1 (Builtin.unsafeString_ argTypes type (args.map a.eval)) rfl ?_
              rw [ha, ht']
              exact unsafeString_sound R (ask_sound ht hg hx) (ask_sound ht hg hy) h
        · cases h
      case clear =>
        split at h
        · rename_i x t hargs htys
          cases hx : ask P τ x with
          | none => simp [hx] at h
          | some u =>
            simp only [hx] at h
            have ha : args.map a.eval = #[a.eval x] := by apply Array.toList_inj.1; simp [hargs]
            have ht' : argTypes = #[t] := by apply Array.toList_inj.1; simp [htys]
            refine run1 (Builtin.clear_ argTypes type (args.map a.eval)) rfl ?_
            rw [ha, ht']
            exact clear_sound R (ask_sound ht hg hx) h
        · cases h

theorem Gives.of_value {v v' : Value} {r : Result Next} (e : r = .ok (.value v') w) (hv : VR ρ v v') (R : Rel P ρ H w) : Gives P ρ H w v H r :=
  ⟨v', w, ρ, .inl e, hv, R, .refl _ _ _⟩

/-- **One operation.** -/
theorem aop_sound {call : ACallee → List Value → AM Value} {ext : FuncId → List Value → AM Value} (hcall : CallOk P call) (hext : ExtOk P ext) (hng : NoCount P) {τ : Env} {a : Act} {o : Oper} {v : Value} {H' : AHeap}
    (ht : TR ρ τ a.tmps) (R : Rel P ρ H w) (h : aop P call ext τ o H = some (v, H')) : Bk.Comes P ρ H w v H' ((execOp a.eval o).run P w) := by
  unfold aop at h
  split at h
  · cases hp : apure P τ o.op with
    | none => simp [hp] at h
    | some u =>
      simp only [hp, Option.some.injEq, Prod.mk.injEq] at h
      obtain ⟨rfl, rfl⟩ := h
      obtain ⟨v', e, r⟩ := apure_sound (w := w) ht R.glob hp
      exact .gives (.of_value e r R)
  · split at h
    · rename_i t x e0
      cases hx : ask P τ x with
      | none => simp [hx] at h
      | some p =>
        simp only [hx] at h
        cases hl : oload P t p H with
        | none => simp [hl] at h
        | some u =>
          simp only [hl, Option.some.injEq, Prod.mk.injEq] at h
          obtain ⟨rfl, rfl⟩ := h
          obtain ⟨v', e, r⟩ := load_sound R (ask_sound ht R.glob hx) hl
          refine .gives (.of_value ?_ r R)
          simp [execOp, e0, e]
    · cases h
  · cases hm : mk P τ o.op with
    | none => simp [hm] at h
    | some q =>
      obtain ⟨f, cs, e⟩ := q
      simp only [hm, Option.some.injEq, Prod.mk.injEq] at h
      obtain ⟨rfl, rfl⟩ := h
      obtain ⟨C, fc, hv, hrun, hval⟩ := mk_sound ht R.glob hm
      obtain ⟨ρ', h1, R', F⟩ := Does.new R (e := e) hv
      exact .gives ⟨_, _, ρ', .inl (hrun w), hval ρ' _ _ h1 rfl, R', F⟩
  · exact aeff_sound hcall hext hng ht R h

/-- **One operation, as the walk meets it.** -/
theorem aop_wp {call : ACallee → List Value → AM Value} {ext : FuncId → List Value → AM Value} (hcall : CallOk P call) (hext : ExtOk P ext) (hng : NoCount P) {ro : Option Nat} {n : Nat} {τ : Env} {a : Act} {o : Oper} {v : Value} {H' : AHeap}
    {K : Act → World → Prop} {Q : Exit → Act → World → Prop}
    (ht : TR ρ τ a.tmps) (R : Rel P ρ H w) (h : aop P call ext τ o H = some (v, H'))
    (hK : ∀ (v' : Value) (w' : World) (ρ' : Ren), VR ρ' v v' → Rel P ρ' H' w' → Fr ρ H w ρ' H' w' → K (a.put o.dst v') w') :
    o.wpIn { Fence.wide with round := ro } n P a w K Q := by
  refine ⟨fun _ _ => trivial, ?_⟩
  have hnd : ∀ c, o.op ≠ .defer c := by
    intro c e
    unfold aop at h
    rw [e] at h
    simp only [cls] at h
    unfold aeff at h
    rw [e] at h
    cases h
  rw [Oper.semAt_eq _ _ _ hnd]
  rcases aop_sound hcall hext hng ht R h with ⟨v', w', ρ', e, hv, R', F⟩ | ⟨e, hc⟩ | ⟨e, hr⟩
  · rcases e with e | ⟨e, rfl⟩
    · rw [e]; exact hK v' w' ρ' hv R' F
    · rw [e]; exact hK undef w' ρ' hv R' F
  · rw [e]
    refine ⟨(fun h => by cases h), ?_⟩
    have hc' : CallsIn { Fence.wide with round := ro } 0 P _ _ w (Post P ρ H w v H') := hc
    refine (hc'.more (Nat.zero_le _)).mono ?_
    rintro e w' ⟨v', ρ', rfl, hv, R', F⟩
    exact hK v' w' ρ' hv R' F
  · rw [e]
    refine ⟨(fun h => by cases h), ?_⟩
    have hr' : RoundIn { Fence.wide with round := ro } 0 P _ _ _ _ _ w (Post P ρ H w v H') := hr
    have hm : RoundIn { Fence.wide with round := ro } (n - 1) P _ _ _ _ _ w (Post P ρ H w v H') := ⟨hr'.1, fun c cs _ => hr'.2 c cs (fun d hd => by cases hd)⟩
    refine hm.mono ?_
    rintro e w' ⟨v', ρ', rfl, hv, R', F⟩
    exact hK v' w' ρ' hv R' F

end
end Go.Bk
