/- CODE: what the abstract machine gives of a piece of code, a round, a function, the model does. Conditions: the calls that are handed in are right; a drawn region's plan is right. -/
import Derived.Test.YtifnbnlghfedfaaGreatDoorBkOp
import Derived.RangeFuncRecord
namespace Go.Bk
open Go

section
variable {P : Program} {ρ : Ren} {H : AHeap} {w : World}

/-! ### Marks: the blocks for rounds' deferred calls -/
inductive MK (B : Nat) (ρ : Ren) (H : AHeap) (w : World) : List Deferred → Prop
  | nil (hB : B ≤ w.heap.size) : MK B ρ H w []
  | cons {D : Nat} {ds : List Deferred} (hB : B ≤ D) (h : w.heap[D]? = some (.deferred (some []))) (hn : ¬ Lies ρ H D) (hdis : ∀ D', (⟨.collected D', #[]⟩ : Deferred) ∈ ds → D' ≠ D) (t : MK B ρ H w ds) :
      MK B ρ H w (⟨.collected D, #[]⟩ :: ds)

theorem MK.step {B : Nat} {ρ' : Ren} {H' : AHeap} {w' : World} (F : Fr ρ H w ρ' H' w') : ∀ {ds : List Deferred}, MK B ρ H w ds → MK B ρ' H' w' ds
  | _, .nil hB => .nil (Nat.le_trans hB F.size)
  | _, .cons (D := D) hB h hn hdis t => by
    have hlt := (Array.getElem?_eq_some_iff.1 h).1
    exact .cons hB (by rw [F.keep D hlt hn]; exact h) (fun hl => (F.lies D hl).elim (fun h' => by omega) hn) hdis (t.step F)

theorem MK.bound {B : Nat} : ∀ {ds : List Deferred}, MK B ρ H w ds → B ≤ w.heap.size
  | _, .nil hB => hB
  | _, .cons _ _ _ _ t => t.bound

theorem MK.lt {B D : Nat} : ∀ {ds : List Deferred}, MK B ρ H w ds → (⟨.collected D, #[]⟩ : Deferred) ∈ ds → D < w.heap.size
  | _, .nil _, h => by cases h
  | _, .cons _ h _ _ t, hm => by
    rcases List.mem_cons.1 hm with e | e
    · cases e; exact (Array.getElem?_eq_some_iff.1 h).1
    · exact t.lt e

theorem MK.ge {B D : Nat} : ∀ {ds : List Deferred}, MK B ρ H w ds → (⟨.collected D, #[]⟩ : Deferred) ∈ ds → B ≤ D
  | _, .nil _, h => by cases h
  | _, .cons hB _ _ _ t, hm => by
    rcases List.mem_cons.1 hm with e | e
    · cases e; exact hB
    · exact t.ge e

/-- Another block is turned. -/
theorem MK.putObj {B b : Nat} {o : Obj} : ∀ {ds : List Deferred}, MK B ρ H w ds → (∀ D, (⟨.collected D, #[]⟩ : Deferred) ∈ ds → D ≠ b) → MK B ρ H (w.putObj b o) ds
  | _, .nil hB, _ => .nil (by simpa [World.putObj] using hB)
  | _, .cons (D := D) hB h hn hdis t, hd => by
    refine .cons hB ?_ hn hdis (t.putObj fun D' h' => hd D' (List.mem_cons_of_mem _ h'))
    have : D ≠ b := hd D (List.mem_cons_self ..)
    simpa [World.putObj, Array.getElem?_setIfInBounds, Ne.symm this] using h

/-! ### Operations in a row -/
theorem wanted_sound {ops : Array Oper} {τ : Env} {a : Act} {o : Oper} {b : Bool} (ht : TR ρ τ a.tmps) (h : awanted ops τ o = some b) : Region.wanted o (yielded ops a.tmps) = b := by
  unfold awanted at h
  unfold Region.wanted
  cases hg : o.guard with
  | none => simp only [hg, Option.some.injEq] at h ⊢; exact h
  | some g =>
    obtain ⟨j, want⟩ := g
    simp only [hg] at h ⊢
    unfold yielded
    cases hd : (ops[j]?).bind (·.dst) with
    | none => simp [hd] at h
    | some t =>
      simp only [hd, Option.bind_some] at h ⊢
      cases hτ : τ.get t with
      | none => simp [hτ] at h
      | some v =>
          obtain ⟨v', e, r⟩ := ht.get t v hτ
          rw [e]
          cases r <;> simp only [hτ, Option.some.injEq] at h <;> subst h <;> first | rfl | (cases want <;> rfl) | (rename_i b; cases b <;> cases want <;> rfl)

theorem put_defers (a : Act) (d : Option Tmp) (v : Value) : (a.put d v).defers = a.defers := by cases d <;> rfl

variable {call : ACallee → List Value → AM Value} {ext : FuncId → List Value → AM Value}

theorem aops_wp (hcall : CallOk P call) (hext : ExtOk P ext) (hng : NoCount P) {ro : Option Nat} {n : Nat} {ops : Array Oper} {k : Env → AM Value} {res : Value × AHeap} {Q : Exit → Act → World → Prop} :
    ∀ (l : List Nat) (os : List Oper) (τ : Env) (H : AHeap) (ρ : Ren) (a : Act) (w : World), os.map some = l.map (ops[·]?) → aops P call ext ops os k τ H = some res → TR ρ τ a.tmps → Rel P ρ H w →
    (∀ τ' H' ρ' a' w', k τ' H' = some res → TR ρ' τ' a'.tmps → Rel P ρ' H' w' → Fr ρ H w ρ' H' w' → a'.defers = a.defers → Q .normal a' w') →
    wpOpsIn { Fence.wide with round := ro } n P ops Q l a w
  | [], [], τ, H, ρ, a, w, _, h, ht, R, hk => hk τ H ρ a w h ht R (.refl _ _ _) rfl
  | [], o :: os, τ, H, ρ, a, w, hl, h, ht, R, hk => by simp at hl
  | i :: rest, [], τ, H, ρ, a, w, hl, h, ht, R, hk => by simp at hl
  | i :: rest, o :: os, τ, H, ρ, a, w, hl, h, ht, R, hk => by
    simp only [List.map_cons, List.cons.injEq] at hl
    obtain ⟨ho, hl⟩ := hl
    simp only [aops] at h
    cases hw : awanted ops τ o with
    | none => simp [hw] at h
    | some b =>
      have hwant := wanted_sound ht hw
      simp only [wpOpsIn, ← ho, hwant]
      cases b with
      | false =>
        simp only [hw] at h
        simp only [Bool.false_eq_true, if_false]
        refine ⟨fun _ _ => trivial, aops_wp hcall hext hng rest os _ H ρ _ w hl h (ht.put o.dst (v := .tuple #[]) (v' := undef) (.tuple .nil)) R ?_⟩
        intro τ' H' ρ' a' w' h1 h2 h3 h4 h5
        exact hk τ' H' ρ' a' w' h1 h2 h3 h4 (by rw [h5, put_defers])
      | true =>
        simp only [hw] at h
        simp only [if_true]
        cases hop : aop P call ext τ o H with
        | none => simp [hop] at h
        | some q =>
          obtain ⟨v, H1⟩ := q
          simp only [hop] at h
          refine aop_wp hcall hext hng ht R hop fun v' w1 ρ1 hv R1 F1 => ?_
          refine aops_wp hcall hext hng rest os _ H1 ρ1 _ w1 hl h ((ht.mono F1.ext).put o.dst hv) R1 ?_
          intro τ' H' ρ' a' w' h1 h2 h3 h4 h5
          exact hk τ' H' ρ' a' w' h1 h2 h3 (F1.trans h4) (by rw [h5, put_defers])

theorem toList_range (ops : Array Oper) : ops.toList.map some = (List.range ops.size).map (ops[·]?) := by
  apply List.ext_getElem?
  intro k
  simp only [List.getElem?_map]
  by_cases h : k < ops.size
  · rw [List.getElem?_range h]; simp [h]
  · rw [List.getElem?_eq_none (by simpa using h), List.getElem?_eq_none (by simpa using h)]; rfl

/-! ### Code -/
def AExit.conv : AExit → Exit
  | .normal => .normal
  | .exit id => .exit id
  | .ret => .ret

/-- A drawn region's plan is right. -/
def DrawOk (P : Program) (okDraw : Array Oper → Bool) : Prop :=
  ∀ (call : ACallee → List Value → AM Value) (ext : FuncId → List Value → AM Value), CallOk P call → ExtOk P ext → NoCount P →
  ∀ (ro : Option Nat) (n : Nat) (id : Nat) (ops : Array Oper) (k : Env → AM Value) (res : Value × AHeap) (Q : Exit → Act → World → Prop) (τ : Env) (H : AHeap) (ρ : Ren) (a : Act) (w : World),
    okDraw ops = true → adraw P call ext H.next ops (plan P ops) k τ { H with next := H.next + ops.size } = some res → TR ρ τ a.tmps → Rel P ρ H w →
    (∀ τ' H' ρ' a' w', k τ' H' = some res → TR ρ' τ' a'.tmps → Rel P ρ' H' w' → Fr ρ H w ρ' H' w' → a'.defers = a.defers → Q .normal a' w') →
    (Code.region id ops true).wpIn { Fence.wide with round := ro } n P Q a w

/-- What stands for 'the continuation gives the result'. -/
def KOk (P : Program) (B : Nat) (k : AK) (res : Value × AHeap) (Q : Exit → Act → World → Prop) (ρ : Ren) (H : AHeap) (w : World) : Prop :=
  ∀ (e : AExit) (τ' : Env) (H' : AHeap) (ρ' : Ren) (a' : Act) (w' : World), k e τ' H' = some res → TR ρ' τ' a'.tmps → Rel P ρ' H' w' → Fr ρ H w ρ' H' w' → MK B ρ' H' w' a'.defers → Q e.conv a' w'

theorem KOk.step {B : Nat} {k : AK} {res : Value × AHeap} {Q : Exit → Act → World → Prop} {ρ' : Ren} {H' : AHeap} {w' : World} (h : KOk P B k res Q ρ H w) (F : Fr ρ H w ρ' H' w') : KOk P B k res Q ρ' H' w' :=
  fun e τ2 H2 ρ2 a2 w2 h1 h2 h3 h4 h5 => h e τ2 H2 ρ2 a2 w2 h1 h2 h3 (F.trans h4) h5

theorem Rel.skip (R : Rel P ρ H w) (o : Obj) : Rel P ρ H (w.alloc o) ∧ Fr ρ H w ρ H (w.alloc o) := by
  have hold : ∀ b, b < w.heap.size → (w.alloc o).heap[b]? = w.heap[b]? := fun b hb => Go.RowKit.Below.heap_alloc w o b hb
  refine ⟨R.mono_world fun i oi l h1 h2 => hold _ (R.lies_lt ⟨i, oi, l, h1, h2, rfl⟩), rfl, rfl, rfl, by simp, Nat.le_refl _, Ext.refl _, fun _ _ => rfl, fun b hb _ => hold b hb, fun b hb => .inr hb⟩

theorem heap_putObj {w : World} {b : Nat} {o : Obj} (h : b < w.heap.size) : (w.putObj b o).heap[b]? = some o := by simp [World.putObj, h]
theorem heap_putObj_ne {w : World} {b k : Nat} {o : Obj} (h : k ≠ b) : (w.putObj b o).heap[k]? = w.heap[k]? := by simp [World.putObj, Ne.symm h]

/-- A block in which no object lies is turned. -/
theorem Rel.aside (R : Rel P ρ H w) {b : Nat} (hb : ¬ Lies ρ H b) (o : Obj) : Rel P ρ H (w.putObj b o) :=
  R.mono_world fun i oi l h1 h2 => heap_putObj_ne fun e => hb ⟨i, oi, l, h1, h2, e⟩

theorem stepR_scope {b : Frame} {a : Act} {k : List Item} {cs : List Frame} {c : Code} : step P (lone (b.atR a (.code (.scope c) :: k)) cs w) = .next (lone (b.atR a (.code c :: .inScope c :: k)) cs w) :=
  step_lone_go (by simp [stepG, stepG.exec, Frame.atR])
theorem stepR_inScope {b : Frame} {a : Act} {k : List Item} {cs : List Frame} {c : Code} : step P (lone (b.atR a (.inScope c :: k)) cs w) = .next (lone (b.atR a k) cs w) :=
  step_lone_go (by simp [stepG, stepG.exec, Frame.atR])

theorem wpIn_scope {F : Fence} {n : Nat} {Q : Exit → Act → World → Prop} {a : Act} {c : Code} (hng : ∀ l a w, ¬ Q (.goto l) a w) (h : c.wpIn F n P Q a w) : (Code.scope c).wpIn F n P Q a w := by
  intro b k cs hro hb hr
  have h0 : (lone (b.atR a (.code (.scope c) :: k)) cs w).fenced P F := fenced_calm hb hr rfl
  obtain ⟨e, a₁, w₁, hq, harr⟩ := h b (.inScope c :: k) cs hro hb hr
  cases e with
  | normal => exact ⟨.normal, a₁, w₁, hq, .head h0 stepR_scope (StepsIn.trans harr (.one (fenced_calm hb hr rfl) stepR_inScope))⟩
  | exit id' =>
    have hx : exitTo id' (.inScope c :: k) = exitTo id' k := by simp [exitTo]
    exact ⟨.exit id', a₁, w₁, hq, fun k' hk => .head h0 stepR_scope (harr.1 k' (by rw [hx]; exact hk)),
      fun hr' hk => let ⟨k₁, h1, h2⟩ := harr.2 hr' (by rw [hx]; exact hk); ⟨k₁, h1, .head h0 stepR_scope h2⟩⟩
  | goto l => exact absurd hq (hng _ _ _)
  | ret => exact ⟨_, a₁, w₁, hq, .of_steps (.one h0 stepR_scope) harr⟩
  | panic ch => exact ⟨_, a₁, w₁, hq, .of_steps (.one h0 stepR_scope) harr⟩
  | outgrown => exact ⟨_, a₁, w₁, hq, .of_steps (.one h0 stepR_scope) harr⟩

/-- A post without its jumps. -/
def Exit.straight (Q : Exit → Act → World → Prop) : Exit → Act → World → Prop
  | .goto _, _, _ => False
  | e, a, w => Q e a w

theorem acode_wp (hcall : CallOk P call) (hext : ExtOk P ext) (hng : NoCount P) {okDraw : Array Oper → Bool} (hdraw : DrawOk P okDraw) {ro : Option Nat} {n m B : Nat} {rd : Bool} (hrd : rd = false → ro = none) {r : Nat} {res : Value × AHeap} :
    ∀ (c : Code) (out : Nat) (ex : Nat → Nat) (k : AK) (τ : Env) (H : AHeap) (ρ : Ren) (a : Act) (w : World) (Q : Exit → Act → World → Prop),
    acode P call ext (lpN m) okDraw rd r c out ex k τ H = some res → TR ρ τ a.tmps → Rel P ρ H w → MK B ρ H w a.defers → KOk P B k res Q ρ H w →
    c.wpIn { Fence.wide with round := ro } n P Q a w := by
  intro c
  induction c with
  | skip => intro out ex k τ H ρ a w Q h ht R hm hk; exact wpIn_skip (hk .normal τ H ρ a w h ht R (.refl _ _ _) hm)
  | label l => intro out ex k τ H ρ a w Q h ht R hm hk; exact wpIn_label (hk .normal τ H ρ a w h ht R (.refl _ _ _) hm)
  | region id ops d =>
    intro out ex k τ H ρ a w Q h ht R hm hk
    have fin : ∀ τ' H' ρ' (a' : Act) w', k .normal (forget out τ') H' = some res → TR ρ' τ' a'.tmps → Rel P ρ' H' w' → Fr ρ H w ρ' H' w' → a'.defers = a.defers → Q .normal a' w' :=
      fun τ' H' ρ' a' w' h1 h2 h3 h4 h5 => hk .normal _ H' ρ' a' w' h1 (h2.forget out) h3 h4 (by rw [h5]; exact hm.step h4)
    cases d with
    | false => exact wpIn_region (aops_wp hcall hext hng _ _ τ H ρ a w (toList_range ops) h ht R fin)
    | true =>
      simp only [acode] at h
      split at h
      · rename_i hok
        exact hdraw call ext hcall hext hng ro n id ops (fun τ' => k .normal (forget out τ')) res Q τ H ρ a w hok h ht R fin
      · cases h
  | seq x y ihx ihy =>
    intro out ex k τ H ρ a w Q h ht R hm hk
    refine wpIn_seq (ihx _ _ _ τ H ρ a w _ h ht R hm ?_)
    intro e τ' H' ρ' a' w' h1 h2 h3 h4 h5
    cases e with
    | normal => exact ihy _ _ _ τ' H' ρ' a' w' Q h1 h2 h3 h5 (hk.step h4)
    | exit id => exact hk (.exit id) τ' H' ρ' a' w' h1 h2 h3 h4 h5
    | ret => exact hk .ret τ' H' ρ' a' w' h1 h2 h3 h4 h5
  | cond c x y ihx ihy =>
    intro out ex k τ H ρ a w Q h ht R hm hk
    simp only [acode] at h
    cases hc : ask P τ c with
    | none => simp [hc] at h
    | some v =>
      cases v <;> simp only [hc] at h <;> try (cases h; done)
      rename_i b
      have hb := (ask_sound ht R.glob hc).eq_of_flat rfl
      refine wpIn_cond hb ?_
      cases b with
      | true => exact ihx _ _ _ τ H ρ a w Q h ht R hm hk
      | false => exact ihy _ _ _ τ H ρ a w Q h ht R hm hk
  | block id b ih =>
    intro out ex k τ H ρ a w Q h ht R hm hk
    refine wpIn_block (ih _ _ _ τ H ρ a w _ h ht R hm ?_)
    intro e τ' H' ρ' a' w' h1 h2 h3 h4 h5
    cases e with
    | normal => exact hk .normal τ' H' ρ' a' w' h1 h2 h3 h4 h5
    | exit i =>
      simp only at h1
      simp only [AExit.conv, Exit.inBlock]
      split at h1
      · rename_i e; rw [if_pos e]; exact hk .normal τ' H' ρ' a' w' h1 h2 h3 h4 h5
      · rename_i e; rw [if_neg e]; exact hk (.exit i) τ' H' ρ' a' w' h1 h2 h3 h4 h5
    | ret => exact hk .ret τ' H' ρ' a' w' h1 h2 h3 h4 h5
  | loop b ih =>
    intro out ex k τ H ρ a w Q h ht R hm hk
    simp only [acode] at h
    refine wpIn_loop_rounds m ?_
    have key : ∀ (m' : Nat) (τ : Env) (H : AHeap) (ρ : Ren) (a : Act) (w : World), lpN m' (live r (.loop b) out ex) (acode P call ext (lpN m) okDraw rd r b (live r (.loop b) out ex) ex) k τ H = some res →
        TR ρ τ a.tmps → Rel P ρ H w → MK B ρ H w a.defers → KOk P B k res Q ρ H w → Code.roundsIn { Fence.wide with round := ro } n P b Q m' a w := by
      intro m'
      induction m' with
      | zero => intro τ H ρ a w h; simp [lpN] at h
      | succ m' ihm =>
        intro τ H ρ a w h ht R hm hk
        rw [roundsIn_succ]
        simp only [lpN] at h
        refine ih _ _ _ _ H ρ a w _ h (ht.forget _) R hm ?_
        intro e τ' H' ρ' a' w' h1 h2 h3 h4 h5
        cases e with
        | normal => exact ihm τ' H' ρ' a' w' h1 h2 h3 h5 (hk.step h4)
        | exit id => exact hk (.exit id) τ' H' ρ' a' w' h1 h2 h3 h4 h5
        | ret => exact hk .ret τ' H' ρ' a' w' h1 h2 h3 h4 h5
    exact key m τ H ρ a w h ht R hm hk
  | rangeFunc f ps assign body iha ihb =>
    intro out ex k τ H ρ a w Q h ht R hm hk
    simp only [acode] at h
    split at h
    · cases h
    rename_i hrdf
    have hro : ro = none := hrd (by simpa using hrdf)
    subst hro
    cases hf : ask P τ f with
    | none => simp [hf] at h
    | some fv =>
      have hfr := ask_sound ht R.glob hf
      cases hfe : a.eval f <;> rw [hfe] at hfr <;> cases hfr <;> simp only [hf] at h <;> (try (cases h; done))
      rename_i g fa fa' fb fb' r1 r2
      cases hfn : P.funcs[g]? with
      | none => simp [hfn] at h
      | some fn0 =>
        simp only [hfn] at h
        cases hb : fn0.body with
        | none => simp [hb] at h
        | some body0 =>
          simp only [hb] at h
          cases hc : call (.fn g) (fa ++ [.func (.yield H.next) #[] #[]] ++ fb) (H.push (.aloop τ ps.toList assign body)) with
          | none => rw [hc] at h; cases h
          | some q =>
            obtain ⟨v, H2⟩ := q
            simp only [hc] at h
            refine wpIn_rangeFunc fun fn hfn' => ?_
            obtain ⟨Ra, Fa⟩ := R.skip (.deferred (some []))
            have hlb : (w.alloc (.deferred (some []))).heap.size = w.heap.size + 1 := by simp
            obtain ⟨Rb, Fb⟩ := Ra.alloc (o := .aloop τ ps.toList assign body) (l := ⟨w.heap.size + 1, 0, 0, 0⟩)
              (ob := .loop { state := .ready, pending := none, fn, tmps := a.tmps, params := ps, assign, body, defers := w.heap.size }) hlb.symm
              (by have := ObjR.aloop (P := P) (ρ := ρ.add H.next ⟨w.heap.size + 1, 0, 0, 0⟩) (l := ⟨w.heap.size + 1, 0, 0, 0⟩) (ps := ps.toList) (assign := assign) (body := body) (fn := fn) (D := w.heap.size) (ht.mono (Ra.ext_add _)); simpa using this)
            have F1 := Fa.trans Fb
            generalize hW1 : (w.alloc (.deferred (some []))).alloc (.loop { state := .ready, pending := none, fn, tmps := a.tmps, params := ps, assign, body, defers := w.heap.size }) = W1 at Rb Fb F1
            generalize hρ1 : ρ.add H.next ⟨w.heap.size + 1, 0, 0, 0⟩ = ρ1 at Rb Fb F1
            have hid : ρ1 H.next = some ⟨w.heap.size + 1, 0, 0, 0⟩ := by rw [← hρ1]; simp
            have hD1 : W1.heap[w.heap.size]? = some (.deferred (some [])) := by
              rw [← hW1, Go.RowKit.Below.heap_alloc _ _ _ (by simp)]
              show (w.heap.push _)[w.heap.size]? = _
              simp
            have hDn : ¬ Lies ρ1 (H.push (.aloop τ ps.toList assign body)) w.heap.size := by
              intro hl
              rcases Fb.lies _ hl with h' | h'
              · simp at h'; omega
              · have := R.lies_lt h'; omega
            have hargs : VRs ρ1 (fa ++ [.func (.yield H.next) #[] #[]] ++ fb) (fa' ++ [.func (.yield (w.heap.size + 1)) #[] #[]] ++ fb') :=
              ((r1.mono F1.ext).append (.cons (.yield hid) .nil)).append (r2.mono F1.ext)
            have hcalls := hcall (.fn g) _ _ v H2 ρ1 W1 _ hc Rb hargs
            refine ⟨w.heap.size + 1, [{ target := .collected w.heap.size, args := #[] }], W1, { target := .fn (.func g) ⟨fb'⟩, args := ⟨fa' ++ [.func (.yield (w.heap.size + 1)) #[] #[]]⟩ }, W1, g,
              ⟨fa' ++ [.func (.yield (w.heap.size + 1)) #[] #[]] ++ fb'⟩, W1, ?_, ?_, fun _ _ => trivial, ?_, (fun h => by cases h), ?_⟩
            · rw [← hW1]; exact run_enterLoop_outer _ _ _ _ _
            · have e0 : (#[Operand.const (.func (.yield (w.heap.size + 1)) #[] #[])]).map a.eval = #[.func (.yield (w.heap.size + 1)) #[] #[]] := by simp [Act.eval]
              simp only [resolve, e0, hfe]
              simp [Deferred.ofValue]
            · simp [invoke, callFunc, hfn, hng g fn0 hfn, hb]
            · refine (hcalls.more (Nat.zero_le _)).mono ?_
              rintro e w3 ⟨v', ρ2, rfl, hv, R2, F2⟩
              have F12 := F1.trans F2
              have hid2 : ρ2 H.next = some ⟨w.heap.size + 1, 0, 0, 0⟩ := F2.ext _ _ hid
              have hD3 : w3.heap[w.heap.size]? = some (.deferred (some [])) := by rw [F2.keep _ (Array.getElem?_eq_some_iff.1 hD1).1 hDn]; exact hD1
              have hDn3 : ¬ Lies ρ2 H2 w.heap.size := fun hl => (F2.lies _ hl).elim (fun h' => by have := (Array.getElem?_eq_some_iff.1 hD1).1; omega) hDn
              -- the record behind the call, and what is done with it
              have fin : ∀ (o : AObj) (L : Loop), H2.get H.next = some o → isV o = false → w3.heap[w.heap.size + 1]? = some (.loop L) → L.state ≠ .busy →
                  (∀ w4, w4 = w3.putObj (w.heap.size + 1) (.loop { L with state := .exhausted }) → Rel P ρ2 (H2.del H.next) w4 → Fr ρ H w ρ2 (H2.del H.next) w4 → MK B ρ2 (H2.del H.next) w4 ([{ target := .collected w.heap.size, args := #[] }] ++ a.defers) →
                    (match L.pending with
                     | none => Q .normal { a with defers := [{ target := .collected w.heap.size, args := #[] }] ++ a.defers } w4
                     | some c => c.wpIn { Fence.wide with round := none } n P Q { a with defers := [{ target := .collected w.heap.size, args := #[] }] ++ a.defers } w4)) →
                  rangePost { Fence.wide with round := none } n P (w.heap.size + 1) Q { a with defers := [{ target := .collected w.heap.size, args := #[] }] ++ a.defers } (.returned v') w3 := by
                intro o L hgo hov hL hbusy hcont
                obtain ⟨R3, F3⟩ := R2.del H.next
                have hnl := R2.not_lies_del hgo hid2 hov
                have R4 := R3.aside hnl (.loop { L with state := .exhausted })
                have F4 : Fr ρ H w ρ2 (H2.del H.next) (w3.putObj (w.heap.size + 1) (.loop { L with state := .exhausted })) := by
                  have F13 := F12.trans F3
                  refine ⟨F13.os, F13.tape, F13.output, by simpa [World.putObj] using F13.size, F13.next, F13.ext, F13.old, fun b hb hn => ?_, F13.lies⟩
                  rw [heap_putObj_ne (by omega)]
                  exact F13.keep b hb hn
                refine ⟨L.pending, _, run_endLoop hL hbusy, hcont _ rfl R4 F4 (.cons hm.bound ?_ ?_ ?_ ?_)⟩
                · rw [heap_putObj_ne (by omega)]; exact hD3
                · exact fun hl => hDn3 ((F3.lies _ hl).elim (fun h' => by have := (Array.getElem?_eq_some_iff.1 hD3).1; omega) id)
                · intro D' hD' e; have := hm.lt hD'; omega
                · exact hm.step F4
              obtain ⟨l', ob, g1, g2, g3⟩ : ∃ l ob, ρ2 H.next = some l ∧ w3.heap[l.block]? = some ob ∧ ∀ o, H2.get H.next = some o → ObjR P ρ2 l o ob := by
                cases hg : H2.get H.next with
                | none => simp [hg] at h
                | some o =>
                  obtain ⟨l, ob, q1, q2, q3⟩ := R2.obj _ _ hg
                  exact ⟨l, ob, q1, q2, fun o' e => by cases e; exact q3⟩
              rw [hid2] at g1
              cases g1
              split at h
              · rename_i τ1 ps1 as1 bo1 hg
                have hob := g3 _ hg
                cases hob with
                | aloop hloop =>
                  refine fin _ _ hg rfl g2 (by simp) fun w4 _ R4 F4 M4 => ?_
                  exact hk .normal τ (H2.del H.next) ρ2 _ w4 h (ht.mono F4.ext) R4 F4 M4
              · rename_i e1 hg
                have hob := g3 _ hg
                cases hob with
                | adone hcode =>
                  refine fin _ _ hg rfl g2 (by simp) fun w4 _ R4 F4 M4 => ?_
                  cases e1 with
                  | normal => cases hcode
                  | exit i => cases hcode; exact wpIn_exit (hk (.exit i) τ (H2.del H.next) ρ2 _ w4 h (ht.mono F4.ext) R4 F4 M4)
                  | ret => cases hcode; exact wpIn_ret (hk .ret τ (H2.del H.next) ρ2 _ w4 h (ht.mono F4.ext) R4 F4 M4)
              · cases h
  | exit id => intro out ex k τ H ρ a w Q h ht R hm hk; exact wpIn_exit (hk (.exit id) τ H ρ a w h ht R (.refl _ _ _) hm)
  | scope b ih =>
    intro out ex k τ H ρ a w Q h ht R hm hk
    refine wpIn_mono (wpIn_scope (Q := Exit.straight Q) (fun _ _ _ h => h) (ih _ _ _ τ H ρ a w _ h ht R hm ?_)) ?_
    · intro e τ' H' ρ' a' w' h1 h2 h3 h4 h5
      cases e with
      | normal => exact hk .normal τ' H' ρ' a' w' h1 h2 h3 h4 h5
      | exit i => exact hk (.exit i) τ' H' ρ' a' w' h1 h2 h3 h4 h5
      | ret => exact hk .ret τ' H' ρ' a' w' h1 h2 h3 h4 h5
    · intro e a' w' h
      cases e <;> first | exact h | exact h.elim
  | ret => intro out ex k τ H ρ a w Q h ht R hm hk; exact wpIn_ret (hk .ret τ H ρ a w h ht R (.refl _ _ _) hm)
  | goto l => intro out ex k τ H ρ a w Q h ht R hm hk; simp [acode] at h
  | refuse s => intro out ex k τ H ρ a w Q h ht R hm hk; simp [acode] at h

end
end Go.Bk
