/- DRAWN REGIONS, third part: stages; what holds of a world in which some of the operations are done. No condition. -/
import Derived.Test.YtifnbnlghfedfaaGreatDoorBkDrawB
namespace Go.Bk
open Go

section
variable {P : Program} {call : ACallee → List Value → AM Value} {ext : FuncId → List Value → AM Value} {n0 : Nat} {ops : Array Oper} {τ0 τf : Env}

abbrev stg (P : Program) (ops : Array Oper) (i : Nat) : Nat := stage P ops (ancs ops) (effs P ops) i

structure StF (P : Program) (n0 : Nat) (ops : Array Oper) (τ0 τf : Env) (s : Nat) (Ep : List Nat) (Hs Ha : AHeap) : Prop where
  next : Ha.next = Hs.next
  get : ∀ j, Ha.get j = Hs.get j ∨ (Hs.get j = none ∧ ∃ i, j = n0 + i ∧ clsAt P ops .alloc i = true ∧ W ops τ0 τf i ∧ stg P ops i = s)
  op : ∀ i, i < ops.size → clsAt P ops .eff i = false → stg P ops i = s → ∃ o, ops[i]? = some o ∧ OpF P n0 ops τ0 τf i o Ha
  re : ∀ i, i < ops.size → clsAt P ops .load i = true → stg P ops i < s → (∀ e ∈ Ep, waits (ancs ops) e i = false) → ∃ o, ops[i]? = some o ∧ (awanted ops (view ops τ0 τf i) o = some false ∨ OpF P n0 ops τ0 τf i o Ha)

inductive EffF (P : Program) (call : ACallee → List Value → AM Value) (ext : FuncId → List Value → AM Value) (ops : Array Oper) (τ0 τf : Env) (e : Nat) (Ha H' : AHeap) : Prop
  | unw {o : Oper} (ho : ops[e]? = some o) (hw : awanted ops (view ops τ0 τf e) o = some false) (hh : H' = Ha) (hd : DstF τf o.dst (.tuple #[]))
  | op {o : Oper} {v : Value} (ho : ops[e]? = some o) (hw : awanted ops (view ops τ0 τf e) o = some true) (h : aop P call ext (view ops τ0 τf e) o Ha = some (v, H')) (hd : DstF τf o.dst v)

def Facts (P : Program) (call : ACallee → List Value → AM Value) (ext : FuncId → List Value → AM Value) (n0 : Nat) (ops : Array Oper) (τ0 τf : Env) : List Nat → Nat → List Nat → AHeap → AHeap → AHeap → Prop
  | [], s, Ep, Hs, Ha, Hf => StF P n0 ops τ0 τf s Ep Hs Ha ∧ Ha = Hf
  | e :: l, s, Ep, Hs, Ha, Hf => StF P n0 ops τ0 τf s Ep Hs Ha ∧ ∃ H' Ha', EffF P call ext ops τ0 τf e Ha H' ∧ Facts P call ext n0 ops τ0 τf l (s + 1) (Ep ++ [e]) H' Ha' Hf

theorem Facts.stF {l : List Nat} {s : Nat} {Ep : List Nat} {Hs Ha Hf : AHeap} (h : Facts P call ext n0 ops τ0 τf l s Ep Hs Ha Hf) : StF P n0 ops τ0 τf s Ep Hs Ha := by
  cases l <;> exact h.1

theorem stagePlan_facts {s : Nat} {Ep : List Nat} {Hs Ha : AHeap} (h : DV P call ext n0 ops τ0 τf (stagePlan P ops (ancs ops) (effs P ops) s Ep) Hs Ha) : StF P n0 ops τ0 τf s Ep Hs Ha := by
  unfold stagePlan at h
  obtain ⟨H1, h1, h2⟩ := h.split
  obtain ⟨rfl, hre⟩ := DV.looks (fun i hi => by simp at hi; exact hi.2.1.1) h1
  have hf := DV.fills (fun i hi => by simp at hi; exact hi.2.1) h2
  refine ⟨hf.next, fun j => (hf.get j).imp id ?_, fun i hi hc hs => ?_, fun i hi hc hs hw => ?_⟩
  · rintro ⟨h1, i, hi, h2, h3, h4⟩
    simp at hi
    exact ⟨h1, i, h2, h3, h4, hi.2.2⟩
  · exact hf.op i (by simp [hi, hc, hs])
  · obtain ⟨o, ho, h⟩ := hre i (by simp only [List.mem_filter, List.mem_range, Bool.and_eq_true, decide_eq_true_eq, List.all_eq_true, Bool.not_eq_true']; exact ⟨hi, ⟨hc, hs⟩, hw⟩)
    exact ⟨o, ho, h.imp id fun h => h.grows hf.grows⟩

theorem planFrom_facts : ∀ (l : List Nat) (s : Nat) (Ep : List Nat) (Hs Hf : AHeap), (∀ e ∈ l, clsAt P ops .eff e = true) → DV P call ext n0 ops τ0 τf (planFrom P ops (ancs ops) (effs P ops) s Ep l) Hs Hf →
    ∃ Ha, Facts P call ext n0 ops τ0 τf l s Ep Hs Ha Hf
  | [], s, Ep, Hs, Hf, _, h => ⟨Hf, stagePlan_facts h, rfl⟩
  | e :: l, s, Ep, Hs, Hf, hl, h => by
    simp only [planFrom] at h
    obtain ⟨Ha, h1, h2⟩ := h.split
    have hst := stagePlan_facts h1
    have hc := hl e (List.mem_cons_self ..)
    cases h2 with
    | unw ho hw hd h =>
      obtain ⟨Ha', hF⟩ := planFrom_facts l (s + 1) (Ep ++ [e]) Ha Hf (fun x hx => hl x (List.mem_cons_of_mem _ hx)) h
      exact ⟨Ha, hst, Ha, Ha', .unw ho hw rfl hd, hF⟩
    | @op _ _ _ H1 _ o v ho hw hop hd h =>
      obtain ⟨Ha', hF⟩ := planFrom_facts l (s + 1) (Ep ++ [e]) H1 Hf (fun x hx => hl x (List.mem_cons_of_mem _ hx)) h
      refine ⟨Ha, hst, H1, Ha', .op ho hw ?_ hd, hF⟩
      have hce : cls P o.op = .eff := by simpa [clsAt, ho] using hc
      unfold dop at hop
      rw [hce] at hop
      exact hop

theorem Facts.all : ∀ {l : List Nat} {s : Nat} {Ep : List Nat} {Hs Ha Hf : AHeap}, Facts P call ext n0 ops τ0 τf l s Ep Hs Ha Hf → ∀ i, i < ops.size → clsAt P ops .eff i = false → s ≤ stg P ops i → stg P ops i ≤ s + l.length →
    ∃ o H, ops[i]? = some o ∧ OpF P n0 ops τ0 τf i o H
  | [], s, Ep, Hs, Ha, Hf, h, i, hi, hc, h1, h2 => by
    obtain ⟨o, ho, h'⟩ := h.1.op i hi hc (by simp at h2; omega)
    exact ⟨o, Ha, ho, h'⟩
  | e :: l, s, Ep, Hs, Ha, Hf, h, i, hi, hc, h1, h2 => by
    obtain ⟨hst, H', Ha', _, hF⟩ := h
    by_cases e' : stg P ops i = s
    · obtain ⟨o, ho, h'⟩ := hst.op i hi hc e'
      exact ⟨o, Ha, ho, h'⟩
    · exact Facts.all hF i hi hc (by omega) (by simp at h2; omega)

/-! ### What is done -/
def On (listed : Array Bool) (j : Nat) : Prop := listed.getD j false = true

theorem On_set {listed : Array Bool} {i j : Nat} : On (listed.setIfInBounds i true) j ↔ (j = i ∧ i < listed.size) ∨ On listed j := by
  unfold On
  simp only [Array.getD_eq_getD_getElem?, Array.getElem?_setIfInBounds]
  by_cases h : i = j
  · subst h
    by_cases hl : i < listed.size
    · simp [hl]
    · simp [hl]
  · simp [h, Ne.symm h]

/-- The checks of 'drawOk', as they are used. -/
structure Chk (P : Program) (ops : Array Oper) : Prop where
  early : Early ops
  apart : ∀ i t j, t ∈ looksI ops i → dstAt ops j = some t → waits (ancs ops) i j = true ∨ waits (ancs ops) j i = true ∨ i = j
  alloc : ∀ i, clsAt P ops .alloc i = true → (effs P ops).filter (fun e => !waits (ancs ops) e i) = (effs P ops).take (stg P ops i)
  eff : ∀ k e, (effs P ops)[k]? = some e → stg P ops e = k

theorem size_of_get {i : Nat} {o : Oper} (h : ops[i]? = some o) : i < ops.size := (Array.getElem?_eq_some_iff.1 h).1

theorem drawOk_chk (h : drawOk P ops = true) : Chk P ops ∧ planOk ops (ancs ops) [] (plan P ops) = true := by
  unfold drawOk at h
  simp only [Bool.and_eq_true, List.all_eq_true, List.mem_range] at h
  obtain ⟨⟨⟨⟨h1, h2⟩, h3⟩, h4⟩, h5⟩ := h
  refine ⟨⟨fun i o ho e he hb => ?_, fun i t j ht hd => ?_, fun i hc => ?_, fun k e he => ?_⟩, h5⟩
  · have := h1 i (size_of_get ho)
    rw [ho] at this
    have := List.all_eq_true.1 this e (by simpa using he)
    simpa [hb] using this
  · have hi : i < ops.size := by
      unfold looksI at ht
      cases ho : ops[i]? with
      | none => rw [ho] at ht; cases ht
      | some o => exact size_of_get ho
    have hj : j < ops.size := by
      unfold dstAt at hd
      cases ho : ops[j]? with
      | none => rw [ho] at hd; cases hd
      | some o => exact size_of_get ho
    have := h2 i hi t ht j hj
    simp only [hd, bne_self_eq_false, Bool.false_or, Bool.or_eq_true, beq_iff_eq, or_assoc] at this
    exact this
  · have hi : i < ops.size := by
      unfold clsAt at hc
      cases ho : ops[i]? with
      | none => rw [ho] at hc; cases hc
      | some o => exact size_of_get ho
    have := h3 i hi
    rw [if_pos hc] at this
    exact eq_of_beq this
  · have := h4 k (List.getElem?_eq_some_iff.1 he).1
    rw [he] at this
    exact eq_of_beq this

structure Lst (P : Program) (ops : Array Oper) (listed : Array Bool) (s : Nat) (Ep Erest : List Nat) : Prop where
  size : listed.size = ops.size
  split : effs P ops = Ep ++ Erest
  len : Ep.length = s
  done : ∀ e ∈ Ep, On listed e
  rest : ∀ e ∈ Erest, ¬ On listed e
  closed : Closed ops (On listed)

def Rdy (ops : Array Oper) (listed : Array Bool) (i : Nat) : Prop := ∀ o, ops[i]? = some o → ∀ e ∈ o.after, Region.binds .any e = true → On listed e.on

theorem mem_effs {e : Nat} (h : e ∈ effs P ops) : clsAt P ops .eff e = true ∧ e < ops.size := by
  unfold effs at h
  simp at h
  exact ⟨h.2, h.1⟩

theorem Lst.on_lt {listed : Array Bool} {s : Nat} {Ep Erest : List Nat} (L : Lst P ops listed s Ep Erest) {j : Nat} (h : On listed j) : j < ops.size := by
  rw [← L.size]
  unfold On at h
  rcases Nat.lt_or_ge j listed.size with h' | h'
  · exact h'
  · simp [Array.getElem?_eq_none h'] at h

theorem Lst.closed_set {listed : Array Bool} {s : Nat} {Ep Erest : List Nat} (L : Lst P ops listed s Ep Erest) {i : Nat} (hr : Rdy ops listed i) : Closed ops (On (listed.setIfInBounds i true)) := by
  intro j o hj ho e he hb
  rw [On_set] at hj ⊢
  rcases hj with ⟨rfl, _⟩ | hj
  · exact .inr (hr o ho e he hb)
  · exact .inr (L.closed j o hj ho e he hb)

theorem Lst.step {listed : Array Bool} {s : Nat} {Ep Erest : List Nat} (L : Lst P ops listed s Ep Erest) {i : Nat} (hr : Rdy ops listed i) (hc : clsAt P ops .eff i = false) : Lst P ops (listed.setIfInBounds i true) s Ep Erest := by
  refine ⟨by simpa using L.size, L.split, L.len, fun e he => On_set.2 (.inr (L.done e he)), fun e he h => ?_, L.closed_set hr⟩
  rcases On_set.1 h with ⟨rfl, _⟩ | h
  · have := (mem_effs (P := P) (ops := ops) (e := e) (by rw [L.split]; simp [he])).1
    rw [hc] at this; cases this
  · exact L.rest e he h

theorem effs_nodup : (effs P ops).Nodup := List.Pairwise.filter _ List.nodup_range

theorem Lst.stepE {listed : Array Bool} {s e : Nat} {Ep Erest : List Nat} (L : Lst P ops listed s Ep (e :: Erest)) (hr : Rdy ops listed e) : Lst P ops (listed.setIfInBounds e true) (s + 1) (Ep ++ [e]) Erest := by
  have hlt : e < listed.size := by rw [L.size]; exact (mem_effs (P := P) (by rw [L.split]; simp)).2
  have hnd := effs_nodup (P := P) (ops := ops)
  rw [L.split] at hnd
  refine ⟨by simpa using L.size, by rw [L.split]; simp, by simp [L.len], fun x hx => On_set.2 ?_, fun x hx h => ?_, L.closed_set hr⟩
  · rcases List.mem_append.1 hx with hx | hx
    · exact .inr (L.done x hx)
    · simp at hx; exact .inl ⟨hx, hlt⟩
  · rcases On_set.1 h with ⟨rfl, _⟩ | h
    · have := (List.nodup_append.1 hnd).2.1
      exact (List.nodup_cons.1 this).1 hx
    · exact L.rest x (List.mem_cons_of_mem _ hx) h

section
variable {listed : Array Bool} {s : Nat} {Ep Erest : List Nat} (L : Lst P ops listed s Ep Erest) (C : Chk P ops) {i : Nat}
include L C

/-- The stage of what is no alloc and can be done now. -/
theorem Lst.stage_le (hr : Rdy ops listed i) (hc : clsAt P ops .alloc i = false) : stg P ops i ≤ s := by
  simp only [stg, stage, hc, Bool.false_eq_true, if_false]
  rw [L.split, List.filter_append]
  have : Erest.filter (fun e => waits (ancs ops) i e) = [] := by
    rw [List.filter_eq_nil_iff]
    intro e he hw
    exact L.rest e he (L.closed.waits C.early i e hr hw)
  rw [this, List.append_nil, ← L.len]
  exact List.length_filter_le _ _

theorem Lst.unwaited (hn : ¬ On listed i) : ∀ e ∈ Ep, waits (ancs ops) e i = false := by
  intro e he
  cases hw : waits (ancs ops) e i with
  | false => rfl
  | true => exact absurd (L.closed.waits C.early e i (fun o ho x hx hb => L.closed e o (L.done e he) ho x hx hb) hw) hn

theorem Lst.stage_ge (hn : ¬ On listed i) (hc : clsAt P ops .alloc i = true) : s ≤ stg P ops i := by
  simp only [stg, stage, hc, if_true]
  rw [L.split, List.filter_append, List.length_append]
  have : Ep.filter (fun e => !waits (ancs ops) e i) = Ep := by
    rw [List.filter_eq_self]
    intro e he
    simp [L.unwaited C hn e he]
  rw [this, L.len]
  omega

/-- The effect that can be done now is the next one. -/
theorem Lst.next_eff (hr : Rdy ops listed i) (hn : ¬ On listed i) (hc : clsAt P ops .eff i = true) (hi : i < ops.size) : ∃ l, Erest = i :: l := by
  have hm : i ∈ effs P ops := by unfold effs; simp [hc, hi]
  rw [L.split] at hm
  rcases List.mem_append.1 hm with hm | hm
  · exact absurd (L.done i hm) hn
  obtain ⟨k, hk, he⟩ := List.getElem_of_mem hm
  have hk' : (effs P ops)[s + k]? = some i := by
    rw [L.split, List.getElem?_append_right (by rw [L.len]; omega), L.len, Nat.add_sub_cancel_left, List.getElem?_eq_getElem hk, he]
  have h1 := C.eff _ _ hk'
  have hca : clsAt P ops .alloc i = false := by
    unfold clsAt at hc ⊢
    split at hc
    · simp only [decide_eq_true_eq] at hc; rw [hc]; rfl
    · cases hc
  have h2 := L.stage_le C hr hca
  have : k = 0 := by omega
  subst this
  cases Erest with
  | nil => simp at hk
  | cons x l => simp at he; subst he; exact ⟨l, rfl⟩
end

/-- An alloc of this stage is waited for by the next effect. -/
theorem Lst.alloc_on {listed : Array Bool} {s e i : Nat} {Ep Erest : List Nat} (L : Lst P ops listed s Ep (e :: Erest)) (C : Chk P ops) (hr : Rdy ops listed e) (hc : clsAt P ops .alloc i = true) (hs : stg P ops i = s) : On listed i := by
  have hal := C.alloc i hc
  rw [hs, L.split] at hal
  rw [show s = Ep.length from L.len.symm, List.take_left] at hal
  have hw : waits (ancs ops) e i = true := by
    cases hw : waits (ancs ops) e i with
    | true => rfl
    | false =>
      have : e ∈ (Ep ++ e :: Erest).filter (fun e => !waits (ancs ops) e i) := by simp [hw]
      rw [hal] at this
      exact absurd (L.done e this) (L.rest e (List.mem_cons_self ..))
  exact L.closed.waits C.early e i hr hw

/-! ### The slots -/
structure Tm (ops : Array Oper) (τ0 τf : Env) (a0 : Act) (ρ : Ren) (listed : Array Bool) (a : Act) : Prop where
  size : a.tmps.size = τ0.n
  tf : ∀ j t v, On listed j → dstAt ops j = some t → τf.get t = some v → ∃ v', a.tmps[t]? = some v' ∧ VR ρ v v'
  t0 : ∀ t v, (∀ j, On listed j → dstAt ops j ≠ some t) → τ0.get t = some v → ∃ v', a.tmps[t]? = some v' ∧ VR ρ v v'
  defers : a.defers = a0.defers

theorem Tm.mono {a0 a : Act} {ρ ρ' : Ren} {listed : Array Bool} (T : Tm ops τ0 τf a0 ρ listed a) (he : Ext ρ ρ') : Tm ops τ0 τf a0 ρ' listed a :=
  ⟨T.size, fun j t v h1 h2 h3 => let ⟨v', a, b⟩ := T.tf j t v h1 h2 h3; ⟨v', a, b.mono he⟩, fun t v h1 h2 => let ⟨v', a, b⟩ := T.t0 t v h1 h2; ⟨v', a, b.mono he⟩, T.defers⟩

theorem Tm.put {a0 a : Act} {ρ : Ren} {listed : Array Bool} (T : Tm ops τ0 τf a0 ρ listed a) (hlen : τf.n = τ0.n) (hin : τf.In) (hsz : listed.size = ops.size) {i : Nat} {o : Oper} (ho : ops[i]? = some o) {v v' : Value} (hv : VR ρ v v') (hd : DstF τf o.dst v) :
    Tm ops τ0 τf a0 ρ (listed.setIfInBounds i true) (a.put o.dst v') := by
  have hdi : dstAt ops i = o.dst := by simp [dstAt, ho]
  have hil : i < listed.size := by rw [hsz]; exact size_of_get ho
  have hget : ∀ t, o.dst ≠ some t → (a.put o.dst v').tmps[t]? = a.tmps[t]? := fun t ht => by
    cases hdst : o.dst with
    | none => rfl
    | some d => simp only [Act.put]; rw [Array.getElem?_setIfInBounds_ne (by intro e; exact ht (by rw [hdst, e]))]
  have hsame : ∀ t, o.dst = some t → t < τ0.n → (a.put o.dst v').tmps[t]? = some v' := fun t ht hl => by
    rw [ht]; simp [Act.put, T.size, hl]
  refine ⟨by rw [← T.size]; cases o.dst <;> simp [Act.put], fun j t u hj hdj hu => ?_, fun t u h0 hu => ?_, by rw [put_defers]; exact T.defers⟩
  · by_cases e : o.dst = some t
    · have hl : t < τf.n := hin t u hu
      have := hd t e hl
      rw [this] at hu
      simp only [Option.some.injEq] at hu
      subst hu
      exact ⟨v', hsame t e (hlen ▸ hl), hv⟩
    · rw [hget t e]
      rcases On_set.1 hj with ⟨rfl, _⟩ | hj
      · rw [hdi] at hdj; exact absurd hdj e
      · exact T.tf j t u hj hdj hu
  · have e : o.dst ≠ some t := fun e => h0 i (On_set.2 (.inl ⟨rfl, hil⟩)) (by rw [hdi, e])
    rw [hget t e]
    exact T.t0 t u (fun j hj => h0 j (On_set.2 (.inr hj))) hu

theorem Tm.view {a0 a : Act} {ρ : Ren} {listed : Array Bool} {s : Nat} {Ep Erest : List Nat} (T : Tm ops τ0 τf a0 ρ listed a) (L : Lst P ops listed s Ep Erest) (C : Chk P ops) {i : Nat} (hr : Rdy ops listed i) (hn : ¬ On listed i) :
    TR ρ (view ops τ0 τf i) a.tmps := by
  refine ⟨T.size, fun t v h => ?_⟩
  obtain ⟨hm, hv⟩ := view_some h
  split at hv
  · rename_i hw
    unfold wr at hw
    rw [List.any_eq_true] at hw
    obtain ⟨j, _, hj⟩ := hw
    simp only [Bool.and_eq_true, beq_iff_eq] at hj
    exact T.tf j t v (L.closed.waits C.early i j hr hj.2) hj.1 hv
  · rename_i hw
    refine T.t0 t v (fun j hj hd => ?_) hv
    rcases C.apart i t j hm hd with h | h | h
    · exact hw (by unfold wr; rw [List.any_eq_true]; exact ⟨j, List.mem_range.2 (L.on_lt hj), by simp [hd, h]⟩)
    · exact hn (L.closed.waits C.early j i (fun o ho x hx hb => L.closed j o hj ho x hx hb) h)
    · exact hn (h ▸ hj)

end
end Go.Bk
