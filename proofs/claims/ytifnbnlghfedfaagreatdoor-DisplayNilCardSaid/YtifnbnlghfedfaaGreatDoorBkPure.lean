/- WHAT THE ABSTRACT MACHINE SAYS OF AN OPERATION THAT ASKS MEMORY NOTHING IS WHAT THE MODEL DOES. No condition. -/
import Derived.Test.YtifnbnlghfedfaaGreatDoorBkRel
import Derived.Laws.Sem
import Derived.Laws.World
namespace Go.Bk
open Go

section
variable {P : Program} {ρ : Ren} {w : World}

theorem pureRun_run {α : Type} {s : Sem α} {x : α} (h : pureRun P s = some x) : s.run P w = .ok x w := by
  induction s with
  | pure a => simp only [pureRun, Option.some.injEq] at h; subst h; rfl
  | program k ih => simp only [pureRun] at h; exact ih P h
  | mark m k ih => simp only [pureRun] at h; exact ih h
  | _ => simp [pureRun] at h

theorem pureVal_sound {s : Sem Value} {v : Value} (h : pureVal P s = some v) : ∃ v', s.run P w = .ok v' w ∧ VR ρ v v' := by
  unfold pureVal at h
  cases hp : pureRun P s with
  | none => simp [hp] at h
  | some u =>
    simp only [hp] at h
    split at h
    · rename_i hf; cases h; exact ⟨_, pureRun_run hp, .of_flat hf⟩
    · cases h

theorem run_underlying {t : TypeId} {d : TypeDesc} (h : P.underlying t = some d) : (underlying t).run P w = .ok d w := by
  simp only [underlying, Sem.run_bind, run_program, Result.andThen_ok, h]; rfl
theorem run_typeInfo {t : TypeId} {i : TypeInfo} (h : P.info? t = some i) : (typeInfo t).run P w = .ok i w := by
  simp only [typeInfo, Sem.run_bind, run_program, Result.andThen_ok, h]; rfl
theorem run_sizeOf {t : TypeId} {n : Nat} (h : sizeOfA P t = some n) : (sizeOf t).run P w = .ok n w := by
  unfold sizeOfA at h
  cases hi : P.info? t with
  | none => simp [hi] at h
  | some i => simp [hi] at h; subst h; simp only [sizeOf, Sem.run_bind, run_typeInfo hi, Result.andThen_ok]; rfl
theorem zeroA_spec {t : TypeId} {z : Value} (h : zeroA P t = some z) : flat z = true ∧ (zeroValue t).run P w = .ok z w := by
  unfold zeroA at h
  cases hi : P.info? t with
  | none => simp [hi] at h
  | some i =>
    simp only [hi, Option.bind_some] at h
    cases hz : i.zero with
    | none => simp [hz] at h
    | some v =>
      simp only [hz] at h
      split at h
      · rename_i hf; cases h; exact ⟨hf, by simp only [zeroValue, Sem.run_bind, run_typeInfo hi, Result.andThen_ok, hz]; rfl⟩
      · cases h
theorem run_isAgg {t : TypeId} {b : Bool} (h : isAggA P t = some b) : (isAgg t).run P w = .ok b w := by
  unfold isAggA at h
  cases hd : P.underlying t with
  | none => simp [hd] at h
  | some d =>
    simp only [hd] at h
    simp only [isAgg, Sem.run_bind, run_underlying hd, Result.andThen_ok]
    cases d <;> simp_all

theorem addr_add (b o n : Nat) : (⟨b, o, none⟩ : Addr).add n = ⟨b, o + n, none⟩ := by
  unfold Addr.add; split <;> simp_all

theorem list_getElem?_toArray (l : List Value) (n : Nat) : (⟨l⟩ : Array Value)[n]? = l[n]? := by simp

theorem part_sound {t : TypeId} {cs cs' : List Value} {off : Nat} {v : Value} (hr : VRs ρ cs cs') (h : partA P t cs off = some v) :
    ∃ v', (part t ⟨cs'⟩ off).run P w = .ok v' w ∧ VR ρ v v' := by
  unfold partA at h
  cases ha : isAggA P t with
  | none => simp [ha] at h
  | some b =>
    cases b with
    | true =>
      simp only [ha] at h
      cases hs : sizeOfA P t with
      | none => simp [hs] at h
      | some n =>
        simp only [hs] at h
        split at h
        · cases h
          refine ⟨.agg ⟨(cs'.drop off).take n⟩, ?_, .agg ((hr.drop off).take n)⟩
          simp only [part, Sem.run_bind, run_isAgg ha, run_sizeOf hs, Result.andThen_ok, if_true]
          simp [List.extract_eq_take_drop]
        · cases h
    | false =>
      simp only [ha] at h
      obtain ⟨v', e, r⟩ := hr.get h
      refine ⟨v', ?_, r⟩
      simp only [part, Sem.run_bind, run_isAgg ha, Result.andThen_ok]
      simp [e]

theorem field_sound {s : TypeId} {x x' v : Value} {f : Nat} (hr : VR ρ x x') (h : ofield P s x f = some v) :
    ∃ v', (Instr.field s x' f).run P w = .ok v' w ∧ VR ρ v v' := by
  unfold ofield at h
  cases hr with
  | agg hr =>
    simp only at h
    unfold fieldOf at h
    cases hd : P.underlying s with
    | none => simp [hd] at h
    | some d =>
      cases d <;> simp [hd] at h
      rename_i fs
      cases hf : fs[f]? with
      | none => simp [hf] at h
      | some fd =>
        simp only [hf] at h
        obtain ⟨v', e, r⟩ := part_sound (w := w) hr h
        exact ⟨v', by simp [Instr.field, run_underlying hd, hf, asAgg, e], r⟩
  | _ => simp at h

theorem fieldOf_spec {s : TypeId} {f : Nat} {fd : Field} (h : fieldOf P s f = some fd) : ∃ fs, P.underlying s = some (.struct fs) ∧ fs[f]? = some fd := by
  unfold fieldOf at h
  cases hd : P.underlying s with
  | none => simp [hd] at h
  | some d => cases d <;> simp [hd] at h; exact ⟨_, rfl, h⟩

theorem padd_sound {n : Nat} {x x' v : Value} (hr : VR ρ x x') (h : padd n x = some v) :
    ∃ b o, x' = .pointer (some ⟨b, o, none⟩) ∧ VR ρ v (.pointer (some ⟨b, o + n, none⟩)) := by
  cases hr with
  | ptr hl => simp only [padd, Option.some.injEq] at h; subst h; exact ⟨_, _, rfl, by rw [Nat.add_assoc]; exact .ptr hl⟩
  | _ => simp [padd] at h

theorem fieldAddr_sound {s : TypeId} {x x' v : Value} {f : Nat} (hr : VR ρ x x') (h : ofieldAddr P s x f = some v) :
    ∃ v', (Instr.fieldAt s x' f).run P w = .ok v' w ∧ VR ρ v v' := by
  unfold ofieldAddr at h
  cases hf : fieldOf P s f with
  | none => simp [hf] at h
  | some fd =>
    simp only [hf] at h
    obtain ⟨fs, hd, hfs⟩ := fieldOf_spec hf
    cases hs : sizeOfA P fd.type with
    | none => simp [hs] at h
    | some n =>
      cases n with
      | zero => simp [hs] at h
      | succ n =>
        simp only [hs] at h
        obtain ⟨b, o, rfl, hv⟩ := padd_sound hr h
        refine ⟨_, ?_, hv⟩
        simp [Instr.fieldAt, run_underlying hd, hfs, Instr.sureAddr, fieldPlace, run_sizeOf hs, addr_add]

theorem nat_of_inat {i i' : Value} {k : Nat} (hr : VR ρ i i') (h : inat i = some k) : ∃ kd n, i' = .int kd n ∧ 0 ≤ n ∧ n.toNat = k := by
  cases hr with
  | int kd n => simp only [inat] at h; split at h <;> simp at h; exact ⟨kd, n, rfl, by assumption, h⟩
  | _ => simp [inat] at h

theorem indexAddr_sound {t : TypeId} {x x' i i' v : Value} (hx : VR ρ x x') (hi : VR ρ i i') (h : oindexAddr P t x i = some v) :
    ∃ v', (Instr.indexAt t x' i').run P w = .ok v' w ∧ VR ρ v v' := by
  unfold oindexAddr at h
  cases hk : inat i with
  | none => simp [hk] at h
  | some k =>
    obtain ⟨kd, n, rfl, hn0, hnk⟩ := nat_of_inat hi hk
    cases hd : P.underlying t with
    | none => simp [hd] at h
    | some d =>
      cases d <;> simp only [hd, hk] at h <;> try (cases h)
      case array N e =>
        cases hx with
        | ptr hl =>
          simp only at h
          cases hs : sizeOfA P e with
          | none => simp [hs] at h
          | some z =>
            simp only [hs] at h
            split at h
            · rename_i hlt
              cases h
              refine ⟨_, ?_, .ptr hl⟩
              simp [Instr.indexAt, asIntOf, run_underlying hd, Instr.sureAddr, run_sizeOf hs, addr_add, hn0, hnk, Nat.add_assoc, show n < (N : Int) by omega]
            · cases h
        | _ => simp at h
      case slice e =>
        cases hx with
        | sliceK hl =>
          simp only at h
          cases hs : sizeOfA P e with
          | none => simp [hs] at h
          | some z =>
            simp only [hs] at h
            split at h
            · rename_i hlt
              cases h
              refine ⟨_, ?_, .ptr hl⟩
              simp [Instr.indexAt, asIntOf, run_underlying hd, Instr.sureAddr, run_sizeOf hs, addr_add, hn0, hnk, Nat.add_assoc]
              omega
            · cases h
        | sliceT hl hz hn hc =>
          simp only at h
          cases hs : sizeOfA P e with
          | none => simp [hs] at h
          | some z =>
            simp only [hs] at h
            split at h
            · rename_i hlt
              cases h
              refine ⟨_, ?_, .ptr hl⟩
              simp [Instr.indexAt, asIntOf, run_underlying hd, Instr.sureAddr, run_sizeOf hs, addr_add, hn0, hnk, Nat.add_assoc]
              omega
            · cases h
        | ghost a c => cases hs : sizeOfA P e <;> simp [hs] at h
        | _ => simp at h

theorem index_sound {t : TypeId} {x x' i i' v : Value} (hx : VR ρ x x') (hi : VR ρ i i') (h : oindex P t x i = some v) :
    ∃ v', (Instr.index t x' i').run P w = .ok v' w ∧ VR ρ v v' := by
  unfold oindex at h
  cases hk : inat i with
  | none => simp [hk] at h
  | some k =>
    obtain ⟨kd, n, rfl, hn0, hnk⟩ := nat_of_inat hi hk
    cases hd : P.underlying t with
    | none => simp [hd] at h
    | some d =>
      cases d <;> simp only [hd, hk] at h <;> try (cases h)
      case array N e =>
        cases hx with
        | agg hl =>
          simp only at h
          cases hs : sizeOfA P e with
          | none => simp [hs] at h
          | some z =>
            simp only [hs] at h
            split at h
            · rename_i hlt
              obtain ⟨v', e1, r⟩ := part_sound (w := w) hl h
              refine ⟨v', ?_, r⟩
              simp [Instr.index, asIntOf, run_underlying hd, run_sizeOf hs, hn0, hnk, e1, show n < (N : Int) by omega]
            · cases h
        | _ => simp at h
      case string =>
        cases hx with
        | string s =>
          simp only at h
          cases hb : s[k]? with
          | none => simp [hb] at h
          | some b =>
            simp only [hb, Option.some.injEq] at h
            subst h
            refine ⟨_, ?_, .int _ _⟩
            simp [Instr.index, asIntOf, run_underlying hd, hn0, hnk, hb]
        | _ => simp at h

theorem extract_sound {x x' v : Value} {i : Nat} (hx : VR ρ x x') (h : oextract x i = some v) :
    ∃ v', (Instr.extract x' i).run P w = .ok v' w ∧ VR ρ v v' := by
  unfold oextract at h
  cases hx with
  | tuple hl =>
    simp only at h
    obtain ⟨v', e, r⟩ := hl.get h
    exact ⟨v', by simp [Instr.extract, e], r⟩
  | _ => simp at h

theorem makeInterface_sound {t : TypeId} {x x' v : Value} (hx : VR ρ x x') (h : omakeInterface P t x = some v) :
    ∃ v', (Instr.makeInterface t x').run P w = .ok v' w ∧ VR ρ v v' := by
  unfold omakeInterface at h
  cases hd : P.underlying t with
  | none => simp [hd] at h
  | some d =>
    refine ⟨.iface t x', ?_, ?_⟩
    · cases d <;> simp [hd] at h <;> simp [Instr.makeInterface, run_underlying hd]
    · cases d <;> simp [hd] at h <;> (subst h; exact .iface _ hx)

theorem typeAssert_iface {xt t t' : TypeId} {u : Value} {ok : Bool} {d : TypeDesc} (hd : P.underlying t = some d) (hni : ∀ m, d ≠ .interface m) :
    (Instr.typeAssert (.iface t' u) xt t ok).run P w = if t' = t then .ok (if ok then .tuple #[u, .bool true] else u) w
      else if ok then ((zeroValue t).run P w).andThen fun z w => .ok (.tuple #[z, .bool false]) w else (runtimePanic (.typeAssertion (some xt) (some t') t "") : Sem Value).run P w := by
  cases d with
  | interface m => exact absurd rfl (hni m)
  | _ =>
    simp only [Instr.typeAssert, Sem.run_bind, run_underlying hd, Result.andThen_ok]
    by_cases h1 : t' = t
    · rw [if_pos h1, if_pos h1]; cases ok <;> rfl
    · rw [if_neg h1, if_neg h1]; cases ok <;> simp

theorem typeAssert_nil {xt t : TypeId} {d : TypeDesc} (hd : P.underlying t = some d) (hni : ∀ m, d ≠ .interface m) :
    (Instr.typeAssert .nilIface xt t true).run P w = ((zeroValue t).run P w).andThen fun z w => .ok (.tuple #[z, .bool false]) w := by
  cases d with
  | interface m => exact absurd rfl (hni m)
  | _ => simp [Instr.typeAssert, run_underlying hd]

theorem typeAssert_sound {xt t : TypeId} {x x' v : Value} {ok : Bool} (hx : VR ρ x x') (h : otypeAssert P x t ok = some v) :
    ∃ v', (Instr.typeAssert x' xt t ok).run P w = .ok v' w ∧ VR ρ v v' := by
  unfold otypeAssert at h
  cases hd : P.underlying t with
  | none => simp [hd] at h
  | some d =>
    have hni : ∀ m, d ≠ .interface m := by rintro m rfl; simp [hd] at h
    have h' : tassert P x t ok = some v := by
      rw [hd] at h
      cases d <;> first | exact absurd rfl (hni _) | exact h
    unfold tassert at h'
    clear h
    cases hx with
    | iface t' hv =>
      rw [typeAssert_iface hd hni]
      cases ok with
      | false =>
        simp only at h' ⊢
        split at h'
        · rename_i he; cases h'; exact ⟨_, by rw [if_pos he]; rfl, hv⟩
        · cases h'
      | true =>
        simp only at h' ⊢
        split at h'
        · rename_i he; cases h'; exact ⟨_, by rw [if_pos he]; rfl, .tuple (.cons hv (.cons (.bool _) .nil))⟩
        · rename_i he
          cases hz : zeroA P t with
          | none => simp [hz] at h'
          | some z =>
            simp only [hz, Option.some.injEq] at h'
            subst h'
            obtain ⟨hf, hr⟩ := zeroA_spec (w := w) hz
            exact ⟨_, by rw [if_neg he, if_pos trivial, hr]; rfl, .tuple (.cons (.of_flat hf) (.cons (.bool _) .nil))⟩
    | nilIface =>
      cases ok with
      | false => simp at h'
      | true =>
        simp only at h' ⊢
        cases hz : zeroA P t with
        | none => simp [hz] at h'
        | some z =>
          simp only [hz, Option.some.injEq] at h'
          subst h'
          obtain ⟨hf, hr⟩ := zeroA_spec (w := w) hz
          exact ⟨_, by rw [typeAssert_nil hd hni, hr]; rfl, .tuple (.cons (.of_flat hf) (.cons (.bool _) .nil))⟩
    | _ => simp at h'

theorem len_sound {t : TypeId} {x x' v : Value} (hx : VR ρ x x') (h : olen P t x = some v) :
    ∃ v', (Builtin.len_ #[t] 0 #[x']).run P w = .ok v' w ∧ VR ρ v v' := by
  unfold olen at h
  cases hd : P.underlying t with
  | none => simp [hd] at h
  | some d =>
    cases d
    case string => simp only [hd] at h; cases hx <;> simp at h; subst h; exact ⟨_, by simp [Builtin.len_, run_underlying hd]; rfl, .int _ _⟩
    case slice e => simp only [hd] at h; cases hx <;> simp at h <;> (subst h; exact ⟨_, by simp [Builtin.len_, run_underlying hd]; rfl, .int _ _⟩)
    case array n e => simp only [hd, Option.some.injEq] at h; subst h; exact ⟨_, by simp [Builtin.len_, run_underlying hd]; rfl, .int _ _⟩
    case map k e => simp only [hd] at h; cases hx <;> simp at h; subst h; exact ⟨_, by simp [Builtin.len_, run_underlying hd]; rfl, .int _ _⟩
    all_goals simp [hd] at h

theorem nilCheck_sound {x x' v : Value} (hx : VR ρ x x') (h : onilCheck x = some v) : (∃ a, x' = .pointer (some a)) ∧ v = x := by
  unfold onilCheck at h
  cases hx with
  | ptr hl => simp at h; exact ⟨⟨_, rfl⟩, h.symm⟩
  | _ => simp at h

/-! ### x[l:h:m] -/
theorem bound_some {d k : Nat} {v v' : Value} (hr : VR ρ v v') (h : bound d (some v) = some k) : ∃ kd n, v' = .int kd n ∧ 0 ≤ n ∧ n.toNat = k := nat_of_inat hr h

theorem sliceBound_run {kd : IntKind} {n : Int} {y k : Nat} {c : BoundsCode} (h0 : 0 ≤ n) (hk : n.toNat = k) (hy : k ≤ y) :
    (Instr.sliceBound (.int kd n) y c).run P w = .ok k w := by
  have : n ≤ (y : Int) := by omega
  simp [Instr.sliceBound, asIntOf, h0, this, hk]

/-- An optional operand's value. -/
inductive OR (ρ : Ren) : Option Value → Option Value → Prop
  | none : OR ρ none none
  | some {v v' : Value} (h : VR ρ v v') : OR ρ (some v) (some v')

theorem bounds_run {isS : Bool} {len cap l h m : Nat} {lo hi mx lo' hi' mx' : Option Value} (hl : OR ρ lo lo') (hh : OR ρ hi hi') (hm : OR ρ mx mx')
    (el : bound 0 lo = some l) (eh : bound len hi = some h) (em : bound cap mx = some m) (hx : mx.isSome = true → hi.isSome = true)
    (h1 : l ≤ h) (h2 : h ≤ m) (h3 : m ≤ cap) : (Instr.sliceBounds isS len cap lo' hi' mx').run P w = .ok (l, h, m) w := by
  unfold Instr.sliceBounds
  cases hm with
  | none =>
    simp only [bound, Option.some.injEq] at em
    subst em
    cases hh with
    | none =>
      simp only [bound, Option.some.injEq] at eh
      subst eh
      cases hl with
      | none => simp only [bound, Option.some.injEq] at el; subst el; simp
      | some hv => obtain ⟨kd, n, rfl, h0, hk⟩ := bound_some hv el; simp [sliceBound_run h0 hk h1]
    | some hv =>
      obtain ⟨kd, n, rfl, h0, hk⟩ := bound_some hv eh
      cases hl with
      | none => simp only [bound, Option.some.injEq] at el; subst el; simp [sliceBound_run h0 hk h2]
      | some hv' => obtain ⟨kd', n', rfl, h0', hk'⟩ := bound_some hv' el; simp [sliceBound_run h0 hk h2, sliceBound_run h0' hk' h1]
  | some hw =>
    obtain ⟨kd2, n2, rfl, h02, hk2⟩ := bound_some hw em
    cases hh with
    | none => simp at hx
    | some hv =>
      obtain ⟨kd, n, rfl, h0, hk⟩ := bound_some hv eh
      cases hl with
      | none => simp only [bound, Option.some.injEq] at el; subst el; simp [sliceBound_run h02 hk2 h3, sliceBound_run h0 hk h2]
      | some hv' => obtain ⟨kd', n', rfl, h0', hk'⟩ := bound_some hv' el; simp [sliceBound_run h02 hk2 h3, sliceBound_run h0 hk h2, sliceBound_run h0' hk' h1]

theorem sliceString_run {t : TypeId} {s : ByteArray} {l h : Nat} {lo hi lo' hi' : Option Value} (hd : P.underlying t = some .string) (hl : OR ρ lo lo') (hh : OR ρ hi hi')
    (el : bound 0 lo = some l) (eh : bound s.size hi = some h) (h1 : l ≤ h) (h2 : h ≤ s.size) :
    (Instr.sliceAt t (.string s) lo' hi' none).run P w = .ok (.string (s.extract l h)) w := by
  have hb := bounds_run (P := P) (w := w) (isS := false) hl hh (.none : OR ρ none none) el eh (m := s.size) rfl (by simp) h1 h2 (Nat.le_refl _)
  simp [Instr.sliceAt, run_underlying hd, Instr.slice, hb]

theorem sliceSlice_run {t e : TypeId} {z : Nat} {a : Option Addr} {len cap l h m : Nat} {lo hi mx lo' hi' mx' : Option Value} (hd : P.underlying t = some (.slice e)) (hz : sizeOfA P e = some z)
    (hl : OR ρ lo lo') (hh : OR ρ hi hi') (hm : OR ρ mx mx')
    (el : bound 0 lo = some l) (eh : bound len hi = some h) (em : bound cap mx = some m) (hx : mx.isSome = true → hi.isSome = true)
    (h1 : l ≤ h) (h2 : h ≤ m) (h3 : m ≤ cap) :
    (Instr.sliceAt t (.slice a len cap) lo' hi' mx').run P w = .ok (.slice (if m = l then a else a.map (·.add (l * z))) (h - l) (m - l)) w := by
  have hb := bounds_run (P := P) (w := w) (isS := true) hl hh hm el eh em hx h1 h2 h3
  simp [Instr.sliceAt, run_underlying hd, Instr.slice, hb, run_sizeOf hz]

theorem OR.isSome {o o' : Option Value} (h : OR ρ o o') : o'.isSome = o.isSome := by cases h <;> rfl

theorem slice_sound {t : TypeId} {x x' v : Value} {lo hi mx lo' hi' mx' : Option Value} (hx : VR ρ x x') (hl : OR ρ lo lo') (hh : OR ρ hi hi') (hm : OR ρ mx mx')
    (h : oslice P t x lo hi mx = some v) : ∃ v', (Instr.sliceAt t x' lo' hi' mx').run P w = .ok v' w ∧ VR ρ v v' := by
  unfold oslice at h
  cases hd : P.underlying t with
  | none => simp [hd] at h
  | some d =>
    cases d
    case string =>
      simp only [hd] at h
      cases hx <;> simp only at h <;> try (cases h; done)
      rename_i s
      cases mx with
      | some _ => simp at h
      | none =>
        cases hm
        cases el : bound 0 lo with
        | none => simp [el] at h
        | some l =>
          cases eh : bound s.size hi with
          | none => simp [el, eh] at h
          | some hh' =>
            simp only [el, eh] at h
            split at h
            · rename_i hc; cases h; exact ⟨_, sliceString_run hd hl hh el eh hc.1 hc.2, .string _⟩
            · cases h
    case slice e =>
      simp only [hd] at h
      cases hx <;> simp only at h <;> try (cases h; done)
      case nilslice =>
        cases hz : sizeOfA P e with
        | none => simp [hz] at h
        | some z =>
          simp only [hz] at h
          split at h
          · rename_i e1 e2 e3 _
            split at h
            · cases h
            · rename_i hs
              cases h
              refine ⟨_, sliceSlice_run hd hz hl hh hm e1 e2 e3 ?_ (Nat.le_refl _) (Nat.le_refl _) (Nat.le_refl _), ?_⟩
              · intro hx; cases hi <;> simp_all
              · simpa using VR.nilslice
          · cases h
      case ghost a c =>
        cases hz : sizeOfA P e with
        | none => simp [hz] at h
        | some z =>
          simp only [hz] at h
          split at h
          · rename_i e0 e1 e2
            cases h
            cases hm
            exact ⟨_, sliceSlice_run hd hz hl hh .none e1 e2 (m := c) rfl (by simp) (Nat.le_refl _) (Nat.zero_le _) (Nat.le_refl _), .ghost _ _⟩
          · cases h
      case sliceK i o n c l0 hl0 =>
        cases hz : sizeOfA P e with
        | none => simp [hz] at h
        | some z =>
          cases el : bound 0 lo with
          | none => simp [hz, el] at h
          | some l =>
            cases eh : bound n hi with
            | none => simp [hz, el, eh] at h
            | some hh' =>
              cases em : bound c mx with
              | none => simp [hz, el, eh, em] at h
              | some m =>
                simp only [hz, el, eh, em] at h
                split at h
                · rename_i hc
                  cases h
                  refine ⟨_, sliceSlice_run hd hz hl hh hm el eh em hc.1 hc.2.1 hc.2.2.1 hc.2.2.2, ?_⟩
                  by_cases hml : m = l
                  · simp only [hml, if_true]; exact .sliceK hl0
                  · simp only [hml, if_false, Option.map_some, addr_add]; rw [Nat.add_assoc]; exact .sliceK hl0
                · cases h
      case sliceT i o n c z l0 hl0 hz0 hn hcap =>
        cases hz : sizeOfA P e with
        | none => cases mx <;> simp [hz] at h
        | some y =>
          cases el : bound 0 lo with
          | none => cases mx <;> simp [hz, el] at h
          | some l =>
            cases eh : bound n hi with
            | none => cases mx <;> simp [hz, el, eh] at h
            | some hh' =>
              cases mx with
              | some mv =>
                cases em : bound 0 (some mv) with
                | none => simp [hz, el, eh, em] at h
                | some m =>
                  simp only [hz, el, eh, em] at h
                  split at h
                  · rename_i hc
                    cases h
                    refine ⟨_, sliceSlice_run (m := m) hd hz hl hh hm el eh (by simpa [bound] using em) (fun _ => hc.1) hc.2.1 hc.2.2.1 (by omega), ?_⟩
                    by_cases hml : m = l
                    · simp only [hml, if_true]; exact .sliceK hl0
                    · simp only [hml, if_false, Option.map_some, addr_add]; rw [Nat.add_assoc]; exact .sliceK hl0
                  · cases h
              | none =>
                simp only [hz, el, eh] at h
                cases hm
                split at h
                · rename_i hc
                  obtain ⟨rfl, hc1, hc2⟩ := hc
                  refine ⟨_, sliceSlice_run (m := c) hd hz hl hh .none el eh rfl (by simp) hc1 (by omega) (Nat.le_refl _), ?_⟩
                  split at h
                  · rename_i h0
                    subst h0
                    cases h
                    have : (if c = 0 then some (⟨l0.block, l0.base + o, none⟩ : Addr) else Option.map (fun x : Addr => x.add (0 * (z + 1))) (some ⟨l0.block, l0.base + o, none⟩)) = some ⟨l0.block, l0.base + o, none⟩ := by
                      split <;> simp [addr_add]
                    rw [this, Nat.sub_zero, Nat.sub_zero]
                    exact .sliceT hl0 hz0 (by omega) hcap
                  · rename_i h0
                    split at h
                    · rename_i hln
                      cases h
                      have : hh' - l = 0 := by omega
                      rw [this]
                      exact .ghost _ _
                    · rename_i hln
                      cases h
                      rw [if_neg (by omega)]
                      simp only [Option.map_some, addr_add]
                      rw [Nat.add_assoc]
                      refine .sliceT hl0 hz0 (by omega) ?_
                      rw [← hcap]
                      have : c = l + (c - l) := by omega
                      conv => rhs; rw [this, Nat.add_mul]
                      omega
                · cases h
    all_goals simp [hd] at h

/-! ### Operands -/
theorem ask_sound {τ : Env} {a : Act} (ht : TR ρ τ a.tmps) (hg : ∀ g, g < P.globals.size → ∃ l, ρ g = some l ∧ l.block = g ∧ l.base = 0) {x : Operand} {v : Value}
    (h : ask P τ x = some v) : VR ρ v (a.eval x) := by
  cases x with
  | tmp t =>
    simp only [ask] at h
    obtain ⟨v', e, r⟩ := ht.get t _ h
    simpa [Act.eval, e] using r
  | const u => simp only [ask] at h; split at h <;> simp_all [Act.eval]; exact .of_flat (by assumption)
  | global g =>
    simp only [ask] at h
    split at h
    · rename_i hlt
      cases h
      obtain ⟨l, hl, hb, hs⟩ := hg g hlt
      have := VR.ptr (o := 0) hl
      rw [hb, hs] at this
      exact this
    · cases h
  | func f => simp only [ask, Option.some.injEq] at h; subst h; exact .func f .nil .nil

theorem asks_sound {τ : Env} {a : Act} (ht : TR ρ τ a.tmps) (hg : ∀ g, g < P.globals.size → ∃ l, ρ g = some l ∧ l.block = g ∧ l.base = 0) :
    ∀ {l : List Operand} {vs : List Value}, asks P τ l = some vs → VRs ρ vs (l.map a.eval)
  | [], _, h => by simp only [asks, Option.some.injEq] at h; subst h; exact .nil
  | x :: l, vs, h => by
    simp only [asks] at h
    split at h
    · cases h
    · rename_i v hv
      split at h
      · cases h
      · rename_i us hus
        cases h
        exact .cons (ask_sound ht hg hv) (asks_sound ht hg hus)

/-- Parts of a literal: each at its number. -/
inductive PR (ρ : Ren) : List (Nat × Value) → List (Nat × Value) → Prop
  | nil : PR ρ [] []
  | cons {i : Nat} {v v' : Value} {l l' : List (Nat × Value)} (h : VR ρ v v') (t : PR ρ l l') : PR ρ ((i, v) :: l) ((i, v') :: l')

theorem asksP_sound {τ : Env} {a : Act} (ht : TR ρ τ a.tmps) (hg : ∀ g, g < P.globals.size → ∃ l, ρ g = some l ∧ l.block = g ∧ l.base = 0) :
    ∀ {l : List (Nat × Operand)} {vs : List (Nat × Value)}, asksP P τ l = some vs → PR ρ vs (l.map fun p => (p.1, a.eval p.2))
  | [], _, h => by simp only [asksP, Option.some.injEq] at h; subst h; exact .nil
  | (i, x) :: l, vs, h => by
    simp only [asksP] at h
    split at h
    · cases h
    · rename_i v hv
      split at h
      · cases h
      · rename_i us hus
        cases h
        exact .cons (ask_sound ht hg hv) (asksP_sound ht hg hus)

/-! ### unsafe.SliceData -/
theorem sliceData_sound {ts : Array TypeId} {ty : TypeId} {x x' v : Value} (hx : VR ρ x x') (h : osliceData x = some v) : ∃ v', (Builtin.unsafeSliceData_ ts ty #[x']).run P w = .ok v' w ∧ VR ρ v v' := by
  have row : ∀ (a : Addr) (n c : Nat), c ≠ 0 → (Builtin.unsafeSliceData_ ts ty #[.slice (some a) n c]).run P w = .ok (.pointer (some a)) w := fun a n c hc => by
    obtain ⟨k, rfl⟩ : ∃ k, c = k + 1 := ⟨c - 1, by omega⟩
    rfl
  cases hx <;> simp only [osliceData] at h <;> try (cases h; done)
  case nilslice => cases h; exact ⟨.pointer none, rfl, .nilptr⟩
  case sliceK i o n c l hl =>
    split at h
    · cases h
    · rename_i hc; cases h; exact ⟨_, row _ _ _ hc, .ptr hl⟩
  case sliceT i o n c z l hl hz hn hc =>
    split at h
    · cases h
    · rename_i hn0; cases h; exact ⟨_, row _ _ _ (by omega), .ptr hl⟩

/-! ### Literals -/
theorem fold_set (off : Nat) : ∀ (vs : List Value) (k : Nat) (cs : List Value), off + k + vs.length ≤ cs.length →
    ((vs.zipIdx k).foldl (fun cs (p : Value × Nat) => cs.set (off + p.2) p.1) cs) = cs.take (off + k) ++ vs ++ cs.drop (off + k + vs.length)
  | [], k, cs, _ => by simp
  | v :: vs, k, cs, h => by
    simp only [List.length_cons] at h
    rw [List.zipIdx_cons, List.foldl_cons, fold_set off vs (k + 1) _ (by simp; omega)]
    simp only [List.length_cons]
    have h1 : (cs.set (off + k) v).take (off + (k + 1)) = cs.take (off + k) ++ [v] := by
      rw [List.take_set, show off + (k + 1) = (off + k) + 1 from rfl, List.take_succ_eq_append_getElem (by omega), List.set_append_right _ _ (by simp; omega)]
      simp [List.length_take, Nat.min_eq_left (show off + k ≤ cs.length by omega)]
    have h2 : (cs.set (off + k) v).drop (off + (k + 1) + vs.length) = cs.drop (off + k + (vs.length + 1)) := by
      rw [List.drop_set_of_lt (by omega)]
      congr 1; omega
    rw [h1, h2]
    simp

theorem fold_setA (off : Nat) (vs cs : Array Value) (h : off + vs.size ≤ cs.size) :
    (vs.zipIdx.foldl (fun cs (p : Value × Nat) => cs.setIfInBounds (off + p.2) p.1) cs).toList = cs.toList.take off ++ vs.toList ++ cs.toList.drop (off + vs.size) := by
  have key : ∀ (l : List (Value × Nat)) (cs : Array Value), (l.foldl (fun cs (p : Value × Nat) => cs.setIfInBounds (off + p.2) p.1) cs).toList = l.foldl (fun cs (p : Value × Nat) => cs.set (off + p.2) p.1) cs.toList := by
    intro l
    induction l with
    | nil => intro cs; rfl
    | cons p l ih => intro cs; simp only [List.foldl_cons]; rw [ih, Array.toList_setIfInBounds]
  rw [← Array.foldl_toList, key]
  have := fold_set off vs.toList 0 cs.toList (by simpa using h)
  simpa using this

theorem fill_sound {place : Nat → Option (Nat × Nat)} : ∀ {parts parts' : List (Nat × Value)} {cells cs : List Value} {cells' : Array Value}, PR ρ parts parts' → VRs ρ cells cells'.toList →
    ifill place cells parts = some cs → ∃ C, Instr.fill place cells' parts' = some C ∧ VRs ρ cs C.toList
  | _, _, cells, cs, cells', .nil, hc, h => by simp only [ifill, Option.some.injEq] at h; subst h; exact ⟨cells', rfl, hc⟩
  | _, _, cells, cs, cells', .cons (i := i) (v := v) (v' := v') hv t, hc, h => by
    simp only [ifill] at h
    cases hp : place i with
    | none => simp [hp] at h
    | some q =>
      obtain ⟨off, size⟩ := q
      simp only [hp] at h
      split at h
      · rename_i hcond
        obtain ⟨h1, h2⟩ := hcond
        have hlen := hv.cells.length
        have hl2 := hc.length
        simp only [Array.length_toList] at hlen hl2
        have hs : v'.cells.size = size := by rw [hlen, ← h1]; simp
        have hle : off + v'.cells.size ≤ cells'.size := by rw [hs, hl2]; exact h2
        have hcs : VRs ρ (cells.take off ++ v.cells.toList ++ cells.drop (off + size)) (v'.cells.zipIdx.foldl (fun cs (c, j) => cs.setIfInBounds (off + j) c) cells').toList := by
          have := fold_setA off v'.cells cells' hle
          rw [this, hs]
          exact ((hc.take _).append hv.cells).append (hc.drop _)
        obtain ⟨C, e, r⟩ := fill_sound (place := place) t hcs h
        refine ⟨C, ?_, r⟩
        simp only [Instr.fill, hp]
        rw [if_neg (by simp [hs]; omega)]
        exact e
      · cases h

theorem places_sound {w : World} : ∀ {l : List Field} {pl : List (Nat × Nat)}, placesA P l = some pl →
    (l.mapM (fun f => do pure (f.offset, ← sizeOf f.type) : Field → Sem (Nat × Nat))).run P w = .ok pl w
  | [], pl, h => by simp only [placesA, Option.some.injEq] at h; subst h; rfl
  | f :: l, pl, h => by
    simp only [placesA] at h
    split at h
    · cases h
    · rename_i n hn
      split at h
      · cases h
      · rename_i k hk
        cases h
        have ih := places_sound (w := w) hk
        simp at ih
        simp [List.mapM_cons, run_sizeOf hn, ih]

theorem build_sound {t : TypeId} {parts parts' : List (Nat × Value)} {v : Value} (hp : PR ρ parts parts') (h : obuild P t parts = some v) :
    ∃ v', (Instr.build t ⟨parts'⟩).run P w = .ok v' w ∧ VR ρ v v' := by
  unfold obuild at h
  cases hz : zeroA P t with
  | none => simp [hz] at h
  | some z =>
    obtain ⟨hf, hzr⟩ := zeroA_spec (w := w) hz
    have hzc : VRs ρ z.cells.toList z.cells.toList := .of_flats (flats_cells hf)
    cases hd : P.underlying t with
    | none => simp [hz, hd] at h
    | some d =>
      cases d
      case struct fs =>
        simp only [hz, hd] at h
        cases hpl : placesA P fs.toList with
        | none => simp [hpl] at h
        | some pl =>
          simp only [hpl] at h
          cases hc : ifill (fun x => pl[x]?) z.cells.toList parts with
          | none => simp [hc] at h
          | some cs =>
            simp only [hc, Option.some.injEq] at h
            subst h
            obtain ⟨C, e, r⟩ := fill_sound hp hzc hc
            have hm : (fs.mapM (fun f => do pure (f.offset, ← sizeOf f.type) : Field → Sem (Nat × Nat))).run P w = .ok ⟨pl⟩ w := by
              have := places_sound (w := w) hpl
              rw [Array.mapM_eq_mapM_toList]
              simp at this ⊢
              simp [this]
            refine ⟨.agg C, ?_, by obtain ⟨C⟩ := C; exact .agg r⟩
            have e' : Instr.fill (fun x => (⟨pl⟩ : Array (Nat × Nat))[x]?) z.cells parts' = some C := by simpa using e
            simp at hm
            simp [Instr.build, run_underlying hd, hzr, hm]
            simp at e'
            simp [e']
      case array n e =>
        simp only [hz, hd] at h
        cases hs : sizeOfA P e with
        | none => simp [hs] at h
        | some y =>
          simp only [hs] at h
          cases hc : ifill (fun i => some (i * y, y)) z.cells.toList parts with
          | none => simp [hc] at h
          | some cs =>
            simp only [hc, Option.some.injEq] at h
            subst h
            obtain ⟨C, e, r⟩ := fill_sound hp hzc hc
            refine ⟨.agg C, ?_, by obtain ⟨C⟩ := C; exact .agg r⟩
            simp [Instr.build, run_underlying hd, hzr, run_sizeOf hs, e]
      all_goals simp [hz, hd] at h

/-! ### Two operands -/
theorem flat_and {x y : Value} (h : (flat x && flat y) = true) : flat x = true ∧ flat y = true := by simpa using h

theorem eqGuard_run {op : BinOp} {t : TypeId} {xo yo : Operand} {u v : Value} (h1 : ∀ a b, ¬ (u = .agg a ∧ v = .agg b)) (h2 : ¬ (u = .nilIface ∧ v = .nilIface)) :
    (eqGuard op t xo yo u v).run P w = .ok () w := by
  unfold eqGuard
  cases op <;> first
    | rfl
    | (simp only [Bool.not_true, Bool.false_eq_true, if_false]
       split
       · exact absurd ⟨rfl, rfl⟩ h2
       · rename_i a b; exact absurd ⟨rfl, rfl⟩ (h1 a b)
       · rfl)

theorem equal_run (t : TypeId) (x y : Value) : Op.equal t x y = Op.equalIn (9999 + 1) t x y := rfl

theorem binNil_sound {d : TypeDesc} {t : TypeId} {xo yo : Operand} {x y x' y' : Value} {b : Bool} (hd : P.underlying t = some d) (hx : VR ρ x x') (hy : VR ρ y y') (h : eqNil d x y = some b) :
    (do eqGuard .eql t xo yo x' y'; binOp .eql t x' y').run P w = .ok (.bool b) w ∧ (do eqGuard .neq t xo yo x' y'; binOp .neq t x' y').run P w = .ok (.bool (!b)) w := by
  have key : (Op.equal t x' y').run P w = .ok b w ∧ (∀ a b, ¬ (x' = .agg a ∧ y' = .agg b)) ∧ ¬ (x' = .nilIface ∧ y' = .nilIface) ∧
      binOp .eql t x' y' = (do pure (.bool (← Op.equal t x' y'))) ∧ binOp .neq t x' y' = (do pure (.bool (!(← Op.equal t x' y')))) := by
    cases hx <;> cases hy <;> simp only [eqNil] at h <;> (try (cases h; done)) <;> cases d <;> simp only at h <;> (try (cases h; done)) <;> (try simp only [Option.some.injEq, reduceCtorEq, Nat.succ_ne_zero, if_false] at h) <;> (try (cases h; done)) <;>
      (subst h
       refine ⟨?_, by simp, by simp, by rfl, by rfl⟩
       rw [equal_run]
       generalize 9999 = N
       simp only [Op.equalIn, Sem.run_bind, run_underlying hd, Result.andThen_ok]
       rfl)
  obtain ⟨k1, k2, k3, k4, k5⟩ := key
  constructor
  · rw [Sem.run_bind, eqGuard_run k2 k3, k4]; simp [k1]
  · rw [Sem.run_bind, eqGuard_run k2 k3, k5]; simp [k1]

theorem bin_sound {op : BinOp} {t : TypeId} {xo yo : Operand} {x y x' y' v : Value} (hx : VR ρ x x') (hy : VR ρ y y') (h : obin P op t xo yo x y = some v) :
    ∃ v', (do eqGuard op t xo yo x' y'; binOp op t x' y').run P w = .ok v' w ∧ VR ρ v v' := by
  unfold obin at h
  split at h
  · rename_i hf
    obtain ⟨hfx, hfy⟩ := flat_and hf
    rw [hx.eq_of_flat hfx, hy.eq_of_flat hfy]
    exact pureVal_sound h
  · cases hd : P.underlying t with
    | none => simp [hd] at h
    | some d =>
      simp only [hd] at h
      split at h
      · rename_i b e; cases h; exact ⟨_, (binNil_sound hd hx hy e).1, .bool _⟩
      · rename_i b e; cases h; exact ⟨_, (binNil_sound hd hx hy e).2, .bool _⟩
      · cases h

theorem or_of_map {τ : Env} {a : Act} (ht : TR ρ τ a.tmps) (hg : ∀ g, g < P.globals.size → ∃ l, ρ g = some l ∧ l.block = g ∧ l.base = 0) {o : Option Operand}
    (h : o.map (ask P τ) ≠ some none) : OR ρ (o.map (ask P τ)).join (o.map a.eval) := by
  cases o with
  | none => exact .none
  | some x =>
    cases hx : ask P τ x with
    | none => simp [hx] at h
    | some v => simp only [Option.map_some, hx, Option.join_some]; exact .some (ask_sound ht hg hx)

/-- **An operation that asks memory nothing**: the model gives what stands for the abstract machine's answer, and leaves the world alone. -/
theorem apure_sound {τ : Env} {a : Act} {o : Oper} {v : Value} (ht : TR ρ τ a.tmps) (hg : ∀ g, g < P.globals.size → ∃ l, ρ g = some l ∧ l.block = g ∧ l.base = 0)
    (h : apure P τ o.op = some v) : ∃ v', (execOp a.eval o).run P w = .ok (.value v') w ∧ VR ρ v v' := by
  obtain ⟨dst, op, type, pos, after, guard⟩ := o
  simp only at h
  have fin : ∀ {s : Sem Value}, (∃ v', s.run P w = .ok v' w ∧ VR ρ v v') → ∃ v', (do pure (Next.value (← s)) : Sem Next).run P w = .ok (.value v') w ∧ VR ρ v v' := by
    rintro s ⟨v', e, r⟩
    exact ⟨v', by simp [e], r⟩
  cases op <;> simp only [apure] at h <;> try (cases h; done)
  case move x => exact ⟨_, rfl, ask_sound ht hg h⟩
  case assign x => exact ⟨_, rfl, ask_sound ht hg h⟩
  case pick c x y =>
    cases hc : ask P τ c with
    | none => simp [hc] at h
    | some cv =>
      have hcr := ask_sound ht hg hc
      cases hcr' : cv with
      | bool b =>
        subst hcr'
        have hb : a.eval c = .bool b := hcr.eq_of_flat rfl
        cases b with
        | true => simp only [hc] at h; exact ⟨a.eval x, by simp [execOp, hb, asBool], ask_sound ht hg h⟩
        | false => simp only [hc] at h; exact ⟨a.eval y, by simp [execOp, hb, asBool], ask_sound ht hg h⟩
      | _ => subst hcr'; simp [hc] at h
  case build t ps =>
    cases hp : asksP P τ ps.toList with
    | none => simp [hp] at h
    | some vs =>
      simp only [hp] at h
      have := build_sound (w := w) (asksP_sound ht hg hp) h
      refine fin (s := Instr.build t (ps.map fun (i, x) => (i, a.eval x))) ?_
      have e : (ps.map fun (i, x) => (i, a.eval x)) = ⟨ps.toList.map fun p => (p.1, a.eval p.2)⟩ := by
        apply Array.toList_inj.1; simp
      rw [e]; exact this
  case nilCheck x =>
    cases hx : ask P τ x with
    | none => simp [hx] at h
    | some u =>
      simp only [hx] at h
      have hr := ask_sound ht hg hx
      obtain ⟨⟨ad, e⟩, rfl⟩ := nilCheck_sound hr h
      refine ⟨_, ?_, hr⟩
      simp only [execOp, e]
      rfl
  case binOp op t x y yt =>
    cases hx : ask P τ x with
    | none => simp [hx] at h
    | some u =>
      cases hy : ask P τ y with
      | none => simp [hx, hy] at h
      | some u' =>
        simp only [hx, hy] at h
        exact fin (bin_sound (ask_sound ht hg hx) (ask_sound ht hg hy) h)
  case unOp op t x =>
    cases hx : ask P τ x with
    | none => simp [hx] at h
    | some u =>
      simp only [hx] at h
      split at h
      · rename_i hf
        refine fin (s := Op.unary op (a.eval x)) ?_
        rw [(ask_sound ht hg hx).eq_of_flat hf]
        exact pureVal_sound h
      · cases h
  case convert s d x =>
    cases hx : ask P τ x with
    | none => simp [hx] at h
    | some u =>
      simp only [hx] at h
      unfold oconv at h
      split at h
      · rename_i hf
        refine fin (s := convert s d (a.eval x)) ?_
        rw [(ask_sound ht hg hx).eq_of_flat hf]
        exact pureVal_sound h
      · cases h
  case makeInterface t x =>
    cases hx : ask P τ x with
    | none => simp [hx] at h
    | some u => simp only [hx] at h; exact fin (makeInterface_sound (ask_sound ht hg hx) h)
  case makeFunc fn x y =>
    cases hx : asks P τ x.toList with
    | none => cases fn <;> simp [hx] at h
    | some u =>
      cases hy : asks P τ y.toList with
      | none => cases fn <;> simp [hx, hy] at h
      | some u' =>
        cases fn with
        | func f =>
          simp only [hx, hy, Option.some.injEq] at h
          subst h
          have h1 := asks_sound ht hg hx
          have h2 := asks_sound ht hg hy
          refine ⟨.func (.func f) ⟨x.toList.map a.eval⟩ ⟨y.toList.map a.eval⟩, ?_, .func f h1 h2⟩
          have ex : x.map a.eval = ⟨x.toList.map a.eval⟩ := by apply Array.toList_inj.1; simp
          have ey : y.map a.eval = ⟨y.toList.map a.eval⟩ := by apply Array.toList_inj.1; simp
          simp only [execOp, Instr.makeFunc, ex, ey]
          rfl
        | _ => simp_all
  case slice t x lo hi mx =>
    cases hx : ask P τ x with
    | none => simp [hx] at h
    | some u =>
      simp only [hx] at h
      split at h
      · cases h
      · cases h
      · cases h
      · rename_i n1 n2 n3
        refine fin (s := Instr.sliceAt t (a.eval x) (lo.map a.eval) (hi.map a.eval) (mx.map a.eval)) (slice_sound (ask_sound ht hg hx) (or_of_map ht hg ?_) (or_of_map ht hg ?_) (or_of_map ht hg ?_) h)
        · exact fun e => n1 e
        · exact fun e => n2 e
        · exact fun e => n3 e
  case fieldAddr s x f =>
    cases hx : ask P τ x with
    | none => simp [hx] at h
    | some u => simp only [hx] at h; exact fin (fieldAddr_sound (ask_sound ht hg hx) h)
  case field s x f =>
    cases hx : ask P τ x with
    | none => simp [hx] at h
    | some u => simp only [hx] at h; exact fin (field_sound (ask_sound ht hg hx) h)
  case indexAddr t x i =>
    cases hx : ask P τ x with
    | none => simp [hx] at h
    | some u =>
      cases hy : ask P τ i with
      | none => simp [hx, hy] at h
      | some u' => simp only [hx, hy] at h; exact fin (indexAddr_sound (ask_sound ht hg hx) (ask_sound ht hg hy) h)
  case index t x i =>
    cases hx : ask P τ x with
    | none => simp [hx] at h
    | some u =>
      cases hy : ask P τ i with
      | none => simp [hx, hy] at h
      | some u' => simp only [hx, hy] at h; exact fin (index_sound (ask_sound ht hg hx) (ask_sound ht hg hy) h)
  case typeAssert x xt d ok =>
    cases hx : ask P τ x with
    | none => simp [hx] at h
    | some u => simp only [hx] at h; exact fin (typeAssert_sound (ask_sound ht hg hx) h)
  case extract x i =>
    cases hx : ask P τ x with
    | none => simp [hx] at h
    | some u => simp only [hx] at h; exact fin (extract_sound (ask_sound ht hg hx) h)
  case call c =>
    obtain ⟨callee, args, argTypes⟩ := c
    cases callee <;> (try (cases h; done))
    rename_i b
    have run1 : ∀ (s : Sem Value), (builtin b argTypes type (args.map fun | .const _ => true | _ => false) (args.map a.eval) : Sem Next) = (do pure (Next.value (← s)) : Sem Next) →
        (∃ v', s.run P w = .ok v' w ∧ VR ρ v v') → ∃ v', (execOp a.eval ⟨dst, .call ⟨.builtin b, args, argTypes⟩, type, pos, after, guard⟩).run P w = .ok (.value v') w ∧ VR ρ v v' := by
      intro s e hs
      have : execOp a.eval ⟨dst, .call ⟨.builtin b, args, argTypes⟩, type, pos, after, guard⟩ = (do pure (Next.value (← s)) : Sem Next) := by
        rw [← e]; rfl
      rw [this]; exact fin hs
    cases b <;> (try (cases h; done)) <;> (try simp only at h)
    case len =>
      split at h
      · rename_i x t hargs htys
        cases hx : ask P τ x with
        | none => simp [hx] at h
        | some u =>
          simp only [hx] at h
          have ha : args.map a.eval = #[a.eval x] := by apply Array.toList_inj.1; simp [hargs]
          have ht' : argTypes = #[t] := by apply Array.toList_inj.1; simp [htys]
          refine run1 (Builtin.len_ argTypes type (args.map a.eval)) rfl ?_
          rw [ha, ht']
          exact len_sound (ask_sound ht hg hx) h
      · cases h
    case unsafeSliceData =>
      split at h
      · rename_i x hargs
        cases hx : ask P τ x with
        | none => simp [hx] at h
        | some u =>
          simp only [hx] at h
          have ha : args.map a.eval = #[a.eval x] := by apply Array.toList_inj.1; simp [hargs]
          refine run1 (Builtin.unsafeSliceData_ argTypes type (args.map a.eval)) rfl ?_
          rw [ha]
          exact sliceData_sound (ask_sound ht hg hx) h
      · cases h
    case min =>
      cases hx : asks P τ args.toList with
      | none => simp [hx] at h
      | some us =>
        simp only [hx, omin] at h
        split at h
        · rename_i hf
          refine run1 (Builtin.min_ argTypes type (args.map a.eval)) rfl ?_
          have e := (asks_sound ht hg hx).eq_of_flats hf
          have : args.map a.eval = ⟨us⟩ := by apply Array.toList_inj.1; simp [← e]
          rw [this]
          exact pureVal_sound (s := Builtin.min_ #[] 0 ⟨us⟩) h
        · cases h
    case max =>
      cases hx : asks P τ args.toList with
      | none => simp [hx] at h
      | some us =>
        simp only [hx, omax] at h
        split at h
        · rename_i hf
          refine run1 (Builtin.max_ argTypes type (args.map a.eval)) rfl ?_
          have e := (asks_sound ht hg hx).eq_of_flats hf
          have : args.map a.eval = ⟨us⟩ := by apply Array.toList_inj.1; simp [← e]
          rw [this]
          exact pureVal_sound (s := Builtin.max_ #[] 0 ⟨us⟩) h
        · cases h

end
end Go.Bk
