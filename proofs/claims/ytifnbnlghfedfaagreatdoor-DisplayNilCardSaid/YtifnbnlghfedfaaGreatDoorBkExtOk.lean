/- FUNCTIONS WITHOUT A BODY, as the abstract machine has them: they are the model's. No condition. -/
import Derived.Test.YtifnbnlghfedfaaGreatDoorBkDraw
import Derived.KernelRfl
import Derived.Lib.MakeNoZero
namespace Go.Bk
open Go

section
variable {P : Program} {ρ : Ren} {H : AHeap} {w : World}

theorem find_makeNoZero {fn : Func} (h : fn.name = "internal/bytealg.MakeNoZero") : Extern.find fn = some (Extern.BytealgMakeNoZero.makeNoZero fn.params fn.resultTypes) := by
  have h1 : Extern.allGenericRows.lookup "internal/bytealg.MakeNoZero" = none := by kernel_rfl
  have h2 : Extern.allTypedRows.lookup "internal/bytealg.MakeNoZero" = some Extern.BytealgMakeNoZero.makeNoZero := by kernel_rfl
  unfold Extern.find
  simp only [h, h1, h2]
  rfl

theorem find_noEscape {fn : Func} (h : fn.name = "internal/abi.NoEscape") : Extern.find fn = some Extern.AbiNoEscape.same := by
  have h1 : Extern.allGenericRows.lookup "internal/abi.NoEscape" = none := by kernel_rfl
  have h2 : Extern.allTypedRows.lookup "internal/abi.NoEscape" = none := by kernel_rfl
  have h3 : Extern.allRows.lookup "internal/abi.NoEscape" = some Extern.AbiNoEscape.same := by kernel_rfl
  unfold Extern.find
  simp only [h, h1, h2, h3]
  rfl

theorem callFunc_ext {f : FuncId} {fn : Func} {args : List Value} {e : Array Value → Sem Value} (hng : NoCount P) (hf : P.funcs[f]? = some fn) (hb : fn.body = none) (hn : Extern.findNext fn = none) (he : Extern.find fn = some e) :
    (callFunc f ⟨args⟩).run P w = ((do pure (Next.value (← e ⟨args⟩))) : Sem Next).run P w := by
  unfold callFunc
  simp [hf, hng f fn hf, hb, hn, he]

theorem extA_ok (hng : NoCount P) : ExtOk P (extA P) := by
  intro f args H v H' ρ w args' fn hf hb h R ha
  unfold extA at h
  simp only [hf] at h
  cases hn : Extern.findNext fn with
  | some _ => simp [hn] at h
  | none =>
    simp only [hn] at h
    split at h
    · rename_i hname
      have he := find_makeNoZero hname
      split at h
      · rename_i n e hres
        split at h
        · rename_i hc
          obtain ⟨h0, hlt, hsz⟩ := hc
          cases hr0 : fn.resultTypes.toList with
          | nil => simp [hr0] at hres
          | cons t rest =>
            cases rest with
            | cons _ _ => simp [hr0] at hres
            | nil =>
              simp only [hr0, List.map_cons, List.map_nil, List.cons.injEq, and_true] at hres
              have hd := elemA_spec hres
              have hr : fn.resultTypes = #[t] := by apply Array.toList_inj.1; simp [hr0]
              cases ha with
              | cons ha1 ha2 =>
                cases ha2
                cases ha1
                simp only [ogrown, Option.some.injEq, Prod.mk.injEq] at h
                obtain ⟨rfl, rfl⟩ := h
                obtain ⟨cs, hrun, hcs⟩ := Go.Lib.run_makeNoZero (P := P) w fn.params t e hd n.toNat (by omega)
                have hw2 : (w.drew.drew).heap = w.heap := rfl
                have R2 : Rel P ρ H w.drew.drew := R.of_heap rfl
                let l : Loc := ⟨w.heap.size, 0, 1, cs.size⟩
                have he' := R2.ext_add l
                obtain ⟨R3, F3⟩ := R2.alloc (o := .cells [] e true) (l := l) (ob := .cells cs e) rfl (.opn hsz (by simp [l]) (by simp [l]) (by simp [l]) fun j v hj => by simp at hj)
                refine ⟨.slice (some ⟨w.heap.size, 0, none⟩) n.toNat cs.size, w.drew.drew.alloc (.cells cs e), ρ.add H.next l, ?_, ?_, R3, Fr.trans (Fr.of_heap (w := w) (w' := w.drew.drew) rfl rfl rfl rfl) F3⟩
                · rw [callFunc_ext hng hf hb hn he, hr]
                  have hn' : ((n.toNat : Nat) : Int) = n := Int.toNat_of_nonneg h0
                  rw [hn'] at hrun
                  simp [hrun]
                · have := VR.sliceT (ρ := ρ.add H.next l) (i := H.next) (o := 0) (n := n.toNat) (c := cs.size) (z := 0) (l := l) (by simp) (by simp [l]) hcs.1 (by simp [l])
                  simpa [l] using this
        · cases h
      · cases h
    · split at h
      · rename_i hname
        split at h
        · cases h
          cases ha with
          | cons ha1 ha2 =>
            cases ha2
            refine ⟨_, w, ρ, ?_, ha1, R, .refl _ _ _⟩
            rw [callFunc_ext hng hf hb hn (find_noEscape hname)]
            have hsame : ∀ v : Value, Extern.AbiNoEscape.same #[v] = pure v := fun _ => rfl
            simp [hsame]
        · cases h
      split at h
      · rename_i hfl
        cases he : Extern.find fn with
        | none => simp [he] at h
        | some e =>
          simp only [he] at h
          cases hp : pureVal P (e ⟨args⟩) with
          | none => simp [hp] at h
          | some u =>
            simp only [hp, Option.some.injEq, Prod.mk.injEq] at h
            obtain ⟨rfl, rfl⟩ := h
            have : args' = args := ha.eq_of_flats hfl
            subst this
            obtain ⟨v', e1, r⟩ := pureVal_sound (w := w) (ρ := ρ) hp
            exact ⟨v', w, ρ, by rw [callFunc_ext hng hf hb hn he]; simp [e1], r, R, .refl _ _ _⟩
      · cases h

end
end Go.Bk
