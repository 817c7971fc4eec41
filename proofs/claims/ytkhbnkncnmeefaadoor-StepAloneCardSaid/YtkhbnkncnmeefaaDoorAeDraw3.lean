/-
  AE: drawn regions, third part: what the checks of an order say.
-/
import Derived.Test.YtkhbnkncnmeefaaDoorAeDraw2
namespace Go.AE

theorem abs_alloc {C : Cfg} {callf : Fn → List Value → AHeap → Option (Value × AHeap)} {ρ : Operand → Value} {o : Oper} {H H' : AHeap} {v : Value} (hk : kindA C.P o = some .alloc) (h : oper C callf ρ o H = some (v, H')) :
    ∃ ob, H' = H.push ob ∧ ∀ ty cells gen, ob ≠ .row ty cells gen true := by
  obtain ⟨dst, op, type, pos, after, guard⟩ := o
  cases op <;> simp only [kindA] at hk <;> simp only [oper, opA] at h <;> try (simp at hk; done)
  case alloc t =>
    unfold aalloc at h
    split at h
    · simp only [newRow, Option.some.injEq, Prod.mk.injEq] at h; exact ⟨_, h.2.symm, by rintro _ _ _ ⟨⟩⟩
    · simp at h
  case box t x =>
    unfold abox at h
    split at h
    · simp only [newRow, Option.some.injEq, Prod.mk.injEq] at h; exact ⟨_, h.2.symm, by rintro _ _ _ ⟨⟩⟩
    · simp at h
  case buildSlice t len ps =>
    unfold abuildSlice at h
    split at h
    · split at h
      · split at h
        · split at h
          · simp only [newSlice, Option.some.injEq, Prod.mk.injEq] at h; exact ⟨_, h.2.symm, by rintro _ _ _ ⟨⟩⟩
          · simp at h
        · simp at h
      · simp at h
    · simp at h
  case makeMap t r =>
    cases r with
    | some _ => simp at hk
    | none => simp only [Option.some.injEq, Prod.mk.injEq] at h; exact ⟨_, h.2.symm, by rintro _ _ _ ⟨⟩⟩
  case makeSlice t l k =>
    unfold amakeSlice at h
    split at h
    · split at h
      · split at h
        · simp only [newSlice, Option.some.injEq, Prod.mk.injEq] at h; exact ⟨_, h.2.symm, by rintro _ _ _ ⟨⟩⟩
        · simp at h
      · simp at h
    · simp at h
  case convert src dst x =>
    split at hk <;> try (simp at hk; done)
    rename_i e hs' hd
    unfold aconvert at h
    rw [hs', hd] at h
    generalize ρ x = a at h
    cases a <;> simp only at h <;> try (simp at h; done)
    split at h
    · split at h
      · simp only [newSlice, Option.some.injEq, Prod.mk.injEq] at h; exact ⟨_, h.2.symm, by rintro _ _ _ ⟨⟩⟩
      · simp at h
    · simp at h
  case call c =>
    obtain ⟨callee, args, argTypes⟩ := c
    cases callee with
    | builtin b => cases b <;> simp at hk
    | value f => simp at hk
    | invoke r m => simp at hk

end Go.AE
