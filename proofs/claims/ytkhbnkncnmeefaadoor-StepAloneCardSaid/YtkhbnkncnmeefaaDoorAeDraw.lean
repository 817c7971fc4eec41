/-
  AE: drawn regions, first part: what an operation comes to depends on its operands alone; kinds.
-/
import Derived.Test.YtkhbnkncnmeefaaDoorAeSound
import Derived.Orders
namespace Go.AE

theorem map_parts_congr {ρ ρ' : Operand → Value} (ps : List (Nat × Operand)) (h : ∀ x ∈ ps.map (·.2), ρ x = ρ' x) : (ps.map fun (i, x) => (i, ρ x)) = (ps.map fun (i, x) => (i, ρ' x)) :=
  List.map_congr_left fun p hm => by
    obtain ⟨i, x⟩ := p
    simp only [h x (List.mem_map.2 ⟨(i, x), hm, rfl⟩)]

theorem opA_congr {C : Cfg} {ρ ρ' : Operand → Value} {o : Oper} (h : ∀ x ∈ o.op.operands, ρ x = ρ' x) (H : AHeap) : opA C ρ o H = opA C ρ' o H := by
  obtain ⟨dst, op, type, pos, after, guard⟩ := o
  cases op <;> simp only [Op.operands] at h <;> simp only [opA]
  case build t ps => rw [map_parts_congr ps.toList fun x hx => h x (by simpa using hx)]
  case buildSlice t n ps => rw [map_parts_congr ps.toList fun x hx => h x (by simpa using hx)]
  case makeFunc fn first captured =>
    rw [List.map_congr_left (l := first.toList) fun x hx => h x (by simp only [Array.mem_append]; exact .inl (Array.mem_toList_iff.1 hx)),
      List.map_congr_left (l := captured.toList) fun x hx => h x (by simp only [Array.mem_append]; exact .inr (Array.mem_toList_iff.1 hx))]
  case slice t x lo hi mx => cases lo <;> cases hi <;> cases mx <;> simp_all
  case makeMap t r => cases r <;> rfl
  case next it s => cases s <;> simp_all
  all_goals (first | rfl | (simp_all; done))

theorem oper_congr {C : Cfg} {callf : Fn → List Value → AHeap → Option (Value × AHeap)} {ρ ρ' : Operand → Value} {o : Oper} (h : ∀ x ∈ o.op.operands, ρ x = ρ' x) (H : AHeap) :
    oper C callf ρ o H = oper C callf ρ' o H := by
  have hop := opA_congr (C := C) h H
  obtain ⟨dst, op, type, pos, after, guard⟩ := o
  cases op <;> simp only [oper] <;> try exact hop
  rename_i c
  simp only [Op.operands] at h
  have hargs : c.args.toList.map ρ = c.args.toList.map ρ' := List.map_congr_left fun x hx => h x (by simp only [Call.operands, Array.mem_append]; exact .inr (Array.mem_toList_iff.1 hx))
  cases hc : c.callee with
  | builtin b => simp only [hargs]
  | value f =>
    have hf : ρ f = ρ' f := h f (by simp [Call.operands, hc])
    simp only [hargs, hf]
  | invoke r m =>
    have hf : ρ r = ρ' r := h r (by simp [Call.operands, hc])
    simp only [hargs, hf]

theorem kind_eff {P : Program} {o : Oper} {k : Kind} (h : kindA P o = some k) : effectful o = true ↔ k = .eff := by
  obtain ⟨dst, op, type, pos, after, guard⟩ := o
  cases op <;> simp only [kindA] at h <;> simp only [effectful] <;> try (simp at h; done)
  all_goals try (cases h; simp; done)
  case convert src dst x => split at h <;> simp at h <;> subst h <;> simp
  case makeMap t r => cases r <;> simp at h; subst h; simp
  case call c =>
    obtain ⟨callee, args, argTypes⟩ := c
    cases callee with
    | builtin b => cases b <;> simp at h <;> subst h <;> simp
    | value f => simp at h; subst h; simp
    | invoke r m => simp at h; subst h; simp

theorem some2_eq {H H' : AHeap} {a : Option Value} {v : Value} (h : some2 H a = some (v, H')) : H' = H ∧ ∀ H2, some2 H2 a = some (v, H2) := by
  obtain ⟨rfl, rfl⟩ := some2_inv h
  exact ⟨rfl, fun _ => rfl⟩

/-- What asks nothing of memory. -/
theorem kind_pure {C : Cfg} {callf : Fn → List Value → AHeap → Option (Value × AHeap)} {ρ : Operand → Value} {o : Oper} {H H' : AHeap} {v : Value} (hk : kindA C.P o = some .pure) (h : oper C callf ρ o H = some (v, H')) :
    H' = H ∧ ∀ H2, oper C callf ρ o H2 = some (v, H2) := by
  obtain ⟨dst, op, type, pos, after, guard⟩ := o
  cases op <;> simp only [kindA] at hk <;> simp only [oper, opA] at h ⊢ <;> try (simp at hk; done)
  all_goals try exact some2_eq h
  case move x => cases h; exact ⟨rfl, fun _ => rfl⟩
  case assign x => cases h; exact ⟨rfl, fun _ => rfl⟩
  case pick c a b =>
    split at h
    · cases h; exact ⟨rfl, fun _ => rfl⟩
    · cases h; exact ⟨rfl, fun _ => rfl⟩
    · simp at h
  case convert src dst x =>
    simp only [aconvert] at h ⊢
    generalize C.P.underlying src = us at *
    generalize C.P.underlying dst = ud at *
    generalize ρ x = a at *
    cases us <;> cases ud <;> simp at hk h
    rename_i d e
    cases d <;> cases e <;> simp at hk h ⊢ <;> cases a <;> simp at h ⊢ <;> exact ⟨h.2.symm, fun _ => h.1⟩
  case makeFunc fn first captured =>
    split at h
    · simp at h
    · cases h; exact ⟨rfl, fun _ => rfl⟩
  case makeMap t r => cases r <;> simp at hk
  case extract t ix =>
    split at h
    · exact some2_eq h
    · simp at h
  case call c =>
    obtain ⟨callee, args, argTypes⟩ := c
    cases callee with
    | builtin b =>
      cases b <;> simp at hk <;> simp only [abuiltin] at h ⊢
      all_goals
        split at h
        · rename_i h1 h2
          split at h
          · rename_i h3
            simp only [Option.some.injEq, Prod.mk.injEq] at h
            obtain ⟨rfl, rfl⟩ := h
            exact ⟨rfl, fun H2 => rfl⟩
          · simp at h
        · simp at h
    | value f => simp at hk
    | invoke r m => simp at hk

/-- What looks into memory. -/
theorem kind_read {C : Cfg} {callf : Fn → List Value → AHeap → Option (Value × AHeap)} {ρ : Operand → Value} {o : Oper} {H H' : AHeap} {v : Value} (hk : kindA C.P o = some .read) (h : oper C callf ρ o H = some (v, H')) :
    H' = H ∧ readsA C H ρ o = some v := by
  obtain ⟨dst, op, type, pos, after, guard⟩ := o
  cases op <;> simp only [kindA] at hk <;> simp only [oper, opA] at h <;> simp only [readsA, opA] <;> try (simp at hk; done)
  all_goals try (obtain ⟨e, rfl⟩ := some2_inv h; exact ⟨rfl, by rw [e]; rfl⟩)
  case convert src dst x =>
    rw [h]
    refine ⟨?_, rfl⟩
    simp only [aconvert] at h
    generalize C.P.underlying src = us at *
    generalize C.P.underlying dst = ud at *
    generalize ρ x = a at *
    cases us <;> cases ud <;> simp at hk h
    rename_i d e
    cases d <;> cases e <;> simp at hk h <;> cases a <;> simp at h
    · exact h.2.symm
    split at h
    · split at h
      · simp at h; exact h.2.symm
      · split at h
        · split at h
          · split at h
            · simp at h; exact h.2.symm
            · simp at h
          · simp at h
        · simp at h
      · simp at h; exact h.2.symm
      · simp at h
    · simp at h
  case makeMap t r => cases r <;> simp at hk
  case call c =>
    obtain ⟨callee, args, argTypes⟩ := c
    cases callee with
    | builtin b =>
      cases b <;> simp at hk
      simp only at h ⊢
      rw [h]
      refine ⟨?_, rfl⟩
      unfold abuiltin at h
      split at h <;> try (simp at *; done)
      split at h
      · split at h <;> try (simp at h; done)
        all_goals
          split at h
          · simp at h; exact h.2.symm
          · simp at h
      · simp at h
    | value f => simp at hk
    | invoke r m => simp at hk

theorem kind_read' {C : Cfg} {callf : Fn → List Value → AHeap → Option (Value × AHeap)} {ρ : Operand → Value} {o : Oper} {H : AHeap} {v : Value} (hk : kindA C.P o = some .read) (h : readsA C H ρ o = some v) :
    oper C callf ρ o H = some (v, H) := by
  have hx : ∃ H', oper C callf ρ o H = some (v, H') := by
    obtain ⟨dst, op, type, pos, after, guard⟩ := o
    cases op <;> simp only [kindA] at hk <;> simp only [readsA] at h <;> simp only [oper] <;> try (simp at hk; done)
    case call c =>
      obtain ⟨callee, args, argTypes⟩ := c
      cases callee with
      | builtin b =>
        simp only at h ⊢
        cases hb : abuiltin C.P H b argTypes (args.toList.map ρ) with
        | none => simp [hb] at h
        | some q => simp [hb] at h; exact ⟨q.2, by rw [← h]⟩
      | value f => simp at hk
      | invoke r m => simp at hk
    all_goals
      simp only [Option.map_eq_some_iff] at h
      obtain ⟨q, h1, h2⟩ := h
      exact ⟨q.2, by rw [h1, ← h2]⟩
  obtain ⟨H', hx⟩ := hx
  obtain ⟨e, _⟩ := kind_read hk hx
  rw [hx, e]

end Go.AE
