/-
  AE: operations that call nothing, on: maps, ranges; and all of them together.
-/
import Derived.Test.YtkhbnkncnmeefaaDoorAeOps5
namespace Go.AE

theorem beq_bytes (a b : ByteArray) : (a == b) = strEq a.data.toList b.data.toList := by
  rw [strEq_eq]
  obtain ⟨⟨a⟩⟩ := a
  obtain ⟨⟨b⟩⟩ := b
  show ((⟨a⟩ : Array UInt8) == ⟨b⟩) = (a == b)
  simp

theorem sim_keyEq {d : TypeDesc} {k k' : Value} {r : Bool} (hk : (∃ j, d = .int j ∧ ∃ j' n, k = .int j' n) ∨ (d = .string ∧ ∃ s, k = .string s)) (h : keyEq k k' = some r) : Instr.sameNow d k k' = some r ∧ (r = true → k' = k) := by
  rcases hk with ⟨j, rfl, j', n, rfl⟩ | ⟨rfl, s, rfl⟩
  · cases k' <;> try (simp [keyEq] at h; done)
    rename_i q m
    simp only [keyEq] at h
    split at h
    · rename_i e
      have e := of_decide_eq_true e
      subst e
      cases h
      refine ⟨?_, fun h => by rw [of_decide_eq_true h]⟩
      simp only [Instr.sameNow, if_true]
      by_cases e : n = m <;> simp [e]
    · simp at h
  · cases k' <;> try (simp [keyEq] at h; done)
    rename_i u
    simp only [keyEq, Option.some.injEq] at h
    subst h
    refine ⟨by simp only [Instr.sameNow, beq_bytes], fun h => ?_⟩
    rw [strEq_eq, beq_iff_eq] at h
    rw [ByteArray.ext (Array.toList_inj.1 h)]

theorem keyKind_inv {P : Program} {t : TypeId} {k : Value} (h : keyKind P t k = true) : ∃ d, P.underlying t = some d ∧ ((∃ j, d = .int j ∧ ∃ j' n, k = .int j' n) ∨ (d = .string ∧ ∃ s, k = .string s)) := by
  unfold keyKind at h
  split at h
  · rename_i j j' n hu; exact ⟨_, hu, .inl ⟨_, rfl, _, _, rfl⟩⟩
  · rename_i s hu; exact ⟨_, hu, .inr ⟨rfl, _, rfl⟩⟩
  · simp at h

theorem keyKind_flat {P : Program} {t : TypeId} {k : Value} (h : keyKind P t k = true) : flat k = true := by
  obtain ⟨_, _, ⟨_, _, _, _, rfl⟩ | ⟨_, _, rfl⟩⟩ := keyKind_inv h <;> rfl

theorem run_checkKey {P : Program} {t : TypeId} {k : Value} {b : Bool} (h : keyKind P t k = true) (w : World) : (Instr.checkKey b 10000 t k).run P w = .ok () w := by
  have : ∀ n, (Instr.checkKey b (n + 1) t k).run P w = .ok () w := by
    intro n
    obtain ⟨d, hu, ⟨_, rfl, _, _, rfl⟩ | ⟨rfl, _, rfl⟩⟩ := keyKind_inv h <;> simp [Instr.checkKey, run_underlying hu]
  exact this 9999

theorem sim_findE {σ : Pl} {d : TypeDesc} {k : Value} (hk : (∃ j, d = .int j ∧ ∃ j' n, k = .int j' n) ∨ (d = .string ∧ ∃ s, k = .string s)) :
    ∀ {es : List (Value × Value × Nat)} {cs : List MapEntry} {i : Nat} {r : Option (Nat × Value)}, EsR σ es cs → findE k es i = some r →
      ∃ cr, Instr.findNow d k cs i = some cr ∧ ((r = none ∧ cr = none) ∨ ∃ (j : Nat) (v c : Value) (b : Nat), r = some (i + j, v) ∧ cr = some (i + j, c) ∧ VR σ v c ∧ es[j]? = some (k, v, b) ∧ (cs[j]?).map (·.key) = some k)
  | [], cs, i, r, h, hf => by
    cases h
    simp only [findE, Option.some.injEq] at hf
    subst hf
    exact ⟨none, rfl, .inl ⟨rfl, rfl⟩⟩
  | (k', v, b) :: es, cs, i, r, h, hf => by
    cases h with
    | cons h1 h2 h3 =>
      rename_i c cs
      simp only [findE] at hf
      cases hq : keyEq k k' with
      | none => simp [hq] at hf
      | some q =>
        obtain ⟨e1, e2⟩ := sim_keyEq hk hq
        cases q with
        | true =>
          simp only [hq, Option.some.injEq] at hf
          subst hf
          have := e2 rfl
          subst this
          exact ⟨some (i, c), by simp [Instr.findNow, e1], .inr ⟨0, v, c, b, rfl, rfl, h2, rfl, rfl⟩⟩
        | false =>
          simp only [hq] at hf
          obtain ⟨cr, f1, f2⟩ := sim_findE hk h3 hf
          refine ⟨cr, by simp [Instr.findNow, e1, f1], ?_⟩
          rcases f2 with f2 | ⟨j, v', c', b', f2, f3, f4, f5, f6⟩
          · exact .inl f2
          · exact .inr ⟨j + 1, v', c', b', by rw [f2]; congr 2; omega, by rw [f3]; congr 2; omega, f4, by simpa using f5, by simpa using f6⟩

theorem run_findKey {P : Program} {t : TypeId} {d : TypeDesc} {k : Value} {cs : List MapEntry} {r : Option (Nat × Value)} (hu : P.underlying t = some d) (h : Instr.findNow d k cs 0 = some r) (w : World) :
    (Instr.findKey t k cs).run P w = .ok r w := by
  simp [Instr.findKey, run_underlying hu, h]

theorem run_getObj {P : Program} {w : World} {r : Nat} {o : Obj} (h : w.heap[r]? = some o) (hc : ∀ c e f, o ≠ .cells c e f) : (getObj r).run P w = .ok o w := by
  cases o <;> first | (exact absurd rfl (hc _ _ _)) | (simp [getObj, Sem.run, h])

theorem run_setObj {P : Program} {w : World} {r : Nat} {o o' : Obj} (h : w.heap[r]? = some o) (hc : ∀ c e f, o ≠ .cells c e f) : (setObj r o').run P w = .ok () { w with heap := w.heap.setIfInBounds r o' } := by
  cases o <;> first | (exact absurd rfl (hc _ _ _)) | (simp [setObj, Sem.run, h])

theorem entries_run {P : Program} {σ : Pl} {H : AHeap} {w : World} (h : Rel P σ H w) {t kt et : TypeId} (hu : P.underlying t = some (.map kt et)) {x cx : Value} (hx : VR σ x cx) {es : List (Value × Value × Nat)}
    (he : entriesOf H x = some es) {ix : Value} (hk : keyKind P kt ix = true) (ok : Bool) : ∃ ces : Array MapEntry, EsR σ es ces.toList ∧
      ∀ {d : TypeDesc} {cr : Option (Nat × Value)} {z : Value}, P.underlying kt = some d → Instr.findNow d ix ces.toList 0 = some cr → zeroOf P et = some z →
      (Instr.lookup t cx ix ok).run P w = .ok (match cr, ok with | some (_, v), true => .tuple #[v, .bool true] | some (_, v), false => v | none, true => .tuple #[z, .bool false] | none, false => z) w := by
  cases x <;> try (simp [entriesOf] at he; done)
  rename_i r
  cases r with
  | none =>
    cases hx.nilm_inv
    simp only [entriesOf, Option.some.injEq] at he
    subst he
    refine ⟨#[], .nil, fun hd hf hz => ?_⟩
    rename_i d cr z
    have hf' := run_findKey hd hf w
    unfold Instr.lookup
    cases cr <;> cases ok <;> simp at hf' <;> simp [run_underlying hu, run_checkKey hk, hf', run_zeroValue hz]
  | some F =>
    obtain ⟨pl, rfl, hp⟩ := hx.map_inv
    cases hF : H.get F with
    | none => simp [entriesOf, hF] at he
    | some o =>
      cases o <;> simp only [entriesOf, hF] at he <;> try (simp at he; done)
      rename_i es' clock
      cases he
      obtain ⟨_, ces, k1, k2⟩ := h.obj hp hF
      refine ⟨ces, k2, fun hd hf hz => ?_⟩
      rename_i d cr z
      have hf' := run_findKey hd hf w
      unfold Instr.lookup
      cases cr <;> cases ok <;> simp [run_underlying hu, run_checkKey hk, run_getObj k1 (by rintro _ _ _ ⟨⟩), hf', run_zeroValue hz]

theorem sim_lookup {P : Program} {σ : Pl} {H : AHeap} {w : World} (h : Rel P σ H w) {t : TypeId} {x cx ix cix v : Value} {ok : Bool} (hx : VR σ x cx) (hix : VR σ ix cix) (hl : alookup P H t x ix ok = some v) :
    ∃ c, (Instr.lookup t cx cix ok).run P w = .ok c w ∧ VR σ v c := by
  unfold alookup at hl
  split at hl
  · rename_i kt et hu
    split at hl
    · rename_i z hk hz
      cases hix.flat_eq (keyKind_flat hk)
      obtain ⟨d, hd, hkd⟩ := keyKind_inv hk
      split at hl
      · rename_i es he
        obtain ⟨ces, e2, hr0⟩ := entries_run h hu hx he hk ok
        cases hf : findE ix es 0 with
        | none => simp [hf] at hl
        | some r =>
          simp only [hf] at hl
          obtain ⟨cr, f1, f2⟩ := sim_findE hkd e2 hf
          refine ⟨_, hr0 hd f1 hz, ?_⟩
          rcases f2 with ⟨rfl, rfl⟩ | ⟨j, v', c', b', rfl, rfl, f4, _, _⟩
          · cases ok <;> (simp only [Option.some.injEq] at hl; subst hl)
            · exact .same _ (zeroOf_run hz).1
            · exact VR.tuple' (.cons (.same _ (zeroOf_run hz).1) (.cons (.same _ rfl) .nil))
          · cases ok <;> (simp only [Option.some.injEq] at hl; subst hl)
            · exact f4
            · exact VR.tuple' (.cons f4 (.cons (.same _ rfl) .nil))
      · simp at hl
    · simp at hl
  · simp at hl

/-! ### A map is written -/
theorem EsR.append {σ : Pl} : ∀ {a a' : List (Value × Value × Nat)} {b b' : List MapEntry}, EsR σ a b → EsR σ a' b' → EsR σ (a ++ a') (b ++ b')
  | _, _, _, _, .nil, h => h
  | _, _, _, _, .cons h1 h2 h3, h => .cons h1 h2 (EsR.append h3 h)

theorem EsR.setE {σ : Pl} {v c : Value} (hv : VR σ v c) (k : Value) : ∀ {es : List (Value × Value × Nat)} {cs : List MapEntry} {i : Nat}, EsR σ es cs → (cs[i]?).map (·.key) = some k →
    EsR σ (setE v i es) (cs.modify i fun e => { e with key := k, val := c })
  | _, _, _, .nil, h => by simp at h
  | _, _, 0, .cons h1 h2 h3, h => by
    simp at h
    subst h
    exact .cons h1 hv h3
  | _, _, i + 1, .cons h1 h2 h3, h => by
    simp only [AE.setE, List.modify_succ_cons]
    exact .cons h1 h2 (EsR.setE hv k h3 (by simpa using h))

theorem sameBits_key {d : TypeDesc} {k : Value} (hk : (∃ j, d = .int j ∧ ∃ j' n, k = .int j' n) ∨ (d = .string ∧ ∃ s, k = .string s)) (n : Nat) : Instr.sameBits n k k = true := by
  rcases hk with ⟨j, rfl, j', m, rfl⟩ | ⟨rfl, s, rfl⟩
  · cases n <;> simp [Instr.sameBits]
  · cases n <;> simp [Instr.sameBits, beq_bytes, strEq_eq]

theorem EsR.length {σ : Pl} : ∀ {es : List (Value × Value × Nat)} {cs : List MapEntry}, EsR σ es cs → cs.length = es.length
  | _, _, .nil => rfl
  | _, _, .cons _ _ h => by simp [EsR.length h]

theorem sim_mapUpdate {P : Program} {σ : Pl} {H H' : AHeap} {w : World} (h : Rel P σ H w) {t : TypeId} {m cm k ck v cv : Value} (hm : VR σ m cm) (hk : VR σ k ck) (hv : VR σ v cv)
    (hl : amapUpdate P H t m k v = some H') : ∃ w', (Instr.mapUpdate t cm ck cv).run P w = .ok () w' ∧ Step P σ H w σ H' w' := by
  unfold amapUpdate at hl
  split at hl
  · rename_i kt et F hu
    obtain ⟨pl, rfl, hp⟩ := hm.map_inv
    split at hl
    · rename_i es clock hkk hF
      cases hk.flat_eq (keyKind_flat hkk)
      obtain ⟨d, hd, hkd⟩ := keyKind_inv hkk
      obtain ⟨_, ces, k1, k2⟩ := h.obj hp hF
      have hnc : ∀ c e f, (Obj.map ces clock) ≠ .cells c e f := by rintro _ _ _ ⟨⟩
      cases hf : findE k es 0 with
      | none => simp [hf] at hl
      | some r =>
        simp only [hf] at hl
        obtain ⟨cr, f1, f2⟩ := sim_findE hkd k2 hf
        rcases f2 with ⟨rfl, rfl⟩ | ⟨j, v', c', b', rfl, rfl, f4, f5, f6⟩
        · simp only [Option.some.injEq] at hl
          subst hl
          refine ⟨_, ?_, Step.setObj h hp hF trivial (co' := .map (ces.push { key := k, val := cv, born := clock }) (clock + 1)) ?_ ?_⟩
          · unfold Instr.mapUpdate
            simp [run_underlying hu, run_checkKey hkk, run_getObj k1 hnc, run_findKey hd f1, run_setObj k1 hnc]
          · refine ⟨rfl, ces.push { key := k, val := cv, born := clock }, ?_, ?_⟩
            · show (w.heap.setIfInBounds pl.b _)[pl.b]? = _
              rw [Array.getElem?_setIfInBounds_self_of_lt (h.old hp)]
            · simp only [Array.toList_push]
              exact k2.append (.cons (keyKind_flat hkk) hv .nil)
          · intro r hr; rw [k1] at hr; cases hr
        · simp only [Option.some.injEq] at hl
          subst hl
          simp only [Nat.zero_add] at f1 f5 f6 ⊢
          have f6' : (ces[j]?).map (·.key) = some k := by rw [← Array.getElem?_toList]; exact f6
          refine ⟨_, ?_, Step.setObj h hp hF trivial (co' := .map (ces.modify j fun e => { e with key := k, val := cv }) clock) ?_ ?_⟩
          · unfold Instr.mapUpdate
            simp [run_underlying hu, run_checkKey hkk, run_getObj k1 hnc, run_findKey hd f1, run_setObj k1 hnc, f6', Instr.keyThatStays, sameBits_key hkd]
          · refine ⟨rfl, ces.modify j fun e => { e with key := k, val := cv }, ?_, ?_⟩
            · show (w.heap.setIfInBounds pl.b _)[pl.b]? = _
              rw [Array.getElem?_setIfInBounds_self_of_lt (h.old hp)]
            · rw [Array.toList_modify]
              exact EsR.setE hv k k2 f6
          · intro r hr; rw [k1] at hr; cases hr
    · simp at hl
  · simp at hl

end Go.AE
