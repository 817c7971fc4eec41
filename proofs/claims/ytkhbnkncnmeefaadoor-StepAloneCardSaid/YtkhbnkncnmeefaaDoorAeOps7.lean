/-
  AE: operations that call nothing: ranges over maps; and all of them together.
-/
import Derived.Test.YtkhbnkncnmeefaaDoorAeOps6
namespace Go.AE

theorem sim_makeMap {P : Program} {σ : Pl} {H : AHeap} {w : World} (h : Rel P σ H w) (t : TypeId) :
    ∃ w' σ' c, (Instr.makeMap t none).run P w = .ok c w' ∧ Step P σ H w σ' (H.push (.map [] 0)) w' ∧ VR σ' (.map (some H.n)) c := by
  refine ⟨_, upd σ H.n 0 ⟨w.heap.size, 0, 0, 0, 0⟩, .map (some w.heap.size), ?_, Step.push h (.map [] 0) (.map #[] 0) ⟨w.heap.size, 0, 0, 0, 0⟩ rfl (by rintro _ _ _ ⟨⟩) ?_,
    .map (pl := ⟨w.heap.size, 0, 0, 0, 0⟩) (upd_same _ _ _ _)⟩
  · simp [Instr.makeMap]
  · exact ⟨rfl, #[], heap_alloc_new w _, .nil⟩

theorem sim_range {P : Program} {σ : Pl} {H : AHeap} {w : World} (h : Rel P σ H w) {t kt et : TypeId} (hu : P.underlying t = some (.map kt et)) {x cx : Value} (hx : VR σ x cx) {o : AObj}
    (ho : (x = .map none ∧ o = .iter none 0 [] 0) ∨ ∃ m es clock, x = .map (some m) ∧ H.get m = some (.map es clock) ∧ o = .iter (some m) clock [] clock) :
    ∃ w' σ' c, (Instr.range t cx).run P w = .ok c w' ∧ Step P σ H w σ' (H.push o) w' ∧ VR σ' (.pointer (some ⟨H.n, 0, some 0⟩)) c := by
  have hs : σ H.n 0 = none := by
    cases hg : σ H.n 0 with
    | none => rfl
    | some pl' => have := h.dom hg; omega
  rcases ho with ⟨rfl, rfl⟩ | ⟨m, es, clock, rfl, hm, rfl⟩
  · cases hx.nilm_inv
    refine ⟨_, upd σ H.n 0 ⟨w.heap.size, 0, 0, 0, 0⟩, .pointer (some ⟨w.heap.size, 0, none⟩), ?_, Step.push h (.iter none 0 [] 0) (.mapIter none 0 #[] 0) ⟨w.heap.size, 0, 0, 0, 0⟩ rfl (by rintro _ _ _ ⟨⟩) ?_,
      .ptr (pl := ⟨w.heap.size, 0, 0, 0, 0⟩) (upd_same _ _ _ _) (Nat.le_refl _) (by simp)⟩
    · simp [Instr.range, run_underlying hu]
    · exact ⟨rfl, rfl, none, heap_alloc_new w _, .inl ⟨rfl, rfl⟩⟩
  · obtain ⟨pm, rfl, hp⟩ := hx.map_inv
    obtain ⟨_, ces, k1, k2⟩ := h.obj hp hm
    refine ⟨_, upd σ H.n 0 ⟨w.heap.size, 0, 0, 0, 0⟩, .pointer (some ⟨w.heap.size, 0, none⟩), ?_, Step.push h (.iter (some m) clock [] clock) (.mapIter (some pm.b) clock #[] clock) ⟨w.heap.size, 0, 0, 0, 0⟩ rfl (by rintro _ _ _ ⟨⟩) ?_,
      .ptr (pl := ⟨w.heap.size, 0, 0, 0, 0⟩) (upd_same _ _ _ _) (Nat.le_refl _) (by simp)⟩
    · simp [Instr.range, run_underlying hu, run_getObj k1 (by rintro _ _ _ ⟨⟩)]
    · exact ⟨rfl, rfl, some pm.b, heap_alloc_new w _, .inr ⟨m, pm, rfl, upd_ext hs _ _ _ hp, rfl⟩⟩

theorem leftOf_filter {σ : Pl} (seen : List Nat) : ∀ {es : List (Value × Value × Nat)} {cs : List MapEntry}, EsR σ es cs → EsR σ (leftOf seen es) (cs.filter fun e => !(⟨seen⟩ : Array Nat).contains e.born)
  | _, _, .nil => .nil
  | (k, v, b) :: es, _, .cons h1 h2 h3 => by
    have ih := leftOf_filter seen h3
    simp only [leftOf, List.filter_cons]
    cases hc : seen.contains b with
    | true => simp only [List.contains_toArray, hc] at ih ⊢; simpa using ih
    | false => simp only [List.contains_toArray, hc] at ih ⊢; simpa using EsR.cons h1 h2 ih

theorem EsR.all {σ : Pl} (last : Nat) : ∀ {es : List (Value × Value × Nat)} {cs : List MapEntry}, EsR σ es cs → cs.all (fun e => decide (e.born ≥ last)) = es.all fun e => Nat.ble last e.2.2
  | _, _, .nil => rfl
  | _, _, .cons h1 h2 h3 => by
    simp only [List.all_cons, EsR.all last h3]
    congr 1
    rw [Bool.eq_iff_iff]; simp

theorem EsR.isEmpty {σ : Pl} : ∀ {es : List (Value × Value × Nat)} {cs : List MapEntry}, EsR σ es cs → cs.isEmpty = es.isEmpty
  | _, _, .nil => rfl
  | _, _, .cons _ _ _ => rfl

theorem sim_next {P : Program} {σ : Pl} {H H' : AHeap} {w : World} (h : Rel P σ H w) {it cit v : Value} (hi : VR σ it cit) (hn : anext H it = some (v, H')) (ty : TypeId) :
    ∃ w' σ' c, (Instr.next cit false ty).run P w = .ok c w' ∧ Step P σ H w σ' H' w' ∧ VR σ' v c := by
  have hover : VR σ (.tuple ⟨[.bool false]⟩) (.tuple #[.bool false]) := VR.tuple' (.cons (.same _ rfl) .nil)
  unfold anext at hn
  split at hn
  · rename_i r
    obtain ⟨pl, o, rfl, hp, _, ho⟩ := hi.ptr_inv
    split at hn
    · rename_i since seen last hr
      cases hn
      obtain ⟨_, hd, m', k1, k2⟩ := h.obj hp hr
      have ho : o = 0 := by omega
      subst ho
      rcases k2 with ⟨_, rfl⟩ | ⟨M, pm, e, _, _⟩
      · refine ⟨w, σ, _, ?_, Step.refl h, hover⟩
        simp [Instr.next, run_getObj k1 (by rintro _ _ _ ⟨⟩)]
      · cases e
    · rename_i m since seen last hr
      obtain ⟨_, hd, m', k1, k2⟩ := h.obj hp hr
      have ho : o = 0 := by omega
      subst ho
      rcases k2 with ⟨e, _⟩ | ⟨M, pm, e, hpm, rfl⟩
      · cases e
      · cases e
        split at hn
        · rename_i es clock hm
          obtain ⟨_, ces, q1, q2⟩ := h.obj hpm hm
          split at hn
          · simp at hn
          · rename_i hcond
            have hcond' : (!(⟨seen⟩ : Array Nat).isEmpty && !ces.isEmpty && ces.all (fun e => decide (e.born ≥ last))) = false := by
              rw [← hcond]
              have e1 := EsR.all last q2
              have e2 := EsR.isEmpty q2
              rw [← Array.all_toList] at *
              rw [e1]
              congr 2
              · simp
              · rw [← e2]; simp
            have hleft := leftOf_filter seen q2
            rw [← Array.toList_filter] at hleft
            have hi' : ∃ s : Sem Value, (Instr.next (.pointer (some ⟨pl.b, 0, none⟩)) false ty).run P w = s.run P w := ⟨_, rfl⟩
            split at hn
            · rename_i hl
              cases hn
              rw [hl] at hleft
              have hf : ces.filter (fun e => !(⟨seen⟩ : Array Nat).contains e.born) = #[] := by
                cases hx : ces.filter (fun e => !(⟨seen⟩ : Array Nat).contains e.born) with
                | mk l => rw [hx] at hleft; cases hleft; rfl
              refine ⟨w, σ, _, ?_, Step.refl h, hover⟩
              unfold Instr.next
              simp only [Sem.run_bind, run_getObj k1 (by rintro _ _ _ ⟨⟩), run_getObj q1 (by rintro _ _ _ ⟨⟩), Result.andThen_ok, hcond', hf]
              simp [Question.forced]
            · rename_i k v' b hl
              split at hn
              · rename_i hb
                cases hn
                rw [hl] at hleft
                obtain ⟨c, hf, hv⟩ : ∃ c, ces.filter (fun e => !(⟨seen⟩ : Array Nat).contains e.born) = #[{ key := k, val := c, born := b }] ∧ VR σ v' c := by
                  cases hx : ces.filter (fun e => !(⟨seen⟩ : Array Nat).contains e.born) with
                  | mk l =>
                    rw [hx] at hleft
                    cases hleft with
                    | cons g1 g2 g3 => cases g3; exact ⟨_, rfl, g2⟩
                have hkf : flat k = true := by
                  cases hx : ces.filter (fun e => !(⟨seen⟩ : Array Nat).contains e.born) with
                  | mk l =>
                    rw [hx] at hleft
                    cases hleft with
                    | cons g1 g2 g3 => exact g1
                have hb : b < since := by simpa [Nat.blt, Nat.lt_iff_add_one_le] using hb
                refine ⟨_, σ, .tuple #[.bool true, k, c], ?_, Step.setObj h hp hr trivial (co' := .mapIter (some pm.b) since ((⟨seen⟩ : Array Nat).push b) clock) ?_ ?_,
                  VR.tuple' (.cons (.same _ rfl) (.cons (.same _ hkf) (.cons hv .nil)))⟩
                · unfold Instr.next
                  simp only [Sem.run_bind, run_getObj k1 (by rintro _ _ _ ⟨⟩), run_getObj q1 (by rintro _ _ _ ⟨⟩), Result.andThen_ok, hcond', hf]
                  simp [Question.forced, hb, run_setObj k1 (by rintro _ _ _ ⟨⟩)]
                · refine ⟨rfl, hd, some pm.b, ?_, .inr ⟨m, pm, rfl, hpm, rfl⟩⟩
                  show (w.heap.setIfInBounds pl.b _)[pl.b]? = _
                  rw [Array.getElem?_setIfInBounds_self_of_lt (h.old hp)]
                  simp
                · intro r hr; rw [k1] at hr; cases hr
              · simp at hn
            · simp at hn
        · simp at hn
    · simp at hn
  · simp at hn

end Go.AE
