/-
  AE: operations that call nothing: what the abstract evaluator says of one is what the model does, in whatever world stands for its memory.
-/
import Derived.Test.YtkhbnkncnmeefaaDoorAeRow
import Derived.Laws.BytesString
namespace Go.AE

/-- What an operation comes to. -/
def Res (P : Program) (σ : Pl) (H : AHeap) (w : World) (r : Result Next) (v : Value) (H' : AHeap) : Prop :=
  ∃ n w' σ', r = .ok n w' ∧ Step P σ H w σ' H' w' ∧ ((∃ c, n = .value c ∧ VR σ' v c) ∨ (n = .skip ∧ v = undef))

theorem Res.pure {P : Program} {σ : Pl} {H : AHeap} {w : World} (h : Rel P σ H w) {s : Sem Value} {v c : Value} (hr : s.run P w = .ok c w) (hv : VR σ v c) :
    Res P σ H w ((do Pure.pure (Next.value (← s)) : Sem Next).run P w) v H :=
  ⟨.value c, w, σ, by simp [hr], Step.refl h, .inl ⟨c, rfl, hv⟩⟩

theorem Res.made {P : Program} {σ σ' : Pl} {H H' : AHeap} {w w' : World} {s : Sem Value} {v c : Value} (hr : s.run P w = .ok c w') (hst : Step P σ H w σ' H' w') (hv : VR σ' v c) :
    Res P σ H w ((do Pure.pure (Next.value (← s)) : Sem Next).run P w) v H' :=
  ⟨.value c, w', σ', by simp [hr], hst, .inl ⟨c, rfl, hv⟩⟩

theorem Res.unit {P : Program} {σ σ' : Pl} {H H' : AHeap} {w w' : World} {s : Sem Unit} (hr : s.run P w = .ok () w') (hst : Step P σ H w σ' H' w') :
    Res P σ H w ((do s; Pure.pure Next.skip : Sem Next).run P w) undef H' :=
  ⟨.skip, w', σ', by simp [hr], hst, .inr ⟨rfl, rfl⟩⟩

/-! ### New rows -/
theorem zeroed_get {vs : List Value} {i : Nat} {v : Value} {k : Nat} (h : (vs.map fun v => (v, 0))[i]? = some (v, k)) : vs[i]? = some v ∧ k = 0 := by
  rw [List.getElem?_map] at h
  cases hx : vs[i]? with
  | none => simp [hx] at h
  | some x => simp [hx] at h; exact ⟨by rw [h.1], h.2.symm⟩

theorem Step.newRow {P : Program} {σ : Pl} {H : AHeap} {w : World} (h : Rel P σ H w) (ty : TypeId) (vs : List Value) (cs : Array Value) (fr : Nat × Nat)
    (hv : ∀ (k : Nat) (v : Value), vs[k]? = some v → ∃ c, cs[k]? = some c ∧ VR σ v c) (hfr : ∀ off, off < cs.size → ¬ (fr.1 ≤ off ∧ off < fr.2)) :
    Step P σ H w (upd σ H.n 0 ⟨w.heap.size, 0, 0, cs.size, P.cellsOf ty⟩) (H.push (.row ty (vs.map fun v => (v, 0)) 0 false)) (w.alloc (.cells cs ty fr)) := by
  have hs : σ H.n 0 = none := by
    cases hg : σ H.n 0 with
    | none => rfl
    | some pl' => have := h.dom hg; omega
  refine Step.push h _ _ _ rfl (by rintro _ _ _ ⟨⟩) ⟨Nat.le_refl _, fun i v k hk => by rw [(zeroed_get hk).2]; exact Nat.le_refl _, rfl, cs, ty, fr, heap_alloc_new w _, fun _ => ⟨rfl, rfl, hfr⟩, ?_⟩
  intro i v k _ hk _
  obtain ⟨c, h1, h2⟩ := hv i v (zeroed_get hk).1
  exact ⟨i, c, by simp, h1, h2.ext (upd_ext hs)⟩

theorem get_of_VRs {σ : Pl} {vs cvs : List Value} (h : VRs σ vs cvs) (cs : Array Value) (hc : cs.toList = cvs) (k : Nat) (v : Value) (hk : vs[k]? = some v) : ∃ c, cs[k]? = some c ∧ VR σ v c := by
  obtain ⟨c, h1, h2⟩ := h.get hk
  exact ⟨c, by rw [← Array.getElem?_toList, hc]; exact h1, h2⟩

theorem sim_newRow {P : Program} {σ : Pl} {H : AHeap} {w : World} (h : Rel P σ H w) (ty : TypeId) {vs : List Value} {cs : Array Value} (hv : VRs σ vs cs.toList) :
    ∃ σ', Step P σ H w σ' (newRow H ty vs).2 (w.alloc (.cells cs ty)) ∧ VR σ' (newRow H ty vs).1 (.pointer (some ⟨w.heap.size, 0, none⟩)) :=
  ⟨_, Step.newRow h ty vs cs (0, 0) (get_of_VRs hv cs rfl) (by intro off _; simp), .ptr (pl := ⟨w.heap.size, 0, 0, cs.size, P.cellsOf ty⟩) (upd_same _ _ _ _) (Nat.le_refl _) (by simp)⟩

theorem sim_newSlice {P : Program} {σ : Pl} {H : AHeap} {w : World} (h : Rel P σ H w) (ty : TypeId) {vs : List Value} {cs : Array Value} {fr : Nat × Nat}
    (hv : ∀ (k : Nat) (v : Value), vs[k]? = some v → ∃ c, cs[k]? = some c ∧ VR σ v c) (hfr : ∀ off, off < cs.size → ¬ (fr.1 ≤ off ∧ off < fr.2))
    {len room cap : Nat} (h1 : len ≤ room) (h2 : room ≤ cap) (h3 : cap * P.cellsOf ty ≤ cs.size) :
    ∃ σ', Step P σ H w σ' (newSlice H ty vs len room).2 (w.alloc (.cells cs ty fr)) ∧ VR σ' (newSlice H ty vs len room).1 (.slice (some ⟨w.heap.size, 0, none⟩) len cap) :=
  ⟨_, Step.newRow h ty vs cs fr hv hfr, .slice (pl := ⟨w.heap.size, 0, 0, cs.size, P.cellsOf ty⟩) (upd_same _ _ _ _) (Nat.le_refl _) h1 h2 (.inr ⟨by simp, by simpa using h3⟩)⟩

theorem zeroOf_run {P : Program} {t : TypeId} {z : Value} (h : zeroOf P t = some z) : flat z = true ∧ ∃ inf, P.info? t = some inf ∧ inf.zero = some z := by
  unfold zeroOf at h
  cases hi : P.info? t with
  | none => simp [hi] at h
  | some inf =>
    simp only [hi] at h
    cases hz : inf.zero with
    | none => simp [hz] at h
    | some z' =>
      simp only [hz] at h
      split at h
      · rename_i hf; cases h; exact ⟨hf, inf, rfl, hz⟩
      · simp at h

theorem run_zeroValue {P : Program} {t : TypeId} {z : Value} (h : zeroOf P t = some z) (w : World) : (zeroValue t).run P w = .ok z w := by
  obtain ⟨_, inf, hi, hz⟩ := zeroOf_run h
  simp [zeroValue, typeInfo, hi, hz]

theorem VRs_cells_flat {σ : Pl} {z : Value} (h : flat z = true) : VRs σ z.cells.toList z.cells.toList := by
  cases z with
  | agg cs => exact VRs_same (flat_agg h)
  | _ => exact .cons (.same _ h) .nil

theorem sim_alloc {P : Program} {σ : Pl} {H H' : AHeap} {w : World} (h : Rel P σ H w) {t : TypeId} {v : Value} (ha : aalloc P H t = some (v, H')) :
    ∃ w' σ' c, (Instr.alloc t true (.tuple #[])).run P w = .ok c w' ∧ Step P σ H w σ' H' w' ∧ VR σ' v c := by
  unfold aalloc at ha
  cases hz : zeroOf P t with
  | none => simp [hz] at ha
  | some z =>
    simp only [hz, Option.some.injEq] at ha
    obtain ⟨σ', h1, h2⟩ := sim_newRow h t (VRs_cells_flat (σ := σ) (zeroOf_run hz).1)
    rw [ha] at h1 h2
    exact ⟨_, σ', _, by simp [Instr.alloc, run_zeroValue hz, newVar, Go.newRow], h1, h2⟩

theorem sim_box {P : Program} {σ : Pl} {H H' : AHeap} {w : World} (h : Rel P σ H w) {t : TypeId} {x cx v : Value} (hx : VR σ x cx) (ha : abox H t x = some (v, H')) :
    ∃ w' σ' c, (Instr.box t cx).run P w = .ok c w' ∧ Step P σ H w σ' H' w' ∧ VR σ' v c := by
  unfold abox at ha
  cases hz : cellsOf? x with
  | none => simp [hz] at ha
  | some vs =>
    simp only [hz, Option.some.injEq] at ha
    obtain ⟨σ', h1, h2⟩ := sim_newRow h t (hx.cells hz)
    rw [ha] at h1 h2
    exact ⟨_, σ', _, by simp [Instr.box, newVar, Go.newRow], h1, h2⟩

/-! ### Parts put together -/
theorem overN_get : ∀ {vs l l' : List Value}, overN vs l = some l' → vs.length ≤ l.length ∧ l'.length = l.length ∧ ∀ k : Nat, l'[k]? = if k < vs.length then vs[k]? else l[k]?
  | [], l, l', h => by simp only [overN, Option.some.injEq] at h; subst h; simp
  | v :: vs, [], l', h => by simp [overN] at h
  | v :: vs, c :: r, l', h => by
    simp only [overN] at h
    cases hr : overN vs r with
    | none => simp [hr] at h
    | some r' =>
      simp only [hr, Option.some.injEq] at h
      subst h
      obtain ⟨h1, h2, h3⟩ := overN_get hr
      refine ⟨by simpa using h1, by simp [h2], fun k => ?_⟩
      cases k with
      | zero => simp
      | succ k => simp only [List.getElem?_cons_succ, h3 k, List.length_cons]; by_cases e : k < vs.length
                  · rw [if_pos e, if_pos (by omega)]
                  · rw [if_neg e, if_neg (by omega)]

theorem overAt_get {vs : List Value} : ∀ {i : Nat} {l l' : List Value}, overAt vs i l = some l' →
    i + vs.length ≤ l.length ∧ l'.length = l.length ∧ ∀ k : Nat, l'[k]? = if i ≤ k ∧ k < i + vs.length then vs[k - i]? else l[k]?
  | 0, l, l', h => by
    obtain ⟨h1, h2, h3⟩ := overN_get h
    refine ⟨by omega, h2, fun k => ?_⟩
    rw [h3 k]
    by_cases e : k < vs.length
    · rw [if_pos e, if_pos (by omega)]; rfl
    · rw [if_neg e, if_neg (by omega)]
  | i + 1, [], l', h => by simp [overAt] at h
  | i + 1, c :: r, l', h => by
    simp only [overAt] at h
    cases hr : overAt vs i r with
    | none => simp [hr] at h
    | some r' =>
      simp only [hr, Option.some.injEq] at h
      subst h
      obtain ⟨h1, h2, h3⟩ := overAt_get hr
      refine ⟨by simp; omega, by simp [h2], fun k => ?_⟩
      cases k with
      | zero => simp
      | succ k =>
        simp only [List.getElem?_cons_succ, h3 k]
        by_cases e : i ≤ k ∧ k < i + vs.length
        · rw [if_pos e, if_pos (by omega), show k + 1 - (i + 1) = k - i by omega]
        · rw [if_neg e, if_neg (by omega)]

theorem foldl_set_get : ∀ (vs : List Value) (off m : Nat) (cs : Array Value) (k : Nat), off + m + vs.length ≤ cs.size →
    ((vs.zipIdx m).foldl (fun cs (p : Value × Nat) => cs.setIfInBounds (off + p.2) p.1) cs).size = cs.size ∧
    ((vs.zipIdx m).foldl (fun cs (p : Value × Nat) => cs.setIfInBounds (off + p.2) p.1) cs)[k]? = if off + m ≤ k ∧ k < off + m + vs.length then vs[k - (off + m)]? else cs[k]?
  | [], off, m, cs, k, _ => by refine ⟨rfl, ?_⟩; simp only [List.zipIdx_nil, List.foldl_nil, List.length_nil]; rw [if_neg (by omega)]
  | v :: vs, off, m, cs, k, h => by
    simp only [List.zipIdx_cons, List.foldl_cons]
    simp only [List.length_cons] at h
    obtain ⟨h1, h2⟩ := foldl_set_get vs off (m + 1) (cs.setIfInBounds (off + m) v) k (by simp; omega)
    refine ⟨by simpa using h1, ?_⟩
    rw [h2]
    by_cases e : off + (m + 1) ≤ k ∧ k < off + (m + 1) + vs.length
    · rw [if_pos e, if_pos (by simp; omega), show k - (off + m) = (k - (off + (m + 1))) + 1 by omega]; simp
    · rw [if_neg e]
      by_cases e2 : k = off + m
      · subst e2; rw [if_pos (by simp)]; simp [show off + m < cs.size by omega]
      · rw [if_neg (by simp; omega), Array.getElem?_setIfInBounds_ne (by omega)]

inductive PartsR (σ : Pl) : List (Nat × Value) → List (Nat × Value) → Prop
  | nil : PartsR σ [] []
  | cons {i : Nat} {v c : Value} {l l' : List (Nat × Value)} : VR σ v c → PartsR σ l l' → PartsR σ ((i, v) :: l) ((i, c) :: l')

theorem sim_fill {σ : Pl} {place : Nat → Option (Nat × Nat)} : ∀ {parts cparts : List (Nat × Value)} {cells : List Value} {ccells : Array Value} {r : List Value},
    PartsR σ parts cparts → VRs σ cells ccells.toList → fillA place cells parts = some r → ∃ cr, Instr.fill place ccells cparts = some cr ∧ VRs σ r cr.toList := by
  intro parts
  induction parts with
  | nil =>
    intro cparts cells ccells r hp hc h
    cases hp
    simp only [fillA, Option.some.injEq] at h
    subst h
    exact ⟨ccells, rfl, hc⟩
  | cons p parts ih =>
    intro cparts cells ccells r hp hc h
    cases hp with
    | cons hv hps =>
      rename_i i v c l'
      simp only [fillA] at h
      cases hpl : place i with
      | none => simp [hpl] at h
      | some os =>
        obtain ⟨off, size⟩ := os
        simp only [hpl] at h
        cases hcs : cellsOf? v with
        | none => simp [hcs] at h
        | some vs =>
          simp only [hcs] at h
          split at h
          · rename_i hlen
            have hlen := Nat.eq_of_beq_eq_true hlen
            cases hov : overAt vs off cells with
            | none => simp [hov] at h
            | some cells' =>
              simp only [hov] at h
              obtain ⟨q1, q2, q3⟩ := overAt_get hov
              have hcc := hv.cells hcs
              have hl1 := hcc.length
              have hl2 := hc.length
              have hsz : c.cells.size = size := by simp at hl1; omega
              have hfit : off + c.cells.toList.length ≤ ccells.size := by simp at hl1 hl2 ⊢; omega
              have hf : ∀ k, _ := fun k => foldl_set_get c.cells.toList off 0 ccells k (by omega)
              have hcells' : VRs σ cells' ((c.cells.toList.zipIdx 0).foldl (fun cs (p : Value × Nat) => cs.setIfInBounds (off + p.2) p.1) ccells).toList := by
                refine VRs.of_get (by have := (hf 0).1; simp only [Array.length_toList, this]; simp at hl2; omega) ?_
                intro k x y hx hy
                rw [q3 k] at hx
                rw [Array.getElem?_toList, (hf k).2] at hy
                by_cases e : off ≤ k ∧ k < off + vs.length
                · rw [if_pos e] at hx
                  rw [if_pos (by simp at hl1 ⊢; omega)] at hy
                  obtain ⟨y', hy1, hy2⟩ := hcc.get hx
                  rw [show k - (off + 0) = k - off by omega, hy1] at hy
                  cases hy; exact hy2
                · rw [if_neg e] at hx
                  rw [if_neg (by simp at hl1 ⊢; omega)] at hy
                  obtain ⟨y', hy1, hy2⟩ := hc.get hx
                  rw [Array.getElem?_toList] at hy1
                  rw [hy1] at hy; cases hy; exact hy2
              obtain ⟨cr, h1, h2⟩ := ih hps hcells' h
              refine ⟨cr, ?_, h2⟩
              simp only [Instr.fill, hpl]
              rw [if_neg (by simp; simp at hfit; omega)]
              rw [← h1]
              congr 1
              rw [← Array.foldl_toList, Array.toList_zipIdx]
          · simp at h

end Go.AE
