/-
  AE: rows of cells: what is read, and what is written.
-/
import Derived.Test.YtkhbnkncnmeefaaDoorAeMem
import Derived.Laws.CopyRow
namespace Go.AE

theorem add_at (b o k : Nat) : (⟨b, o, none⟩ : Addr).add k = ⟨b, o + k, none⟩ := by
  unfold Addr.add
  split
  · rename_i e; subst e; rfl
  · rfl

/-! ### Lists -/
theorem rdN_get {g : Nat} : ∀ {n : Nat} {l : List (Value × Nat)} {vs : List Value}, rdN g n l = some vs →
    vs.length = n ∧ ∀ (k : Nat) (v : Value), vs[k]? = some v → ∃ q, l[k]? = some (v, q) ∧ q ≤ g
  | 0, l, vs, h => by simp only [rdN, Option.some.injEq] at h; subst h; simp
  | n + 1, [], vs, h => by simp [rdN] at h
  | n + 1, (x, q) :: r, vs, h => by
    simp only [rdN] at h
    cases hq : Nat.ble q g with
    | false => simp [hq] at h
    | true =>
      simp only [hq] at h
      cases hr : rdN g n r with
      | none => simp [hr] at h
      | some us =>
        simp only [hr, Option.some.injEq] at h
        subst h
        obtain ⟨h1, h2⟩ := rdN_get hr
        refine ⟨by simp [h1], fun k v hk => ?_⟩
        cases k with
        | zero => simp at hk; subst hk; exact ⟨q, by simp, Nat.le_of_ble_eq_true hq⟩
        | succ k => simp at hk; obtain ⟨q', h3, h4⟩ := h2 k v hk; exact ⟨q', by simpa using h3, h4⟩

theorem rdAt_get {cells : List (Value × Nat)} {i g n : Nat} {vs : List Value} (h : rdAt cells i g n = some vs) :
    vs.length = n ∧ ∀ (k : Nat) (v : Value), vs[k]? = some v → ∃ q, cells[i + k]? = some (v, q) ∧ q ≤ g := by
  obtain ⟨h1, h2⟩ := rdN_get h
  refine ⟨h1, fun k v hk => ?_⟩
  obtain ⟨q, h3, h4⟩ := h2 k v hk
  exact ⟨q, by rw [List.getElem?_drop] at h3; exact h3, h4⟩

theorem wrN_get {g : Nat} : ∀ {vs : List Value} {l l' : List (Value × Nat)}, wrN g vs l = some l' →
    vs.length ≤ l.length ∧ l'.length = l.length ∧ ∀ k : Nat, l'[k]? = if k < vs.length then (vs[k]?).map (fun v => (v, g)) else l[k]?
  | [], l, l', h => by simp only [wrN, Option.some.injEq] at h; subst h; simp
  | v :: vs, [], l', h => by simp [wrN] at h
  | v :: vs, c :: r, l', h => by
    simp only [wrN] at h
    cases hr : wrN g vs r with
    | none => simp [hr] at h
    | some r' =>
      simp only [hr, Option.some.injEq] at h
      subst h
      obtain ⟨h1, h2, h3⟩ := wrN_get hr
      refine ⟨by simpa using h1, by simp [h2], fun k => ?_⟩
      cases k with
      | zero => simp
      | succ k => simp only [List.getElem?_cons_succ, h3 k, List.length_cons]; by_cases e : k < vs.length
                  · rw [if_pos e, if_pos (by omega)]
                  · rw [if_neg e, if_neg (by omega)]

theorem wrAt_get {g : Nat} {vs : List Value} : ∀ {i : Nat} {l l' : List (Value × Nat)}, wrAt g vs i l = some l' →
    i + vs.length ≤ l.length ∧ l'.length = l.length ∧ ∀ k : Nat, l'[k]? = if i ≤ k ∧ k < i + vs.length then (vs[k - i]?).map (fun v => (v, g)) else l[k]?
  | 0, l, l', h => by
    obtain ⟨h1, h2, h3⟩ := wrN_get h
    refine ⟨by omega, h2, fun k => ?_⟩
    rw [h3 k]
    by_cases e : k < vs.length
    · rw [if_pos e, if_pos (by omega)]; rfl
    · rw [if_neg e, if_neg (by omega)]
  | i + 1, [], l', h => by simp [wrAt] at h
  | i + 1, c :: r, l', h => by
    simp only [wrAt] at h
    cases hr : wrAt g vs i r with
    | none => simp [hr] at h
    | some r' =>
      simp only [hr, Option.some.injEq] at h
      subst h
      obtain ⟨h1, h2, h3⟩ := wrAt_get hr
      refine ⟨by simp; omega, by simp [h2], fun k => ?_⟩
      cases k with
      | zero => simp
      | succ k =>
        simp only [List.getElem?_cons_succ, h3 k]
        by_cases e : i ≤ k ∧ k < i + vs.length
        · rw [if_pos e, if_pos (by omega), show k + 1 - (i + 1) = k - i by omega]
        · rw [if_neg e, if_neg (by omega)]

/-! ### Reading -/
theorem Rel.read {P : Program} {σ : Pl} {H : AHeap} {w : World} (h : Rel P σ H w) {F g i o n : Nat} {pl : Place} {ty : TypeId} {cells : List (Value × Nat)} {gen : Nat} {ro : Bool} {vs : List Value}
    (hp : σ F g = some pl) (hF : H.get F = some (.row ty cells gen ro)) (hlo : pl.lo ≤ i) (ho : (o : Int) = i + pl.d) (hr : rdAt cells i g n = some vs) :
    ∃ cvs, VRs σ vs cvs ∧ cvs.length = n ∧ ∀ (k : Nat) (c : Value), cvs[k]? = some c → w.cell? ((⟨pl.b, o, none⟩ : Addr).add k) = some c := by
  obtain ⟨hlen, hg⟩ := rdAt_get hr
  obtain ⟨_, _, _, cs, ty', fr, hb, _, hc⟩ := h.obj hp hF
  have key : ∀ (k : Nat) (v : Value), vs[k]? = some v → ∃ c, w.cell? ((⟨pl.b, o, none⟩ : Addr).add k) = some c ∧ VR σ v c := by
    intro k v hk
    obtain ⟨q, h1, h2⟩ := hg k v hk
    obtain ⟨j, c, h3, h4, h5⟩ := hc (i + k) v q (by omega) h1 h2
    refine ⟨c, ?_, h5⟩
    rw [add_at, cell_of_row w pl.b (o + k) cs ty' fr hb, show o + k = j by omega]
    exact h4
  clear hg hr
  have : ∀ (us : List Value) (m : Nat), (∀ (k : Nat) (v : Value), us[k]? = some v → ∃ c, w.cell? ((⟨pl.b, o, none⟩ : Addr).add (m + k)) = some c ∧ VR σ v c) →
      ∃ cvs, VRs σ us cvs ∧ ∀ (k : Nat) (c : Value), cvs[k]? = some c → w.cell? ((⟨pl.b, o, none⟩ : Addr).add (m + k)) = some c := by
    intro us
    induction us with
    | nil => intro m _; exact ⟨[], .nil, by simp⟩
    | cons u us ih =>
      intro m hk
      obtain ⟨c, h1, h2⟩ := hk 0 u (by simp)
      obtain ⟨cvs, h3, h4⟩ := ih (m + 1) fun k v hv => by
        obtain ⟨c', h5, h6⟩ := hk (k + 1) v (by simpa using hv)
        exact ⟨c', by rw [show m + 1 + k = m + (k + 1) by omega]; exact h5, h6⟩
      refine ⟨c :: cvs, .cons h2 h3, fun k c' hc' => ?_⟩
      cases k with
      | zero => simp at hc'; subst hc'; exact h1
      | succ k => simp at hc'; rw [show m + (k + 1) = m + 1 + k by omega]; exact h4 k c' hc'
  obtain ⟨cvs, h1, h2⟩ := this vs 0 fun k v hv => by simpa using key k v hv
  exact ⟨cvs, h1, by rw [h1.length, hlen], fun k c hc' => by simpa using h2 k c hc'⟩

theorem run_isAgg {P : Program} {t : TypeId} {b : Bool} (h : isAggB P t = some b) (w : World) : (isAgg t).run P w = .ok b w := by
  unfold isAggB at h
  cases hu : P.underlying t with
  | none => simp [hu] at h
  | some d => cases d <;> simp [hu] at h <;> subst h <;> simp [isAgg, underlying, hu]

theorem run_sizeOf {P : Program} {t : TypeId} {inf : TypeInfo} (h : P.info? t = some inf) (w : World) : (sizeOf t).run P w = .ok inf.size w := by
  simp [sizeOf, typeInfo, h]

theorem run_loadCells_of {P : Program} {w : World} {a : Addr} {l : List Value} {n : Nat} (hl : l.length = n) (h : ∀ (k : Nat) (c : Value), l[k]? = some c → w.cell? (a.add k) = some c) :
    (loadCells a n).run P w = .ok ⟨l⟩ w := by
  subst hl
  simpa using run_loadCells_list (P := P) w a l h

theorem sim_loadVar {P : Program} {σ : Pl} {H : AHeap} {w : World} (h : Rel P σ H w) {t : TypeId} {a ca v : Value} (ha : VR σ a ca) (hl : aload P H t a = some v) :
    ∃ ad c, ca = .pointer (some ad) ∧ (loadVar t ad).run P w = .ok c w ∧ VR σ v c := by
  unfold aload at hl
  split at hl
  · rename_i F i g
    obtain ⟨pl, o, rfl, hp, hlo, ho⟩ := ha.ptr_inv
    refine ⟨⟨pl.b, o, none⟩, ?_⟩
    cases hag : isAggB P t with
    | none => simp [hag] at hl
    | some b =>
      simp only [hag] at hl
      cases hi : P.info? t with
      | none => simp [hi] at hl
      | some inf =>
        simp only [hi] at hl
        unfold rdVar at hl
        split at hl
        · rename_i ty cells gen ro hF
          cases b with
          | true =>
            simp only at hl
            cases hr : rdAt cells i g inf.size with
            | none => simp [hr] at hl
            | some vs =>
              simp only [hr, Option.some.injEq] at hl
              subst hl
              obtain ⟨cvs, h1, h2, h3⟩ := h.read hp hF hlo ho hr
              exact ⟨.agg ⟨cvs⟩, rfl, by simp [loadVar, run_isAgg hag, run_sizeOf hi, run_loadCells_of h2 h3], .agg h1⟩
          | false =>
            simp only at hl
            cases hr : rdAt cells i g 1 with
            | none => simp [hr] at hl
            | some vs =>
              simp only [hr] at hl
              obtain ⟨cvs, h1, h2, h3⟩ := h.read hp hF hlo ho hr
              cases h1 with
              | nil => simp at hl
              | cons h4 h5 =>
                simp at hl; subst hl
                have := h3 0 _ (by simp; rfl)
                rw [add_at, Nat.add_zero] at this
                exact ⟨_, rfl, by simp [loadVar, run_isAgg hag, this], h4⟩
        · simp at hl
  · simp at hl

theorem sim_loadAt {P : Program} {σ : Pl} {H : AHeap} {w : World} (h : Rel P σ H w) {t : TypeId} {a ca v : Value} (ha : VR σ a ca) (hl : aload P H t a = some v) :
    ∃ c, (Instr.loadAt t ca).run P w = .ok c w ∧ VR σ v c := by
  obtain ⟨ad, c, rfl, h1, h2⟩ := sim_loadVar h ha hl
  exact ⟨c, by simp [Instr.loadAt, Instr.sureAddr, h1], h2⟩

/-! ### Writing -/
theorem heap_setCell_at (w : World) (b i : Nat) (v : Value) {cs : Array Value} {t : TypeId} {fr : Nat × Nat} (hb : w.heap[b]? = some (.cells cs t fr)) :
    (w.setCell ⟨b, i, none⟩ v).heap[b]? = some (.cells (cs.setIfInBounds i v) t fr) := by
  simp [World.setCell, Array.getElem?_modify, hb]

theorem run_storeCells_row {P : Program} (b o : Nat) (t : TypeId) (fr : Nat × Nat) : ∀ (vs : List Value) (i : Nat) (w : World) (cs : Array Value), w.heap[b]? = some (.cells cs t fr) →
    o + i + vs.length ≤ cs.size → (∀ off, off < cs.size → ¬ (fr.1 ≤ off ∧ off < fr.2)) → (∀ v ∈ vs, v.oneCell' = true) →
    ∃ w' cs', (storeCells ⟨b, o, none⟩ vs i).run P w = .ok () w' ∧ w'.heap[b]? = some (.cells cs' t fr) ∧ cs'.size = cs.size ∧
      (∀ j : Nat, cs'[j]? = if o + i ≤ j ∧ j < o + i + vs.length then vs[j - (o + i)]? else cs[j]?) ∧
      w'.heap.size = w.heap.size ∧ (∀ k, k ≠ b → w'.heap[k]? = w.heap[k]?) ∧ w'.os = w.os ∧ w'.tape = w.tape ∧ w'.output = w.output
  | [], i, w, cs, hb, _, _, _ => ⟨w, cs, rfl, hb, rfl, fun j => by rw [if_neg (by simp)], rfl, fun _ _ => rfl, rfl, rfl, rfl⟩
  | v :: vs, i, w, cs, hb, hsz, hfr, h1 => by
    have hi : o + i < cs.size := by simp at hsz; omega
    have hv := h1 v (by simp)
    have hcell : w.cell? ⟨b, o + i, none⟩ = some cs[o + i] := by rw [cell_of_row w b _ cs t fr hb]; simp [hi]
    have hfz : w.frozen? ⟨b, o + i, none⟩ = false := by
      have := hfr (o + i) hi
      simp only [World.frozen?, hb]
      cases h2 : (fr.1 ≤ o + i && o + i < fr.2 : Bool) with
      | false => rfl
      | true => simp at h2; exact absurd h2 this
    have hb1 := heap_setCell_at w b (o + i) v hb
    obtain ⟨w', cs', r1, r2, r3, r4, r5, r6, r7, r8, r9⟩ := run_storeCells_row b o t fr vs (i + 1) (w.setCell ⟨b, o + i, none⟩ v) (cs.setIfInBounds (o + i) v) hb1
      (by simp at hsz ⊢; omega) (by simpa using hfr) (fun x hx => h1 x (by simp [hx]))
    refine ⟨w', cs', ?_, r2, by simpa using r3, ?_, by simpa using r5, ?_, r7, r8, r9⟩
    · rw [storeCells, Sem.run_bind, add_at, run_store P w _ v .plain hv, hcell]
      simp only [hfz]
      exact r1
    · intro j
      rw [r4 j]
      by_cases e : o + (i + 1) ≤ j ∧ j < o + (i + 1) + vs.length
      · rw [if_pos e, if_pos (by simp; omega), show j - (o + i) = (j - (o + (i + 1))) + 1 by omega]; simp
      · rw [if_neg e]
        by_cases e2 : j = o + i
        · subst e2; rw [if_pos (by simp)]; simp [hi]
        · rw [if_neg (by simp; omega), Array.getElem?_setIfInBounds_ne (by omega)]
    · intro k hk
      rw [r6 k hk]
      exact heap_setCell_other w _ k v (by simpa using hk)

/-- A piece of a row is written. -/
theorem sim_wr {P : Program} {σ : Pl} {H H' : AHeap} {w : World} (h : Rel P σ H w) {F g i o : Nat} {pl : Place} {vs cvs : List Value} (hp : σ F g = some pl) (hlo : pl.lo ≤ i) (ho : (o : Int) = i + pl.d)
    (hv : VRs σ vs cvs) (hne : vs ≠ []) (hw : wrCells H F i g vs = some H') :
    ∃ w', (storeCells ⟨pl.b, o, none⟩ cvs).run P w = .ok () w' ∧ Step P σ H w σ H' w' := by
  unfold wrCells at hw
  split at hw
  · rename_i ty cells gen ro hF
    split at hw
    · rename_i e2 e3
      have hg : g = gen := Nat.eq_of_beq_eq_true e2
      subst hg
      cases hwr : wrAt g vs i cells with
      | none => simp [hwr] at hw
      | some cells' =>
        simp only [hwr, Option.some.injEq] at hw
        subst hw
        obtain ⟨hw1, hw2, hw3⟩ := wrAt_get hwr
        obtain ⟨_, hgens, _, cs, ty', fr, hb, hro, hc⟩ := h.obj hp hF
        obtain ⟨hty, hsz, hfr⟩ := hro rfl
        subst hty
        have hlen := hv.length
        have hpos : 0 < vs.length := List.length_pos_iff.2 hne
        have h1 : ∀ v ∈ cvs, v.oneCell' = true := by
          intro c hc'
          obtain ⟨k, hk⟩ := List.mem_iff_getElem?.1 hc'
          have hk' : k < vs.length := by rw [← hlen]; exact (List.getElem?_eq_some_iff.1 hk).1
          obtain ⟨c', hc2, hc3⟩ := hv.get (List.getElem?_eq_getElem hk')
          rw [hk] at hc2; cases hc2
          exact hc3.cellable (by rw [List.all_eq_true] at e3; exact e3 _ (List.getElem_mem hk'))
        have hin : o + 0 + cvs.length ≤ cs.size := by
          have hk : i + vs.length - 1 < cells.length := by omega
          obtain ⟨j, c, q1, q2, _⟩ := hc (i + vs.length - 1) cells[i + vs.length - 1].1 cells[i + vs.length - 1].2 (by omega) (List.getElem?_eq_getElem hk) (hgens _ _ _ (List.getElem?_eq_getElem hk))
          have := (Array.getElem?_eq_some_iff.1 q2).1
          omega
        obtain ⟨w', cs', r1, r2, r3, r4, r5, r6, r7, r8, r9⟩ := run_storeCells_row (P := P) pl.b o ty' fr cvs 0 w cs hb hin hfr h1
        refine ⟨w', r1, ?_⟩
        refine Step.change h hF (by rintro _ _ _ ⟨⟩) (Ext.refl σ) (fun a => .inl a) (by omega) ?_ ?_ ?_ ⟨g, pl, hp⟩ ?_ r7 r8 r9
        · intro b hb' hn
          exact r6 b (fun e => hn g pl hp e.symm)
        · intro g1 pl1 g2 pl2 a b c
          rcases h.inj a b c with ⟨_, e⟩ | ⟨⟨_, _, _, e⟩, _⟩
          · exact e
          · rw [hF] at e; cases e
        · intro g' pl' hp'
          obtain ⟨k1, _, ksc, cs2, ty2, fr2, k2, k4, k5⟩ := h.obj hp' hF
          have kg : ∀ (k : Nat) (v : Value) (q : Nat), cells'[k]? = some (v, q) → q ≤ g := by
            intro k v q hk
            rw [hw3 k] at hk
            split at hk
            · cases hx : vs[k - i]? with
              | none => simp [hx] at hk
              | some x => simp [hx] at hk; omega
            · exact hgens k v q hk
          by_cases hbb : pl'.b = pl.b
          · have hd : pl'.d = pl.d := by
              rcases h.inj hp' hp hbb with ⟨_, e⟩ | ⟨⟨_, _, _, e⟩, _⟩
              · exact e
              · rw [hF] at e; cases e
            rw [hbb, hb] at k2; cases k2
            refine ⟨k1, kg, ksc, cs', ty', fr, by rw [hbb]; exact r2, fun _ => ⟨rfl, by rw [r3]; exact (k4 rfl).2.1, by rw [r3]; exact hfr⟩, ?_⟩
            intro k v q hk1 hk2 hk3
            rw [hw3 k] at hk2
            split at hk2
            · rename_i hrange
              cases hx : vs[k - i]? with
              | none => simp [hx] at hk2
              | some x =>
                simp [hx] at hk2
                obtain ⟨c, hc1, hc2⟩ := hv.get hx
                refine ⟨o + (k - i), c, by omega, ?_, by rw [← hk2.1]; exact hc2⟩
                rw [r4, if_pos (by omega), show o + (k - i) - (o + 0) = k - i by omega]
                exact hc1
            · rename_i hrange
              obtain ⟨j, c, q1, q2, q3⟩ := k5 k v q hk1 hk2 hk3
              refine ⟨j, c, q1, ?_, q3⟩
              rw [r4, if_neg (by omega)]
              exact q2
          · refine ⟨k1, kg, ksc, cs2, ty2, fr2, by rw [r6 _ hbb]; exact k2, k4, ?_⟩
            intro k v q hk1 hk2 hk3
            rw [hw3 k] at hk2
            split at hk2
            · exfalso
              cases hx : vs[k - i]? with
              | none => simp [hx] at hk2
              | some x =>
                simp [hx] at hk2
                have : g' = g := by omega
                subst this
                rw [hp] at hp'; cases hp'; exact hbb rfl
            · exact k5 k v q hk1 hk2 hk3
        · intro g' pl' r hp' hr
          obtain ⟨_, _, _, cs2, ty2, fr2, k2, _⟩ := h.obj hp' hF
          rw [k2] at hr; cases hr
    · simp at hw
  · simp at hw

theorem sim_storeAt {P : Program} {σ : Pl} {H H' : AHeap} {w : World} (h : Rel P σ H w) {t : TypeId} {a ca v cv : Value} (ha : VR σ a ca) (hv : VR σ v cv) (hs : astore P H t a v = some H') :
    ∃ w', (Instr.storeAt t ca cv).run P w = .ok () w' ∧ Step P σ H w σ H' w' := by
  unfold astore at hs
  split at hs
  · rename_i F i g vs hvs
    obtain ⟨pl, o, rfl, hp, hlo, ho⟩ := ha.ptr_inv
    have hcs := hv.cells hvs
    cases hi : P.info? t with
    | none => simp [hi] at hs
    | some inf =>
      simp only [hi] at hs
      split at hs
      · rename_i hlen
        have hlen' : cv.cells.size = inf.size := by
          have h1 := hcs.length
          have h2 := Nat.eq_of_beq_eq_true hlen
          simp at h1; omega
        split at hs
        · simp only [Option.some.injEq] at hs
          subst hs
          have hnil : cv.cells.toList = [] := by have := hcs.length; simpa using this
          exact ⟨w, by simp [Instr.storeAt, Instr.sureAddr, storeVar, run_sizeOf hi, hlen', hnil, storeCells], Step.refl h⟩
        · obtain ⟨w', r1, r2⟩ := sim_wr h hp hlo ho hcs (by simp) hs
          exact ⟨w', by simp [Instr.storeAt, Instr.sureAddr, storeVar, run_sizeOf hi, hlen', r1], r2⟩
      · simp at hs
  · simp at hs

end Go.AE
