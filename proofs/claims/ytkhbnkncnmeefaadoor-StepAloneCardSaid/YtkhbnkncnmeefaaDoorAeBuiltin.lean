/-
  AE: the builtin functions.
-/
import Derived.Test.YtkhbnkncnmeefaaDoorAeApp2
namespace Go.AE

theorem run_firstCells_zero {P : Program} {w : World} {size : Nat} {x : Value} (hx : (∃ a l c, x = .slice a l c) ∨ ∃ s, x = .string s) : (Builtin.firstCells size 0 x).run P w = .ok #[] w := by
  rcases hx with ⟨a, l, c, rfl⟩ | ⟨s, rfl⟩
  · cases a with
    | none => exact run_firstCells_none w size 0 l c
    | some a => exact run_firstCells_some w size 0 a l c [] (by simp) (by intro _ _ h'; simp at h')
  · have h2 : (s.extract 0 0).data = #[] := by
      apply Array.toList_inj.1
      rw [toList_extract]; simp
    simp [Builtin.firstCells]

theorem VR.slice_kind {σ : Pl} {a : Option Addr} {n g : Nat} {c : Value} (h : VR σ (.slice a n g) c) : ∃ ca cap, c = .slice ca n cap := by
  cases h with
  | same _ _ => exact ⟨_, _, rfl⟩
  | slice _ _ _ _ _ => exact ⟨_, _, rfl⟩
  | bare a => exact ⟨_, _, rfl⟩

theorem run_copy {P : Program} {w w' : World} {ts : Array TypeId} {dt ty elem : TypeId} {base : Option Addr} {dl cap m size : Nat} {x : Value} {cs : List Value} (h0 : ts[0]? = some dt)
    (hu : P.underlying dt = some (.slice elem)) (hsz : sizeOf? P elem = some size) (hl : (Builtin.lenOf x).run P w = .ok m w) (hc : (Builtin.firstCells size (Nat.min m dl) x).run P w = .ok ⟨cs⟩ w)
    (hw : (match base with | some a => storeCells a cs | none => Pure.pure () : Sem Unit).run P w = .ok () w') :
    (Builtin.copy_ ts ty #[.slice base dl cap, x]).run P w = .ok (.int .i64 (Nat.min m dl : Nat)) w' := by
  have hs := sizeOf?_run hsz w
  cases base with
  | none => simp at hw; subst hw; simp [Builtin.copy_, h0, run_underlying hu, hs, hl, hc, goInt]
  | some a => simp at hw; simp [Builtin.copy_, h0, run_underlying hu, hs, hl, hc, hw, goInt]

theorem str_cells {P : Program} {w : World} {s : ByteArray} {size n : Nat} : (Builtin.firstCells size n (.string s)).run P w = .ok ⟨(s.data.toList.take n).map fun b => .int .u8 b.toNat⟩ w := by
  show Result.ok _ w = _
  congr 1
  apply Array.toList_inj.1
  rw [Array.toList_map, toList_extract]
  simp

theorem sim_copy {P : Program} {σ : Pl} {H H' : AHeap} {w : World} (h : Rel P σ H w) {ts : Array TypeId} {dt ty : TypeId} {d cd x cx v : Value} (h0 : ts[0]? = some dt)
    (hd : VR σ d cd) (hx : VR σ x cx) (ha : acopy P H dt d x = some (v, H')) :
    ∃ w' c, (Builtin.copy_ ts ty #[cd, cx]).run P w = .ok c w' ∧ Step P σ H w σ H' w' ∧ VR σ v c := by
  unfold acopy at ha
  split at ha
  · rename_i elem a dl g hu
    obtain ⟨m, hm, hkx, hl⟩ : ∃ m, copyLen x dl = some (Nat.min m dl) ∧ ((∃ a l c, cx = .slice a l c) ∨ ∃ s, cx = .string s) ∧ (Builtin.lenOf cx).run P w = .ok m w := by
      cases x <;> try (simp [copyLen] at ha; done)
      · cases hx.string_inv
        exact ⟨_, rfl, .inr ⟨_, rfl⟩, rfl⟩
      · obtain ⟨cb, cc, rfl⟩ := hx.slice_kind
        exact ⟨_, rfl, .inl ⟨_, _, _, rfl⟩, rfl⟩
    rw [hm] at ha
    split at ha
    · rename_i size hn hsz
      cases ha
      have hn : Nat.min m dl = 0 := Option.some.inj hn
      obtain ⟨ca, cap, rfl⟩ := hd.slice_kind
      refine ⟨w, _, run_copy h0 hu hsz hl (by rw [hn]; exact run_firstCells_zero hkx) (w' := w) ?_, Step.refl h, by rw [hn]; exact .same _ rfl⟩
      cases ca <;> rfl
    · rename_i n size hn hsz
      have hn : Nat.min m dl = n + 1 := Option.some.inj hn
      split at ha
      · rename_i y ys F o room hcells
        split at ha
        · rename_i H2 hw
          cases ha
          obtain ⟨pl, co, cap, rfl, hp, hlo, k1, k2, k3⟩ := hd.slice_inv
          have hle : n + 1 ≤ dl := by rw [← hn]; exact Nat.min_le_right _ _
          have hlem : n + 1 ≤ m := by rw [← hn]; exact Nat.min_le_left _ _
          have k3 := k3.resolve_left (by omega)
          obtain ⟨cvs, hv, hc⟩ : ∃ cvs, VRs σ (y :: ys) cvs ∧ (Builtin.firstCells size (n + 1) cx).run P w = .ok ⟨cvs⟩ w := by
            cases x <;> try (simp [acellsOf] at hcells; done)
            · cases hx.string_inv
              simp only [acellsOf] at hcells
              split at hcells
              · simp only [Option.some.injEq] at hcells
                refine ⟨_, ?_, str_cells⟩
                rw [← hcells]
                exact VRs.map (f := fun b : UInt8 => .int .u8 b.toNat) (g := fun b : UInt8 => .int .u8 b.toNat) fun b _ => .same _ rfl
              · simp at hcells
            · rename_i xa xl xg
              have hml : m = xl := by
                obtain ⟨cb, cc, rfl⟩ := hx.slice_kind
                have : (Result.ok xl w : Result Nat) = .ok m w := hl
                cases this; rfl
              subst hml
              obtain ⟨cb, cc, cvs, rfl, g1, g2⟩ := acellsOf_slice h (size := size) hlem hx hcells
              exact ⟨cvs, g1, g2 w rfl _ _⟩
          obtain ⟨w', r1, r2⟩ := sim_wr h hp hlo k3.1 hv (by simp) hw
          exact ⟨w', _, run_copy h0 hu hsz hl (by rw [hn]; exact hc) (w' := w') r1, r2, by rw [hn]; exact .same _ rfl⟩
        · simp at ha
      · simp at ha
    · simp at ha
  · simp at ha

theorem setIf_same {α : Type} {a : Array α} {i : Nat} {x : α} (h : a[i]? = some x) : a.setIfInBounds i x = a := by
  apply Array.ext_getElem?
  intro j
  by_cases e : i = j
  · subst e
    have := (Array.getElem?_eq_some_iff.1 h).1
    rw [Array.getElem?_setIfInBounds_self_of_lt this, h]
  · rw [Array.getElem?_setIfInBounds_ne e]

theorem EsR.eraseIdx {σ : Pl} : ∀ {es : List (Value × Value × Nat)} {cs : List MapEntry} (i : Nat), EsR σ es cs → EsR σ (es.eraseIdx i) (cs.eraseIdx i)
  | _, _, _, .nil => by simpa using EsR.nil
  | _, _, 0, .cons _ _ h3 => h3
  | _, _, i + 1, .cons h1 h2 h3 => .cons h1 h2 (EsR.eraseIdx i h3)

theorem sim_delete {P : Program} {σ : Pl} {H H' : AHeap} {w : World} (h : Rel P σ H w) {ts : Array TypeId} {t ty : TypeId} {m cm k ck : Value} (h0 : ts[0]? = some t)
    (hm : VR σ m cm) (hk : VR σ k ck) (ha : adelete P H t m k = some H') :
    ∃ w', (Builtin.delete_ ts ty #[cm, ck]).run P w = .ok undef w' ∧ Step P σ H w σ H' w' := by
  unfold adelete at ha
  split at ha
  · rename_i kt et hu
    split at ha
    · rename_i hkk
      cases hk.flat_eq (keyKind_flat hkk)
      obtain ⟨d, hd, hkd⟩ := keyKind_inv hkk
      split at ha
      · cases ha
        cases hm.nilm_inv
        exact ⟨w, by simp [Builtin.delete_, h0, run_underlying hu, run_checkKey hkk, undef], Step.refl h⟩
      · rename_i F
        obtain ⟨pl, rfl, hp⟩ := hm.map_inv
        split at ha
        · rename_i es clock hF
          obtain ⟨_, ces, k1, k2⟩ := h.obj hp hF
          have hnc : ∀ c e f, (Obj.map ces clock) ≠ .cells c e f := by rintro _ _ _ ⟨⟩
          cases hf : findE k es 0 with
          | none => simp [hf] at ha
          | some r =>
            simp only [hf] at ha
            obtain ⟨cr, f1, f2⟩ := sim_findE hkd k2 hf
            rcases f2 with ⟨rfl, rfl⟩ | ⟨j, v', c', b', rfl, rfl, f4, f5, f6⟩
            · cases ha
              refine ⟨{ w with heap := w.heap.setIfInBounds pl.b (.map ces clock) }, ?_, ?_⟩
              · simp [Builtin.delete_, h0, run_underlying hu, run_checkKey hkk, run_getObj k1 hnc, run_findKey hd f1, run_setObj k1 hnc, undef]
              · exact Step.of_heap h (setIf_same k1) rfl rfl rfl
            · cases ha
              simp only [Nat.zero_add] at f1 f5 f6 ⊢
              refine ⟨_, ?_, Step.setObj h hp hF trivial (co' := .map (ces.eraseIdxIfInBounds j) clock) ?_ ?_⟩
              · simp [Builtin.delete_, h0, run_underlying hu, run_checkKey hkk, run_getObj k1 hnc, run_findKey hd f1, run_setObj k1 hnc, undef]
              · refine ⟨rfl, ces.eraseIdxIfInBounds j, ?_, ?_⟩
                · show (w.heap.setIfInBounds pl.b _)[pl.b]? = _
                  rw [Array.getElem?_setIfInBounds_self_of_lt (h.old hp)]
                · have hsub : (ces.eraseIdxIfInBounds j).toList = ces.toList.eraseIdx j := by
                    unfold Array.eraseIdxIfInBounds
                    split
                    · simp
                    · rename_i hge
                      rw [List.eraseIdx_of_length_le (by simpa using hge)]
                  rw [hsub]
                  exact EsR.eraseIdx j k2
              · intro r hr; rw [k1] at hr; cases hr
        · simp at ha
      · simp at ha
    · simp at ha
  · simp at ha

theorem sim_clear {P : Program} {σ : Pl} {H H' : AHeap} {w : World} (h : Rel P σ H w) {ts : Array TypeId} {t ty : TypeId} {x cx : Value} (h0 : ts[0]? = some t)
    (hx : VR σ x cx) (ha : aclear P H t x = some H') :
    ∃ w', (Builtin.clear_ ts ty #[cx]).run P w = .ok undef w' ∧ Step P σ H w σ H' w' := by
  unfold aclear at ha
  split at ha
  · rename_i elem a n g hu
    split at ha
    · cases ha
      obtain ⟨ca, cap, rfl⟩ := hx.slice_kind
      refine ⟨w, ?_, Step.refl h⟩
      cases ca <;> simp [Builtin.clear_, h0, run_underlying hu, undef]
    · rename_i n
      split at ha
      · rename_i z F o room hz
        split at ha
        · simp at ha
        · rename_i y ys hzs
          obtain ⟨pl, co, cap, rfl, hp, hlo, k1, k2, k3⟩ := hx.slice_inv
          have k3 := k3.resolve_left (by omega)
          have hv : VRs σ (y :: ys) (y :: ys) := by rw [← hzs]; exact VRs_zeros (zeroOf_run hz).1 _
          obtain ⟨w', r1, r2⟩ := sim_wr h hp hlo k3.1 hv (by simp) ha
          have hzc : (Builtin.zeroCells z.cells (n + 1)).toList = y :: ys := by
            rw [← hzs, ← range_zeros]; rfl
          refine ⟨w', ?_, r2⟩
          simp [Builtin.clear_, h0, run_underlying hu, run_zeroValue hz, hzc, r1, undef]
      · simp at ha
  · simp at ha

theorem sim_len {P : Program} {σ : Pl} {H : AHeap} {w : World} (h : Rel P σ H w) {x cx : Value} {n : Nat} (hx : VR σ x cx) (ha : alen H x = some n) :
    (∃ a c, cx = .slice a n c) ∨ (∃ s, cx = .string s ∧ s.size = n) ∨ (cx = .map none ∧ n = 0) ∨ ∃ r es clock, cx = .map (some r) ∧ w.heap[r]? = some (.map es clock) ∧ es.size = n := by
  unfold alen at ha
  split at ha
  · cases ha; obtain ⟨ca, cap, rfl⟩ := hx.slice_kind; exact .inl ⟨_, _, rfl⟩
  · cases ha; cases hx.string_inv; exact .inr (.inl ⟨_, rfl, rfl⟩)
  · cases ha; cases hx.nilm_inv; exact .inr (.inr (.inl ⟨rfl, rfl⟩))
  · rename_i F
    obtain ⟨pl, rfl, hp⟩ := hx.map_inv
    split at ha
    · rename_i es clock hF
      cases ha
      obtain ⟨_, ces, k1, k2⟩ := h.obj hp hF
      exact .inr (.inr (.inr ⟨pl.b, ces, clock, rfl, k1, by rw [← k2.length]; simp⟩))
    · simp at ha
  · simp at ha

theorem VRs.one {σ : Pl} {a : Value} {l : List Value} (h : VRs σ [a] l) : ∃ c, l = [c] ∧ VR σ a c := by
  cases h with
  | cons h1 h2 => cases h2; exact ⟨_, rfl, h1⟩

theorem VRs.two {σ : Pl} {a b : Value} {l : List Value} (h : VRs σ [a, b] l) : ∃ c d, l = [c, d] ∧ VR σ a c ∧ VR σ b d := by
  cases h with
  | cons h1 h2 => obtain ⟨d, rfl, h3⟩ := h2.one; exact ⟨_, _, rfl, h1, h3⟩

theorem sim_builtin {P : Program} {σ : Pl} {H H' : AHeap} {w : World} (h : Rel P σ H w) {b : Builtin} {ts : Array TypeId} {ty : TypeId} {consts : Array Bool} {args : List Value} {cargs : Array Value} {v : Value}
    (hargs : VRs σ args cargs.toList) (ha : abuiltin P H b ts args = some (v, H')) : Res P σ H w ((builtin b ts ty consts cargs).run P w) v H' := by
  obtain ⟨cl⟩ := cargs
  unfold abuiltin at ha
  split at ha
  · -- len
    rename_i x
    obtain ⟨c, e, hx⟩ := hargs.one
    simp only at e; subst e
    cases h0 : ts.toList[0]? with
    | none => simp [h0] at ha
    | some t =>
      simp only [h0] at ha
      rw [Array.getElem?_toList] at h0
      cases hu : P.underlying t with
      | none => simp [hu] at ha
      | some d =>
        cases hl : alen H x with
        | none => cases d <;> simp [hu, hl] at ha
        | some n =>
          have hk := sim_len h hx hl
          cases d <;> simp only [hu, hl] at ha <;> try (simp at ha; done)
          · -- string
            split at ha
            · cases ha
              cases hx.string_inv
              simp only [alen, Option.some.injEq] at hl
              subst hl
              rename_i s
              refine Res.pure h (c := .int .i64 (s.size : Nat)) ?_ (.same (.int .i64 (s.size : Nat)) rfl)
              simp [Builtin.len_, h0, run_underlying hu, goInt]
            · simp at ha
          · split at ha
            · cases ha
              obtain ⟨ca, cap, rfl⟩ := hx.slice_kind
              refine Res.pure h (c := .int .i64 n) ?_ (.same _ rfl)
              simp only [alen, Option.some.injEq] at hl
              subst hl
              simp [Builtin.len_, h0, run_underlying hu, goInt]
            · simp at ha
          · split at ha
            · cases ha
              refine Res.pure h (c := .int .i64 n) ?_ (.same _ rfl)
              rename_i r
              cases r with
              | none =>
                cases hx.nilm_inv
                simp only [alen, Option.some.injEq] at hl
                subst hl
                simp [Builtin.len_, h0, run_underlying hu, goInt]
              | some F =>
                obtain ⟨pl, rfl, hp⟩ := hx.map_inv
                rcases hk with ⟨_, _, e⟩ | ⟨_, e, _⟩ | ⟨e, _⟩ | ⟨r, es, clock, e, k1, k2⟩
                · cases e
                · cases e
                · cases e
                · cases e
                  simp [Builtin.len_, h0, run_underlying hu, goInt, run_getObj k1 (by rintro _ _ _ ⟨⟩), k2]
            · simp at ha
  · rename_i s x
    obtain ⟨c, d, e, h1, h2⟩ := hargs.two
    simp only at e; subst e
    cases h0 : ts.toList[0]? with
    | none => simp [h0] at ha
    | some st =>
      cases h01 : ts.toList[1]? with
      | none => simp [h0, h01] at ha
      | some xt =>
        simp only [h0, h01] at ha
        rw [Array.getElem?_toList] at h0 h01
        obtain ⟨w', σ', c', r1, r2, r3⟩ := sim_append (ty := ty) h h0 h01 h1 h2 ha
        exact Res.made r1 r2 r3
  · rename_i s x
    obtain ⟨c, d, e, h1, h2⟩ := hargs.two
    simp only at e; subst e
    cases h0 : ts.toList[0]? with
    | none => simp [h0] at ha
    | some st =>
      simp only [h0] at ha
      rw [Array.getElem?_toList] at h0
      obtain ⟨w', c', r1, r2, r3⟩ := sim_copy (ty := ty) h h0 h1 h2 ha
      exact Res.made r1 r2 r3
  · rename_i s x
    obtain ⟨c, d, e, h1, h2⟩ := hargs.two
    simp only at e; subst e
    cases h0 : ts.toList[0]? with
    | none => simp [h0] at ha
    | some st =>
      simp only [h0] at ha
      rw [Array.getElem?_toList] at h0
      cases hd : adelete P H st s x with
      | none => simp [hd] at ha
      | some H2 =>
        simp only [hd, Option.some.injEq, Prod.mk.injEq] at ha
        obtain ⟨rfl, rfl⟩ := ha
        obtain ⟨w', r1, r2⟩ := sim_delete (ty := ty) h h0 h1 h2 hd
        exact Res.made r1 r2 (.same _ rfl)
  · rename_i x
    obtain ⟨c, e, h1⟩ := hargs.one
    simp only at e; subst e
    cases h0 : ts.toList[0]? with
    | none => simp [h0] at ha
    | some st =>
      simp only [h0] at ha
      rw [Array.getElem?_toList] at h0
      cases hd : aclear P H st x with
      | none => simp [hd] at ha
      | some H2 =>
        simp only [hd, Option.some.injEq, Prod.mk.injEq] at ha
        obtain ⟨rfl, rfl⟩ := ha
        obtain ⟨w', r1, r2⟩ := sim_clear (ty := ty) h h0 h1 hd
        exact Res.made r1 r2 (.same _ rfl)
  · split at ha
    · rename_i l u hf hp
      split at ha
      · rename_i hfu
        cases ha
        have e := VRs.flat_eq (by simpa [List.all_eq_true] using hf) hargs
        simp only at e; subst e
        exact Res.pure h (run_of_pureRun hp w) (.same _ hfu)
      · simp at ha
    · simp at ha
  · split at ha
    · rename_i l u hf hp
      split at ha
      · rename_i hfu
        cases ha
        have e := VRs.flat_eq (by simpa [List.all_eq_true] using hf) hargs
        simp only at e; subst e
        exact Res.pure h (run_of_pureRun hp w) (.same _ hfu)
      · simp at ha
    · simp at ha
  · simp at ha

end Go.AE
