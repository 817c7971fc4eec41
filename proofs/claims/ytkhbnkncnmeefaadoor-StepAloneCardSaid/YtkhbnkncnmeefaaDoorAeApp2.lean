/-
  AE: append, all of it; copy, len, delete, clear, max, min.
-/
import Derived.Test.YtkhbnkncnmeefaaDoorAeApp
namespace Go.AE

theorem sim_appNew {P : Program} {σ : Pl} {H H' : AHeap} {w : World} (h : Rel P σ H w) {ts : Array TypeId} {st xt ty elem : TypeId} {inf : TypeInfo} {nil cnil cx v z : Value} {n : Nat} {vs cvs : List Value}
    (h0 : ts[0]? = some st) (h1 : ts[1]? = some xt) (hu : P.underlying st = some (.slice elem)) (hi : P.info? elem = some inf) (hz : zeroOf P elem = some z) (hzl : z.cells.toList.length = inf.size)
    (hs : ASrc P w inf elem xt cx n cvs) (hv : VRs σ vs cvs) (hnil : VR σ nil cnil) {base : Option Addr} (hc : cnil = .slice base 0 0) (ha : appNew H elem inf nil n vs = some (v, H')) (hn0 : n = 0 → cvs = []) :
    ∃ w' σ' c, (Builtin.append_ ts ty #[cnil, cx]).run P w = .ok c w' ∧ Step P σ H w σ' H' w' ∧ VR σ' v c := by
  subst hc
  unfold appNew at ha
  split at ha
  · cases ha
    have := hn0 rfl
    subst this
    refine ⟨w, σ, _, run_append_room h0 h1 hu hi hs (base := base) (sLen := 0) (sCap := 0) (Nat.le_refl 0) (w' := w) ?_, Step.refl h, by simpa using hnil⟩
    cases base <;> rfl
  · rename_i m
    split at ha
    · rename_i hcond
      simp only [Bool.and_eq_true, Nat.ble_eq, Nat.beq_eq] at hcond
      obtain ⟨⟨e1, e2⟩, e3⟩ := hcond
      have e2 : 0 < inf.bytes := by simpa [Nat.blt, Nat.lt_iff_add_one_le] using e2
      have e3 : vs.length = (m + 1) * inf.size := by simpa using e3
      cases ha
      obtain ⟨cap, rest, r1, r2, r3⟩ := run_append_grow (ty := ty) h0 h1 hu hi hs hz hzl (base := base) (sLen := 0) (sCap := 0) (old := []) (by omega) (by simpa using e1) e2 (by
        intro w' _
        cases base with
        | none => exact run_firstCells_none w' _ _ _ _
        | some a => exact run_firstCells_some w' inf.size 0 a 0 0 [] (by simp) (by intro _ _ h'; simp at h'))
      have hst := Step.drew h
      have hlen := hv.length
      obtain ⟨σ', q1, q2⟩ := sim_newSlice hst.rel elem (vs := vs) (cs := (⟨[]⟩ : Array Value) ++ ⟨cvs⟩ ++ rest) (fr := (0, 0)) (by
          intro k u hk
          obtain ⟨c, g1, g2⟩ := hv.get hk
          have hlt : k < cvs.length := (List.getElem?_eq_some_iff.1 g1).1
          refine ⟨c, ?_, g2⟩
          rw [Array.getElem?_append_left (by simpa using hlt)]
          simpa using g1) (by intro off _; simp) (len := m + 1) (room := m + 1) (cap := cap) (Nat.le_refl _) (by omega) (by
          rw [show P.cellsOf elem = inf.size by simp [Program.cellsOf, hi]]
          simp [r2]
          rw [hlen, e3, ← Nat.add_mul]
          exact Nat.mul_le_mul_right _ (by omega))
      refine ⟨_, σ', _, r3, hst.trans q1 h, ?_⟩
      rw [Nat.zero_add]
      exact q2
    · simp at ha

theorem ASrc.zero {P : Program} {w : World} {inf : TypeInfo} {elem xt : TypeId} {x : Value} {n : Nat} {cs : List Value} (hs : ASrc P w inf elem xt x n cs) (hn : n = 0) : cs = [] := by
  cases hs with
  | sl hk hc =>
    rename_i e a c
    subst hn
    have := hc w rfl
    cases a <;> simp [Builtin.firstCells, loadCells, loadCellsFrom] at this
    · exact this
    · exact this
  | st hk hc =>
    rename_i s
    have := hc w
    rw [hn] at this
    simp [Builtin.firstCells] at this
    exact this
  | zs hk a b c hz hzl => rw [hn]; rfl

theorem sim_append {P : Program} {σ : Pl} {H H' : AHeap} {w : World} (h : Rel P σ H w) {ts : Array TypeId} {st xt ty : TypeId} {s cs x cx v : Value} (h0 : ts[0]? = some st) (h1 : ts[1]? = some xt)
    (hs : VR σ s cs) (hx : VR σ x cx) (ha : aappend P H st xt s x = some (v, H')) :
    ∃ w' σ' c, (Builtin.append_ ts ty #[cs, cx]).run P w = .ok c w' ∧ Step P σ H w σ' H' w' ∧ VR σ' v c := by
  unfold aappend at ha
  split at ha
  · rename_i elem hu
    split at ha
    · rename_i inf z hi hz
      split at ha
      · rename_i n vs hzl hsrc
        have hzl := Nat.eq_of_beq_eq_true hzl
        obtain ⟨cvs, hcs, hv⟩ := sim_appSrc h hz hzl hx hsrc
        split at ha
        · obtain ⟨e, _⟩ := hs.nils_inv
          exact sim_appNew h h0 h1 hu hi hz hzl hcs hv hs e ha hcs.zero
        · obtain ⟨⟨a, e⟩, _⟩ := hs.bare_inv
          exact sim_appNew h h0 h1 hu hi hz hzl hcs hv hs e ha hcs.zero
        · rename_i F o room len g
          obtain ⟨pl, co, cap, e, hp, hlo, k1, k2, k3⟩ := hs.slice_inv
          subst e
          unfold appOld at ha
          split at ha
          · cases ha
            have := hcs.zero rfl
            subst this
            refine ⟨w, σ, _, run_append_room h0 h1 hu hi hcs (by omega) (w' := w) rfl, Step.refl h, hs⟩
          · rename_i m
            split at ha
            · rename_i hroom
              have hroom := Nat.le_of_ble_eq_true hroom
              split at ha
              · simp at ha
              · rename_i y ys
                split at ha
                · rename_i H2 hw
                  cases ha
                  have k3 := k3.resolve_left (by omega)
                  obtain ⟨w', r1, r2⟩ := sim_wr h hp (o := co + len * inf.size) (Nat.le_trans hlo (by omega)) (by omega) hv (by simp) hw
                  refine ⟨w', σ, _, run_append_room h0 h1 hu hi hcs (by omega) (w' := w') ?_, r2, ?_⟩
                  · show (storeCells _ _).run P w = _
                    rw [add_at]; exact r1
                  · exact .slice hp hlo hroom k2 (.inr k3)
                · simp at ha
            · split at ha
              · rename_i hnroom _ ty' cells gen ro hF
                have hnroom : room < len + (m + 1) := by
                  rcases Nat.lt_or_ge room (len + (m + 1)) with h' | h'
                  · exact h'
                  · rw [Nat.ble_eq_true_of_le h'] at hnroom; cases hnroom
                split at ha
                · rename_i hcond
                  simp only [Bool.and_eq_true, Bool.not_eq_true', Nat.ble_eq, Nat.beq_eq] at hcond
                  obtain ⟨⟨⟨⟨⟨⟨e1, e2⟩, e3⟩, e4⟩, e5⟩, e6⟩, e7⟩ := hcond
                  have e4 : 0 < inf.bytes := by simpa [Nat.blt, Nat.lt_iff_add_one_le] using e4
                  have e5 : vs.length = (m + 1) * inf.size := by simpa using e5
                  have e2 : ty' = elem := by simpa using e2
                  subst e1; subst e2
                  split at ha
                  · rename_i us hus
                    cases ha
                    have hcel : P.cellsOf ty' = inf.size := by simp [Program.cellsOf, hi]
                    have hsc : pl.s = inf.size := (h.sc hp hF).trans hcel
                    have hlen := hv.length
                    have hmul : (len + (m + 1)) * inf.size = len * inf.size + (m + 1) * inf.size := Nat.add_mul _ _ _
                    by_cases hroom : len + (m + 1) ≤ cap
                    · have k3 := k3.resolve_left (by omega)
                      have hfit : (len + (m + 1)) * inf.size ≤ cap * inf.size := Nat.mul_le_mul_right _ hroom
                      have hk3 := k3.2
                      rw [hsc] at hk3
                      obtain ⟨w', r1, r2⟩ := sim_grow_same h hp hF (co := co) (q := o + len * inf.size) hlo k3.1 (by omega) e7 (by
                        intro i u k i1 i2 hk
                        obtain ⟨_, hug⟩ := rdAt_get hus
                        have hl := (rdAt_get hus).1
                        have hi' : i - o < us.length := by omega
                        obtain ⟨qq, g1, g2⟩ := hug (i - o) us[i - o] (List.getElem?_eq_getElem hi')
                        rw [show o + (i - o) = i by omega, hk] at g1
                        cases g1
                        exact g2) hv e6 (by omega)
                      rw [show o + len * inf.size - o = len * inf.size by omega] at r1
                      refine ⟨w', _, _, run_append_room h0 h1 hu hi hcs hroom (w' := w') ?_, r2, ?_⟩
                      · show (storeCells _ _).run P w = _
                        rw [add_at]; exact r1
                      · exact .slice (pl := ⟨pl.b, pl.d, o, pl.sz, pl.s⟩) (upd_same _ _ _ _) (Nat.le_refl _) (Nat.le_refl _) hroom (.inr k3)
                    · obtain ⟨ca, c, cus, e, g1, g2⟩ := acellsOf_slice (m := len) h (size := inf.size) (Nat.le_refl _) hs (by simp only [acellsOf, hF]; exact hus)
                      cases e
                      obtain ⟨cap', rest, r1, r2, r3⟩ := run_append_grow (ty := ty) h0 h1 hu hi hcs hz hzl (base := some ⟨pl.b, co, none⟩) (sLen := len) (sCap := cap) (old := cus) (by omega) e3 e4 (fun w' e => g2 w' e _ _)
                      have hst := Step.drew h
                      have hgn := sim_grow_new hst.rel hp hF (o := o) (q := o + len * inf.size) (by omega) e7 (by rw [show o + len * inf.size - o = len * inf.size by omega]; exact hus) g1 hv rest
                      refine ⟨_, _, _, r3, hst.trans hgn h, .slice (pl := ⟨w.heap.size, -(o : Int), o, ((⟨cus⟩ : Array Value) ++ ⟨cvs⟩ ++ rest).size, P.cellsOf ty'⟩) (upd_same _ _ _ _) (Nat.le_refl _) (Nat.le_refl _) r1 (.inr ⟨by show ((0 : Nat) : Int) = o + -(o : Int); omega, ?_⟩)⟩
                      show 0 + cap' * P.cellsOf ty' ≤ ((⟨cus⟩ : Array Value) ++ ⟨cvs⟩ ++ rest).size
                      have hul := g1.length
                      have hul2 := (rdAt_get hus).1
                      simp [r2, hcel]
                      rw [hul, hul2, hlen, e5, ← hmul, ← Nat.add_mul]
                      exact Nat.mul_le_mul_right _ (by omega)
                  · simp at ha
                · simp at ha
              · simp at ha
        · simp at ha
      · simp at ha
    · simp at ha
  · simp at ha

end Go.AE
