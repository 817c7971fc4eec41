/-
  AE: operations that call nothing, on: slices.
-/
import Derived.Test.YtkhbnkncnmeefaaDoorAeOps2
namespace Go.AE

inductive OptR (σ : Pl) : Option Value → Option Value → Prop
  | no : OptR σ Option.none Option.none
  | yes {v c : Value} : VR σ v c → OptR σ (Option.some v) (Option.some c)

theorem OptR.map {σ : Pl} {f g : Operand → Value} (hρ : ∀ x, VR σ (f x) (g x)) : ∀ x : Option Operand, OptR σ (x.map f) (x.map g)
  | .none => .no
  | .some x => .yes (hρ x)

theorem sim_bound {P : Program} {σ : Pl} {w : World} {y y' : Nat} {x c : Value} {d r : Nat} (code : BoundsCode) (hx : VR σ x c) (h : abound y (some x) d = some r) (hy : y ≤ y') :
    (Instr.sliceBound c y' code).run P w = .ok r w ∧ r ≤ y := by
  unfold abound at h
  cases x <;> try (simp at h; done)
  rename_i k i
  cases hx.int_inv
  simp only at h
  split at h
  · rename_i e1 e2
    simp only [Option.some.injEq] at h
    subst h
    have e1 := of_decide_eq_true e1
    have e2 := Nat.le_of_ble_eq_true e2
    exact ⟨run_sliceBound w k i y' code e1 (by omega), e2⟩
  · simp at h

theorem sim_bounds {P : Program} {σ : Pl} {w : World} {isS : Bool} {len room cap l h m : Nat} {lo hi mx clo chi cmx : Option Value} (hlo : OptR σ lo clo) (hhi : OptR σ hi chi) (hmx : OptR σ mx cmx)
    (h1 : len ≤ room) (h2 : room ≤ cap) (hb : abounds len room lo hi mx = some (l, h, m)) :
    ∃ mc, (Instr.sliceBounds isS len cap clo chi cmx).run P w = .ok (l, h, mc) w ∧ l ≤ h ∧ h ≤ m ∧ m ≤ mc ∧ mc ≤ cap ∧ m ≤ room ∧ (mx.isSome = true → mc = m) ∧ (mx = none → mc = cap) := by
  unfold abounds at hb
  cases hm : abound room mx room with
  | none => simp [hm] at hb
  | some m' =>
    simp only [hm] at hb
    split at hb
    · simp at hb
    · rename_i hnn
      cases hh : abound m' hi len with
      | none => simp [hh] at hb
      | some h' =>
        simp only [hh] at hb
        cases hl : abound h' lo 0 with
        | none => simp [hl] at hb
        | some l' =>
          simp only [hl, Option.some.injEq, Prod.mk.injEq] at hb
          obtain ⟨rfl, rfl, rfl⟩ := hb
          have hL : ∀ code, (match clo with | some v => Instr.sliceBound v h' code | none => Pure.pure 0 : Sem Nat).run P w = .ok l' w ∧ l' ≤ h' := by
            intro code
            cases hlo with
            | no => simp only [abound, Option.some.injEq] at hl; subst hl; exact ⟨rfl, Nat.zero_le _⟩
            | yes hv => exact sim_bound code hv hl (Nat.le_refl _)
          cases hmx with
          | no =>
            simp only [abound, Option.some.injEq] at hm
            subst hm
            cases hhi with
            | no =>
              simp only [abound, Option.some.injEq] at hh
              subst hh
              refine ⟨cap, ?_, (hL .sliceB).2, h1, h2, Nat.le_refl _, Nat.le_refl _, by simp, fun _ => rfl⟩
              have a := (hL .sliceB).1
              cases hlo <;> simp_all [Instr.sliceBounds]
            | yes hv =>
              have b := sim_bound (P := P) (w := w) (y' := cap) (if isS then .sliceAcap else .sliceAlen) hv hh h2
              refine ⟨cap, ?_, (hL .sliceB).2, b.2, h2, Nat.le_refl _, Nat.le_refl _, by simp, fun _ => rfl⟩
              have a := (hL .sliceB).1
              cases hlo <;> simp_all [Instr.sliceBounds]
          | yes hv3 =>
            have c := sim_bound (P := P) (w := w) (y' := cap) (if isS then .slice3Acap else .slice3Alen) hv3 hm h2
            cases hhi with
            | no => simp at hnn
            | yes hv =>
              have b := sim_bound (P := P) (w := w) (y' := m') .slice3B hv hh (Nat.le_refl _)
              refine ⟨m', ?_, (hL .slice3C).2, b.2, Nat.le_refl _, by omega, c.2, fun _ => rfl, by simp⟩
              have a := (hL .slice3C).1
              cases hlo <;> simp_all [Instr.sliceBounds]

theorem toList_extract (s : ByteArray) (l h : Nat) : (s.extract l h).data.toList = (s.data.toList.drop l).take (h - l) := by
  rw [ByteArray.data_extract, Array.toList_extract]

theorem str_eq_of {s : ByteArray} {l : List UInt8} (h : s.data.toList = l) : str l = .string s := by subst h; rfl

theorem Rel.sc {P : Program} {σ : Pl} {H : AHeap} {w : World} (h : Rel P σ H w) {F g : Nat} {pl : Place} {ty : TypeId} {cells : List (Value × Nat)} {gen : Nat} {ro : Bool}
    (hp : σ F g = some pl) (hF : H.get F = some (.row ty cells gen ro)) : pl.s = P.cellsOf ty := (h.obj hp hF).sc

theorem sim_slice {P : Program} {σ : Pl} {H : AHeap} {w : World} (hrel : Rel P σ H w) {t : TypeId} {x cx v : Value} {lo hi mx clo chi cmx : Option Value} (hx : VR σ x cx)
    (hlo : OptR σ lo clo) (hhi : OptR σ hi chi) (hmx : OptR σ mx cmx) (h : aslice P H t x lo hi mx = some v) :
    ∃ c, (Instr.sliceAt t cx clo chi cmx).run P w = .ok c w ∧ VR σ v c := by
  unfold aslice at h
  split at h
  · -- a text
    rename_i s hu
    cases hx.string_inv
    split at h
    · rename_i l hh m e
      cases hmx
      cases h
      have hsz : s.size = s.data.toList.length := rfl
      obtain ⟨mc, q1, _⟩ := sim_bounds (P := P) (w := w) (isS := false) (cap := s.data.toList.length) hlo hhi (.no (σ := σ)) (Nat.le_refl _) (Nat.le_refl _) e
      rw [← hsz] at q1
      refine ⟨.string (s.extract l hh), ?_, by rw [str_eq_of (toList_extract s l hh)]; exact .same _ rfl⟩
      simp [Instr.sliceAt, run_underlying hu, Instr.slice, q1]
    · simp at h
  · -- a row
    rename_i elem F o room len g hu
    obtain ⟨pl, co, cap, rfl, hp, hpl, h1, h2, h3⟩ := hx.slice_inv
    split at h
    · rename_i l hh m s e hs
      obtain ⟨mc, q1, q2, q3, q4, q5, q6, q7, _⟩ := sim_bounds (P := P) (w := w) (isS := true) hlo hhi hmx h1 h2 e
      have hrun : (Instr.sliceAt t (.slice (some ⟨pl.b, co, none⟩) len cap) clo chi cmx).run P w = .ok (sliced (some ⟨pl.b, co, none⟩) l hh mc s) w := by
        simp [Instr.sliceAt, run_underlying hu, Instr.slice, q1, sizeOf?_run hs, sliced]
      refine ⟨_, hrun, ?_⟩
      split at h
      · rename_i hb
        simp only [Bool.and_eq_true] at hb
        have e1 := q7 hb.1
        have e2 := Nat.eq_of_beq_eq_true hb.2
        cases h
        have : sliced (some ⟨pl.b, co, none⟩) l hh mc s = .slice (some ⟨pl.b, co, none⟩) 0 0 := by
          unfold sliced; rw [if_pos (by omega), show hh - l = 0 by omega, show mc - l = 0 by omega]
        rw [this]
        exact .bare _
      · split at h
        · rename_i ty cells gen ro hF
          split at h
          · rename_i s' hs'
            split at h
            · rename_i hss
              cases h
              have hss := Nat.eq_of_beq_eq_true hss
              have hsc : pl.s = s := by rw [hrel.sc hp hF, sizeOf?_cells hs', hss]
              by_cases hml : mc = l
              · have : sliced (some ⟨pl.b, co, none⟩) l hh mc s = .slice (some ⟨pl.b, co, none⟩) (hh - l) (mc - l) := by unfold sliced; rw [if_pos hml]
                rw [this]
                exact .slice hp (by omega) (by omega) (by omega) (.inl (by omega))
              · have : sliced (some ⟨pl.b, co, none⟩) l hh mc s = .slice (some ⟨pl.b, co + l * s, none⟩) (hh - l) (mc - l) := by
                  unfold sliced; rw [if_neg hml]; simp [add_at]
                rw [this]
                refine .slice hp (by omega) (by omega) (by omega) ?_
                rcases h3 with h3 | ⟨h3, h4⟩
                · exact .inl (by omega)
                · refine .inr ⟨by push_cast; omega, ?_⟩
                  rw [hsc] at h4 ⊢
                  have : l * s + (mc - l) * s = mc * s := by rw [← Nat.add_mul]; congr 1; omega
                  have := Nat.mul_le_mul_right s q5
                  omega
            · simp at h
          · simp at h
        · simp at h
    · simp at h
  · -- nil
    rename_i elem hu
    obtain ⟨rfl, _, _⟩ := hx.nils_inv
    split at h
    · rename_i b s e hs
      obtain ⟨l, hh, m⟩ := b
      cases h
      obtain ⟨mc, q1, q2, q3, q4, q5, q6, _⟩ := sim_bounds (P := P) (w := w) (isS := true) (cap := 0) hlo hhi hmx (Nat.le_refl _) (Nat.le_refl _) e
      refine ⟨.slice none 0 0, ?_, .same _ rfl⟩
      have : mc = l := by omega
      simp [Instr.sliceAt, run_underlying hu, Instr.slice, q1, sizeOf?_run hs, this]
      omega
    · simp at h
  · -- without room
    rename_i elem hu
    obtain ⟨⟨a, rfl⟩, _⟩ := hx.bare_inv
    split at h
    · rename_i b s e hs
      obtain ⟨l, hh, m⟩ := b
      cases h
      obtain ⟨mc, q1, q2, q3, q4, q5, q6, _⟩ := sim_bounds (P := P) (w := w) (isS := true) (cap := 0) hlo hhi hmx (Nat.le_refl _) (Nat.le_refl _) e
      refine ⟨.slice (some a) 0 0, ?_, .bare a⟩
      have : mc = l := by omega
      simp [Instr.sliceAt, run_underlying hu, Instr.slice, q1, sizeOf?_run hs, this]
      omega
    · simp at h
  · simp at h

theorem wrap_small {n : Int} (h0 : 0 ≤ n) (h : n ≤ 9223372036854775807) : IntKind.i64.wrap n = n := by
  unfold IntKind.wrap; simp [IntKind.bits, IntKind.signed]; omega

theorem sim_makeSlice {P : Program} {σ : Pl} {H H' : AHeap} {w : World} (h : Rel P σ H w) {t : TypeId} {len cap clen ccap v : Value} (hl : VR σ len clen) (hc : VR σ cap ccap) (ha : amakeSlice P H t len cap = some (v, H')) :
    ∃ w' σ' c, (Instr.makeSlice t clen ccap).run P w = .ok c w' ∧ Step P σ H w σ' H' w' ∧ VR σ' v c := by
  unfold amakeSlice at ha
  split at ha
  · rename_i elem kl l kc c hu
    cases hl.int_inv
    cases hc.int_inv
    split at ha
    · rename_i z inf e1 hz hi
      split at ha
      · rename_i e2
        simp only [Bool.and_eq_true] at e2
        obtain ⟨h0, h1, h2⟩ := of_decide_eq_true e1
        have hzs : z.cells.size = inf.size := by have := Nat.eq_of_beq_eq_true e2.1; simpa using this
        have hby : c.toNat * inf.bytes ≤ 17592186044416 := Nat.le_of_ble_eq_true e2.2
        have wl : IntKind.i64.wrap l = l := wrap_small h0 (by omega)
        have wc : IntKind.i64.wrap c = c := wrap_small (by omega) (by omega)
        have hbc : (inf.bytes : Int) * c ≤ 17592186044416 := by
          have : ((c.toNat * inf.bytes : Nat) : Int) ≤ 17592186044416 := by omega
          rw [Int.natCast_mul, Int.toNat_of_nonneg (by omega), Int.mul_comm] at this
          exact this
        simp only [Option.some.injEq] at ha
        let cs : Array Value := (Array.range (c.toNat * inf.size)).map (z.cells[· % z.cells.size]!)
        have hcs : cs.toList = zeros z.cells.toList c.toNat := by
          show ((Array.range (c.toNat * inf.size)).map (z.cells[· % z.cells.size]!)).toList = _
          rw [← hzs, range_zeros]
        have hcsz : cs.size = c.toNat * inf.size := by simp [cs]
        have hcell : P.cellsOf elem = inf.size := by simp [Program.cellsOf, hi]
        have hzr : VRs σ (zeros z.cells.toList c.toNat) (zeros z.cells.toList c.toNat) := VRs_zeros (zeroOf_run hz).1 c.toNat
        obtain ⟨σ', q1, q2⟩ := sim_newSlice h elem (fr := (0, 0)) (get_of_VRs hzr cs hcs) (by intro off _; simp) (len := l.toNat) (room := c.toNat) (cap := c.toNat) (by omega) (Nat.le_refl _)
          (by rw [hcell, hcsz]; exact Nat.le_refl _)
        rw [ha] at q1 q2
        refine ⟨_, σ', _, ?_, q1, q2⟩
        have n1 : ¬ c < 0 := by omega
        have n2 : ¬ l < 0 := by omega
        have n3 : ¬ (inf.bytes : Int) * c > 281474976710656 := by omega
        have n4 : ¬ l > c := by omega
        by_cases e0 : c.toNat * inf.size = 0
        · have hr : cs = #[] := by apply Array.eq_empty_of_size_eq_zero; omega
          have hr2 : ∀ f : Nat → Value, (Array.range 0).map f = #[] := by intro f; simp
          simp [Instr.makeSlice, run_underlying hu, asInt, asIntOf, typeInfo, hi, wl, wc, n1, n2, n3, n4, run_sizeOf hi, e0, hr, hr2, Go.newRow]
        · simp [Instr.makeSlice, run_underlying hu, asInt, asIntOf, typeInfo, hi, wl, wc, n1, n2, n3, n4, run_sizeOf hi, e0, run_zeroValue hz, Go.newRow, cs]
      · simp at ha
    · simp at ha
  · simp at ha

end Go.AE
