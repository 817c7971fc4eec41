/-
  AE: operations that call nothing, on: aggregates, addresses, slices.
-/
import Derived.Test.YtkhbnkncnmeefaaDoorAeOps
import Derived.Laws.Slices
namespace Go.AE

theorem sizeOf?_run {P : Program} {t : TypeId} {n : Nat} (h : sizeOf? P t = some n) (w : World) : (sizeOf t).run P w = .ok n w := by
  unfold sizeOf? at h
  cases hi : P.info? t with
  | none => simp [hi] at h
  | some inf => simp [hi] at h; subst h; exact run_sizeOf hi w

theorem sizeOf?_cells {P : Program} {t : TypeId} {n : Nat} (h : sizeOf? P t = some n) : P.cellsOf t = n := by
  unfold sizeOf? at h
  cases hi : P.info? t with
  | none => simp [hi] at h
  | some inf => simp [hi] at h; subst h; simp [Program.cellsOf, hi]

theorem run_places {P : Program} {w : World} : ∀ {fs : List Field} {l : List (Nat × Nat)}, placesOf P fs = some l →
    (fs.mapM fun f => do Pure.pure (f.offset, ← sizeOf f.type) : Sem (List (Nat × Nat))).run P w = .ok l w
  | [], l, h => by simp only [placesOf, Option.some.injEq] at h; subst h; simp
  | f :: fs, l, h => by
    simp only [placesOf] at h
    cases hs : sizeOf? P f.type with
    | none => simp [hs] at h
    | some s =>
      cases hp : placesOf P fs with
      | none => simp [hs, hp] at h
      | some l' =>
        simp [hs, hp] at h
        subst h
        have := run_places (w := w) hp
        simp only [List.mapM_cons, Sem.run_bind, sizeOf?_run hs, Result.andThen_ok, Sem.run_pure, this]

theorem run_places_arr {P : Program} {w : World} {fs : Array Field} {l : List (Nat × Nat)} (h : placesOf P fs.toList = some l) :
    (fs.mapM fun f => do Pure.pure (f.offset, ← sizeOf f.type) : Sem (Array (Nat × Nat))).run P w = .ok ⟨l⟩ w := by
  rw [Array.mapM_eq_mapM_toList, Sem.run_map, run_places h]
  rfl

theorem PartsR.map {σ : Pl} {f g : Operand → Value} (hρ : ∀ x, VR σ (f x) (g x)) : ∀ (l : List (Nat × Operand)), PartsR σ (l.map fun p => (p.1, f p.2)) (l.map fun p => (p.1, g p.2))
  | [] => .nil
  | p :: l => .cons (hρ p.2) (PartsR.map hρ l)

theorem sim_build {P : Program} {σ : Pl} {w : World} {t : TypeId} {parts : List (Nat × Value)} {cparts : Array (Nat × Value)} {v : Value} (hp : PartsR σ parts cparts.toList) (h : abuild P t parts = some v) :
    ∃ c, (Instr.build t cparts).run P w = .ok c w ∧ VR σ v c := by
  unfold abuild at h
  cases hz : zeroOf P t with
  | none => simp [hz] at h
  | some z =>
    simp only [hz] at h
    have hzc : VRs σ z.cells.toList z.cells.toList := VRs_cells_flat (zeroOf_run hz).1
    cases hu : P.underlying t with
    | none => simp [hu] at h
    | some d =>
      cases d <;> simp only [hu] at h <;> try (simp at h; done)
      · -- an array
        rename_i n elem
        cases hs : sizeOf? P elem with
        | none => simp [hs] at h
        | some size =>
          simp only [hs] at h
          cases hf : fillA (fun i => some (i * size, size)) z.cells.toList parts with
          | none => simp [hf] at h
          | some cells =>
            simp only [hf, Option.some.injEq] at h
            subst h
            obtain ⟨cr, h1, h2⟩ := sim_fill hp hzc hf
            exact ⟨.agg cr, by simp [Instr.build, run_zeroValue hz, run_underlying hu, sizeOf?_run hs, h1], .agg h2⟩
      · -- a struct
        rename_i fields
        cases hs : placesOf P fields.toList with
        | none => simp [hs] at h
        | some places =>
          simp only [hs] at h
          cases hf : fillA (fun i => places[i]?) z.cells.toList parts with
          | none => simp [hf] at h
          | some cells =>
            simp only [hf, Option.some.injEq] at h
            subst h
            obtain ⟨cr, h1, h2⟩ := sim_fill hp hzc hf
            have hp' := run_places_arr (w := w) hs
            simp at hp'
            exact ⟨.agg cr, by simp [Instr.build, run_zeroValue hz, run_underlying hu, hp', h1], .agg h2⟩

theorem zeros_length (z : List Value) : ∀ n, (zeros z n).length = n * z.length
  | 0 => by simp [zeros]
  | n + 1 => by simp [zeros, zeros_length z n, Nat.succ_mul, Nat.add_comm]

theorem zeros_get (z : List Value) : ∀ (n k : Nat), k < n * z.length → (zeros z n)[k]? = z[k % z.length]?
  | 0, k, h => by simp at h
  | n + 1, k, h => by
    simp only [zeros]
    by_cases e : k < z.length
    · rw [List.getElem?_append_left e, Nat.mod_eq_of_lt e]
    · rw [List.getElem?_append_right (by omega), zeros_get z n (k - z.length) (by rw [Nat.succ_mul] at h; omega)]
      congr 1
      exact (Nat.mod_eq_sub_mod (by omega)).symm

theorem range_zeros (zero : Array Value) (n : Nat) : ((Array.range (n * zero.size)).map (zero[· % zero.size]!)).toList = zeros zero.toList n := by
  apply List.ext_getElem?
  intro k
  by_cases hk : k < n * zero.size
  · have h0 : 0 < zero.size := by rcases Nat.eq_zero_or_pos zero.size with e | e; · rw [e] at hk; simp at hk
                                  · exact e
    rw [zeros_get zero.toList n k (by simpa using hk)]
    have hm : k % zero.size < zero.size := Nat.mod_lt _ h0
    simp [hk, hm]
  · rw [List.getElem?_eq_none (by simp; omega), List.getElem?_eq_none (by rw [zeros_length]; simp; omega)]

theorem fillA_length {place : Nat → Option (Nat × Nat)} : ∀ {parts : List (Nat × Value)} {cells r : List Value}, fillA place cells parts = some r → r.length = cells.length
  | [], cells, r, h => by simp only [fillA, Option.some.injEq] at h; subst h; rfl
  | (i, v) :: parts, cells, r, h => by
    simp only [fillA] at h
    split at h
    · split at h
      · split at h
        · rename_i hov
          rw [fillA_length h, (overAt_get hov).2.1]
        · simp at h
      · simp at h
    · simp at h

theorem VRs_zeros {σ : Pl} {z : Value} (h : flat z = true) : ∀ n, VRs σ (zeros z.cells.toList n) (zeros z.cells.toList n)
  | 0 => .nil
  | n + 1 => (VRs_cells_flat h).append (VRs_zeros h n)

theorem sim_buildSlice {P : Program} {σ : Pl} {H H' : AHeap} {w : World} (h : Rel P σ H w) {t : TypeId} {len : Nat} {parts : List (Nat × Value)} {cparts : Array (Nat × Value)} {v : Value}
    (hp : PartsR σ parts cparts.toList) (ha : abuildSlice P H t len parts = some (v, H')) :
    ∃ w' σ' c, (Instr.buildSlice t len cparts).run P w = .ok c w' ∧ Step P σ H w σ' H' w' ∧ VR σ' v c := by
  unfold abuildSlice at ha
  split at ha
  · rename_i elem hu
    cases hs : sizeOf? P elem with
    | none => simp [hs] at ha
    | some size =>
      cases hz : zeroOf P elem with
      | none => simp [hs, hz] at ha
      | some z =>
        simp only [hs, hz] at ha
        split at ha
        · rename_i hc
          simp only [Bool.and_eq_true] at hc
          have hzl : z.cells.size = size := by have := Nat.eq_of_beq_eq_true hc.1; simpa using this
          have hle : len * size ≤ 16777216 := Nat.le_of_ble_eq_true hc.2
          cases hf : fillA (fun i => some (i * size, size)) (zeros z.cells.toList len) parts with
          | none => simp [hf] at ha
          | some cells =>
            simp only [hf, Option.some.injEq] at ha
            have hlen := fillA_length hf
            rw [zeros_length] at hlen
            have hzs : VRs σ (zeros z.cells.toList len) (((Array.range (len * size)).map (z.cells[· % z.cells.size]!)).toList) := by
              rw [← hzl, range_zeros]; exact VRs_zeros (zeroOf_run hz).1 len
            obtain ⟨cr, h1, h2⟩ := sim_fill hp hzs hf
            have hcl := h2.length
            obtain ⟨σ', q1, q2⟩ := sim_newSlice h elem (fr := (0, 0)) (get_of_VRs h2 cr rfl) (by intro off _; simp) (len := len) (room := len) (cap := len) (Nat.le_refl _) (Nat.le_refl _)
              (by rw [sizeOf?_cells hs]; simp at hcl hlen; rw [hcl, hlen, hzl]; exact Nat.le_refl _)
            rw [ha] at q1 q2
            refine ⟨_, σ', _, ?_, q1, q2⟩
            have hnot : ¬ len * size > 2 ^ 24 := by simp; omega
            by_cases e0 : len * size = 0
            · have h1' : Instr.fill (fun i => some (i * size, size)) #[] cparts.toList = some cr := by rw [← h1]; congr 1; simp [e0]
              have hr : ∀ f : Nat → Value, (Array.range 0).map f = #[] := by intro f; simp
              simp [Instr.buildSlice, run_underlying hu, sizeOf?_run hs, e0, hr, h1', Go.newRow]
            · simp only [Instr.buildSlice, Sem.run_bind, run_underlying hu, Result.andThen_ok, sizeOf?_run hs, hnot, if_false, e0, Sem.run_pure, run_zeroValue hz, h1]
              simp [Go.newRow]
        · simp at ha
  · simp at ha

theorem VR.agg' {σ : Pl} {a b : Array Value} (h : VRs σ a.toList b.toList) : VR σ (.agg a) (.agg b) := by
  cases a; cases b; exact .agg h

theorem VR.tuple' {σ : Pl} {a b : Array Value} (h : VRs σ a.toList b.toList) : VR σ (.tuple a) (.tuple b) := by
  cases a; cases b; exact .tuple h

theorem sim_part {P : Program} {σ : Pl} {w : World} {t : TypeId} {cs : List Value} {ccs : Array Value} {off : Nat} {v : Value} (hc : VRs σ cs ccs.toList) (h : apart P t cs off = some v) :
    ∃ c, (part t ccs off).run P w = .ok c w ∧ VR σ v c := by
  unfold apart at h
  cases hag : isAggB P t with
  | none => simp [hag] at h
  | some b =>
    cases hs : sizeOf? P t with
    | none => cases b <;> simp [hag, hs] at h
    | some n =>
      cases b with
      | true =>
        simp only [hag, hs] at h
        split at h
        · simp only [Option.some.injEq] at h
          subst h
          refine ⟨.agg (ccs.extract off (off + n)), by simp [part, run_isAgg hag, sizeOf?_run hs], VR.agg' (a := ⟨_⟩) ?_⟩
          have : (ccs.extract off (off + n)).toList = (ccs.toList.drop off).take n := by simp
          rw [this]
          exact (hc.drop off).take n
        · simp at h
      | false =>
        simp only [hag, hs] at h
        obtain ⟨c, h1, h2⟩ := hc.get h
        rw [Array.getElem?_toList] at h1
        exact ⟨c, by simp [part, run_isAgg hag, h1], h2⟩

theorem sim_field {P : Program} {σ : Pl} {w : World} {t : TypeId} {x cx v : Value} {f : Nat} (hx : VR σ x cx) (h : afield P t x f = some v) :
    ∃ c, (Instr.field t cx f).run P w = .ok c w ∧ VR σ v c := by
  unfold afield at h
  split at h
  · rename_i fields cs hu
    obtain ⟨ccs, rfl, hc⟩ := hx.agg_inv
    cases hf : fields.toList[f]? with
    | none => simp [hf] at h
    | some fd =>
      simp only [hf] at h
      obtain ⟨c, h1, h2⟩ := sim_part (w := w) hc h
      rw [Array.getElem?_toList] at hf
      exact ⟨c, by simp [Instr.field, run_underlying hu, hf, asAgg, h1], h2⟩
  · simp at h

theorem sim_fieldAddr {P : Program} {σ : Pl} {w : World} {t : TypeId} {x cx v : Value} {f : Nat} (hx : VR σ x cx) (h : afieldAddr P t x f = some v) :
    ∃ c, (Instr.fieldAt t cx f).run P w = .ok c w ∧ VR σ v c := by
  unfold afieldAddr at h
  split at h
  · rename_i fields F i g hu
    obtain ⟨pl, o, rfl, hp, hlo, ho⟩ := hx.ptr_inv
    cases hf : fields.toList[f]? with
    | none => simp [hf] at h
    | some fd =>
      simp only [hf] at h
      split at h
      · rename_i n hs
        simp only [Option.some.injEq] at h
        subst h
        rw [Array.getElem?_toList] at hf
        refine ⟨.pointer (some ⟨pl.b, o + fd.offset, none⟩), ?_, .ptr hp (by omega) (by omega)⟩
        simp [Instr.fieldAt, run_underlying hu, hf, Instr.sureAddr, fieldPlace, sizeOf?_run hs, add_at]
      · simp at h
  · simp at h

theorem sim_indexAddr {P : Program} {σ : Pl} {w : World} {t : TypeId} {x cx ix cix v : Value} (hx : VR σ x cx) (hix : VR σ ix cix) (h : aindexAddr P t x ix = some v) :
    ∃ c, (Instr.indexAt t cx cix).run P w = .ok c w ∧ VR σ v c := by
  unfold aindexAddr at h
  split at h
  · rename_i k i elem F o room len g hu
    cases hix.int_inv
    obtain ⟨pl, co, cap, rfl, hp, hlo, h1, h2, h3⟩ := hx.slice_inv
    split at h
    · rename_i s e1 e2 hs
      simp only [Option.some.injEq] at h
      subst h
      have e1 := of_decide_eq_true e1
      have e2 : i.toNat < len := Nat.le_of_ble_eq_true e2
      have h3 := h3.resolve_left (by omega)
      refine ⟨.pointer (some ⟨pl.b, co + i.toNat * s, none⟩), ?_, .ptr hp (by omega) (by have := h3.1; push_cast at this ⊢; omega)⟩
      have hi : 0 ≤ i ∧ i < (len : Int) := ⟨e1, by omega⟩
      simp [Instr.indexAt, asIntOf, run_underlying hu, hi, sizeOf?_run hs, add_at]
    · simp at h
  · rename_i k i len elem F o g hu
    cases hix.int_inv
    obtain ⟨pl, co, rfl, hp, hlo, ho⟩ := hx.ptr_inv
    split at h
    · rename_i s e1 e2 hs
      simp only [Option.some.injEq] at h
      subst h
      have e1 := of_decide_eq_true e1
      have e2 : i.toNat < len := Nat.le_of_ble_eq_true e2
      refine ⟨.pointer (some ⟨pl.b, co + i.toNat * s, none⟩), ?_, .ptr hp (by omega) (by push_cast; omega)⟩
      have hi : 0 ≤ i ∧ i < (len : Int) := ⟨e1, by omega⟩
      simp [Instr.indexAt, asIntOf, run_underlying hu, Instr.sureAddr, hi, sizeOf?_run hs, add_at]
    · simp at h
  · simp at h

theorem sim_index {P : Program} {σ : Pl} {w : World} {t : TypeId} {x cx ix cix v : Value} (hx : VR σ x cx) (hix : VR σ ix cix) (h : aindex P t x ix = some v) :
    ∃ c, (Instr.index t cx cix).run P w = .ok c w ∧ VR σ v c := by
  unfold aindex at h
  split at h
  · rename_i k i s hu
    cases hix.int_inv
    cases hx.string_inv
    split at h
    · rename_i b e1 hb
      simp only [Option.some.injEq] at h
      subst h
      have e1 := of_decide_eq_true e1
      have hb' : s[i.toNat]? = some b := by
        rw [Array.getElem?_toList] at hb
        obtain ⟨hlt, he⟩ := Array.getElem?_eq_some_iff.1 hb
        have hlt' : i.toNat < s.size := hlt
        rw [getElem?_pos s i.toNat hlt']
        congr 1
      refine ⟨_, ?_, .same _ rfl⟩
      simp [Instr.index, asIntOf, run_underlying hu, e1, hb']
    · simp at h
  · rename_i k i len elem cs hu
    cases hix.int_inv
    obtain ⟨ccs, rfl, hc⟩ := hx.agg_inv
    split at h
    · rename_i s e1 e2 hs
      have e1 := of_decide_eq_true e1
      have e2 : i.toNat < len := Nat.le_of_ble_eq_true e2
      have hi : 0 ≤ i ∧ i < (len : Int) := ⟨e1, by omega⟩
      obtain ⟨c, h1, h2⟩ := sim_part (w := w) hc h
      exact ⟨c, by simp [Instr.index, asIntOf, run_underlying hu, hi, sizeOf?_run hs, h1], h2⟩
    · simp at h
  · simp at h

end Go.AE
