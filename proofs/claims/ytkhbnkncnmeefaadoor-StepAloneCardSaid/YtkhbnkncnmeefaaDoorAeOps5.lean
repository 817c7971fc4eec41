/-
  AE: operations that call nothing, on: conversions, maps.
-/
import Derived.Test.YtkhbnkncnmeefaaDoorAeOps4
import Derived.Laws.BytesArg
import Derived.Lib.ConvBytes
namespace Go.AE

theorem bytesOf_get : ∀ {vs : List Value} {l : List UInt8}, bytesOf vs = some l → ∃ ns : List Int, vs = ns.map (Value.int .u8) ∧ l = ns.map fun n => UInt8.ofNat n.toNat
  | [], l, h => by simp only [bytesOf, Option.some.injEq] at h; subst h; exact ⟨[], rfl, rfl⟩
  | v :: vs, l, h => by
    cases v <;> try (simp [bytesOf] at h; done)
    rename_i k n
    cases k <;> try (simp [bytesOf] at h; done)
    simp only [bytesOf] at h
    cases hr : bytesOf vs with
    | none => simp [hr] at h
    | some l' =>
      simp [hr] at h; subst h
      obtain ⟨ns, h1, h2⟩ := bytesOf_get hr
      exact ⟨n :: ns, by rw [h1]; rfl, by rw [h2]; rfl⟩

theorem VRs.ints {σ : Pl} : ∀ {ns : List Int} {cs : List Value}, VRs σ (ns.map (Value.int .u8)) cs → cs = ns.map (Value.int .u8)
  | [], _, h => by cases h; rfl
  | n :: ns, _, h => by
    cases h with
    | cons h1 h2 => rw [h1.int_inv, VRs.ints h2]; rfl

/-- A new row of bytes, marked behind its end. -/
theorem freeze_new (w : World) (cs : Array Value) (e : TypeId) : (w.alloc (.cells cs e)).freeze ⟨w.heap.size, cs.size, none⟩ 1 = w.alloc (.cells cs e (cs.size, cs.size + 1)) := by
  unfold World.freeze World.alloc
  simp only [Nat.one_ne_zero, if_false]
  congr 1
  apply Array.ext_getElem?
  intro k
  rw [Array.getElem?_modify]
  by_cases h : w.heap.size = k
  · subst h; simp
  · rw [if_neg h, Array.getElem?_push, Array.getElem?_push, if_neg (by omega), if_neg (by omega)]

theorem bytesWorld_eq (w : World) (e : TypeId) (s : ByteArray) :
    Lib.bytesWorld w e s = w.drew.alloc (.cells (Lib.bytesCells w e s) e ((Lib.bytesCells w e s).size, (Lib.bytesCells w e s).size + 1)) := by
  unfold Lib.bytesWorld
  exact freeze_new w.drew _ _

theorem sim_convert {P : Program} {σ : Pl} {H H' : AHeap} {w : World} (h : Rel P σ H w) {src dst : TypeId} {a ca v : Value} (ha : VR σ a ca) (hc : aconvert P H src dst a = some (v, H')) :
    ∃ w' σ' c, (convert src dst ca).run P w = .ok c w' ∧ Step P σ H w σ' H' w' ∧ VR σ' v c := by
  unfold aconvert at hc
  split at hc
  · -- a text, as bytes
    rename_i e s hs hd
    cases ha.string_inv
    split at hc
    · rename_i inf he hi
      split at hc
      · rename_i h1
        have h1 := Nat.eq_of_beq_eq_true h1
        simp only [Option.some.injEq] at hc
        have hcap : s.size ≤ grownCap w s.size 0 e := by simp [grownCap, Question.cut]
        have hsz : (Lib.bytesCells w e s).size = grownCap w s.size 0 e := by
          have : s.size = s.data.size := rfl
          simp [Lib.bytesCells]; omega
        have hget : ∀ (k : Nat) (v : Value), (s.data.toList.map fun b => Value.int .u8 b.toNat)[k]? = some v → ∃ c, (Lib.bytesCells w e s)[k]? = some c ∧ VR σ v c := by
          intro k v hk
          have hk' : k < s.data.size := by
            have := (List.getElem?_eq_some_iff.1 hk).1; simpa using this
          refine ⟨v, ?_, ?_⟩
          · unfold Lib.bytesCells
            rw [Array.getElem?_append_left (by simpa using hk')]
            rw [← hk]; simp
          · simp only [List.getElem?_map] at hk
            cases hx : s.data.toList[k]? with
            | none => simp [hx] at hk
            | some b => simp [hx] at hk; subst hk; exact .same _ rfl
        have hst := Step.drew h
        obtain ⟨σ', q1, q2⟩ := sim_newSlice hst.rel e (cs := Lib.bytesCells w e s) (fr := ((Lib.bytesCells w e s).size, (Lib.bytesCells w e s).size + 1)) hget (by intro off ho; simp; omega)
          (len := s.data.toList.length) (room := s.data.toList.length) (cap := grownCap w s.size 0 e)
          (Nat.le_refl _) hcap (by rw [show P.cellsOf e = 1 by simp [Program.cellsOf, hi, h1], hsz]; omega)
        rw [hc] at q1 q2
        refine ⟨_, σ', _, ?_, hst.trans q1 h, q2⟩
        rw [Lib.run_convert_string_bytes w src dst e s hs hd he, bytesWorld_eq]
        rfl
      · simp at hc
    · simp at hc
  · -- bytes, as a text
    rename_i e ad len g hs hd
    split at hc
    · rename_i he
      cases ad with
      | none =>
        cases len with
        | succ n => simp at hc
        | zero =>
          cases hc
          obtain ⟨rfl, _, _⟩ := ha.nils_inv
          exact ⟨w, σ, _, run_convert_bytes_nil w src e hs he 0 0 dst hd, Step.refl h, .same _ rfl⟩
      | some a =>
        obtain ⟨F, o, sp⟩ := a
        cases sp with
        | none =>
          cases len with
          | succ n => simp at hc
          | zero =>
            cases hc
            obtain ⟨⟨a, rfl⟩, _⟩ := ha.bare_inv
            refine ⟨w, σ, _, ?_, Step.refl h, .same (str []) rfl⟩
            rw [run_convert_bytes_string w src dst e _ 0 0 hs he hd, run_bytesToString w _ 0 0 [] (by simp [loadCells, loadCellsFrom])]
            rfl
        | some room =>
          obtain ⟨pl, co, cap, rfl, hp, hlo, h1, h2, h3⟩ := ha.slice_inv
          simp only at hc
          split at hc
          · rename_i ty cells gen ro hF
            cases hr : rdAt cells o g len with
            | none => simp [hr] at hc
            | some vs =>
              simp only [hr] at hc
              cases hb : bytesOf vs with
              | none => simp [hb] at hc
              | some l =>
                simp only [hb, Option.some.injEq, Prod.mk.injEq] at hc
                obtain ⟨rfl, rfl⟩ := hc
                obtain ⟨ns, e1, e2⟩ := bytesOf_get hb
                subst e1
                have hlen := (rdAt_get hr).1
                simp at hlen
                by_cases h0 : len = 0
                · subst h0
                  have : ns = [] := List.length_eq_zero_iff.1 hlen
                  subst this
                  subst e2
                  refine ⟨w, σ, _, ?_, Step.refl h, .same (str []) rfl⟩
                  rw [run_convert_bytes_string w src dst e _ 0 cap hs he hd, run_bytesToString w _ 0 cap [] (by simp [loadCells, loadCellsFrom])]
                  rfl
                · have h3 := h3.resolve_left (by omega)
                  obtain ⟨cvs, k1, k2, k3⟩ := h.read hp hF hlo h3.1 hr
                  have := k1.ints
                  subst this
                  refine ⟨w, σ, .string (strOfNums ns), ?_, Step.refl h, ?_⟩
                  · rw [run_convert_bytes_string w src dst e _ len cap hs he hd, run_bytesToString w _ len cap ns (run_loadCells_of k2 k3), foldl_push_bytes]
                    simp [strOfNums, ByteArray.empty, ByteArray.emptyWithCapacity]
                    rfl
                  · rw [e2]; exact .same _ rfl
          · simp at hc
    · simp at hc
  · rename_i d s hs hd
    cases hc
    cases ha.string_inv
    refine ⟨w, σ, .string s, ?_, Step.refl h, .same _ rfl⟩
    cases d <;> simp [convert, run_underlying hs, run_underlying hd]
  · rename_i d k j n hs hd
    cases hc
    cases ha.int_inv
    refine ⟨w, σ, .int k (k.wrap n), ?_, Step.refl h, .same _ rfl⟩
    cases d <;> simp [convert, run_underlying hs, run_underlying hd, Conv.intToInt]
  · simp at hc

end Go.AE
