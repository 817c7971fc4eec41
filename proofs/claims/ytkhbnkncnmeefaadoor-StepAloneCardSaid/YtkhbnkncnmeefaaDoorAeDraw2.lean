/-
  AE: drawn regions, second part: an operation that makes one object, when the object has its number already.
-/
import Derived.Test.YtkhbnkncnmeefaaDoorAeDraw
namespace Go.AE

/-- A new object comes, that has the number a. -/
def Come (P : Program) (σ : Pl) (w : World) (a : Nat) (o : AObj) (v c : Value) (w' : World) : Prop :=
  ∃ (w1 : World) (co : Obj) (pl : Place), w' = w1.alloc co ∧ w1.heap = w.heap ∧ w1.os = w.os ∧ w1.tape = w.tape ∧ w1.output = w.output ∧ pl.b = w.heap.size ∧ ObjR P (upd σ a 0 pl) w' pl 0 o ∧ VR (upd σ a 0 pl) v c

theorem come_row {P : Program} {σ : Pl} {w w1 : World} {a : Nat} (hs : σ a 0 = none) (h1 : w1.heap = w.heap) (h2 : w1.os = w.os) (h3 : w1.tape = w.tape) (h4 : w1.output = w.output) (ty : TypeId) (vs : List Value) (cs : Array Value) (fr : Nat × Nat)
    (hv : ∀ (k : Nat) (v : Value), vs[k]? = some v → ∃ c, cs[k]? = some c ∧ VR σ v c) (hfr : ∀ off, off < cs.size → ¬ (fr.1 ≤ off ∧ off < fr.2)) {v c : Value}
    (hvc : VR (upd σ a 0 ⟨w.heap.size, 0, 0, cs.size, P.cellsOf ty⟩) v c) : Come P σ w a (.row ty (vs.map fun v => (v, 0)) 0 false) v c (w1.alloc (.cells cs ty fr)) := by
  refine ⟨w1, _, _, rfl, h1, h2, h3, h4, rfl, ⟨Nat.le_refl _, fun i v k hk => by rw [(zeroed_get hk).2]; exact Nat.le_refl _, rfl, cs, ty, fr, ?_, fun _ => ⟨rfl, rfl, hfr⟩, ?_⟩, hvc⟩
  · show (w1.alloc _).heap[w.heap.size]? = _
    rw [← h1]; exact heap_alloc_new w1 _
  intro i v k _ hk _
  obtain ⟨c, q1, q2⟩ := hv i v (zeroed_get hk).1
  exact ⟨i, c, by simp, q1, q2.ext (upd_ext hs)⟩

theorem come_newRow {P : Program} {σ : Pl} {w : World} {a : Nat} (hs : σ a 0 = none) (ty : TypeId) {vs : List Value} {cs : Array Value} (hv : VRs σ vs cs.toList) :
    Come P σ w a (.row ty (vs.map fun v => (v, 0)) 0 false) (.pointer (some ⟨a, 0, some 0⟩)) (.pointer (some ⟨w.heap.size, 0, none⟩)) (w.alloc (.cells cs ty)) :=
  come_row hs rfl rfl rfl rfl ty vs cs (0, 0) (get_of_VRs hv cs rfl) (by intro off _; simp) (.ptr (pl := ⟨w.heap.size, 0, 0, cs.size, P.cellsOf ty⟩) (upd_same _ _ _ _) (Nat.le_refl _) (by simp))

theorem come_newSlice {P : Program} {σ : Pl} {w w1 : World} {a : Nat} (hs : σ a 0 = none) (g1 : w1.heap = w.heap) (g2 : w1.os = w.os) (g3 : w1.tape = w.tape) (g4 : w1.output = w.output) (ty : TypeId) {vs : List Value} {cs : Array Value} {fr : Nat × Nat}
    (hv : ∀ (k : Nat) (v : Value), vs[k]? = some v → ∃ c, cs[k]? = some c ∧ VR σ v c) (hfr : ∀ off, off < cs.size → ¬ (fr.1 ≤ off ∧ off < fr.2))
    {len room cap : Nat} (h1 : len ≤ room) (h2 : room ≤ cap) (h3 : cap * P.cellsOf ty ≤ cs.size) :
    Come P σ w a (.row ty (vs.map fun v => (v, 0)) 0 false) (.slice (some ⟨a, 0, some room⟩) len 0) (.slice (some ⟨w.heap.size, 0, none⟩) len cap) (w1.alloc (.cells cs ty fr)) :=
  come_row hs g1 g2 g3 g4 ty vs cs fr hv hfr (.slice (pl := ⟨w.heap.size, 0, 0, cs.size, P.cellsOf ty⟩) (upd_same _ _ _ _) (Nat.le_refl _) h1 h2 (.inr ⟨by simp, by simpa using h3⟩))

theorem come_alloc {P : Program} {σ : Pl} {H H' : AHeap} {w : World} (hs : σ H.n 0 = none) {t : TypeId} {v : Value} (ha : aalloc P H t = some (v, H')) :
    ∃ ob w' c, H' = H.push ob ∧ (∀ ty cells gen, ob ≠ .row ty cells gen true) ∧ (Instr.alloc t true (.tuple #[])).run P w = .ok c w' ∧ Come P σ w H.n ob v c w' := by
  unfold aalloc at ha
  cases hz : zeroOf P t with
  | none => simp [hz] at ha
  | some z =>
    simp only [hz, Option.some.injEq, newRow, Prod.mk.injEq] at ha
    obtain ⟨rfl, rfl⟩ := ha
    exact ⟨_, _, _, rfl, by rintro _ _ _ ⟨⟩, by simp [Instr.alloc, run_zeroValue hz, newVar, Go.newRow], come_newRow hs t (VRs_cells_flat (zeroOf_run hz).1)⟩

theorem come_box {P : Program} {σ : Pl} {H H' : AHeap} {w : World} (hs : σ H.n 0 = none) {t : TypeId} {x cx v : Value} (hx : VR σ x cx) (ha : abox H t x = some (v, H')) :
    ∃ ob w' c, H' = H.push ob ∧ (∀ ty cells gen, ob ≠ .row ty cells gen true) ∧ (Instr.box t cx).run P w = .ok c w' ∧ Come P σ w H.n ob v c w' := by
  unfold abox at ha
  cases hz : cellsOf? x with
  | none => simp [hz] at ha
  | some vs =>
    simp only [hz, Option.some.injEq, newRow, Prod.mk.injEq] at ha
    obtain ⟨rfl, rfl⟩ := ha
    exact ⟨_, _, _, rfl, by rintro _ _ _ ⟨⟩, by simp [Instr.box, newVar, Go.newRow], come_newRow hs t (hx.cells hz)⟩

theorem come_buildSlice {P : Program} {σ : Pl} {H H' : AHeap} {w : World} (hs0 : σ H.n 0 = none) {t : TypeId} {len : Nat} {parts : List (Nat × Value)} {cparts : Array (Nat × Value)} {v : Value}
    (hp : PartsR σ parts cparts.toList) (ha : abuildSlice P H t len parts = some (v, H')) :
    ∃ ob w' c, H' = H.push ob ∧ (∀ ty cells gen, ob ≠ .row ty cells gen true) ∧ (Instr.buildSlice t len cparts).run P w = .ok c w' ∧ Come P σ w H.n ob v c w' := by
  unfold abuildSlice at ha
  split at ha
  · rename_i elem hu
    cases hs : sizeOf? P elem with
    | none => simp [hs] at ha
    | some size =>
      cases hz : zeroOf P elem with
      | none => simp [hs, hz] at ha
      | some z =>
        simp only [hs, hz] at ha
        split at ha
        · rename_i hc
          simp only [Bool.and_eq_true] at hc
          have hzl : z.cells.size = size := by have := Nat.eq_of_beq_eq_true hc.1; simpa using this
          have hle : len * size ≤ 16777216 := Nat.le_of_ble_eq_true hc.2
          cases hf : fillA (fun i => some (i * size, size)) (zeros z.cells.toList len) parts with
          | none => simp [hf] at ha
          | some cells =>
            simp only [hf, Option.some.injEq, newSlice, Prod.mk.injEq] at ha
            obtain ⟨rfl, rfl⟩ := ha
            have hlen := fillA_length hf
            rw [zeros_length] at hlen
            have hzs : VRs σ (zeros z.cells.toList len) (((Array.range (len * size)).map (z.cells[· % z.cells.size]!)).toList) := by
              rw [← hzl, range_zeros]; exact VRs_zeros (zeroOf_run hz).1 len
            obtain ⟨cr, h1, h2⟩ := sim_fill hp hzs hf
            have hcl := h2.length
            have q1 := come_newSlice (w := w) (w1 := w) hs0 rfl rfl rfl rfl elem (fr := (0, 0)) (get_of_VRs h2 cr rfl) (by intro off _; simp) (len := len) (room := len) (cap := len) (Nat.le_refl _) (Nat.le_refl _)
              (by rw [sizeOf?_cells hs]; simp at hcl hlen; rw [hcl, hlen, hzl]; exact Nat.le_refl _)
            refine ⟨_, _, _, rfl, by rintro _ _ _ ⟨⟩, ?_, q1⟩
            have hnot : ¬ len * size > 2 ^ 24 := by simp; omega
            by_cases e0 : len * size = 0
            · have h1' : Instr.fill (fun i => some (i * size, size)) #[] cparts.toList = some cr := by rw [← h1]; congr 1; simp [e0]
              have hr : ∀ f : Nat → Value, (Array.range 0).map f = #[] := by intro f; simp
              simp [Instr.buildSlice, run_underlying hu, sizeOf?_run hs, e0, hr, h1', Go.newRow]
            · simp only [Instr.buildSlice, Sem.run_bind, run_underlying hu, Result.andThen_ok, sizeOf?_run hs, hnot, if_false, e0, Sem.run_pure, run_zeroValue hz, h1]
              simp [Go.newRow]
        · simp at ha
  · simp at ha


theorem come_makeSlice {P : Program} {σ : Pl} {H H' : AHeap} {w : World} (hs0 : σ H.n 0 = none) {t : TypeId} {len cap clen ccap v : Value} (hl : VR σ len clen) (hc : VR σ cap ccap) (ha : amakeSlice P H t len cap = some (v, H')) :
    ∃ ob w' c, H' = H.push ob ∧ (∀ ty cells gen, ob ≠ .row ty cells gen true) ∧ (Instr.makeSlice t clen ccap).run P w = .ok c w' ∧ Come P σ w H.n ob v c w' := by
  unfold amakeSlice at ha
  split at ha
  · rename_i elem kl l kc c hu
    cases hl.int_inv
    cases hc.int_inv
    split at ha
    · rename_i z inf e1 hz hi
      split at ha
      · rename_i e2
        simp only [Bool.and_eq_true] at e2
        obtain ⟨h0, h1, h2⟩ := of_decide_eq_true e1
        have hzs : z.cells.size = inf.size := by have := Nat.eq_of_beq_eq_true e2.1; simpa using this
        have hby : c.toNat * inf.bytes ≤ 17592186044416 := Nat.le_of_ble_eq_true e2.2
        have wl : IntKind.i64.wrap l = l := wrap_small h0 (by omega)
        have wc : IntKind.i64.wrap c = c := wrap_small (by omega) (by omega)
        have hbc : (inf.bytes : Int) * c ≤ 17592186044416 := by
          have : ((c.toNat * inf.bytes : Nat) : Int) ≤ 17592186044416 := by omega
          rw [Int.natCast_mul, Int.toNat_of_nonneg (by omega), Int.mul_comm] at this
          exact this
        simp only [Option.some.injEq, newSlice, Prod.mk.injEq] at ha
        obtain ⟨rfl, rfl⟩ := ha
        let cs : Array Value := (Array.range (c.toNat * inf.size)).map (z.cells[· % z.cells.size]!)
        have hcs : cs.toList = zeros z.cells.toList c.toNat := by
          show ((Array.range (c.toNat * inf.size)).map (z.cells[· % z.cells.size]!)).toList = _
          rw [← hzs, range_zeros]
        have hcsz : cs.size = c.toNat * inf.size := by simp [cs]
        have hcell : P.cellsOf elem = inf.size := by simp [Program.cellsOf, hi]
        have hzr : VRs σ (zeros z.cells.toList c.toNat) (zeros z.cells.toList c.toNat) := VRs_zeros (zeroOf_run hz).1 c.toNat
        have q1 := come_newSlice (w := w) (w1 := w) hs0 rfl rfl rfl rfl elem (fr := (0, 0)) (get_of_VRs hzr cs hcs) (by intro off _; simp) (len := l.toNat) (room := c.toNat) (cap := c.toNat) (by omega) (Nat.le_refl _)
          (by rw [hcell, hcsz]; exact Nat.le_refl _)
        refine ⟨_, _, _, rfl, by rintro _ _ _ ⟨⟩, ?_, q1⟩
        have n1 : ¬ c < 0 := by omega
        have n2 : ¬ l < 0 := by omega
        have n3 : ¬ (inf.bytes : Int) * c > 281474976710656 := by omega
        have n4 : ¬ l > c := by omega
        by_cases e0 : c.toNat * inf.size = 0
        · have hr : cs = #[] := by apply Array.eq_empty_of_size_eq_zero; omega
          have hr2 : ∀ f : Nat → Value, (Array.range 0).map f = #[] := by intro f; simp
          simp [Instr.makeSlice, run_underlying hu, asInt, asIntOf, typeInfo, hi, wl, wc, n1, n2, n3, n4, run_sizeOf hi, e0, hr, hr2, Go.newRow]
        · simp [Instr.makeSlice, run_underlying hu, asInt, asIntOf, typeInfo, hi, wl, wc, n1, n2, n3, n4, run_sizeOf hi, e0, run_zeroValue hz, Go.newRow, cs]
      · simp at ha
    · simp at ha
  · simp at ha

theorem come_makeMap {P : Program} {σ : Pl} {H : AHeap} {w : World} (t : TypeId) :
    ∃ ob w' c, H.push (.map [] 0) = H.push ob ∧ (∀ ty cells gen, ob ≠ .row ty cells gen true) ∧ (Instr.makeMap t none).run P w = .ok c w' ∧ Come P σ w H.n ob (.map (some H.n)) c w' := by
  refine ⟨_, _, .map (some w.heap.size), rfl, by rintro _ _ _ ⟨⟩, by simp [Instr.makeMap], w, .map #[] 0, ⟨w.heap.size, 0, 0, 0, 0⟩, rfl, rfl, rfl, rfl, rfl, rfl, ⟨rfl, #[], heap_alloc_new w _, .nil⟩, .map (pl := ⟨w.heap.size, 0, 0, 0, 0⟩) (upd_same _ _ _ _)⟩

theorem come_convert {P : Program} {σ : Pl} {H H' : AHeap} {w : World} (hs0 : σ H.n 0 = none) {src dst e : TypeId} (hs : P.underlying src = some .string) (hd : P.underlying dst = some (.slice e)) {a ca v : Value} (ha : VR σ a ca)
    (hc : aconvert P H src dst a = some (v, H')) : ∃ ob w' c, H' = H.push ob ∧ (∀ ty cells gen, ob ≠ .row ty cells gen true) ∧ (convert src dst ca).run P w = .ok c w' ∧ Come P σ w H.n ob v c w' := by
  unfold aconvert at hc
  rw [hs, hd] at hc
  cases a <;> try (simp at hc; done)
  rename_i s
  cases ha.string_inv
  simp only at hc
  split at hc
  · rename_i inf he hi
    split at hc
    · rename_i h1
      have h1 := Nat.eq_of_beq_eq_true h1
      simp only [Option.some.injEq, newSlice, Prod.mk.injEq] at hc
      obtain ⟨rfl, rfl⟩ := hc
      have hcap : s.size ≤ grownCap w s.size 0 e := by simp [grownCap, Question.cut]
      have hsz : (Lib.bytesCells w e s).size = grownCap w s.size 0 e := by
        have : s.size = s.data.size := rfl
        simp [Lib.bytesCells]; omega
      have hget : ∀ (k : Nat) (v : Value), (s.data.toList.map fun b => Value.int .u8 b.toNat)[k]? = some v → ∃ c, (Lib.bytesCells w e s)[k]? = some c ∧ VR σ v c := by
        intro k v hk
        have hk' : k < s.data.size := by
          have := (List.getElem?_eq_some_iff.1 hk).1; simpa using this
        refine ⟨v, ?_, ?_⟩
        · unfold Lib.bytesCells
          rw [Array.getElem?_append_left (by simpa using hk')]
          rw [← hk]; simp
        · simp only [List.getElem?_map] at hk
          cases hx : s.data.toList[k]? with
          | none => simp [hx] at hk
          | some b => simp [hx] at hk; subst hk; exact .same _ rfl
      have q1 := come_newSlice (P := P) (σ := σ) (w := w) (w1 := w.drew) (a := H.n) hs0 rfl rfl rfl rfl e (cs := Lib.bytesCells w e s) (fr := ((Lib.bytesCells w e s).size, (Lib.bytesCells w e s).size + 1)) hget (by intro off ho; simp; omega)
        (len := s.data.toList.length) (room := s.data.toList.length) (cap := grownCap w s.size 0 e)
        (Nat.le_refl _) hcap (by rw [show P.cellsOf e = 1 by simp [Program.cellsOf, hi, h1], hsz]; omega)
      refine ⟨_, _, _, rfl, by rintro _ _ _ ⟨⟩, ?_, q1⟩
      rw [Lib.run_convert_string_bytes w src dst e s hs hd he, bytesWorld_eq]
      rfl
    · simp at hc
  · simp at hc

theorem push_inj {H : AHeap} {a b : AObj} (h : H.push a = H.push b) : a = b := by
  have h1 := AHeap.get_push H a H.n
  have h2 := AHeap.get_push H b H.n
  rw [h, h2] at h1
  simpa using h1.symm

/-- What makes one object. -/
theorem kind_alloc {C : Cfg} {callf : Fn → List Value → AHeap → Option (Value × AHeap)} {ρ : Operand → Value} {o : Oper} {H H' : AHeap} {v : Value} (hk : kindA C.P o = some .alloc) (h : oper C callf ρ o H = some (v, H'))
    {σ : Pl} {w : World} {ρc : Operand → Value} (hs : σ H.n 0 = none) (hρ : ∀ x, VR σ (ρ x) (ρc x)) :
    ∃ ob w' c, H' = H.push ob ∧ (∀ ty cells gen, ob ≠ .row ty cells gen true) ∧ (execOp ρc o).run C.P w = .ok (.value c) w' ∧ Come C.P σ w H.n ob v c w' := by
  obtain ⟨dst, op, type, pos, after, guard⟩ := o
  cases op <;> simp only [kindA] at hk <;> simp only [oper, opA] at h <;> try (simp at hk; done)
  case alloc t =>
    obtain ⟨ob, w', c, h1, h2, h3, h4⟩ := come_alloc (w := w) hs h
    exact ⟨ob, w', c, h1, h2, by simp [execOp, h3], h4⟩
  case box t x =>
    obtain ⟨ob, w', c, h1, h2, h3, h4⟩ := come_box (w := w) hs (hρ x) h
    exact ⟨ob, w', c, h1, h2, by simp [execOp, h3], h4⟩
  case buildSlice t len ps =>
    obtain ⟨ob, w', c, h1, h2, h3, h4⟩ := come_buildSlice (w := w) hs (cparts := ps.map fun p => (p.1, ρc p.2)) (by rw [Array.toList_map]; exact PartsR.map hρ ps.toList) h
    exact ⟨ob, w', c, h1, h2, by simp [execOp, h3], h4⟩
  case makeMap t r =>
    cases r with
    | some _ => simp at hk
    | none =>
      simp only [Option.some.injEq, Prod.mk.injEq] at h
      obtain ⟨rfl, rfl⟩ := h
      obtain ⟨ob, w', c, h1, h2, h3, h4⟩ := come_makeMap (P := C.P) (σ := σ) (H := H) (w := w) t
      exact ⟨ob, w', c, h1, h2, by simp [execOp, h3], h4⟩
  case makeSlice t l k =>
    obtain ⟨ob, w', c, h1, h2, h3, h4⟩ := come_makeSlice (w := w) hs (hρ l) (hρ k) h
    exact ⟨ob, w', c, h1, h2, by simp [execOp, h3], h4⟩
  case convert src dst x =>
    split at hk <;> try (simp at hk; done)
    rename_i e hs' hd
    obtain ⟨ob, w', c, h1, h2, h3, h4⟩ := come_convert (w := w) hs hs' hd (hρ x) h
    exact ⟨ob, w', c, h1, h2, by simp [execOp, h3], h4⟩
  case call c =>
    obtain ⟨callee, args, argTypes⟩ := c
    cases callee with
    | builtin b => cases b <;> simp at hk
    | value f => simp at hk
    | invoke r m => simp at hk

end Go.AE
