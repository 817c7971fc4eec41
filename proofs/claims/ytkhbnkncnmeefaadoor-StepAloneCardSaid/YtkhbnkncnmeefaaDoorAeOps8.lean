/-
  AE: all operations that call nothing.
-/
import Derived.Test.YtkhbnkncnmeefaaDoorAeOps7
namespace Go.AE

theorem some2_inv {H H' : AHeap} {v : Option Value} {x : Value} (h : some2 H v = some (x, H')) : v = some x ∧ H' = H := by
  cases v with
  | none => simp [some2] at h
  | some y => simp [some2] at h; exact ⟨by rw [h.1], h.2.symm⟩

theorem unit2_inv {H H' : AHeap} {o : Option AHeap} {x : Value} (h : unit2 o = some (x, H')) (_ : H = H) : x = undef ∧ o = some H' := by
  cases o with
  | none => simp [unit2] at h
  | some y => simp [unit2] at h; exact ⟨h.1.symm, by rw [h.2]⟩

theorem sim_nilCheck {P : Program} {σ : Pl} {H : AHeap} {w : World} (h : Rel P σ H w) {o : Oper} {x : Operand} (ho : o.op = .nilCheck x) {ρc : Operand → Value} {a v : Value} (ha : VR σ a (ρc x)) (hc : anilCheck a = some v) :
    Res P σ H w ((execOp ρc o).run P w) v H := by
  unfold execOp
  simp only [ho]
  unfold anilCheck at hc
  split at hc
  · rename_i ad
    cases hc
    have : ∃ b, ρc x = .pointer (some b) := by
      generalize ρc x = c at ha
      cases ha with
      | same _ hf => simp [flat, flatN] at hf
      | ptr h1 h2 h3 => exact ⟨_, rfl⟩
    obtain ⟨b, e⟩ := this
    rw [e] at ha ⊢
    exact ⟨_, w, σ, rfl, Step.refl h, .inl ⟨_, rfl, ha⟩⟩
  · cases hc
    obtain ⟨v', e, _⟩ := ha.iface_inv
    rw [e] at ha ⊢
    exact ⟨_, w, σ, rfl, Step.refl h, .inl ⟨_, rfl, ha⟩⟩
  · cases hc
    obtain ⟨a', b', e, _⟩ := ha.func_inv (by rintro _ ⟨⟩)
    rw [e] at ha ⊢
    exact ⟨_, w, σ, rfl, Step.refl h, .inl ⟨_, rfl, ha⟩⟩
  · simp at hc

theorem sim_pick {P : Program} {σ : Pl} {H : AHeap} {w : World} (h : Rel P σ H w) {o : Oper} {c a b : Operand} (ho : o.op = .pick c a b) {ρ ρc : Operand → Value} (hρ : ∀ x, VR σ (ρ x) (ρc x)) {q : Bool} (hq : ρ c = .bool q) :
    Res P σ H w ((execOp ρc o).run P w) (if q then ρ a else ρ b) H := by
  unfold execOp
  simp only [ho]
  have := hρ c
  rw [hq] at this
  rw [this.bool_inv]
  refine ⟨.value (if q then ρc a else ρc b), w, σ, ?_, Step.refl h, .inl ⟨_, rfl, ?_⟩⟩
  · simp [asBool]
  · cases q
    · exact hρ b
    · exact hρ a

theorem VRs.of_array {σ : Pl} {f g : Operand → Value} (hρ : ∀ x, VR σ (f x) (g x)) (l : Array Operand) : VRs σ (l.toList.map f) (l.map g).toList := by
  rw [Array.toList_map]
  exact VRs.map fun x _ => hρ x

theorem VR.func' {σ : Pl} {fn : Fn} {a b : List Value} {a' b' : Array Value} (hn : ∀ l, fn ≠ .yield l) (h1 : VRs σ a a'.toList) (h2 : VRs σ b b'.toList) : VR σ (.func fn ⟨a⟩ ⟨b⟩) (.func fn a' b') := by
  cases a'; cases b'; exact .func hn h1 h2

theorem sim_opA {C : Cfg} {σ : Pl} {H H' : AHeap} {w : World} (h : Rel C.P σ H w) {ρ ρc : Operand → Value} (hρ : ∀ x, VR σ (ρ x) (ρc x)) {o : Oper} {v : Value} (ho : opA C ρ o H = some (v, H')) :
    Res C.P σ H w ((execOp ρc o).run C.P w) v H' := by
  unfold opA at ho
  split at ho
  · rename_i x e
    cases ho
    unfold execOp; simp only [e]
    exact ⟨_, w, σ, rfl, Step.refl h, .inl ⟨_, rfl, hρ x⟩⟩
  · rename_i x e
    cases ho
    unfold execOp; simp only [e]
    exact ⟨_, w, σ, rfl, Step.refl h, .inl ⟨_, rfl, hρ x⟩⟩
  · rename_i c a b e
    split at ho
    · rename_i hq; cases ho; exact sim_pick h e hρ hq
    · rename_i hq; cases ho; exact sim_pick h e hρ hq
    · simp at ho
  · rename_i t e
    obtain ⟨w', σ', c, h1, h2, h3⟩ := sim_alloc h ho
    unfold execOp; simp only [e]; exact Res.made h1 h2 h3
  · rename_i t x e
    obtain ⟨w', σ', c, h1, h2, h3⟩ := sim_box h (hρ x) ho
    unfold execOp; simp only [e]; exact Res.made h1 h2 h3
  · rename_i t ps e
    obtain ⟨ho2, rfl⟩ := some2_inv ho
    obtain ⟨c, h1, h2⟩ := sim_build (w := w) (cparts := ps.map fun p => (p.1, ρc p.2)) (by rw [Array.toList_map]; exact PartsR.map hρ ps.toList) ho2
    unfold execOp; simp only [e]; exact Res.pure h h1 h2
  · rename_i t len ps e
    obtain ⟨w', σ', c, h1, h2, h3⟩ := sim_buildSlice h (cparts := ps.map fun p => (p.1, ρc p.2)) (by rw [Array.toList_map]; exact PartsR.map hρ ps.toList) ho
    unfold execOp; simp only [e]; exact Res.made h1 h2 h3
  · rename_i t a e
    obtain ⟨ho2, rfl⟩ := some2_inv ho
    obtain ⟨c, h1, h2⟩ := sim_loadAt h (hρ a) ho2
    unfold execOp; simp only [e]; exact Res.pure h h1 h2
  · rename_i t a x e
    obtain ⟨rfl, ho2⟩ := unit2_inv (H := H) ho rfl
    obtain ⟨w', h1, h2⟩ := sim_storeAt h (hρ a) (hρ x) ho2
    unfold execOp; simp only [e]; exact Res.unit h1 h2
  · rename_i x e
    obtain ⟨ho2, rfl⟩ := some2_inv ho
    exact sim_nilCheck h e (hρ x) ho2
  · rename_i op t x y n e
    obtain ⟨ho2, rfl⟩ := some2_inv ho
    obtain ⟨c, h1, h2⟩ := sim_binOp (w := w) (hρ x) (hρ y) ho2
    unfold execOp; simp only [e]; exact Res.pure h h1 h2
  · rename_i op t x e
    obtain ⟨ho2, rfl⟩ := some2_inv ho
    obtain ⟨c, h1, h2⟩ := sim_unOp (w := w) (hρ x) ho2
    unfold execOp; simp only [e]; exact Res.pure h h1 h2
  · rename_i src dst x e
    obtain ⟨w', σ', c, h1, h2, h3⟩ := sim_convert h (hρ x) ho
    unfold execOp; simp only [e]; exact Res.made h1 h2 h3
  · rename_i t x e
    obtain ⟨ho2, rfl⟩ := some2_inv ho
    obtain ⟨c, h1, h2⟩ := sim_makeInterface (w := w) (hρ x) ho2
    unfold execOp; simp only [e]; exact Res.pure h h1 h2
  · rename_i fn first captured e
    split at ho
    · simp at ho
    · rename_i hfn
      cases ho
      unfold execOp; simp only [e]
      refine ⟨_, w, σ, rfl, Step.refl h, .inl ⟨_, rfl, ?_⟩⟩
      exact VR.func' (fun l hl => hfn l hl) (VRs.of_array hρ first) (VRs.of_array hρ captured)
  · rename_i t e
    cases ho
    obtain ⟨w', σ', c, h1, h2, h3⟩ := sim_makeMap h t
    unfold execOp; simp only [e]; exact Res.made h1 h2 h3
  · rename_i t l c e
    obtain ⟨w', σ', c, h1, h2, h3⟩ := sim_makeSlice h (hρ l) (hρ c) ho
    unfold execOp; simp only [e]; exact Res.made h1 h2 h3
  · rename_i t x lo hi mx e
    obtain ⟨ho2, rfl⟩ := some2_inv ho
    obtain ⟨c, h1, h2⟩ := sim_slice h (hρ x) (OptR.map hρ lo) (OptR.map hρ hi) (OptR.map hρ mx) ho2
    unfold execOp; simp only [e]; exact Res.pure h h1 h2
  · rename_i s x f e
    obtain ⟨ho2, rfl⟩ := some2_inv ho
    obtain ⟨c, h1, h2⟩ := sim_fieldAddr (w := w) (hρ x) ho2
    unfold execOp; simp only [e]; exact Res.pure h h1 h2
  · rename_i s x f e
    obtain ⟨ho2, rfl⟩ := some2_inv ho
    obtain ⟨c, h1, h2⟩ := sim_field (w := w) (hρ x) ho2
    unfold execOp; simp only [e]; exact Res.pure h h1 h2
  · rename_i t x ix e
    obtain ⟨ho2, rfl⟩ := some2_inv ho
    obtain ⟨c, h1, h2⟩ := sim_indexAddr (w := w) (hρ x) (hρ ix) ho2
    unfold execOp; simp only [e]; exact Res.pure h h1 h2
  · rename_i t x ix e
    obtain ⟨ho2, rfl⟩ := some2_inv ho
    obtain ⟨c, h1, h2⟩ := sim_index (w := w) (hρ x) (hρ ix) ho2
    unfold execOp; simp only [e]; exact Res.pure h h1 h2
  · rename_i t x ix ok e
    obtain ⟨ho2, rfl⟩ := some2_inv ho
    obtain ⟨c, h1, h2⟩ := sim_lookup h (hρ x) (hρ ix) ho2
    unfold execOp; simp only [e]; exact Res.pure h h1 h2
  · rename_i t m k x e
    obtain ⟨rfl, ho2⟩ := unit2_inv (H := H) ho rfl
    obtain ⟨w', h1, h2⟩ := sim_mapUpdate h (hρ m) (hρ k) (hρ x) ho2
    unfold execOp; simp only [e]; exact Res.unit h1 h2
  · rename_i t m k x e
    obtain ⟨rfl, ho2⟩ := unit2_inv (H := H) ho rfl
    obtain ⟨w', h1, h2⟩ := sim_mapUpdate h (hρ m) (hρ k) (hρ x) ho2
    unfold execOp; simp only [e]; exact Res.unit h1 h2
  · rename_i t x e
    split at ho
    · rename_i kt et hu hx
      cases ho
      obtain ⟨w', σ', c, h1, h2, h3⟩ := sim_range h hu (hρ x) (.inl ⟨hx, rfl⟩)
      unfold execOp; simp only [e]; exact Res.made h1 h2 h3
    · rename_i kt et m hu hx
      split at ho
      · rename_i es clock hm
        cases ho
        obtain ⟨w', σ', c, h1, h2, h3⟩ := sim_range h hu (hρ x) (.inr ⟨m, es, clock, hx, hm, rfl⟩)
        unfold execOp; simp only [e]; exact Res.made h1 h2 h3
      · simp at ho
    · simp at ho
  · rename_i it e
    obtain ⟨w', σ', c, h1, h2, h3⟩ := sim_next h (hρ it) ho o.type
    unfold execOp; simp only [e]; exact Res.made h1 h2 h3
  · rename_i t ix e
    split at ho
    · rename_i vs hv
      obtain ⟨ho2, rfl⟩ := some2_inv ho
      have := hρ t
      rw [hv] at this
      obtain ⟨b, e1, e2⟩ := this.tuple_inv
      obtain ⟨c, h1, h2⟩ := e2.get ho2
      unfold execOp; simp only [e]
      refine Res.pure h (c := c) ?_ h2
      rw [e1]
      rw [Array.getElem?_toList] at h1
      simp [Instr.extract, h1]
    · simp at ho
  · simp at ho

end Go.AE
