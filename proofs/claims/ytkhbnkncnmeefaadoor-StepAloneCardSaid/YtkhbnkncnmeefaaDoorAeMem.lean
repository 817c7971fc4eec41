/-
  AE: how each kind of change of memory keeps the relation.
-/
import Derived.Test.YtkhbnkncnmeefaaDoorAeRel
namespace Go.AE

theorem EnvR.ext {σ σ' : Pl} {nt : Nat} {env : Env} {tmps : Array Value} (e : Ext σ σ') (h : EnvR σ nt env tmps) : EnvR σ' nt env tmps := ⟨h.1, fun t => (h.2 t).ext e⟩

theorem EsR.ext {σ σ' : Pl} (e : Ext σ σ') : ∀ {es : List (Value × Value × Nat)} {cs : List MapEntry}, EsR σ es cs → EsR σ' es cs
  | _, _, .nil => .nil
  | _, _, .cons h1 h2 h3 => .cons h1 (h2.ext e) (EsR.ext e h3)

theorem LoopR.ext {σ σ' : Pl} {nt : Nat} {env : Env} {params : List Tmp} {assign body : Code} {ready : Bool} {pending : Option Code} {r : Loop} (e : Ext σ σ')
    (h : LoopR σ nt env params assign body ready pending r) : LoopR σ' nt env params assign body ready pending r :=
  { h with envr := h.envr.ext e }

theorem ObjR.mono {P : Program} {σ σ' : Pl} {w w' : World} {pl : Place} {g : Nat} {o : AObj} (e : Ext σ σ') (hb : w'.heap[pl.b]? = w.heap[pl.b]?) (h : ObjR P σ w pl g o) : ObjR P σ' w' pl g o := by
  cases o with
  | row ty cells gen ro =>
    obtain ⟨h1, h0, h3, cs, ty', fr, h2, h4, h5⟩ := h
    exact ⟨h1, h0, h3, cs, ty', fr, hb.trans h2, h4, fun i v k a b c => by obtain ⟨j, x, p, q, r⟩ := h5 i v k a b c; exact ⟨j, x, p, q, r.ext e⟩⟩
  | map es clock =>
    obtain ⟨h0, ces, h1, h2⟩ := h
    exact ⟨h0, ces, hb.trans h1, h2.ext e⟩
  | iter m since seen last =>
    obtain ⟨h0, h00, m', h1, h2⟩ := h
    refine ⟨h0, h00, m', hb.trans h1, ?_⟩
    rcases h2 with h2 | ⟨M, pm, h2, h3, h4⟩
    · exact .inl h2
    · exact .inr ⟨M, pm, h2, e _ _ _ h3, h4⟩
  | loop nt env params assign body ready pending =>
    obtain ⟨h0, r, h1, h2⟩ := h
    exact ⟨h0, r, hb.trans h1, h2.ext e⟩

def upd (σ : Pl) (F g : Nat) (pl : Place) : Pl := fun F' g' => if F' = F ∧ g' = g then some pl else σ F' g'

theorem upd_same (σ : Pl) (F g : Nat) (pl : Place) : upd σ F g pl F g = some pl := by simp [upd]
theorem upd_ext {σ : Pl} {F g : Nat} {pl : Place} (h : σ F g = none) : Ext σ (upd σ F g pl) := by
  intro F' g' pl' h'
  unfold upd
  split
  · rename_i e; rw [e.1, e.2, h] at h'; cases h'
  · exact h'
theorem upd_inv {σ : Pl} {F g F' g' : Nat} {pl pl' : Place} (h : upd σ F g pl F' g' = some pl') : (F' = F ∧ g' = g ∧ pl' = pl) ∨ σ F' g' = some pl' := by
  unfold upd at h
  split at h
  · rename_i e; exact .inl ⟨e.1, e.2, (Option.some.inj h).symm⟩
  · exact .inr h

/-! ### Nothing but a draw -/
theorem Rel.of_heap {P : Program} {σ : Pl} {H : AHeap} {w w' : World} (h : Rel P σ H w) (e : w'.heap = w.heap) : Rel P σ H w' :=
  { dom := h.dom, obj := fun a b => (h.obj a b).mono (Ext.refl σ) (by rw [e]), inj := h.inj, old := fun a => by rw [e]; exact h.old a }

theorem Step.of_heap {P : Program} {σ : Pl} {H : AHeap} {w w' : World} (h : Rel P σ H w) (e : w'.heap = w.heap) (e1 : w'.os = w.os) (e2 : w'.tape = w.tape) (e3 : w'.output = w.output) : Step P σ H w σ H w' :=
  { rel := h.of_heap e, ext := Ext.refl σ, new := fun h => .inl h, hid := fun _ h => ⟨h, rfl⟩, ro := fun _ => rfl, n := Nat.le_refl _, size := by rw [e]; exact Nat.le_refl _,
    blk := fun _ _ => by rw [e], os := e1, tape := e2, output := e3, loops := fun h => ⟨_, by rw [e]; exact h, rfl⟩ }

theorem Step.drew {P : Program} {σ : Pl} {H : AHeap} {w : World} (h : Rel P σ H w) : Step P σ H w σ H { w with drawn := w.drawn + 1 } := Step.of_heap h rfl rfl rfl rfl

/-! ### A new object -/
/-- In abstract memory alone: nothing stands for it yet. -/
theorem Rel.ahead {P : Program} {σ : Pl} {H : AHeap} {w : World} (h : Rel P σ H w) (o : AObj) : Rel P σ (H.push o) w where
  dom := fun a => by have := h.dom a; simp; omega
  obj := by
    intro F g pl o' a b
    rw [AHeap.get_push, if_neg (by have := h.dom a; omega)] at b
    exact h.obj a b
  inj := by
    intro F g pl F' g' pl' a b c
    have ho : ∀ {F}, isRo H F → isRo (H.push o) F := fun hr => by
      obtain ⟨ty, cells, gen, hg⟩ := hr
      exact ⟨ty, cells, gen, by rw [AHeap.get_push, if_neg (by have := AHeap.get_lt hg; omega)]; exact hg⟩
    rcases h.inj a b c with e | ⟨e1, e2⟩
    · exact .inl e
    · exact .inr ⟨ho e1, ho e2⟩
  old := h.old

/-- An object that is there in abstract memory, and nothing stands for it yet, comes. -/
theorem Step.come {P : Program} {σ : Pl} {H : AHeap} {w : World} (h : Rel P σ H w) {F : Nat} {o : AObj} (hF : H.get F = some o) (hs : ∀ g, σ F g = none)
    (co : Obj) (pl : Place) (hb : pl.b = w.heap.size) (hro : ¬ isRo H F) (hobj : ObjR P (upd σ F 0 pl) (w.alloc co) pl 0 o) :
    Rel P (upd σ F 0 pl) H (w.alloc co) where
  dom := by
    intro F' g' pl' a
    rcases upd_inv a with ⟨e, _, _⟩ | a
    · subst e; exact AHeap.get_lt hF
    · exact h.dom a
  obj := by
    intro F' g' pl' o' a b
    rcases upd_inv a with ⟨e, e2, e3⟩ | a
    · subst e; subst e2; subst e3
      rw [hF] at b; cases b; exact hobj
    · exact (h.obj a b).mono (upd_ext (hs 0)) (heap_alloc_old w co _ (h.old a))
  inj := by
    intro F1 g1 pl1 F2 g2 pl2 a b c
    rcases upd_inv a with ⟨e, _, e3⟩ | a1 <;> rcases upd_inv b with ⟨f, _, f3⟩ | b1
    · subst e3; subst f3; exact .inl ⟨e.trans f.symm, rfl⟩
    · subst e3; have := h.old b1; omega
    · subst f3; have := h.old a1; omega
    · exact h.inj a1 b1 c
  old := by
    intro F' g' pl' a
    rcases upd_inv a with ⟨_, _, e⟩ | a
    · subst e; simp; omega
    · have := h.old a; simp; omega

theorem Step.push {P : Program} {σ : Pl} {H : AHeap} {w : World} (h : Rel P σ H w) (o : AObj) (co : Obj) (pl : Place) (hb : pl.b = w.heap.size)
    (hro : ∀ ty cells gen, o ≠ .row ty cells gen true) (hobj : ObjR P (upd σ H.n 0 pl) (w.alloc co) pl 0 o) :
    Step P σ H w (upd σ H.n 0 pl) (H.push o) (w.alloc co) := by
  have hs : ∀ g, σ H.n g = none := by
    intro g
    cases hg : σ H.n g with
    | none => rfl
    | some pl' => have := h.dom hg; omega
  have hF : (H.push o).get H.n = some o := by rw [AHeap.get_push, if_pos rfl]
  refine { rel := Step.come (h.ahead o) hF hs co pl hb ?_ hobj, ext := upd_ext (hs 0), new := ?_, hid := ?_, ro := ?_, n := by simp, size := by simp, blk := ?_, os := rfl, tape := rfl, output := rfl, loops := ?_ }
  · rintro ⟨ty, cells, gen, hg⟩
    rw [hF] at hg; cases hg; exact hro _ _ _ rfl
  · intro F g pl' a
    rcases upd_inv a with ⟨_, _, e⟩ | a
    · subst e; exact .inr (.inl (by omega))
    · exact .inl a
  · intro F hlt hn
    refine ⟨fun g => ?_, by rw [AHeap.get_push, if_neg (by omega)]⟩
    unfold upd; rw [if_neg (by omega)]; exact hn g
  · rintro F ⟨ty, cells, gen, hg⟩
    rw [AHeap.get_push, if_neg (by have := AHeap.get_lt hg; omega)]
  · intro b hlt _
    exact heap_alloc_old w co b hlt
  · intro b r hr
    refine ⟨r, ?_, rfl⟩
    rw [heap_alloc_old w co b (Array.getElem?_eq_some_iff.1 hr).1]; exact hr

/-! ### An object turns -/
theorem Step.change {P : Program} {σ σ' : Pl} {H : AHeap} {w w' : World} (h : Rel P σ H w) {F : Nat} {o o' : AObj} (hF : H.get F = some o) (hro : ∀ ty cells gen, o ≠ .row ty cells gen true)
    (ext : Ext σ σ') (new : ∀ {F' g pl}, σ' F' g = some pl → σ F' g = some pl ∨ (F' = F ∧ ((w.heap.size ≤ pl.b ∧ pl.b < w'.heap.size) ∨ ∃ g0 pl0, σ F g0 = some pl0 ∧ pl0.b = pl.b)))
    (hsz : w.heap.size ≤ w'.heap.size) (hblk : ∀ {b : Nat}, b < w.heap.size → (∀ g pl, σ F g = some pl → pl.b ≠ b) → w'.heap[b]? = w.heap[b]?)
    (hinj : ∀ {g pl g' pl'}, σ' F g = some pl → σ' F g' = some pl' → pl.b = pl'.b → pl.d = pl'.d)
    (hobj : ∀ {g pl}, σ' F g = some pl → ObjR P σ' w' pl g o') (hdef : ∃ g pl, σ F g = some pl)
    (hloop : ∀ {g pl} {r : Loop}, σ F g = some pl → w.heap[pl.b]? = some (.loop r) → ∃ r' : Loop, w'.heap[pl.b]? = some (.loop r') ∧ r'.defers = r.defers)
    (os : w'.os = w.os) (tape : w'.tape = w.tape) (output : w'.output = w.output) :
    Step P σ H w σ' (H.set F o') w' := by
  have hnro : ¬ isRo H F := by rintro ⟨ty, cells, gen, hg⟩; rw [hF] at hg; cases hg; exact hro _ _ _ rfl
  have hget : ∀ {F'}, F' ≠ F → (H.set F o').get F' = H.get F' := fun hne => by rw [AHeap.get_set, if_neg hne]
  have hgetF : (H.set F o').get F = some o' := by rw [AHeap.get_set, if_pos rfl, hF]; rfl
  have hother : ∀ {F' g pl}, F' ≠ F → σ F' g = some pl → w'.heap[pl.b]? = w.heap[pl.b]? := by
    intro F' g pl hne hp
    refine hblk (h.old hp) fun g0 pl0 h0 e => ?_
    rcases h.inj hp h0 e.symm with ⟨e1, _⟩ | ⟨_, e2⟩
    · exact hne e1
    · exact hnro e2
  have hroK : ∀ {F'}, isRo H F' → (H.set F o').get F' = H.get F' := fun hr => hget (fun e => hnro (e ▸ hr))
  have hold : ∀ {F' g pl}, σ' F' g = some pl → pl.b < w'.heap.size := by
    intro F' g pl hp
    rcases new hp with h1 | ⟨_, h1 | ⟨g0, pl0, h1, h2⟩⟩
    · exact Nat.lt_of_lt_of_le (h.old h1) hsz
    · exact h1.2
    · have := h.old h1; omega
  refine { rel := ⟨?_, ?_, ?_, hold⟩, ext := ext, new := ?_, hid := ?_, ro := hroK, n := Nat.le_refl _, size := hsz, blk := ?_, os := os, tape := tape, output := output, loops := ?_ }
  · intro F' g pl hp
    rcases new hp with h1 | ⟨h1, _⟩
    · exact h.dom h1
    · subst h1; show _ < H.n; exact AHeap.get_lt hF
  · intro F' g pl o'' hp ho
    by_cases e : F' = F
    · subst e; rw [hgetF] at ho; cases ho; exact hobj hp
    · rw [hget e] at ho
      rcases new hp with h1 | ⟨h1, _⟩
      · exact (h.obj h1 ho).mono ext (hother e h1)
      · exact absurd h1 e
  · intro F1 g1 pl1 F2 g2 pl2 a b c
    by_cases e1 : F1 = F <;> by_cases e2 : F2 = F
    · subst e1; subst e2; exact .inl ⟨rfl, hinj a b c⟩
    · exfalso
      subst e1
      have hb : σ F2 g2 = some pl2 := (new b).resolve_right fun x => e2 x.1
      rcases new a with h1 | ⟨_, h1 | ⟨g0, pl0, h1, h2⟩⟩
      · rcases h.inj h1 hb c with ⟨e, _⟩ | ⟨e, _⟩
        · exact e2 e.symm
        · exact hnro e
      · have := h.old hb; omega
      · rcases h.inj h1 hb (h2.trans c) with ⟨e, _⟩ | ⟨e, _⟩
        · exact e2 e.symm
        · exact hnro e
    · exfalso
      subst e2
      have ha : σ F1 g1 = some pl1 := (new a).resolve_right fun x => e1 x.1
      rcases new b with h1 | ⟨_, h1 | ⟨g0, pl0, h1, h2⟩⟩
      · rcases h.inj ha h1 c with ⟨e, _⟩ | ⟨_, e⟩
        · exact e1 e
        · exact hnro e
      · have := h.old ha; omega
      · rcases h.inj ha h1 (c.trans h2.symm) with ⟨e, _⟩ | ⟨_, e⟩
        · exact e1 e
        · exact hnro e
    · have ha := (new a).resolve_right fun x => e1 x.1
      have hb := (new b).resolve_right fun x => e2 x.1
      rcases h.inj ha hb c with e | ⟨x, y⟩
      · exact .inl e
      · exact .inr ⟨isRo_of_get x (hget e1), isRo_of_get y (hget e2)⟩
  · intro F' g pl hp
    rcases new hp with h1 | ⟨h1, h2 | ⟨g0, pl0, h2, h3⟩⟩
    · exact .inl h1
    · exact .inr (.inl h2.1)
    · subst h1; exact .inr (.inr ⟨g0, pl0, h2, h3⟩)
  · intro F' _ hn
    have hne : F' ≠ F := by
      rintro rfl
      obtain ⟨g, pl, hp⟩ := hdef
      rw [hn g] at hp; cases hp
    refine ⟨fun g => ?_, hget hne⟩
    cases hg : σ' F' g with
    | none => rfl
    | some pl =>
      have := (new hg).resolve_right fun x => hne x.1
      rw [hn g] at this; cases this
  · intro b hlt hb
    refine hblk hlt fun g pl hp e => ?_
    exact hnro (hb F g pl hp e)
  · intro b r hr
    by_cases hb : ∃ g pl, σ F g = some pl ∧ pl.b = b
    · obtain ⟨g, pl, hp, e⟩ := hb
      subst e
      exact hloop hp hr
    · refine ⟨r, ?_, rfl⟩
      rw [hblk (Array.getElem?_eq_some_iff.1 hr).1 fun g pl hp e => hb ⟨g, pl, hp, e⟩]
      exact hr

/-- No row. -/
def noRow : AObj → Prop
  | .row .. => False
  | _ => True

theorem noRow_g {P : Program} {σ : Pl} {w : World} {pl : Place} {g : Nat} {o : AObj} (ho : noRow o) (h : ObjR P σ w pl g o) : g = 0 := by
  cases o with
  | row _ _ _ _ => exact ho.elim
  | map _ _ => exact h.1
  | iter _ _ _ _ => exact h.1
  | loop _ _ _ _ _ _ _ => exact h.1

/-- An object that is no row turns. -/
theorem Step.setObj {P : Program} {σ : Pl} {H : AHeap} {w : World} (h : Rel P σ H w) {F : Nat} {pl : Place} {o o' : AObj} {co' : Obj} (hp : σ F 0 = some pl) (hF : H.get F = some o) (ho : noRow o)
    (hobj : ObjR P σ { w with heap := w.heap.setIfInBounds pl.b co' } pl 0 o')
    (hloop : ∀ r : Loop, w.heap[pl.b]? = some (.loop r) → ∃ r' : Loop, co' = .loop r' ∧ r'.defers = r.defers) :
    Step P σ H w σ (H.set F o') { w with heap := w.heap.setIfInBounds pl.b co' } := by
  have huniq : ∀ {g pl'}, σ F g = some pl' → g = 0 ∧ pl' = pl := by
    intro g pl' hp'
    have := noRow_g ho (h.obj hp' hF)
    subst this
    rw [hp] at hp'; cases hp'; exact ⟨rfl, rfl⟩
  have hlt := h.old hp
  refine Step.change h hF (by rintro _ _ _ rfl; exact ho) (Ext.refl σ) (fun a => .inl a) (by simp) ?_ ?_ ?_ ⟨0, pl, hp⟩ ?_ rfl rfl rfl
  · intro b _ hn
    show (w.heap.setIfInBounds pl.b co')[b]? = _
    rw [Array.getElem?_setIfInBounds_ne (hn 0 pl hp)]
  · intro g pl1 g' pl2 a b _
    rw [(huniq a).2, (huniq b).2]
  · intro g pl' hp'
    obtain ⟨e1, e2⟩ := huniq hp'
    subst e1; subst e2; exact hobj
  · intro g pl' r hp' hr
    obtain ⟨_, e2⟩ := huniq hp'
    subst e2
    obtain ⟨r', h1, h2⟩ := hloop r hr
    refine ⟨r', ?_, h2⟩
    show (w.heap.setIfInBounds pl'.b co')[pl'.b]? = _
    rw [Array.getElem?_setIfInBounds_self_of_lt hlt, h1]

end Go.AE
