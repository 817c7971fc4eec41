/-
  AE: code.
-/
import Derived.Test.YtkhbnkncnmeefaaDoorAeFrame
namespace Go.AE

def mark (r : Nat) : Deferred := { target := .collected r, args := #[] }

/-- What holds of a frame while it runs: its own marks of collected calls; or the loop it is a round of. -/
structure BInv (b : Frame) (n0 : Nat) (σ : Pl) (w : World) : Prop extends BOK b where
  defs : ∃ rs : List Nat, b.defers = rs.map mark ∧ rs.Nodup ∧ ∀ r ∈ rs, n0 ≤ r ∧ r < w.heap.size ∧ w.heap[r]? = some (.deferred (some [])) ∧ ∀ F g pl, σ F g = some pl → pl.b ≠ r
  around : ∀ l, b.roundOf = some l → b.defers = [] ∧ ∃ r, w.heap[l]? = some (.loop r)

theorem Step.unmapped {P : Program} {σ σ' : Pl} {H H' : AHeap} {w w' : World} (h : Step P σ H w σ' H' w') {r : Nat} (hr : r < w.heap.size) (hu : ∀ F g pl, σ F g = some pl → pl.b ≠ r) :
    (∀ F g pl, σ' F g = some pl → pl.b ≠ r) ∧ w'.heap[r]? = w.heap[r]? := by
  refine ⟨?_, h.blk hr fun F g pl hp e => absurd e (hu F g pl hp)⟩
  intro F g pl hp e
  rcases h.new hp with h1 | h1 | ⟨g0, pl0, h1, h2⟩
  · exact hu F g pl h1 e
  · omega
  · exact hu F g0 pl0 h1 (h2.trans e)

theorem BInv.step {P : Program} {σ σ' : Pl} {H H' : AHeap} {w w' : World} {b : Frame} {n0 : Nat} (h : BInv b n0 σ w) (s : Step P σ H w σ' H' w') : BInv b n0 σ' w' := by
  obtain ⟨hb, ⟨rs, h1, h2, h3⟩, h4⟩ := h
  refine ⟨hb, ⟨rs, h1, h2, fun r hr => ?_⟩, fun l hl => ?_⟩
  · obtain ⟨a, b', c, d⟩ := h3 r hr
    obtain ⟨e, f⟩ := s.unmapped b' d
    exact ⟨a, Nat.lt_of_lt_of_le b' s.size, f.trans c, e⟩
  · obtain ⟨a, r, hr⟩ := h4 l hl
    obtain ⟨r', hr', _⟩ := s.loops hr
    exact ⟨a, r', hr'⟩

/-- A new object that nothing in abstract memory stands for. -/
theorem Step.hidden {P : Program} {σ : Pl} {H : AHeap} {w : World} (h : Rel P σ H w) (co : Obj) : Step P σ H w σ H (w.alloc co) :=
  { rel := { dom := h.dom, obj := fun a b => (h.obj a b).mono (Ext.refl σ) (heap_alloc_old w co _ (h.old a)), inj := h.inj, old := fun a => by have := h.old a; simp; omega }
    ext := Ext.refl σ, new := fun h => .inl h, hid := fun _ h => ⟨h, rfl⟩, ro := fun _ => rfl, n := Nat.le_refl _, size := by simp, blk := fun hb _ => heap_alloc_old w co _ hb,
    os := rfl, tape := rfl, output := rfl, loops := fun {b r} hr => ⟨r, by rw [heap_alloc_old w co b (Array.getElem?_eq_some_iff.1 hr).1]; exact hr, rfl⟩ }

def withDefs (b : Frame) (ds : List Deferred) : Frame := { b with defers := ds }

/-- Where a piece of code leaves its frame. -/
def Arr (P : Program) (m : Machine) (b : Frame) (tmps : Array Value) (k : List Item) (cs : List Frame) (w : World) : Ex → Prop
  | .normal => Steps P m (lone (fput b tmps k) cs w)
  | .exit id => ∃ k2, exitTo id k2 = exitTo id k ∧ Steps P m (lone (fput b tmps (.code (.exit id) :: k2)) cs w)
  | .ret => ∃ k2, Steps P m (lone (fput b tmps (.code .ret :: k2)) cs w)

theorem Arr.of_steps {P : Program} {m m1 : Machine} {b : Frame} {tmps : Array Value} {k : List Item} {cs : List Frame} {w : World} {e : Ex} (s : Steps P m m1) (h : Arr P m1 b tmps k cs w e) : Arr P m b tmps k cs w e := by
  cases e with
  | normal => exact s.trans h
  | exit id => obtain ⟨k2, h1, h2⟩ := h; exact ⟨k2, h1, s.trans h2⟩
  | ret => obtain ⟨k2, h2⟩ := h; exact ⟨k2, s.trans h2⟩

theorem Arr.pass {P : Program} {m : Machine} {b : Frame} {tmps : Array Value} {x : Item} {k : List Item} {cs : List Frame} {w : World} {e : Ex} (hx : x.plain = true) (he : e ≠ .normal) (h : Arr P m b tmps (x :: k) cs w e) : Arr P m b tmps k cs w e := by
  cases e with
  | normal => exact absurd rfl he
  | exit id => obtain ⟨k2, h1, h2⟩ := h; exact ⟨k2, by rw [h1]; cases x <;> simp_all [exitTo, Item.plain], h2⟩
  | ret => exact h

def RegOK (C : Cfg) (callf : Fn → List Value → AHeap → Option (Value × AHeap)) (nt : Nat) (ops : Array Oper) (draw : Bool) : Prop :=
  ∀ {env env' : Env} {H H' : AHeap}, runRegion C callf nt ops draw env H = some (env', H') → ∀ {σ : Pl} {w : World} {tmps : Array Value}, GlobR C σ → Rel C.P σ H w → EnvR σ nt env tmps → ∀ {b : Frame}, BOK b → ∀ (id : Nat) (k : List Item) (cs : List Frame),
    ∃ tmps' w' σ', Step C.P σ H w σ' H' w' ∧ EnvR σ' nt env' tmps' ∧ Steps C.P (lone (fput b tmps (.code (.region id ops draw) :: k)) cs w) (lone (fput b tmps' k) cs w')

theorem reg_seq {C : Cfg} {callf : Fn → List Value → AHeap → Option (Value × AHeap)} (hcall : CallOK C callf) {nt : Nat} {ops : Array Oper} : RegOK C callf nt ops false := by
  intro env env' H H' h σ w tmps hg hr he b hb id k cs
  obtain ⟨tmps', w', σ', h1, h2, h3⟩ := seq_sim hcall (AtOps.range ops) h hg hr he hb k cs
  exact ⟨tmps', w', σ', h1, h2, .head (st_region hb) (h3.trans (.one (st_region_end hb)))⟩

/-- What a piece of code does. -/
def CodeGoes (C : Cfg) (nt : Nat) (c : Code) (env : Env) (H : AHeap) (ex : Ex) (env' : Env) (H' : AHeap) : Prop :=
  ∀ {σ : Pl} {w : World} {tmps : Array Value}, GlobR C σ → Rel C.P σ H w → EnvR σ nt env tmps → ∀ {b : Frame} {n0 : Nat}, BInv b n0 σ w → n0 ≤ w.heap.size → ∀ (k : List Item) (cs : List Frame),
    ∃ tmps' w' σ' ds, Step C.P σ H w σ' H' w' ∧ EnvR σ' nt env' tmps' ∧ BInv (withDefs b ds) n0 σ' w' ∧ Arr C.P (lone (fput b tmps (.code c :: k)) cs w) (withDefs b ds) tmps' k cs w' ex

theorem run_getLoop {P : Program} {w : World} {l : Nat} {r : Loop} (h : w.heap[l]? = some (.loop r)) : (Instr.getLoop l).run P w = .ok r w := by
  simp [Instr.getLoop, run_getObj h (by rintro _ _ _ ⟨⟩)]

/-- A range over a function begins: the loop is there. -/
theorem enterLoop_run {P : Program} {b : Frame} {n0 : Nat} {σ : Pl} {H : AHeap} {w : World} (hb : BInv b n0 σ w) (hn : n0 ≤ w.heap.size) (hr : Rel P σ H w) {nt : Nat} {env : Env} {tmps : Array Value} (he : EnvR σ nt env tmps)
    (params : Array Tmp) (assign body : Code) : ∃ w1 l mk σ1, (Instr.enterLoop b.fn tmps params assign body b.roundOf).run P w = .ok (l, mk) w1 ∧
      Step P σ H w σ1 (H.push (.loop nt env params.toList assign body true none)) w1 ∧ (∃ pl, σ1 H.n 0 = some pl ∧ pl.b = l) ∧ BInv (withDefs b (mk ++ b.defers)) n0 σ1 w1 := by
  cases ha : b.roundOf with
  | none =>
    have s1 := Step.hidden hr (.deferred (some []))
    have s2 := Step.push s1.rel (.loop nt env params.toList assign body true none) (.loop { state := .ready, pending := none, fn := b.fn, tmps, params, assign, body, defers := w.heap.size })
      ⟨(w.alloc (.deferred (some []))).heap.size, 0, 0, 0, 0⟩ rfl (by rintro _ _ _ ⟨⟩) ⟨rfl, _, heap_alloc_new _ _, by
        have hs : σ H.n 0 = none := by
          cases hg : σ H.n 0 with
          | none => rfl
          | some pl' => have := hr.dom hg; omega
        exact { envr := he.ext (upd_ext hs), par := rfl, asg := rfl, bod := rfl, rdy := fun _ => rfl, pnd := rfl, dn := fun h => absurd rfl h }⟩
    have s := s1.trans s2 hr
    refine ⟨_, _, [mark w.heap.size], _, ?_, s, ⟨_, upd_same _ _ _ _, rfl⟩, ?_⟩
    · simp [Instr.enterLoop, mark]
    · have hb' := hb.step s
      obtain ⟨⟨hm, hk⟩, ⟨rs, h1, h2, h3⟩, h4⟩ := hb'
      obtain ⟨_, ⟨rs0, h10, _, h30⟩, _⟩ := hb
      have hrs : rs = rs0 := by
        have : rs.map mark = rs0.map mark := h1.symm.trans h10
        have hinj : Function.Injective mark := by intro a b e; injection e with e1 _; injection e1
        exact List.map_inj_right (fun a b e => hinj e) |>.1 this
      subst hrs
      refine ⟨⟨hm, hk⟩, ⟨w.heap.size :: rs, by show [mark w.heap.size] ++ b.defers = _; rw [h1]; rfl, ?_, ?_⟩, ?_⟩
      · refine List.nodup_cons.2 ⟨fun hmem => ?_, h2⟩
        have := (h30 _ hmem).2.1
        omega
      · intro r hr'
        rcases List.mem_cons.1 hr' with rfl | hr'
        · have hu : ∀ F g pl, σ F g = some pl → pl.b ≠ w.heap.size := fun F g pl hp e => by have := hr.old hp; omega
          obtain ⟨e1, e2⟩ := s2.unmapped (r := w.heap.size) (by simp) hu
          refine ⟨hn, by simp; omega, e2.trans (heap_alloc_new w _), e1⟩
        · exact h3 r hr'
      · intro l hl
        exact absurd (ha.symm.trans hl) (by simp)
  | some l0 =>
    obtain ⟨hd, r0, hr0⟩ := hb.around l0 ha
    have s := Step.push hr (.loop nt env params.toList assign body true none) (.loop { state := .ready, pending := none, fn := b.fn, tmps, params, assign, body, defers := r0.defers })
      ⟨w.heap.size, 0, 0, 0, 0⟩ rfl (by rintro _ _ _ ⟨⟩) ⟨rfl, _, heap_alloc_new _ _, by
        have hs : σ H.n 0 = none := by
          cases hg : σ H.n 0 with
          | none => rfl
          | some pl' => have := hr.dom hg; omega
        exact { envr := he.ext (upd_ext hs), par := rfl, asg := rfl, bod := rfl, rdy := fun _ => rfl, pnd := rfl, dn := fun h => absurd rfl h }⟩
    refine ⟨_, _, [], _, ?_, s, ⟨_, upd_same _ _ _ _, rfl⟩, ?_⟩
    · simp [Instr.enterLoop, run_getLoop hr0]
    · have : withDefs b ([] ++ b.defers) = b := rfl
      rw [this]
      exact hb.step s

theorem endLoop_run {P : Program} {σ : Pl} {H : AHeap} {w : World} (hr : Rel P σ H w) {l : Nat} {pl : Place} (hp : σ l 0 = some pl) {nt : Nat} {env : Env} {params : List Tmp} {assign body : Code} {ready : Bool} {pending : Option Code}
    (hl : H.get l = some (.loop nt env params assign body ready pending)) (hpend : ready = true ∨ pending ≠ none) :
    ∃ w', (Instr.endLoop pl.b).run P w = .ok pending w' ∧ Step P σ H w σ (H.set l (.loop nt env params assign body false pending)) w' := by
  obtain ⟨_, r, k1, k2⟩ := hr.obj hp hl
  have hnb : r.state ≠ .busy := by
    rcases hpend with h | h
    · rw [k2.rdy h]; simp
    · exact k2.dn h
  refine ⟨_, ?_, Step.setObj hr hp hl trivial (co' := .loop { r with state := .exhausted }) ?_ ?_⟩
  · simp [Instr.endLoop, run_getLoop k1, hnb, run_setObj k1 (by rintro _ _ _ ⟨⟩), k2.pnd]
  · refine ⟨rfl, { r with state := .exhausted }, ?_, { envr := k2.envr, par := k2.par, asg := k2.asg, bod := k2.bod, rdy := by simp, pnd := k2.pnd, dn := fun _ => by simp }⟩
    show (w.heap.setIfInBounds pl.b _)[pl.b]? = _
    rw [Array.getElem?_setIfInBounds_self_of_lt (hr.old hp)]
  · intro r' hr'
    rw [k1] at hr'; cases hr'
    exact ⟨_, rfl, rfl⟩

theorem loop_sim {C : Cfg} {callf : Fn → List Value → AHeap → Option (Value × AHeap)} {fuel nt : Nat} {body : Code}
    (hbody : ∀ {env : Env} {H : AHeap} {ex : Ex} {env' : Env} {H' : AHeap}, exec C callf fuel nt body env H = some (ex, env', H') → CodeGoes C nt body env H ex env' H') :
    ∀ (n : Nat) {env : Env} {H : AHeap} {ex : Ex} {env' : Env} {H' : AHeap}, aloop (exec C callf fuel nt body) n env H = some (ex, env', H') →
    ∀ {σ : Pl} {w : World} {tmps : Array Value}, GlobR C σ → Rel C.P σ H w → EnvR σ nt env tmps → ∀ {b : Frame} {n0 : Nat}, BInv b n0 σ w → n0 ≤ w.heap.size → ∀ (k : List Item) (cs : List Frame),
      ∃ tmps' w' σ' ds, Step C.P σ H w σ' H' w' ∧ EnvR σ' nt env' tmps' ∧ BInv (withDefs b ds) n0 σ' w' ∧ Arr C.P (lone (fput b tmps (.code body :: .inLoop body :: k)) cs w) (withDefs b ds) tmps' k cs w' ex ∧ ex ≠ .normal
  | 0, env, H, ex, env', H', h, σ, w, tmps, _, _, _, b, n0, _, _, k, cs => by simp [aloop] at h
  | n + 1, env, H, ex, env', H', h, σ, w, tmps, hg, hr, he, b, n0, hb, hn, k, cs => by
    simp only [aloop] at h
    cases hx : exec C callf fuel nt body env H with
    | none => simp [hx] at h
    | some q =>
      obtain ⟨e1, env1, H1⟩ := q
      obtain ⟨tmps1, w1, σ1, ds1, s1, he1, hb1, ha1⟩ := hbody hx hg hr he hb hn (.inLoop body :: k) cs
      cases e1 with
      | normal =>
        simp only [hx] at h
        obtain ⟨tmps2, w2, σ2, ds2, s2, he2, hb2, ha2, hne⟩ := loop_sim hbody n h (hg.ext s1.ext) s1.rel he1 hb1 (Nat.le_trans hn s1.size) k cs
        exact ⟨tmps2, w2, σ2, ds2, s1.trans s2 hr, he2, hb2, .of_steps (Steps.trans ha1 (.one (st_inLoop hb1.toBOK))) ha2, hne⟩
      | exit id =>
        simp only [hx, Option.some.injEq, Prod.mk.injEq] at h
        obtain ⟨rfl, rfl, rfl⟩ := h
        exact ⟨tmps1, w1, σ1, ds1, s1, he1, hb1, .pass (x := .inLoop body) rfl (by simp) ha1, by simp⟩
      | ret =>
        simp only [hx, Option.some.injEq, Prod.mk.injEq] at h
        obtain ⟨rfl, rfl, rfl⟩ := h
        exact ⟨tmps1, w1, σ1, ds1, s1, he1, hb1, .pass (x := .inLoop body) rfl (by simp) ha1, by simp⟩

theorem exec_sim {C : Cfg} {callf : Fn → List Value → AHeap → Option (Value × AHeap)} (hcall : CallOK C callf) {fuel nt : Nat} (hreg : ∀ ops draw, RegOK C callf nt ops draw) :
    ∀ (c : Code) {env : Env} {H : AHeap} {ex : Ex} {env' : Env} {H' : AHeap}, exec C callf fuel nt c env H = some (ex, env', H') → CodeGoes C nt c env H ex env' H' := by
  intro c
  induction c with
  | skip =>
    intro env H ex env' H' h σ w tmps hg hr he b n0 hb hn k cs
    simp only [exec, Option.some.injEq, Prod.mk.injEq] at h
    obtain ⟨rfl, rfl, rfl⟩ := h
    exact ⟨tmps, w, σ, b.defers, Step.refl hr, he, hb, .one (st_skip hb.toBOK)⟩
  | label l =>
    intro env H ex env' H' h σ w tmps hg hr he b n0 hb hn k cs
    simp only [exec, Option.some.injEq, Prod.mk.injEq] at h
    obtain ⟨rfl, rfl, rfl⟩ := h
    exact ⟨tmps, w, σ, b.defers, Step.refl hr, he, hb, .one (st_label hb.toBOK)⟩
  | exit id =>
    intro env H ex env' H' h σ w tmps hg hr he b n0 hb hn k cs
    simp only [exec, Option.some.injEq, Prod.mk.injEq] at h
    obtain ⟨rfl, rfl, rfl⟩ := h
    exact ⟨tmps, w, σ, b.defers, Step.refl hr, he, hb, k, rfl, Steps.refl _ _⟩
  | ret =>
    intro env H ex env' H' h σ w tmps hg hr he b n0 hb hn k cs
    simp only [exec, Option.some.injEq, Prod.mk.injEq] at h
    obtain ⟨rfl, rfl, rfl⟩ := h
    exact ⟨tmps, w, σ, b.defers, Step.refl hr, he, hb, k, Steps.refl _ _⟩
  | region id ops draw =>
    intro env H ex env' H' h σ w tmps hg hr he b n0 hb hn k cs
    simp only [exec] at h
    split at h
    · rename_i env1 H1 hx
      simp only [Option.some.injEq, Prod.mk.injEq] at h
      obtain ⟨rfl, rfl, rfl⟩ := h
      obtain ⟨tmps', w', σ', h1, h2, h3⟩ := hreg ops draw hx hg hr he hb.toBOK id k cs
      exact ⟨tmps', w', σ', b.defers, h1, h2, hb.step h1, h3⟩
    · simp at h
  | seq x y ihx ihy =>
    intro env H ex env' H' h σ w tmps hg hr he b n0 hb hn k cs
    simp only [exec] at h
    cases hx : exec C callf fuel nt x env H with
    | none => simp [hx] at h
    | some q =>
      obtain ⟨e1, env1, H1⟩ := q
      obtain ⟨tmps1, w1, σ1, ds1, s1, he1, hb1, ha1⟩ := ihx hx hg hr he hb hn (.code y :: k) cs
      cases e1 with
      | normal =>
        simp only [hx] at h
        obtain ⟨tmps2, w2, σ2, ds2, s2, he2, hb2, ha2⟩ := ihy h (hg.ext s1.ext) s1.rel he1 hb1 (Nat.le_trans hn s1.size) k cs
        exact ⟨tmps2, w2, σ2, ds2, s1.trans s2 hr, he2, hb2, .of_steps (.head (st_seq hb.toBOK) ha1) ha2⟩
      | exit id =>
        simp only [hx, Option.some.injEq, Prod.mk.injEq] at h
        obtain ⟨rfl, rfl, rfl⟩ := h
        exact ⟨tmps1, w1, σ1, ds1, s1, he1, hb1, .of_steps (.one (st_seq hb.toBOK)) (.pass (x := .code y) rfl (by simp) ha1)⟩
      | ret =>
        simp only [hx, Option.some.injEq, Prod.mk.injEq] at h
        obtain ⟨rfl, rfl, rfl⟩ := h
        exact ⟨tmps1, w1, σ1, ds1, s1, he1, hb1, .of_steps (.one (st_seq hb.toBOK)) (.pass (x := .code y) rfl (by simp) ha1)⟩
  | cond c x y ihx ihy =>
    intro env H ex env' H' h σ w tmps hg hr he b n0 hb hn k cs
    simp only [exec] at h
    have hv := eval_sim hg he b [] c
    split at h
    · rename_i hc
      rw [hc] at hv
      obtain ⟨tmps1, w1, σ1, ds1, s1, he1, hb1, ha1⟩ := ihx h hg hr he hb hn k cs
      exact ⟨tmps1, w1, σ1, ds1, s1, he1, hb1, .of_steps (.one (st_cond hb.toBOK hv.bool_inv)) ha1⟩
    · rename_i hc
      rw [hc] at hv
      obtain ⟨tmps1, w1, σ1, ds1, s1, he1, hb1, ha1⟩ := ihy h hg hr he hb hn k cs
      exact ⟨tmps1, w1, σ1, ds1, s1, he1, hb1, .of_steps (.one (st_cond hb.toBOK hv.bool_inv)) ha1⟩
    · simp at h
  | block id body ih =>
    intro env H ex env' H' h σ w tmps hg hr he b n0 hb hn k cs
    simp only [exec] at h
    cases hx : exec C callf fuel nt body env H with
    | none => simp [hx] at h
    | some q =>
      obtain ⟨e1, env1, H1⟩ := q
      obtain ⟨tmps1, w1, σ1, ds1, s1, he1, hb1, ha1⟩ := ih hx hg hr he hb hn (.inBlock id :: k) cs
      cases e1 with
      | normal =>
        simp only [hx, Option.some.injEq, Prod.mk.injEq] at h
        obtain ⟨rfl, rfl, rfl⟩ := h
        exact ⟨tmps1, w1, σ1, ds1, s1, he1, hb1, .head (st_block hb.toBOK) (Steps.trans ha1 (.one (st_inBlock hb1.toBOK)))⟩
      | exit i =>
        simp only [hx] at h
        obtain ⟨k2, e2, st2⟩ := ha1
        split at h
        · rename_i heq
          have heq := Nat.eq_of_beq_eq_true heq
          subst heq
          simp only [Option.some.injEq, Prod.mk.injEq] at h
          obtain ⟨rfl, rfl, rfl⟩ := h
          exact ⟨tmps1, w1, σ1, ds1, s1, he1, hb1, .head (st_block hb.toBOK) (st2.trans (.one (st_exit hb1.toBOK (by rw [e2]; simp [exitTo]))))⟩
        · rename_i heq
          simp only [Option.some.injEq, Prod.mk.injEq] at h
          obtain ⟨rfl, rfl, rfl⟩ := h
          have hne : ¬ id = i := by
            rintro rfl
            simp at heq
          exact ⟨tmps1, w1, σ1, ds1, s1, he1, hb1, k2, by rw [e2]; simp [exitTo, hne], .head (st_block hb.toBOK) st2⟩
      | ret =>
        simp only [hx, Option.some.injEq, Prod.mk.injEq] at h
        obtain ⟨rfl, rfl, rfl⟩ := h
        exact ⟨tmps1, w1, σ1, ds1, s1, he1, hb1, .of_steps (.one (st_block hb.toBOK)) ha1⟩
  | loop body ih =>
    intro env H ex env' H' h σ w tmps hg hr he b n0 hb hn k cs
    simp only [exec] at h
    obtain ⟨tmps1, w1, σ1, ds1, s1, he1, hb1, ha1, _⟩ := loop_sim ih fuel h hg hr he hb hn k cs
    exact ⟨tmps1, w1, σ1, ds1, s1, he1, hb1, .of_steps (.one (st_loop hb.toBOK)) ha1⟩
  | scope body ih =>
    intro env H ex env' H' h σ w tmps hg hr he b n0 hb hn k cs
    simp only [exec] at h
    obtain ⟨tmps1, w1, σ1, ds1, s1, he1, hb1, ha1⟩ := ih h hg hr he hb hn (.inScope body :: k) cs
    refine ⟨tmps1, w1, σ1, ds1, s1, he1, hb1, .of_steps (.one (st_scope hb.toBOK)) ?_⟩
    cases ex with
    | normal => exact Steps.trans ha1 (.one (st_inScope hb1.toBOK))
    | exit id => obtain ⟨k2, e2, st2⟩ := ha1; exact ⟨k2, e2, st2⟩
    | ret => exact ha1
  | rangeFunc f params assign body iha ihb =>
    intro env H ex env' H' h σ w tmps hg hr he b n0 hb hn k cs
    simp only [exec] at h
    split at h
    · rename_i g first captured hf
      split at h
      · rename_i u H2 hcl
        split at h
        · rename_i nt' env2 params2 assign2 body2 ready pending hl
          obtain ⟨w1, l, mk, σ1, e1, s1, ⟨pl, hp, hpl⟩, hb1⟩ := enterLoop_run hb hn hr he params assign body
          have hv := (eval_sim hg he (withDefs b (mk ++ b.defers)) (.inRangeFunc l :: k) f).ext s1.ext
          rw [hf] at hv
          obtain ⟨a', b', ec, h1, h2⟩ := hv.func_inv (by rintro _ ⟨⟩)
          have hres := hcall hcl (hg.ext s1.ext) s1.rel (cargs := a' ++ #[.func (.yield l) #[] #[]] ++ b') (by
            simp only [Array.toList_append]
            exact (h1.append (.cons (by rw [← hpl]; exact .yield hp) .nil)).append h2) (.func g)
          obtain ⟨nx, w2, hrun, hfin⟩ := hres
          obtain ⟨fr', cs', c, w3, hn', ⟨σ3, s3, _⟩, hs⟩ := hfin (fput (withDefs b (mk ++ b.defers)) tmps (.inRangeFunc l :: k)) cs
          have s13 := s1.trans s3 hr
          have hp3 : σ3 H.n 0 = some pl := s3.ext _ _ _ hp
          have hm : (fput b tmps (.code (.rangeFunc f params assign body) :: k)).mode = .run := hb.mode
          have hstep : step C.P (lone (fput b tmps (.code (.rangeFunc f params assign body) :: k)) cs w) = .next (lone fr' cs' w2) := by
            refine step_lone_go ?_
            have hap := apply_go (P := C.P) (fr := fput (withDefs b (mk ++ b.defers)) tmps (.inRangeFunc l :: k)) (cs := cs)
              (s := do let d ← resolve (fput (withDefs b (mk ++ b.defers)) tmps (.inRangeFunc l :: k)).eval { callee := .value f, args := #[.const (.func (.yield l) #[] #[])], argTypes := #[] } 0; invoke d.target d.args)
              (w := w1) (w1 := w2) (nx := nx) (.rf _ _) (by
                rw [← hrun, ← invoke_func]
                have hcst : ∀ v, (fput (withDefs b (mk ++ b.defers)) tmps (.inRangeFunc l :: k)).eval (.const v) = v := fun _ => rfl
                simp [resolve, ec, Deferred.ofValue, hcst]) hn'
            rw [← hap]
            obtain ⟨fn, tmps0, todo0, defers0, mode0, kind0, roundOf0⟩ := b
            simp only [fput] at hm
            subst hm
            simp only [stepG, stepG.exec, fput, withDefs, Sem.runT_eq, e1, GStep.bare_after]
          have hfi : (fput (withDefs b (mk ++ b.defers)) tmps (.inRangeFunc l :: k)).finish c = fput (withDefs b (mk ++ b.defers)) tmps (.endRangeFunc l :: k) := rfl
          rw [hfi] at hs
          have hb3 := hb1.step s3
          have he3 := he.ext s13.ext
          -- the end
          have hend : ∀ (ready' : ready = true ∨ pending ≠ none), ∃ w4, Step C.P σ3 H2 w3 σ3 (H2.set H.n (.loop nt' env2 params2 assign2 body2 false pending)) w4 ∧
              step C.P (lone (fput (withDefs b (mk ++ b.defers)) tmps (.endRangeFunc l :: k)) cs w3) = .next (lone (fput (withDefs b (mk ++ b.defers)) tmps ((pending.map Item.code).toList ++ k)) cs w4) := by
            intro hrd
            obtain ⟨w4, q1, q2⟩ := endLoop_run s13.rel hp3 hl hrd
            refine ⟨w4, q2, step_lone_go ?_⟩
            rw [hpl] at q1
            have hm3 := hb3.mode
            simp only [stepG, stepG.exec, fput, withDefs, Sem.runT_eq]
            simp only [withDefs] at hm3
            simp [hm3, q1]
          split at h
          · simp only [Option.some.injEq, Prod.mk.injEq] at h
            obtain ⟨rfl, rfl, rfl⟩ := h
            obtain ⟨w4, q2, q3⟩ := hend (.inl rfl)
            exact ⟨tmps, w4, σ3, _, s13.trans q2 hr, he3, hb3.step q2, .head hstep (hs.trans (.one q3))⟩
          · simp only [Option.some.injEq, Prod.mk.injEq] at h
            obtain ⟨rfl, rfl, rfl⟩ := h
            obtain ⟨w4, q2, q3⟩ := hend (.inr (by simp))
            exact ⟨tmps, w4, σ3, _, s13.trans q2 hr, he3, hb3.step q2, k, .head hstep (hs.trans (.one q3))⟩
          · simp only [Option.some.injEq, Prod.mk.injEq] at h
            obtain ⟨rfl, rfl, rfl⟩ := h
            obtain ⟨w4, q2, q3⟩ := hend (.inr (by simp))
            exact ⟨tmps, w4, σ3, _, s13.trans q2 hr, he3, hb3.step q2, k, rfl, .head hstep (hs.trans (.one q3))⟩
          · simp at h
        · simp at h
      · simp at h
    · simp at h
  | goto l => intro env H ex env' H' h; simp [exec] at h
  | refuse why => intro env H ex env' H' h; simp [exec] at h

end Go.AE
