/-
  AE: drawn regions, fifth part: the state between the canonical order and the model's order, and its moves.
-/
import Derived.Test.YtkhbnkncnmeefaaDoorAeDraw4
namespace Go.AE

theorem putE_spec {nt : Nat} {dst : Option Tmp} {v : Value} {env env' : Env} (h : putE nt dst v env = some env') : (∀ d, dst = some d → d < nt) ∧ ∀ t, getE env' t = if dst = some t then v else getE env t := by
  cases dst with
  | none => simp only [putE, Option.some.injEq] at h; subst h; exact ⟨by simp, fun t => by simp⟩
  | some d =>
    simp only [putE] at h
    split at h
    · rename_i hlt
      have hlt : d < nt := by simpa [Nat.blt, Nat.lt_iff_add_one_le] using hlt
      simp only [Option.some.injEq] at h
      subst h
      refine ⟨fun d' e => by cases e; exact hlt, fun t => ?_⟩
      rw [getE_cons]
      by_cases e : d = t
      · subst e; simp
      · rw [if_neg e, if_neg (by simpa using e)]
    · simp at h

theorem putE_ok {nt : Nat} {dst : Option Tmp} (v : Value) (env : Env) (h : ∀ d, dst = some d → d < nt) : ∃ env', putE nt dst v env = some env' := by
  cases dst with
  | none => exact ⟨env, rfl⟩
  | some d =>
    have : Nat.blt d nt = true := by simpa [Nat.blt, Nat.lt_iff_add_one_le] using h d rfl
    exact ⟨_, by simp only [putE, this]; rfl⟩

section
variable {C : Cfg} {callf : Fn → List Value → AHeap → Option (Value × AHeap)} {nt : Nat} {ops : Array Oper} {bef : List Nat} {twin : Option (Nat × Nat)}

theorem runDraw_cons {i : Nat} {r : List Nat} {pend : List Pend} {env : Env} {H : AHeap} {fin : Env × AHeap} (h : runDraw C callf nt ops bef twin (i :: r) pend env H = some fin) :
    ∃ o, ops[i]? = some o ∧ ∃ v H' env', putE nt o.dst v env = some env' ∧
      ((effectful o = true ∧ stillR C H pend = true ∧ ((wantedA ops env o = some false ∧ v = undef ∧ H' = H) ∨ (wantedA ops env o = some true ∧ oper C callf (eval C env) o H = some (v, H'))) ∧
        runDraw C callf nt ops bef twin r (keepP bef i pend) env' H' = some fin) ∨
      (effectful o = false ∧ ((wantedA ops env o = some false ∧ v = undef ∧ H' = H ∧ runDraw C callf nt ops bef twin r pend env' H' = some fin) ∨
        (wantedA ops env o = some true ∧ ∃ k, kindA C.P o = some k ∧ oper C callf (eval C env) o H = some (v, H') ∧
          runDraw C callf nt ops bef twin r (match k with | .read => ⟨i, o, env, v⟩ :: pend | _ => pend) env' H' = some fin)))) := by
  simp only [runDraw] at h
  split at h
  · simp at h
  · rename_i o ho
    rw [Array.getElem?_toList] at ho
    refine ⟨o, ho, ?_⟩
    split at h
    · rename_i he
      split at h
      · rename_i hs
        split at h
        · rename_i hw
          split at h
          · rename_i env' hp
            exact ⟨undef, H, env', hp, .inl ⟨he, hs, .inl ⟨hw, rfl, rfl⟩, h⟩⟩
          · simp at h
        · rename_i hw
          split at h
          · rename_i v H' hop
            split at h
            · rename_i env' hp
              exact ⟨v, H', env', hp, .inl ⟨he, hs, .inr ⟨hw, hop⟩, h⟩⟩
            · simp at h
          · simp at h
        · simp at h
      · simp at h
    · rename_i he
      split at h
      · rename_i hw
        split at h
        · rename_i env' hp
          exact ⟨undef, H, env', hp, .inr ⟨he, .inl ⟨hw, rfl, rfl, h⟩⟩⟩
        · simp at h
      · rename_i hw
        split at h
        · rename_i k hk
          split at h
          · rename_i v H' hop
            split at h
            · rename_i env' hp
              exact ⟨v, H', env', hp, .inr ⟨he, .inr ⟨hw, k, hk, hop, h⟩⟩⟩
            · simp at h
          · simp at h
        · simp at h
      · simp at h

theorem stillR_mem {H : AHeap} : ∀ {pend : List Pend}, stillR C H pend = true → ∀ p ∈ pend, ∃ v, readsA C H (eval C p.env) p.o = some v ∧ C.deq v p.v = true
  | [], _, p, hp => by simp at hp
  | q :: r, h, p, hp => by
    simp only [stillR] at h
    split at h
    · rename_i v hv
      simp only [Bool.and_eq_true] at h
      rcases List.mem_cons.1 hp with rfl | hp
      · exact ⟨v, hv, h.1⟩
      · exact stillR_mem h.2 p hp
    · simp at h

end

/-- What an operation that waits for its turn comes to. -/
inductive PKind (C : Cfg) (callf : Fn → List Value → AHeap → Option (Value × AHeap)) (n0 : Nat) (H : AHeap) (σ : Pl) (pend : List Pend) (p : Pend) : Option Nat → Prop
  | pure : (∀ H2, oper C callf (eval C p.env) p.o H2 = some (p.v, H2)) → PKind C callf n0 H σ pend p none
  | read : kindA C.P p.o = some .read → p ∈ pend → PKind C callf n0 H σ pend p none
  | alloc {Ha : AHeap} {ob : AObj} : kindA C.P p.o = some .alloc → oper C callf (eval C p.env) p.o Ha = some (p.v, Ha.push ob) → (∀ ty cells gen, ob ≠ .row ty cells gen true) → H.get Ha.n = some ob →
      (∀ g, σ Ha.n g = none) → n0 ≤ Ha.n → PKind C callf n0 H σ pend p (some Ha.n)

structure PendOK (C : Cfg) (callf : Fn → List Value → AHeap → Option (Value × AHeap)) (nt : Nat) (ops : Array Oper) (n0 : Nat) (H : AHeap) (σ : Pl) (pend : List Pend) (x : Pend × Option Nat) : Prop where
  op : ops[x.1.i]? = some x.1.o
  dst : ∀ d, x.1.o.dst = some d → d < nt
  val : (wantedA ops x.1.env x.1.o = some false ∧ x.1.v = undef ∧ x.2 = none) ∨ (wantedA ops x.1.env x.1.o = some true ∧ PKind C callf n0 H σ pend x.1 x.2)

theorem PendOK.get {C : Cfg} {callf : Fn → List Value → AHeap → Option (Value × AHeap)} {nt : Nat} {ops : Array Oper} {n0 : Nat} {H : AHeap} {σ : Pl} {pend : List Pend} {x : Pend × Option Nat}
    (h : PendOK C callf nt ops n0 H σ pend x) {a : Nat} (ha : x.2 = some a) : a < H.n ∧ n0 ≤ a ∧ ∀ g, σ a g = none := by
  rcases h.val with ⟨_, _, h1⟩ | ⟨_, h1⟩
  · rw [h1] at ha; cases ha
  · generalize x.2 = q at h1 ha
    cases h1 with
    | pure _ => cases ha
    | read _ _ => cases ha
    | alloc _ _ _ h2 h3 h4 => cases ha; exact ⟨AHeap.get_lt h2, h4, h3⟩

theorem PendOK.mono {C : Cfg} {callf : Fn → List Value → AHeap → Option (Value × AHeap)} {nt : Nat} {ops : Array Oper} {n0 : Nat} {H H' : AHeap} {σ σ' : Pl} {pend pend' : List Pend} {x : Pend × Option Nat}
    (h : PendOK C callf nt ops n0 H σ pend x) (hp : x.1 ∈ pend → x.1 ∈ pend') (hs : ∀ a, x.2 = some a → H'.get a = H.get a ∧ ∀ g, σ' a g = none) : PendOK C callf nt ops n0 H' σ' pend' x := by
  refine ⟨h.op, h.dst, ?_⟩
  rcases h.val with h1 | ⟨h0, h1⟩
  · exact .inl h1
  · refine .inr ⟨h0, ?_⟩
    generalize x.2 = q at h1 hs
    cases h1 with
    | pure h => exact .pure h
    | read h h' => exact .read h (hp h')
    | alloc a1 a2 a3 a4 a5 a6 =>
      obtain ⟨b1, b2⟩ := hs _ rfl
      exact .alloc a1 a2 a3 (b1.trans a4) b2 a6

structure Inv (C : Cfg) (callf : Fn → List Value → AHeap → Option (Value × AHeap)) (nt : Nat) (ops : Array Oper) (bef : List Nat) (σ0 : Pl) (H0 : AHeap) (w0 : World) (listed : Array Bool) (done : Nat)
    (P : List (Pend × Option Nat)) (pend : List Pend) (rest : List Nat) (env envC : Env) (H : AHeap) (σ : Pl) (w : World) (tmps : Array Value) : Prop where
  size : listed.size = ops.size
  closed : ∀ m k, listed.getD m false = true → Waits ops m k → listed.getD k false = true
  step : Step C.P σ0 H0 w0 σ H w
  envr : EnvR σ nt envC tmps
  mem : ∀ i, (i < ops.size ∧ listed.getD i false = false) ↔ ((∃ x ∈ P, x.1.i = i) ∨ i ∈ rest)
  dn : ∀ k, hasBit done k = true ↔ ((∃ x ∈ P, x.1.i = k) ∨ listed.getD k false = true)
  fresh : ∀ i ∈ rest, hasBit done i = false
  nd : rest.Nodup
  bf : ∀ x ∈ P, ∀ k, hasBit (bef.getD x.1.i 0) k = true → hasBit done k = true
  ok : ∀ x ∈ P, PendOK C callf nt ops H0.n H σ pend x
  al : ∀ x ∈ P, ∀ y ∈ P, ∀ a, x.2 = some a → y.2 = some a → x.1.i = y.1.i
  e1 : ∀ t, (∀ x ∈ P, x.1.o.dst ≠ some t) → getE envC t = getE env t
  e3 : ∀ x ∈ P, ∀ t, x.1.o.dst = some t → getE env t = x.1.v
  e2a : ∀ x ∈ P, ∀ t ∈ tmpsOf ops.toList x.1.o, ∀ y ∈ P, hasBit (bef.getD x.1.i 0) y.1.i = true → y.1.o.dst = some t → getE x.1.env t = y.1.v
  e2b : ∀ x ∈ P, ∀ t ∈ tmpsOf ops.toList x.1.o, (∀ y ∈ P, hasBit (bef.getD x.1.i 0) y.1.i = true → y.1.o.dst ≠ some t) → getE x.1.env t = getE envC t

theorem Step.aheadS {P : Program} {σ0 σ : Pl} {H0 H : AHeap} {w0 w : World} (h : Step P σ0 H0 w0 σ H w) (o : AObj) : Step P σ0 H0 w0 σ (H.push o) w where
  rel := h.rel.ahead o
  ext := h.ext
  new := h.new
  hid := fun {F} hF hs => by
    obtain ⟨a, b⟩ := h.hid hF hs
    refine ⟨a, ?_⟩
    rw [AHeap.get_push, if_neg (by have := h.n; omega), b]
  ro := fun {F} hF => by
    obtain ⟨ty, cells, gen, hg⟩ := id hF
    have := AHeap.get_lt hg
    rw [AHeap.get_push, if_neg (by have := h.n; omega), h.ro hF]
  n := by have := h.n; simp; omega
  size := h.size
  blk := h.blk
  os := h.os
  tape := h.tape
  output := h.output
  loops := h.loops

theorem Step.comeS {P : Program} {σ0 σ : Pl} {H0 H : AHeap} {w0 w w' : World} (h : Step P σ0 H0 w0 σ H w) {a : Nat} {o : AObj} {v c : Value} (hF : H.get a = some o) (hs : ∀ g, σ a g = none) (hro : ∀ ty cells gen, o ≠ .row ty cells gen true)
    (ha : H0.n ≤ a) (hc : Come P σ w a o v c w') : ∃ pl, Step P σ0 H0 w0 (upd σ a 0 pl) H w' ∧ VR (upd σ a 0 pl) v c := by
  obtain ⟨w1, co, pl, rfl, e1, e2, e3, e4, e5, e6, e7⟩ := hc
  refine ⟨pl, ?_, e7⟩
  have hrel1 : Rel P σ H w1 := h.rel.of_heap e1
  have hnro : ¬ isRo H a := by rintro ⟨ty, cells, gen, hg⟩; rw [hF] at hg; cases hg; exact hro _ _ _ rfl
  exact
    { rel := Step.come hrel1 hF hs co pl (by rw [e5, e1]) hnro e6
      ext := h.ext.trans (upd_ext (hs 0))
      new := by
        intro F g pl' hp
        rcases upd_inv hp with ⟨_, _, e⟩ | hp
        · subst e; exact .inr (.inl (by rw [e5]; exact h.size))
        · exact h.new hp
      hid := by
        intro F hF' hn
        obtain ⟨p, q⟩ := h.hid hF' hn
        refine ⟨fun g => ?_, q⟩
        unfold upd
        rw [if_neg (by omega)]
        exact p g
      ro := h.ro
      n := h.n
      size := by have := h.size; simp [e1]; omega
      blk := by
        intro b hb hro'
        rw [heap_alloc_old w1 co b (by rw [e1]; have := h.size; omega), e1]
        exact h.blk hb hro'
      os := e2.trans h.os
      tape := e3.trans h.tape
      output := e4.trans h.output
      loops := by
        intro b r hr
        obtain ⟨r', h1, h2⟩ := h.loops hr
        refine ⟨r', ?_, h2⟩
        have hlt : b < w.heap.size := (Array.getElem?_eq_some_iff.1 h1).1
        rw [heap_alloc_old w1 co b (by rw [e1]; exact hlt), e1]
        exact h1 }

section moves
variable {C : Cfg} {callf : Fn → List Value → AHeap → Option (Value × AHeap)} {nt : Nat} {ops : Array Oper} {bef : List Nat} {σ0 : Pl} {H0 : AHeap} {w0 : World} {listed : Array Bool} {done : Nat}
  {P : List (Pend × Option Nat)} {pend : List Pend} {rest : List Nat} {env envC : Env} {H : AHeap} {σ : Pl} {w : World} {tmps : Array Value}

theorem Inv.unlisted (h : Inv C callf nt ops bef σ0 H0 w0 listed done P pend rest env envC H σ w tmps) {x : Pend × Option Nat} (hx : x ∈ P) : listed.getD x.1.i false = false := ((h.mem x.1.i).2 (.inl ⟨x, hx, rfl⟩)).2

theorem Inv.ready (h : Inv C callf nt ops (beforeL ops.toList []) σ0 H0 w0 listed done P pend rest env envC H σ w tmps) {i : Nat} (hi : i ∈ Region.ready .any ops listed) :
    (i < ops.size ∧ listed.getD i false = false) ∧ (∀ k, Waits ops i k → listed.getD k false = true) ∧ ∀ k, hasBit ((beforeL ops.toList []).getD i 0) k = true → listed.getD k false = true := by
  obtain ⟨h1, o, ho, h2⟩ := mem_ready.1 hi
  have hw : ∀ k, Waits ops i k → listed.getD k false = true := by
    rintro k ⟨o', ho', e, he, hb, rfl⟩
    rw [ho] at ho'; cases ho'
    exact h2 e he hb
  obtain ⟨hlt, hv⟩ := getD_false_lt h1
  exact ⟨⟨(Array.getElem?_eq_some_iff.1 ho).1, by simp [hlt, hv]⟩, hw, bef_closed h.closed i o ho hw⟩

/-- An operation that turns no memory goes from the canonical order's rest to those that wait. -/
theorem Inv.advance (h : Inv C callf nt ops bef σ0 H0 w0 listed done P pend rest env envC H σ w tmps) (hfine : tmpsFine bef ops.toList = true) {i : Nat} {r : List Nat} (hrest : rest = i :: r)
    (hb : ∀ k, hasBit (bef.getD i 0) k = true → hasBit done k = true) {o : Oper} (ho : ops[i]? = some o) {v : Value} {H' : AHeap} {env' : Env} (hput : putE nt o.dst v env = some env') {pend' : List Pend}
    (hsub : ∀ p ∈ pend, p ∈ pend')
    (hcase : (wantedA ops env o = some false ∧ v = undef ∧ H' = H) ∨
      (wantedA ops env o = some true ∧ ((H' = H ∧ PKind C callf H0.n H σ pend' ⟨i, o, env, v⟩ none) ∨ ∃ ob, H' = H.push ob ∧ (∀ ty cells gen, ob ≠ .row ty cells gen true) ∧ kindA C.P o = some .alloc ∧ oper C callf (eval C env) o H = some (v, H')))) :
    ∃ P', Inv C callf nt ops bef σ0 H0 w0 listed (done ||| 2 ^ i) P' pend' r env' envC H' σ w tmps := by
  subst hrest
  have hin : ∀ x ∈ P, x.1.i ≠ i := fun x hx e => by
    have := (h.dn i).2 (.inl ⟨x, hx, e⟩)
    rw [h.fresh i (by simp)] at this; cases this
  have hun : i < ops.size ∧ listed.getD i false = false := (h.mem i).2 (.inr (by simp))
  obtain ⟨hp1, hp2⟩ := putE_spec hput
  -- the new one
  obtain ⟨a, hok, hstep, hkeep, hnew⟩ : ∃ a, PendOK C callf nt ops H0.n H' σ pend' (⟨i, o, env, v⟩, a) ∧ Step C.P σ0 H0 w0 σ H' w ∧ (∀ b, b < H.n → H'.get b = H.get b) ∧ (∀ b, a = some b → b = H.n) := by
    rcases hcase with ⟨h1, h2, h3⟩ | ⟨h1, ⟨h2, h3⟩ | ⟨ob, h2, h3, h4, h5⟩⟩
    · subst h3
      exact ⟨none, ⟨ho, hp1, .inl ⟨h1, h2, rfl⟩⟩, h.step, fun _ _ => rfl, by simp⟩
    · subst h2
      exact ⟨none, ⟨ho, hp1, .inr ⟨h1, h3⟩⟩, h.step, fun _ _ => rfl, by simp⟩
    · subst h2
      refine ⟨some H.n, ⟨ho, hp1, .inr ⟨h1, .alloc h4 h5 h3 (by rw [AHeap.get_push, if_pos rfl]) (fun g => ?_) h.step.n⟩⟩, h.step.aheadS ob, fun b hb => by rw [AHeap.get_push, if_neg (by omega)], by simp⟩
      cases hg : σ H.n g with
      | none => rfl
      | some pl => have := h.step.rel.dom hg; omega
  refine ⟨(⟨i, o, env, v⟩, a) :: P, ?_⟩
  have dstne : ∀ x ∈ P, ∀ t, x.1.o.dst = some t → o.dst ≠ some t := fun x hx t ht =>
    (tmpsFine_spec hfine (by rw [Array.getElem?_toList]; exact (h.ok x hx).op) (by rw [Array.getElem?_toList]; exact ho) (hin x hx) ht).1
  exact
    { size := h.size, closed := h.closed, step := hstep, envr := h.envr
      mem := by
        intro k
        rw [h.mem k]
        simp only [List.mem_cons]
        constructor
        · rintro (⟨x, hx, e⟩ | e | hr)
          · exact .inl ⟨x, .inr hx, e⟩
          · exact .inl ⟨_, .inl rfl, e.symm⟩
          · exact .inr hr
        · rintro (⟨x, rfl | hx, e⟩ | hr)
          · exact .inr (.inl e.symm)
          · exact .inl ⟨x, hx, e⟩
          · exact .inr (.inr hr)
      dn := by
        intro k
        rw [hasBit_or, Bool.or_eq_true, hasBit_pow, h.dn k]
        simp only [List.mem_cons]
        constructor
        · rintro ((⟨x, hx, e⟩ | hl) | e)
          · exact .inl ⟨x, .inr hx, e⟩
          · exact .inr hl
          · exact .inl ⟨_, .inl rfl, e⟩
        · rintro (⟨x, rfl | hx, e⟩ | hl)
          · exact .inr e
          · exact .inl (.inl ⟨x, hx, e⟩)
          · exact .inl (.inr hl)
      fresh := by
        intro k hk
        rw [hasBit_or, Bool.or_eq_false_iff]
        refine ⟨h.fresh k (by simp [hk]), ?_⟩
        cases hb : hasBit (2 ^ i) k with
        | false => rfl
        | true =>
          have e := (hasBit_pow i k).1 hb
          subst e
          exact absurd hk (List.nodup_cons.1 h.nd).1
      nd := (List.nodup_cons.1 h.nd).2
      bf := by
        intro x hx k hk
        rw [hasBit_or, Bool.or_eq_true]
        rcases List.mem_cons.1 hx with rfl | hx
        · exact .inl (hb k hk)
        · exact .inl (h.bf x hx k hk)
      ok := by
        intro x hx
        rcases List.mem_cons.1 hx with rfl | hx
        · exact hok
        · have hx' := h.ok x hx
          exact hx'.mono (hsub _) fun a ha => ⟨hkeep a (hx'.get ha).1, (hx'.get ha).2.2⟩
      al := by
        intro x hx y hy a' ha hb'
        rcases List.mem_cons.1 hx with rfl | hx <;> rcases List.mem_cons.1 hy with rfl | hy
        · rfl
        · have h1 := hnew a' ha
          have h2 := ((h.ok y hy).get hb').1
          omega
        · have h1 := hnew a' hb'
          have h2 := ((h.ok x hx).get ha).1
          omega
        · exact h.al x hx y hy a' ha hb'
      e1 := by
        intro t ht
        rw [hp2, if_neg (by have := ht _ (List.mem_cons_self); simpa using this)]
        exact h.e1 t fun x hx => ht x (List.mem_cons_of_mem _ hx)
      e3 := by
        intro x hx t ht
        rw [hp2]
        rcases List.mem_cons.1 hx with rfl | hx
        · rw [if_pos ht]
        · rw [if_neg (dstne x hx t ht)]; exact h.e3 x hx t ht
      e2a := by
        intro x hx t ht y hy hbit hd
        rcases List.mem_cons.1 hx with rfl | hx
        · rcases List.mem_cons.1 hy with rfl | hy
          · exfalso
            have := hb _ hbit
            rw [h.fresh i (by simp)] at this; cases this
          · exact h.e3 y hy t hd
        · rcases List.mem_cons.1 hy with rfl | hy
          · exfalso
            have := h.bf x hx _ hbit
            rw [h.fresh i (by simp)] at this; cases this
          · exact h.e2a x hx t ht y hy hbit hd
      e2b := by
        intro x hx t ht hno
        rcases List.mem_cons.1 hx with rfl | hx
        · refine (h.e1 t fun y hy hd => ?_).symm
          have := (tmpsFine_spec hfine (by rw [Array.getElem?_toList]; exact (h.ok y hy).op) (by rw [Array.getElem?_toList]; exact ho) (hin y hy) hd).2 ht
          rcases this with h1 | h1
          · have := h.bf y hy _ h1
            rw [h.fresh i (by simp)] at this; cases this
          · exact hno y (List.mem_cons_of_mem _ hy) h1 hd
        · exact h.e2b x hx t ht fun y hy => hno y (List.mem_cons_of_mem _ hy) }

theorem getD_set_iff {i : Nat} (hi : i < listed.size) (k : Nat) : (listed.setIfInBounds i true).getD k false = true ↔ k = i ∨ listed.getD k false = true := by
  by_cases e : i = k
  · subst e; simp [hi]
  · rw [getD_set_ne false e]
    constructor
    · exact .inr
    · rintro (h | h)
      · exact absurd h.symm e
      · exact h

end moves

end Go.AE
