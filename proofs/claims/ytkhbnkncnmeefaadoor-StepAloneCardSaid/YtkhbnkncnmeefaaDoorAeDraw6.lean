/-
  AE: drawn regions, sixth part: the model's next operation.
-/
import Derived.Test.YtkhbnkncnmeefaaDoorAeDraw5
namespace Go.AE

/-- One operation that is asked for, whatever it does to memory. -/
theorem op_stepQ {P : Program} {b : Frame} (hb : BOK b) {tmps : Array Value} {k : List Item} {cs : List Frame} {w : World} {ops : Array Oper} {i : Nat} {rest : List Nat} {o : Oper} {Q : Value → World → Prop} {nx : Next} {w1 : World}
    (ho : ops[i]? = some o) (hw : Region.wanted o (yielded ops tmps) = true) (hd : ∀ c, o.op ≠ .defer c)
    (hr : (execOp (fput b tmps (.inRegion ops (i :: rest) :: k)).eval o).run P w = .ok nx w1) (hfin : Fin P nx w1 Q) :
    ∃ c w', Q c w' ∧ Steps P (lone (fput b tmps (.inRegion ops (i :: rest) :: k)) cs w) (lone (fput b (dstSet o.dst c tmps) (.inRegion ops rest :: k)) cs w') := by
  obtain ⟨fr', cs', c, w', hn, hq, hs⟩ := hfin (fput b tmps (.inRegion ops (i :: rest) :: k)) cs
  refine ⟨c, w', hq, .head (step_lone_go ?_) (m₁ := lone fr' cs' w1) ?_⟩
  · rw [stG_op hb ho hw hd]
    exact apply_go (.op _ _ _) hr hn
  · rw [fput_finish, ho] at hs
    exact hs

section moves
variable {C : Cfg} {callf : Fn → List Value → AHeap → Option (Value × AHeap)} {nt : Nat} {ops : Array Oper} {σ0 : Pl} {H0 : AHeap} {w0 : World} {listed : Array Bool} {done : Nat}
  {P : List (Pend × Option Nat)} {pend : List Pend} {rest : List Nat} {env envC : Env} {H : AHeap} {σ : Pl} {w : World} {tmps : Array Value}

/-- One of those that wait: its turn has come. -/
theorem Inv.execP (hcall : CallOK C callf) (hdeq : ∀ a b, C.deq a b = true → a = b) (hg0 : GlobR C σ0) (hr0 : Rel C.P σ0 H0 w0)
    (h : Inv C callf nt ops (beforeL ops.toList []) σ0 H0 w0 listed done P pend rest env envC H σ w tmps) (hfine : tmpsFine (beforeL ops.toList []) ops.toList = true) {i : Nat} (hi : i ∈ Region.ready .any ops listed)
    (hP : ∃ x ∈ P, x.1.i = i) (hst : stillR C H pend = true) {b : Frame} (hb : BOK b) (l : List Nat) (k : List Item) (cs : List Frame) :
    ∃ P' envC' σ' w' tmps', Inv C callf nt ops (beforeL ops.toList []) σ0 H0 w0 (listed.setIfInBounds i true) done P' pend rest env envC' H σ' w' tmps' ∧
      Steps C.P (lone (fput b tmps (.inRegion ops (i :: l) :: k)) cs w) (lone (fput b tmps' (.inRegion ops l :: k)) cs w') := by
  obtain ⟨⟨hlt, hun⟩, hwait, hbef⟩ := h.ready hi
  obtain ⟨x, hx, hxi⟩ := hP
  subst hxi
  have hok := h.ok x hx
  -- the operands are what they were
  have hsame : ∀ t ∈ tmpsOf ops.toList x.1.o, getE x.1.env t = getE envC t := fun t ht => h.e2b x hx t ht fun y hy hbit => by
    have h1 := hbef _ hbit
    rw [h.unlisted hy] at h1; cases h1
  have hgC : GlobR C σ := hg0.ext h.step.ext
  obtain ⟨envC', hput⟩ := putE_ok x.1.v envC hok.dst
  obtain ⟨_, hput2⟩ := putE_spec hput
  -- the run
  have hrun : ∃ σ' w' c, Step C.P σ0 H0 w0 σ' H w' ∧ Ext σ σ' ∧ VR σ' x.1.v c ∧ (∀ y ∈ P, y.1.i ≠ x.1.i → ∀ a, y.2 = some a → ∀ g, σ' a g = none) ∧
      Steps C.P (lone (fput b tmps (.inRegion ops (x.1.i :: l) :: k)) cs w) (lone (fput b (dstSet x.1.o.dst c tmps) (.inRegion ops l :: k)) cs w') := by
    have plain : oper C callf (eval C envC) x.1.o H = some (x.1.v, H) → Region.wanted x.1.o (yielded ops tmps) = true → ∃ σ' w' c, Step C.P σ0 H0 w0 σ' H w' ∧ Ext σ σ' ∧ VR σ' x.1.v c ∧ (∀ y ∈ P, y.1.i ≠ x.1.i → ∀ a, y.2 = some a → ∀ g, σ' a g = none) ∧
      Steps C.P (lone (fput b tmps (.inRegion ops (x.1.i :: l) :: k)) cs w) (lone (fput b (dstSet x.1.o.dst c tmps) (.inRegion ops l :: k)) cs w') := by
      intro hop hw
      have hgo := oper_sim hcall hgC h.step.rel (eval_sim hgC h.envr b (.inRegion ops (x.1.i :: l) :: k)) hop
      obtain ⟨c, w1, σ1, h1, h2, h3⟩ := op_step hb (cs := cs) hok.op hw (oper_defer hop) hgo
      refine ⟨σ1, w1, c, h.step.trans h1 hr0, h1.ext, h2, fun y hy _ a ha => ?_, h3⟩
      obtain ⟨g1, g2, g3⟩ := (h.ok y hy).get ha
      exact (h1.hid g1 g3).1
    rcases hok.val with ⟨hwa, hv, _⟩ | ⟨hwa, hk⟩
    · rw [wantedA_congr hsame] at hwa
      have hw := wanted_sim h.envr hwa
      refine ⟨σ, w, undef, h.step, Ext.refl σ, by rw [hv]; exact .same _ rfl, fun y hy _ a ha => ((h.ok y hy).get ha).2.2, .head (st_op_skip hb (by rw [hok.op]; simpa using hw)) ?_⟩
      rw [hok.op]; exact Steps.refl _ _
    · rw [wantedA_congr hsame] at hwa
      have hw := wanted_sim h.envr hwa
      have hcongr : ∀ H2, oper C callf (eval C x.1.env) x.1.o H2 = oper C callf (eval C envC) x.1.o H2 := fun H2 => oper_congr (eval_congr hsame) H2
      generalize hq : x.2 = q at hk
      cases hk with
      | pure hp => exact plain (by rw [← hcongr]; exact hp H) hw
      | read hkd hmem =>
        obtain ⟨v, hv1, hv2⟩ := stillR_mem hst _ hmem
        have hvv := hdeq _ _ hv2
        subst hvv
        have := kind_read' (callf := callf) hkd hv1
        exact plain (by rw [← hcongr]; exact this) hw
      | alloc a1 a2 a3 a4 a5 a6 =>
        rename_i Ha ob
        rw [hcongr] at a2
        obtain ⟨ob', w', c, q1, q2, q3, q4⟩ := kind_alloc (σ := σ) (w := w) (ρc := (fput b tmps (.inRegion ops (x.1.i :: l) :: k)).eval) a1 a2 (a5 0) (eval_sim hgC h.envr b _)
        have e := push_inj q1
        subst e
        obtain ⟨pl, s1, s2⟩ := h.step.comeS a4 a5 a3 a6 q4
        obtain ⟨c', w'', ⟨rfl, rfl⟩, hst'⟩ := op_stepQ (Q := fun c' w'' => c' = c ∧ w'' = w') hb (cs := cs) hok.op hw (oper_defer a2) q3 (fun fr cs => ⟨_, _, c, w', rfl, ⟨rfl, rfl⟩, Steps.refl _ _⟩)
        refine ⟨_, w'', c', s1, upd_ext (a5 0), s2, fun y hy hne a ha g => ?_, hst'⟩
        have hna : a ≠ Ha.n := fun e => hne (h.al y hy x hx a ha (by rw [hq, e]))
        unfold upd
        rw [if_neg (by rintro ⟨e, _⟩; exact hna e)]
        exact ((h.ok y hy).get ha).2.2 g
  obtain ⟨σ', w', c, r1, r2, r3, r4, r5⟩ := hrun
  have hmemP : ∀ y, y ∈ P.filter (fun y => !(y.1.i == x.1.i)) ↔ y ∈ P ∧ y.1.i ≠ x.1.i := fun y => by simp [List.mem_filter]
  have hlt' : x.1.i < listed.size := by rw [h.size]; exact hlt
  have ho_eq : ∀ y ∈ P, y.1.i = x.1.i → y.1.o = x.1.o := fun y hy e => by
    have h1 := (h.ok y hy).op
    rw [e, hok.op] at h1
    exact (Option.some.inj h1).symm
  have hxdone : hasBit done x.1.i = true := (h.dn _).2 (.inl ⟨x, hx, rfl⟩)
  refine ⟨P.filter (fun y => !(y.1.i == x.1.i)), envC', σ', w', _, ?_, r5⟩
  exact
    { size := by simp [h.size]
      closed := by
        intro m k hm hw
        rcases (getD_set_iff hlt' m).1 hm with rfl | hm
        · exact (getD_set_iff hlt' k).2 (.inr (hwait k hw))
        · exact (getD_set_iff hlt' k).2 (.inr (h.closed m k hm hw))
      step := r1
      envr := (h.envr.ext r2).put r3 hput
      mem := by
        intro m
        constructor
        · rintro ⟨hm, hl⟩
          have hne : m ≠ x.1.i := fun e => by
            have := (getD_set_iff hlt' m).2 (.inl e)
            rw [hl] at this; cases this
          have hlm : listed.getD m false = false := by
            cases hv : listed.getD m false with
            | false => rfl
            | true => have := (getD_set_iff hlt' m).2 (.inr hv); rw [hl] at this; cases this
          rcases (h.mem m).1 ⟨hm, hlm⟩ with ⟨y, hy, e⟩ | hr
          · exact .inl ⟨y, (hmemP y).2 ⟨hy, e ▸ hne⟩, e⟩
          · exact .inr hr
        · intro hm
          have hm' : (m < ops.size ∧ listed.getD m false = false) ∧ m ≠ x.1.i := by
            rcases hm with ⟨y, hy, e⟩ | hr
            · obtain ⟨hy, hne⟩ := (hmemP y).1 hy
              exact ⟨(h.mem m).2 (.inl ⟨y, hy, e⟩), e ▸ hne⟩
            · refine ⟨(h.mem m).2 (.inr hr), fun e => ?_⟩
              have := h.fresh m hr
              rw [e, hxdone] at this; cases this
          refine ⟨hm'.1.1, ?_⟩
          cases hv : (listed.setIfInBounds x.1.i true).getD m false with
          | false => rfl
          | true =>
            rcases (getD_set_iff hlt' m).1 hv with e | e
            · exact absurd e hm'.2
            · rw [hm'.1.2] at e; cases e
      dn := by
        intro m
        rw [h.dn m, getD_set_iff hlt']
        constructor
        · rintro (⟨y, hy, e⟩ | hl)
          · by_cases hne : y.1.i = x.1.i
            · exact .inr (.inl (e ▸ hne))
            · exact .inl ⟨y, (hmemP y).2 ⟨hy, hne⟩, e⟩
          · exact .inr (.inr hl)
        · rintro (⟨y, hy, e⟩ | e | hl)
          · exact .inl ⟨y, ((hmemP y).1 hy).1, e⟩
          · exact .inl ⟨x, hx, e.symm⟩
          · exact .inr hl
      fresh := h.fresh
      nd := h.nd
      bf := fun y hy => h.bf y ((hmemP y).1 hy).1
      ok := by
        intro y hy
        obtain ⟨hy, hne⟩ := (hmemP y).1 hy
        exact (h.ok y hy).mono id fun a ha => ⟨rfl, r4 y hy hne a ha⟩
      al := fun y hy z hz => h.al y ((hmemP y).1 hy).1 z ((hmemP z).1 hz).1
      e1 := by
        intro t ht
        rw [hput2]
        by_cases hd : x.1.o.dst = some t
        · rw [if_pos hd]; exact (h.e3 x hx t hd).symm
        · rw [if_neg hd]
          refine h.e1 t fun y hy => ?_
          by_cases hne : y.1.i = x.1.i
          · rw [ho_eq y hy hne]; exact hd
          · exact ht y ((hmemP y).2 ⟨hy, hne⟩)
      e3 := fun y hy => h.e3 y ((hmemP y).1 hy).1
      e2a := fun y hy t ht z hz => h.e2a y ((hmemP y).1 hy).1 t ht z ((hmemP z).1 hz).1
      e2b := by
        intro y hy t ht hno
        obtain ⟨hy, hne⟩ := (hmemP y).1 hy
        rw [hput2]
        by_cases hd : x.1.o.dst = some t
        · rw [if_pos hd]
          have := (tmpsFine_spec hfine (by rw [Array.getElem?_toList]; exact hok.op) (by rw [Array.getElem?_toList]; exact (h.ok y hy).op) (fun e => hne e.symm) hd).2 ht
          rcases this with h1 | h1
          · have h2 := hbef _ h1
            rw [h.unlisted hy] at h2; cases h2
          · exact h.e2a y hy t ht x hx h1 hd
        · rw [if_neg hd]
          refine h.e2b y hy t ht fun z hz hbit => ?_
          by_cases hnz : z.1.i = x.1.i
          · rw [ho_eq z hz hnz]; exact hd
          · exact hno z ((hmemP z).2 ⟨hz, hnz⟩) hbit }

/-- The canonical order's next one, that turns memory. -/
theorem Inv.execE (hcall : CallOK C callf) (hg0 : GlobR C σ0) (hr0 : Rel C.P σ0 H0 w0) {i : Nat} {r : List Nat}
    (h : Inv C callf nt ops (beforeL ops.toList []) σ0 H0 w0 listed done P pend (i :: r) env envC H σ w tmps) (hfine : tmpsFine (beforeL ops.toList []) ops.toList = true) (hi : i ∈ Region.ready .any ops listed)
    {o : Oper} (ho : ops[i]? = some o) {v : Value} {H' : AHeap} {env' : Env} (hput : putE nt o.dst v env = some env')
    (hcase : (wantedA ops env o = some false ∧ v = undef ∧ H' = H) ∨ (wantedA ops env o = some true ∧ oper C callf (eval C env) o H = some (v, H'))) {b : Frame} (hb : BOK b) (l : List Nat) (k : List Item) (cs : List Frame) :
    ∃ envC' σ' w' tmps', Inv C callf nt ops (beforeL ops.toList []) σ0 H0 w0 (listed.setIfInBounds i true) (done ||| 2 ^ i) P (keepP (beforeL ops.toList []) i pend) r env' envC' H' σ' w' tmps' ∧
      Steps C.P (lone (fput b tmps (.inRegion ops (i :: l) :: k)) cs w) (lone (fput b tmps' (.inRegion ops l :: k)) cs w') := by
  obtain ⟨⟨hlt, hun⟩, hwait, hbef⟩ := h.ready hi
  have hnd : hasBit done i = false := h.fresh i (by simp)
  have hin : ∀ x ∈ P, x.1.i ≠ i := fun x hx e => by
    have := (h.dn i).2 (.inl ⟨x, hx, e⟩)
    rw [hnd] at this; cases this
  have hinb : ∀ x ∈ P, hasBit ((beforeL ops.toList []).getD x.1.i 0) i = false := fun x hx => by
    cases hv : hasBit ((beforeL ops.toList []).getD x.1.i 0) i with
    | false => rfl
    | true => have := h.bf x hx i hv; rw [hnd] at this; cases this
  have hinb' : ∀ x ∈ P, hasBit ((beforeL ops.toList []).getD i 0) x.1.i = false := fun x hx => by
    cases hv : hasBit ((beforeL ops.toList []).getD i 0) x.1.i with
    | false => rfl
    | true => have := hbef _ hv; rw [h.unlisted hx] at this; cases this
  have hsame : ∀ t ∈ tmpsOf ops.toList o, getE env t = getE envC t := fun t ht => (h.e1 t fun x hx hd => by
    rcases (tmpsFine_spec hfine (by rw [Array.getElem?_toList]; exact (h.ok x hx).op) (by rw [Array.getElem?_toList]; exact ho) (hin x hx) hd).2 ht with h1 | h1
    · rw [hinb x hx] at h1; cases h1
    · rw [hinb' x hx] at h1; cases h1).symm
  have hgC : GlobR C σ := hg0.ext h.step.ext
  obtain ⟨hp1, hp2⟩ := putE_spec hput
  obtain ⟨envC', hputC⟩ := putE_ok v envC hp1
  obtain ⟨_, hp3⟩ := putE_spec hputC
  have hrun : ∃ σ' w' c, Step C.P σ H w σ' H' w' ∧ VR σ' v c ∧ Steps C.P (lone (fput b tmps (.inRegion ops (i :: l) :: k)) cs w) (lone (fput b (dstSet o.dst c tmps) (.inRegion ops l :: k)) cs w') := by
    rcases hcase with ⟨hwa, hv, rfl⟩ | ⟨hwa, hop⟩
    · rw [wantedA_congr hsame] at hwa
      have hw := wanted_sim h.envr hwa
      refine ⟨σ, w, undef, Step.refl h.step.rel, by rw [hv]; exact .same _ rfl, .head (st_op_skip hb (by rw [ho]; simpa using hw)) ?_⟩
      rw [ho]; exact Steps.refl _ _
    · rw [wantedA_congr hsame] at hwa
      have hw := wanted_sim h.envr hwa
      rw [oper_congr (eval_congr hsame)] at hop
      have hgo := oper_sim hcall hgC h.step.rel (eval_sim hgC h.envr b (.inRegion ops (i :: l) :: k)) hop
      obtain ⟨c, w1, σ1, h1, h2, h3⟩ := op_step hb (cs := cs) ho hw (oper_defer hop) hgo
      exact ⟨σ1, w1, c, h1, h2, h3⟩
  obtain ⟨σ', w', c, r1, r2, r3⟩ := hrun
  have hlt' : i < listed.size := by rw [h.size]; exact hlt
  have dstne : ∀ x ∈ P, ∀ t, x.1.o.dst = some t → o.dst ≠ some t := fun x hx t ht =>
    (tmpsFine_spec hfine (by rw [Array.getElem?_toList]; exact (h.ok x hx).op) (by rw [Array.getElem?_toList]; exact ho) (hin x hx) ht).1
  refine ⟨envC', σ', w', _, ?_, r3⟩
  exact
    { size := by simp [h.size]
      closed := by
        intro m k hm hw
        rcases (getD_set_iff hlt' m).1 hm with rfl | hm
        · exact (getD_set_iff hlt' k).2 (.inr (hwait k hw))
        · exact (getD_set_iff hlt' k).2 (.inr (h.closed m k hm hw))
      step := h.step.trans r1 hr0
      envr := (h.envr.ext r1.ext).put r2 hputC
      mem := by
        intro m
        constructor
        · rintro ⟨hm, hl⟩
          have hne : m ≠ i := fun e => by
            have := (getD_set_iff hlt' m).2 (.inl e)
            rw [hl] at this; cases this
          have hlm : listed.getD m false = false := by
            cases hv : listed.getD m false with
            | false => rfl
            | true => have := (getD_set_iff hlt' m).2 (.inr hv); rw [hl] at this; cases this
          rcases (h.mem m).1 ⟨hm, hlm⟩ with hy | hr
          · exact .inl hy
          · rcases List.mem_cons.1 hr with e | hr
            · exact absurd e hne
            · exact .inr hr
        · intro hm
          have hm' : (m < ops.size ∧ listed.getD m false = false) ∧ m ≠ i := by
            rcases hm with ⟨y, hy, e⟩ | hr
            · exact ⟨(h.mem m).2 (.inl ⟨y, hy, e⟩), e ▸ hin y hy⟩
            · exact ⟨(h.mem m).2 (.inr (List.mem_cons_of_mem _ hr)), fun e => (List.nodup_cons.1 h.nd).1 (e ▸ hr)⟩
          refine ⟨hm'.1.1, ?_⟩
          cases hv : (listed.setIfInBounds i true).getD m false with
          | false => rfl
          | true =>
            rcases (getD_set_iff hlt' m).1 hv with e | e
            · exact absurd e hm'.2
            · rw [hm'.1.2] at e; cases e
      dn := by
        intro m
        rw [hasBit_or, Bool.or_eq_true, hasBit_pow, h.dn m, getD_set_iff hlt']
        constructor
        · rintro ((hy | hl) | e)
          · exact .inl hy
          · exact .inr (.inr hl)
          · exact .inr (.inl e.symm)
        · rintro (hy | e | hl)
          · exact .inl (.inl hy)
          · exact .inr e.symm
          · exact .inl (.inr hl)
      fresh := by
        intro m hm
        rw [hasBit_or, Bool.or_eq_false_iff]
        refine ⟨h.fresh m (List.mem_cons_of_mem _ hm), ?_⟩
        cases hb : hasBit (2 ^ i) m with
        | false => rfl
        | true =>
          have e := (hasBit_pow i m).1 hb
          subst e
          exact absurd hm (List.nodup_cons.1 h.nd).1
      nd := (List.nodup_cons.1 h.nd).2
      bf := by
        intro x hx k hk
        rw [hasBit_or, Bool.or_eq_true]
        exact .inl (h.bf x hx k hk)
      ok := by
        intro x hx
        have hok := h.ok x hx
        refine hok.mono (fun hm => ?_) fun a ha => ?_
        · unfold keepP
          rw [List.mem_filter]
          exact ⟨hm, by rw [hinb' x hx]; rfl⟩
        · obtain ⟨g1, _, g3⟩ := hok.get ha
          exact ⟨(r1.hid g1 g3).2, (r1.hid g1 g3).1⟩
      al := h.al
      e1 := by
        intro t ht
        rw [hp2, hp3, h.e1 t ht]
      e3 := by
        intro x hx t ht
        rw [hp2, if_neg (dstne x hx t ht)]
        exact h.e3 x hx t ht
      e2a := h.e2a
      e2b := by
        intro x hx t ht hno
        rw [hp3]
        by_cases hd : o.dst = some t
        · exfalso
          rcases (tmpsFine_spec hfine (by rw [Array.getElem?_toList]; exact ho) (by rw [Array.getElem?_toList]; exact (h.ok x hx).op) (fun e => hin x hx e.symm) hd).2 ht with h1 | h1
          · rw [hinb' x hx] at h1; cases h1
          · rw [hinb x hx] at h1; cases h1
        · rw [if_neg hd]; exact h.e2b x hx t ht hno }

end moves

end Go.AE
