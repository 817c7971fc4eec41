/-
  AE: the steps of a frame; a region without a draw.
-/
import Derived.Test.YtkhbnkncnmeefaaDoorAeCall
namespace Go.AE

theorem eval_sim {C : Cfg} {σ : Pl} {nt : Nat} {env : Env} {tmps : Array Value} (hg : GlobR C σ) (he : EnvR σ nt env tmps) (b : Frame) (todo : List Item) : ∀ x, VR σ (eval C env x) ((fput b tmps todo).eval x) := by
  intro x
  cases x with
  | tmp t => exact he.2 t
  | const v =>
    simp only [eval]
    split
    · rename_i hf; exact .same _ hf
    · exact .junk _
  | global g =>
    simp only [eval]
    split
    · rename_i i hi
      obtain ⟨pl, h1, h2, h3, h4⟩ := hg hi
      have : (fput b tmps todo).eval (.global g) = .pointer (some ⟨pl.b, 0, none⟩) := by rw [h2]; rfl
      rw [this]
      exact .ptr h1 (by omega) (by simp [h3])
    · exact .junk _
  | func f => exact .same _ rfl

theorem getE_cons (d : Tmp) (v : Value) (env : Env) (t : Tmp) : getE ((d, v) :: env) t = if d = t then v else getE env t := by
  unfold getE
  show cond (Nat.beq d t) v _ = _
  by_cases e : d = t
  · subst e; simp
  · have : Nat.beq d t = false := by
      cases h : Nat.beq d t with
      | false => rfl
      | true => exact absurd (Nat.eq_of_beq_eq_true h) e
    rw [this, if_neg e]; rfl

def dstSet (dst : Option Tmp) (v : Value) (tmps : Array Value) : Array Value := match dst with
  | some d => tmps.setIfInBounds d v
  | none => tmps

theorem EnvR.put {σ : Pl} {nt : Nat} {env env' : Env} {tmps : Array Value} {dst : Option Tmp} {v c : Value} (he : EnvR σ nt env tmps) (hv : VR σ v c) (hp : putE nt dst v env = some env') :
    EnvR σ nt env' (dstSet dst c tmps) := by
  cases dst with
  | none => simp only [putE, Option.some.injEq] at hp; subst hp; exact he
  | some d =>
    simp only [putE] at hp
    split at hp
    · rename_i hlt
      have hlt : d < nt := by simpa [Nat.blt, Nat.lt_iff_add_one_le] using hlt
      simp only [Option.some.injEq] at hp
      subst hp
      refine ⟨by simp [dstSet, he.1], fun t => ?_⟩
      rw [getE_cons]
      simp only [dstSet]
      by_cases e : d = t
      · subst e
        rw [if_pos rfl]
        have : (tmps.setIfInBounds d c).getD d undef = c := by
          rw [Array.getD_eq_getD_getElem?, Array.getElem?_setIfInBounds_self_of_lt (by rw [he.1]; exact hlt)]; rfl
        rw [this]; exact hv
      · rw [if_neg e]
        have : (tmps.setIfInBounds d c).getD t undef = tmps.getD t undef := by
          rw [Array.getD_eq_getD_getElem?, Array.getD_eq_getD_getElem?, Array.getElem?_setIfInBounds_ne e]
        rw [this]; exact he.2 t
    · simp at hp

/-- A frame that may run here. -/
structure BOK (b : Frame) : Prop where
  mode : b.mode = .run
  kind : b.kind = .normal

section steps
variable {P : Program} {b : Frame} {tmps : Array Value} {k : List Item} {cs : List Frame} {w : World}

theorem st_skip (hb : BOK b) : step P (lone (fput b tmps (.code .skip :: k)) cs w) = .next (lone (fput b tmps k) cs w) :=
  step_lone_go (by simp [stepG, stepG.exec, fput, hb.mode])
theorem st_label (hb : BOK b) {l : Nat} : step P (lone (fput b tmps (.code (.label l) :: k)) cs w) = .next (lone (fput b tmps k) cs w) :=
  step_lone_go (by simp [stepG, stepG.exec, fput, hb.mode])
theorem st_inBlock (hb : BOK b) {id : Nat} : step P (lone (fput b tmps (.inBlock id :: k)) cs w) = .next (lone (fput b tmps k) cs w) :=
  step_lone_go (by simp [stepG, stepG.exec, fput, hb.mode])
theorem st_inScope (hb : BOK b) {c : Code} : step P (lone (fput b tmps (.inScope c :: k)) cs w) = .next (lone (fput b tmps k) cs w) :=
  step_lone_go (by simp [stepG, stepG.exec, fput, hb.mode])
theorem st_seq (hb : BOK b) {x y : Code} : step P (lone (fput b tmps (.code (.seq x y) :: k)) cs w) = .next (lone (fput b tmps (.code x :: .code y :: k)) cs w) :=
  step_lone_go (by simp [stepG, stepG.exec, fput, hb.mode])
theorem st_cond (hb : BOK b) {c : Operand} {x y : Code} {t : Bool} (h : (fput b tmps []).eval c = .bool t) :
    step P (lone (fput b tmps (.code (.cond c x y) :: k)) cs w) = .next (lone (fput b tmps (.code (if t then x else y) :: k)) cs w) :=
  step_lone_go (by
    have h' : (fput b tmps (.code (.cond c x y) :: k)).eval c = .bool t := by rw [fput_eval] at h ⊢; exact h
    simp only [fput] at h'
    simp [stepG, stepG.exec, fput, hb.mode, hb.mode ▸ h'])
theorem st_block (hb : BOK b) {id : Nat} {c : Code} : step P (lone (fput b tmps (.code (.block id c) :: k)) cs w) = .next (lone (fput b tmps (.code c :: .inBlock id :: k)) cs w) :=
  step_lone_go (by simp [stepG, stepG.exec, fput, hb.mode])
theorem st_loop (hb : BOK b) {c : Code} : step P (lone (fput b tmps (.code (.loop c) :: k)) cs w) = .next (lone (fput b tmps (.code c :: .inLoop c :: k)) cs w) :=
  step_lone_go (by simp [stepG, stepG.exec, fput, hb.mode])
theorem st_inLoop (hb : BOK b) {c : Code} : step P (lone (fput b tmps (.inLoop c :: k)) cs w) = .next (lone (fput b tmps (.code c :: .inLoop c :: k)) cs w) :=
  step_lone_go (by simp [stepG, stepG.exec, fput, hb.mode])
theorem st_scope (hb : BOK b) {c : Code} : step P (lone (fput b tmps (.code (.scope c) :: k)) cs w) = .next (lone (fput b tmps (.code c :: .inScope c :: k)) cs w) :=
  step_lone_go (by simp [stepG, stepG.exec, fput, hb.mode])
theorem st_exit (hb : BOK b) {id : Nat} {k' : List Item} (h : exitTo id k = some k') : step P (lone (fput b tmps (.code (.exit id) :: k)) cs w) = .next (lone (fput b tmps k') cs w) :=
  step_lone_go (by simp [stepG, stepG.exec, fput, hb.mode, h])
theorem st_region (hb : BOK b) {id : Nat} {ops : Array Oper} : step P (lone (fput b tmps (.code (.region id ops false) :: k)) cs w) = .next (lone (fput b tmps (.inRegion ops (List.range ops.size) :: k)) cs w) :=
  step_lone_go (by simp [stepG, stepG.exec, fput, hb.mode])
theorem st_region_draw (hb : BOK b) {id : Nat} {ops : Array Oper} : step P (lone (fput b tmps (.code (.region id ops true) :: k)) cs w) =
      .next (lone (fput b tmps (.inRegion ops (Region.schedule (P.follows .mixedOrders) ops (w.tape w.drawn (.order b.fn id))) :: k)) cs { w with drawn := w.drawn + 1 }) :=
  step_lone_go (by simp [stepG, stepG.exec, fput, hb.mode, choose, Sem.run, Question.forced, Question.cut])
theorem st_region_end (hb : BOK b) {ops : Array Oper} : step P (lone (fput b tmps (.inRegion ops [] :: k)) cs w) = .next (lone (fput b tmps k) cs w) :=
  step_lone_go (by simp [stepG, stepG.exec, fput, hb.mode])

theorem fput_finish {ops : Array Oper} {i : Nat} {rest : List Nat} {v : Value} : (fput b tmps (.inRegion ops (i :: rest) :: k)).finish v = fput b (dstSet ((ops[i]?).bind (·.dst)) v tmps) (.inRegion ops rest :: k) := by
  cases h : (ops[i]?).bind (·.dst) <;> simp [Frame.finish, fput, dstSet, h]

theorem st_op_skip (hb : BOK b) {ops : Array Oper} {i : Nat} {rest : List Nat} (h : ((ops[i]?).map (Region.wanted · (yielded ops tmps))).getD false = false) :
    step P (lone (fput b tmps (.inRegion ops (i :: rest) :: k)) cs w) = .next (lone (fput b (dstSet ((ops[i]?).bind (·.dst)) undef tmps) (.inRegion ops rest :: k)) cs w) := by
  rw [← fput_finish]
  exact step_lone_go (by simp [stepG, stepG.exec, fput, hb.mode, h])

theorem stG_op (hb : BOK b) {ops : Array Oper} {i : Nat} {rest : List Nat} {o : Oper} (ho : ops[i]? = some o) (hw : Region.wanted o (yielded ops tmps) = true) (hd : ∀ c, o.op ≠ .defer c) :
    stepG P true { frame := fput b tmps (.inRegion ops (i :: rest) :: k), callers := cs, status := .running, dying := none } w =
      stepG.apply P true (fput b tmps (.inRegion ops (i :: rest) :: k)) cs none (execOp (fput b tmps (.inRegion ops (i :: rest) :: k)).eval o) w := by
  have hm : (fput b tmps (.inRegion ops (i :: rest) :: k)).mode = .run := hb.mode
  obtain ⟨fn, tmps', todo, defers, mode, kind, roundOf⟩ := b
  simp only [fput] at hm ⊢
  subst hm
  have hop : ∀ (fr : Frame), fr.oper? = some o → stepG.oper P true fr cs none w = stepG.apply P true fr cs none (execOp fr.eval o) w := by
    intro fr hfr
    unfold stepG.oper
    rw [hfr]
    simp only
    split
    · rename_i hx; exact absurd hx (hd _)
    · rfl
  simp only [stepG, stepG.exec]
  rw [ho]
  simp only [Option.map_some, Option.getD_some, hw, if_true]
  exact hop _ ho

end steps

/-- One operation that is asked for. -/
theorem op_step {P : Program} {b : Frame} (hb : BOK b) {tmps : Array Value} {k : List Item} {cs : List Frame} {σ : Pl} {H H' : AHeap} {w : World} {ops : Array Oper} {i : Nat} {rest : List Nat} {o : Oper} {v : Value}
    (ho : ops[i]? = some o) (hw : Region.wanted o (yielded ops tmps) = true) (hd : ∀ c, o.op ≠ .defer c)
    (hgo : OpGoes P σ H w ((execOp (fput b tmps (.inRegion ops (i :: rest) :: k)).eval o).run P w) v H') :
    ∃ c w' σ', Step P σ H w σ' H' w' ∧ VR σ' v c ∧ Steps P (lone (fput b tmps (.inRegion ops (i :: rest) :: k)) cs w) (lone (fput b (dstSet o.dst c tmps) (.inRegion ops rest :: k)) cs w') := by
  obtain ⟨nx, w1, hr, hfin⟩ := hgo
  obtain ⟨fr', cs', c, w', hn, ⟨σ', h1, h2⟩, hs⟩ := hfin (fput b tmps (.inRegion ops (i :: rest) :: k)) cs
  refine ⟨c, w', σ', h1, h2, .head (step_lone_go ?_) (m₁ := lone fr' cs' w1) ?_⟩
  · rw [stG_op hb ho hw hd]
    exact apply_go (.op _ _ _) hr hn
  · rw [fput_finish, ho] at hs
    exact hs

theorem oper_defer {C : Cfg} {callf : Fn → List Value → AHeap → Option (Value × AHeap)} {ρ : Operand → Value} {o : Oper} {H : AHeap} {r : Value × AHeap} (h : oper C callf ρ o H = some r) : ∀ c, o.op ≠ .defer c := by
  intro c e
  unfold oper opA at h
  rw [e] at h
  simp at h

theorem wanted_sim {σ : Pl} {nt : Nat} {env : Env} {tmps : Array Value} (he : EnvR σ nt env tmps) {ops : Array Oper} {o : Oper} {r : Bool} (h : wantedA ops env o = some r) : Region.wanted o (yielded ops tmps) = r := by
  unfold wantedA at h
  unfold Region.wanted
  cases hg : o.guard with
  | none => simp [hg] at h; simp [h]
  | some p =>
    obtain ⟨j, want⟩ := p
    simp only [hg] at h ⊢
    rw [Array.getElem?_toList] at h
    unfold yielded
    cases hd : (ops[j]?).bind (·.dst) with
    | none => simp [hd] at h
    | some d =>
      simp only [hd, Option.bind_some] at h ⊢
      have hv := he.2 d
      rw [Array.getD_eq_getD_getElem?] at hv
      split at h
      · rename_i q hq
        rw [hq] at hv
        have := hv.bool_inv
        cases ht : tmps[d]? with
        | none => rw [ht] at this; simp [undef] at this
        | some x =>
          rw [ht] at this; simp at this; subst this
          simp only [Option.some.injEq] at h
          rw [← h]
          simp
      · rename_i vs hq
        split at h
        · rename_i hvs
          rw [hq] at hv
          obtain ⟨cb, hc, hcs⟩ := hv.tuple_inv
          simp only [Option.some.injEq] at h
          subst h
          cases ht : tmps[d]? with
          | none => simp
          | some x =>
            rw [ht] at hc; simp at hc; subst hc
            simp
        · simp at h
      · simp at h

/-- Each index stands for its operation. -/
inductive AtOps (ops : Array Oper) : List Nat → List Oper → Prop
  | nil : AtOps ops [] []
  | cons {i : Nat} {o : Oper} {l : List Nat} {r : List Oper} : ops[i]? = some o → AtOps ops l r → AtOps ops (i :: l) (o :: r)

theorem AtOps.range (ops : Array Oper) : AtOps ops (List.range ops.size) ops.toList := by
  have : ∀ (n i : Nat), i + n = ops.size → AtOps ops (List.range' i n) (ops.toList.drop i) := by
    intro n
    induction n with
    | zero =>
      intro i hi
      have : ops.toList.drop i = [] := List.drop_eq_nil_of_le (by simp; omega)
      rw [this]; exact .nil
    | succ n ih =>
      intro i hi
      have hlt : i < ops.toList.length := by simp; omega
      rw [List.range'_succ, List.drop_eq_getElem_cons hlt]
      refine .cons ?_ (ih (i + 1) (by omega))
      rw [← Array.getElem?_toList, List.getElem?_eq_getElem hlt]
  have h := this ops.size 0 (by omega)
  rw [← List.range_eq_range'] at h
  simpa using h

theorem seq_sim {C : Cfg} {callf : Fn → List Value → AHeap → Option (Value × AHeap)} (hcall : CallOK C callf) {nt : Nat} {ops : Array Oper} :
    ∀ {r : List Oper} {l : List Nat}, AtOps ops l r → ∀ {env env' : Env} {H H' : AHeap}, runSeq C callf nt ops r env H = some (env', H') →
    ∀ {σ : Pl} {w : World} {tmps : Array Value}, GlobR C σ → Rel C.P σ H w → EnvR σ nt env tmps → ∀ {b : Frame}, BOK b → ∀ (k : List Item) (cs : List Frame),
      ∃ tmps' w' σ', Step C.P σ H w σ' H' w' ∧ EnvR σ' nt env' tmps' ∧ Steps C.P (lone (fput b tmps (.inRegion ops l :: k)) cs w) (lone (fput b tmps' (.inRegion ops [] :: k)) cs w')
  | _, _, .nil, env, env', H, H', h, σ, w, tmps, hg, hr, he, b, hb, k, cs => by
    simp only [runSeq, Option.some.injEq, Prod.mk.injEq] at h
    obtain ⟨rfl, rfl⟩ := h
    exact ⟨tmps, w, σ, Step.refl hr, he, Steps.refl _ _⟩
  | _, _, .cons ho hrest, env, env', H, H', h, σ, w, tmps, hg, hr, he, b, hb, k, cs => by
    rename_i i o l r
    simp only [runSeq] at h
    split at h
    · rename_i hw
      have hw := wanted_sim he hw
      split at h
      · rename_i v H1 hop
        split at h
        · rename_i env1 hput
          have hgo := oper_sim hcall hg hr (eval_sim hg he b (.inRegion ops (i :: l) :: k)) hop
          obtain ⟨c, w1, σ1, h1, h2, h3⟩ := op_step hb (cs := cs) ho hw (oper_defer hop) hgo
          have he1 := (he.ext h1.ext).put h2 hput
          obtain ⟨tmps', w', σ', q1, q2, q3⟩ := seq_sim hcall hrest h (hg.ext h1.ext) h1.rel he1 hb k cs
          exact ⟨tmps', w', σ', h1.trans q1 hr, q2, h3.trans q3⟩
        · simp at h
      · simp at h
    · rename_i hw
      have hw := wanted_sim he hw
      split at h
      · rename_i env1 hput
        have he1 := he.put (v := undef) (c := undef) (.same _ rfl) hput
        obtain ⟨tmps', w', σ', q1, q2, q3⟩ := seq_sim hcall hrest h hg hr he1 hb k cs
        refine ⟨tmps', w', σ', q1, q2, .head (st_op_skip hb (by rw [ho]; simpa using hw)) ?_⟩
        rw [ho]; exact q3
      · simp at h
    · simp at h

end Go.AE
