/-
  AE: rounds, and all calls.
-/
import Derived.Test.YtkhbnkncnmeefaaDoorAeFn
namespace Go.AE

theorem setAll_sim {σ : Pl} {nt : Nat} : ∀ {ts : List Tmp} {as cas : List Value} {env env' : Env} {tmps : Array Value}, setAll nt ts as env = some env' → VRs σ as cas → EnvR σ nt env tmps →
    EnvR σ nt env' ((ts.zip cas).foldl (fun tmps (p : Tmp × Value) => tmps.setIfInBounds p.1 p.2) tmps) ∧ ts.length = as.length
  | [], [], cas, env, env', tmps, h, hv, he => by
    simp only [setAll, Option.some.injEq] at h
    subst h
    exact ⟨by simpa using he, rfl⟩
  | [], _ :: _, _, _, _, _, h, _, _ => by simp [setAll] at h
  | _ :: _, [], _, _, _, _, h, _, _ => by simp [setAll] at h
  | t :: ts, a :: as, cas, env, env', tmps, h, hv, he => by
    cases hv with
    | cons h1 h2 =>
      simp only [setAll] at h
      split at h
      · rename_i env1 hp
        have he1 := he.put h1 hp
        obtain ⟨q1, q2⟩ := setAll_sim h h2 he1
        exact ⟨by simpa [dstSet] using q1, by simp [q2]⟩
      · simp at h

/-- A round ends. -/
theorem endRound_run {P : Program} {σ : Pl} {H : AHeap} {w : World} (hr : Rel P σ H w) {l : Nat} {pl : Place} (hp : σ l 0 = some pl) {nt : Nat} {env : Env} {params : List Tmp} {assign body : Code} {ready : Bool} {pending : Option Code}
    (hl : H.get l = some (.loop nt env params assign body ready pending)) (jump : Option Code) :
    ∃ w', (Instr.endRound pl.b jump).run P w = .ok (.bool jump.isNone) w' ∧ Step P σ H w σ (H.set l (.loop nt env params assign body jump.isNone jump)) w' := by
  obtain ⟨_, r, k1, k2⟩ := hr.obj hp hl
  refine ⟨_, ?_, Step.setObj hr hp hl trivial (co' := .loop { r with state := if jump.isNone then .ready else .done, pending := jump }) ?_ ?_⟩
  · simp [Instr.endRound, run_getLoop k1, run_setObj k1 (by rintro _ _ _ ⟨⟩)]
  · refine ⟨rfl, { r with state := if jump.isNone then .ready else .done, pending := jump }, ?_, { envr := k2.envr, par := k2.par, asg := k2.asg, bod := k2.bod, rdy := fun h => by simp only [h, if_true], pnd := rfl, dn := fun h => ?_ }⟩
    · show (w.heap.setIfInBounds pl.b _)[pl.b]? = _
      rw [Array.getElem?_setIfInBounds_self_of_lt (hr.old hp)]
    · cases jump with
      | none => exact absurd rfl h
      | some _ => simp
  · intro r' hr'
    rw [k1] at hr'; cases hr'
    exact ⟨_, rfl, rfl⟩

/-- The frame of a round leaves. -/
theorem leave_round {P : Program} {b : Frame} (hb : BOK b) {l : Nat} (hl : b.roundOf = some l) {tmps : Array Value} {c : Frame} {cs : List Frame} {w w' : World} {v : Value} {todo : List Item} {jump : Option Code}
    (ht : (todo = [] ∧ jump = none) ∨ (∃ k, todo = .code .ret :: k ∧ jump = some .ret) ∨ ∃ id k, todo = .code (.exit id) :: k ∧ exitTo id k = none ∧ jump = some (.exit id))
    (hr : (Instr.endRound l jump).run P w = .ok v w') : step P (lone (fput b tmps todo) (c :: cs) w) = .next (lone (c.finish v) cs w') := by
  obtain ⟨hm, hk⟩ := hb
  refine step_lone_go ?_
  rcases ht with ⟨rfl, rfl⟩ | ⟨k, rfl, rfl⟩ | ⟨id, k, rfl, hx, rfl⟩
  · simp [stepG, stepG.exec, fput, hm, hl, hr, doReturn, hk]
  · simp [stepG, stepG.exec, fput, hm, hl, hr, doReturn, hk]
  · simp [stepG, stepG.exec, fput, hm, hl, hr, doReturn, hk, hx]

theorem round_sim {C : Cfg} {callf : Fn → List Value → AHeap → Option (Value × AHeap)} (hcall : CallOK C callf) {fuel : Nat} (hreg : ∀ nt ops draw, RegOK C callf nt ops draw)
    {l : Nat} {args : List Value} {H H' : AHeap} {v : Value} (hround : round C callf fuel l args H = some (v, H')) {σ : Pl} {w : World} {cargs : Array Value} (hg : GlobR C σ) (hr : Rel C.P σ H w) (ha : VRs σ args cargs.toList)
    {pl : Place} (hp : σ l 0 = some pl) : OpGoes C.P σ H w ((Instr.yield pl.b cargs).run C.P w) v H' := by
  unfold round at hround
  split at hround
  · rename_i nt tmps0 params assign bd ready0 pending0 hl0
    obtain ⟨_, r, k1, k2⟩ := hr.obj hp hl0
    split at hround
    · rename_i env0 hset
      have hset' := setAll_sim hset ha k2.envr
      obtain ⟨he0, hlen⟩ := hset'
      have hsize : cargs.size = r.params.size := by
        have h1 := ha.length
        have h2 : r.params.toList.length = params.length := by rw [k2.par]
        simp at h1 h2
        omega
      have hfold : (r.params.zip cargs).foldl (fun tmps (x : Tmp × Value) => tmps.setIfInBounds x.1 x.2) r.tmps = (params.zip cargs.toList).foldl (fun tmps (p : Tmp × Value) => tmps.setIfInBounds p.1 p.2) r.tmps := by
        rw [← Array.foldl_toList, Array.toList_zip, k2.par]
      have hrun : (Instr.yield pl.b cargs).run C.P w = .ok (.round pl.b r.fn ((params.zip cargs.toList).foldl (fun tmps (p : Tmp × Value) => tmps.setIfInBounds p.1 p.2) r.tmps) assign bd) w := by
        unfold Instr.yield
        simp only [Sem.run_bind, run_getLoop k1, Result.andThen_ok, hsize]
        rw [← hfold, ← k2.asg, ← k2.bod]
        simp
      refine ⟨_, w, hrun, fun c cs => ?_⟩
      generalize (params.zip cargs.toList).foldl (fun tmps (p : Tmp × Value) => tmps.setIfInBounds p.1 p.2) r.tmps = ct at he0
      cases hx : exec C callf fuel nt assign env0 H with
      | none => simp [hx] at hround
      | some q =>
        obtain ⟨e1, env1, H1⟩ := q
        have hb : BInv (Frame.round pl.b r.fn ct assign bd .normal) 0 σ w := ⟨⟨rfl, rfl⟩, ⟨[], rfl, List.nodup_nil, by simp⟩, fun l' hl' => by
          simp [Frame.round] at hl'; subst hl'; exact ⟨rfl, r, k1⟩⟩
        obtain ⟨tmps1, w1, σ1, ds1, s1, he1, hb1, ha1⟩ := exec_sim hcall (hreg nt) assign hx hg hr he0 hb (Nat.zero_le _) [.beginRound, .code bd] (c :: cs)
        cases e1 with
        | exit id => simp [hx] at hround
        | ret => simp [hx] at hround
        | normal =>
          simp only [hx] at hround
          split at hround
          · rename_i nt1 tmpsL params1 assign1 bd1 hl1
            have hp1 := s1.ext _ _ _ hp
            obtain ⟨_, r1, k11, k12⟩ := s1.rel.obj hp1 hl1
            -- the round begins
            have hbegin : (Instr.beginRound pl.b).run C.P w1 = .ok () { w1 with heap := w1.heap.setIfInBounds pl.b (.loop { r1 with state := .busy }) } := by
              simp [Instr.beginRound, run_getLoop k11, run_setObj k11 (by rintro _ _ _ ⟨⟩), k12.rdy rfl]
            have s2 : Step C.P σ1 H1 w1 σ1 (H1.set l (.loop nt1 tmpsL params1 assign1 bd1 false none)) { w1 with heap := w1.heap.setIfInBounds pl.b (.loop { r1 with state := .busy }) } := by
              refine Step.setObj s1.rel hp1 hl1 trivial ?_ ?_
              · refine ⟨rfl, { r1 with state := .busy }, ?_, { envr := k12.envr, par := k12.par, asg := k12.asg, bod := k12.bod, rdy := by simp, pnd := k12.pnd, dn := fun h => absurd rfl h }⟩
                show (w1.heap.setIfInBounds pl.b _)[pl.b]? = _
                rw [Array.getElem?_setIfInBounds_self_of_lt (s1.rel.old hp1)]
              · intro r' hr'
                rw [k11] at hr'; cases hr'
                exact ⟨_, rfl, rfl⟩
            have hstep : step C.P (lone (fput (withDefs (Frame.round pl.b r.fn ct assign bd .normal) ds1) tmps1 [.beginRound, .code bd]) (c :: cs) w1) =
                .next (lone (fput (withDefs (Frame.round pl.b r.fn ct assign bd .normal) ds1) tmps1 [.code bd]) (c :: cs) { w1 with heap := w1.heap.setIfInBounds pl.b (.loop { r1 with state := .busy }) }) := by
              refine step_lone_go ?_
              have hap := apply_go (P := C.P) (fr := fput (withDefs (Frame.round pl.b r.fn ct assign bd .normal) ds1) tmps1 [.beginRound, .code bd]) (cs := c :: cs)
                (s := do (fput (withDefs (Frame.round pl.b r.fn ct assign bd .normal) ds1) tmps1 [.beginRound, .code bd]).roundOf.elim (stuck "beginRound: no round") Instr.beginRound; Pure.pure Next.skip)
                (w := w1) (w1 := { w1 with heap := w1.heap.setIfInBounds pl.b (.loop { r1 with state := .busy }) }) (nx := .skip) (.br _) (by
                  show (do Instr.beginRound pl.b; Pure.pure Next.skip : Sem Next).run C.P w1 = _
                  simp [hbegin]) rfl
              exact hap
            have hb2 := hb1.step s2
            cases hy : exec C callf fuel nt bd env1 (H1.set l (.loop nt1 tmpsL params1 assign1 bd1 false none)) with
            | none => simp [hy] at hround
            | some q2 =>
              obtain ⟨e2, env2, H2⟩ := q2
              simp only [hy] at hround
              obtain ⟨tmps3, w3, σ3, ds3, s3, he3, hb3, ha3⟩ := exec_sim hcall (hreg nt) bd hy (hg.ext s1.ext) s2.rel he1 hb2 (Nat.zero_le _) [] (c :: cs)
              have s23 := s2.trans s3 s1.rel
              have s13 := s1.trans s23 hr
              have hp3 := s13.ext _ _ _ hp
              have hpre := Steps.trans ha1 (.head hstep (Steps.refl _ _))
              have fin : ∀ {nt3 : Nat} {env3 : Env} {params3 : List Tmp} {assign3 bd3 : Code} {ready3 : Bool} {pending3 : Option Code} {todo : List Item} {jump : Option Code}, H2.get l = some (.loop nt3 env3 params3 assign3 bd3 ready3 pending3) →
                  ((todo = [] ∧ jump = none) ∨ (∃ k, todo = .code .ret :: k ∧ jump = some .ret) ∨ ∃ id k, todo = .code (.exit id) :: k ∧ exitTo id k = none ∧ jump = some (.exit id)) →
                  Steps C.P (lone (fput (withDefs (Frame.round pl.b r.fn ct assign bd .normal) ds1) tmps1 [.code bd]) (c :: cs) { w1 with heap := w1.heap.setIfInBounds pl.b (.loop { r1 with state := .busy }) })
                    (lone (fput (withDefs (withDefs (Frame.round pl.b r.fn ct assign bd .normal) ds1) ds3) tmps3 todo) (c :: cs) w3) →
                  ∃ w4, Steps C.P (lone (Frame.round pl.b r.fn ct assign bd .normal) (c :: cs) w) (lone (c.finish (.bool jump.isNone)) cs w4) ∧ Step C.P σ H w σ3 (H2.set l (.loop nt3 env3 params3 assign3 bd3 jump.isNone jump)) w4 := by
                intro nt3 env3 params3 assign3 bd3 ready3 pending3 todo jump hl3 ht hst
                obtain ⟨w4, g1, g2⟩ := endRound_run s13.rel hp3 hl3 jump
                refine ⟨w4, hpre.trans (hst.trans (.one (leave_round hb3.toBOK rfl ht g1))), s13.trans g2 hr⟩
              split at hround
              · rename_i hl3
                simp only [Option.some.injEq, Prod.mk.injEq] at hround
                obtain ⟨rfl, rfl⟩ := hround
                obtain ⟨w4, g1, g2⟩ := fin hl3 (.inl ⟨rfl, rfl⟩) ha3
                exact ⟨_, _, _, w4, rfl, ⟨σ3, g2, .same _ rfl⟩, g1⟩
              · rename_i hl3
                simp only [Option.some.injEq, Prod.mk.injEq] at hround
                obtain ⟨rfl, rfl⟩ := hround
                obtain ⟨k2', st2⟩ := ha3
                obtain ⟨w4, g1, g2⟩ := fin hl3 (.inr (.inl ⟨k2', rfl, rfl⟩)) st2
                exact ⟨_, _, _, w4, rfl, ⟨σ3, g2, .same _ rfl⟩, g1⟩
              · rename_i id hl3
                simp only [Option.some.injEq, Prod.mk.injEq] at hround
                obtain ⟨rfl, rfl⟩ := hround
                obtain ⟨k2', hx2, st2⟩ := ha3
                obtain ⟨w4, g1, g2⟩ := fin hl3 (.inr (.inr ⟨id, k2', rfl, hx2, rfl⟩)) st2
                exact ⟨_, _, _, w4, rfl, ⟨σ3, g2, .same _ rfl⟩, g1⟩
              · simp at hround
          · simp at hround
    · simp at hround
  · simp at hround

/-- What must hold of a program and of what is known otherwise. -/
structure COk (C : Cfg) : Prop where
  names : ∀ (f : Nat) (fn : Func), C.P.funcs.toList[f]? = some fn → fn.body.isSome = true → (fn.name == "runtime.NumGoroutine") = false
  prims : ∀ {f : FuncId} {p : List Value → AHeap → Option (Value × AHeap)}, C.prim f = some p → ∀ {args : List Value} {H : AHeap} {v : Value} {H' : AHeap}, p args H = some (v, H') →
    ∀ {σ : Pl} {w : World} {cargs : Array Value}, GlobR C σ → Rel C.P σ H w → VRs σ args cargs.toList → OpGoes C.P σ H w ((callFunc f cargs).run C.P w) v H'
  regs : ∀ {callf : Fn → List Value → AHeap → Option (Value × AHeap)}, CallOK C callf → ∀ nt ops draw, RegOK C callf nt ops draw

theorem run_callFunc {P : Program} {f : FuncId} {fn : Func} (hf : P.funcs[f]? = some fn) (hb : fn.body.isSome = true) (hn : (fn.name == "runtime.NumGoroutine") = false) (args : Array Value) (w : World) :
    (callFunc f args).run P w = .ok (.enter f args) w := by
  have hb' : fn.body.isNone = false := by cases h : fn.body <;> simp_all
  unfold callFunc
  simp only [Sem.run_bind, run_program, Result.andThen_ok, hf, hn, hb']
  rfl

theorem call_sound {C : Cfg} (hC : COk C) (n : Nat) : CallOK C (call C n) := by
  induction n with
  | zero => intro fn args H v H' h; simp [call] at h
  | succ n ih =>
    intro fn args H v H' h σ w cfn cargs hg hr ha hfn
    cases hfn with
    | func g =>
      simp only [call] at h
      have hinv : (invoke (.fn (.func g) #[]) cargs).run C.P w = (callFunc g cargs).run C.P w := by simp [invoke]
      rw [hinv]
      split at h
      · rename_i p hp
        exact hC.prims hp h hg hr ha
      · split at h
        · rename_i fn' hf
          have hsome : fn'.body.isSome = true := by
            unfold body at h
            split at h
            · rename_i c hc; rw [hc]; rfl
            · simp at h
          have hn := hC.names g fn' hf hsome
          rw [Array.getElem?_toList] at hf
          refine ⟨_, w, run_callFunc hf hsome hn cargs w, fun c cs => ?_⟩
          obtain ⟨fr, w', σ', cv, q1, q2, q3, q4, q5⟩ := body_sim ih (hC.regs ih) hf h hg hr ha (c :: cs)
          exact ⟨_, _, cv, w', rfl, ⟨σ', q4, q5⟩, q1.trans (.one (step_leave_returned q3))⟩
        · simp at h
    | yield hp =>
      simp only [call] at h
      exact round_sim ih (hC.regs ih) h hg hr ha hp

/-- A function of the program that is called from outside. -/
theorem calls_sound {C : Cfg} (hC : COk C) {n : Nat} {f : FuncId} {fn : Func} (hf : C.P.funcs[f]? = some fn) {args : List Value} {H H' : AHeap} {v : Value} (hp : C.prim f = none) (h : call C (n + 1) (.func f) args H = some (v, H'))
    {σ : Pl} {w : World} {cargs : Array Value} (hg : GlobR C σ) (hr : Rel C.P σ H w) (ha : VRs σ args cargs.toList) :
    Calls C.P f cargs w fun e w' => ∃ c σ', e = .returned c ∧ Step C.P σ H w σ' H' w' ∧ VR σ' v c := by
  intro cs
  simp only [call, hp] at h
  split at h
  · rename_i fn' hf'
    rw [Array.getElem?_toList, hf] at hf'
    cases hf'
    obtain ⟨fr, w', σ', cv, q1, q2, q3, q4, q5⟩ := body_sim (call_sound hC n) (hC.regs (call_sound hC n)) hf h hg hr ha cs
    exact ⟨.returned cv, w', fr, ⟨cv, σ', rfl, q4, q5⟩, q1, q2, q3⟩
  · simp at h

end Go.AE
