/-
  AE: functions, rounds, calls.
-/
import Derived.Test.YtkhbnkncnmeefaaDoorAeCode
namespace Go.AE

theorem getE_nil (t : Tmp) : getE [] t = junk := rfl

theorem getE_args : ∀ (l : List Value) (i t : Nat), getE (argsE i l) t = if i ≤ t then (l[t - i]?).getD junk else junk
  | [], i, t => by simp [argsE, getE_nil]
  | v :: r, i, t => by
    rw [argsE, getE_cons, getE_args r (i + 1) t]
    by_cases e : i = t
    · subst e; simp
    · rw [if_neg e]
      by_cases h : i ≤ t
      · rw [if_pos (by omega), if_pos h, show t - i = (t - (i + 1)) + 1 by omega]; simp
      · rw [if_neg (by omega), if_neg h]

theorem EnvR.enter {σ : Pl} {args : List Value} {cargs : Array Value} (h : VRs σ args cargs.toList) {n : Nat} (hn : args.length ≤ n) : EnvR σ n (argsE 0 args) (cargs ++ Array.replicate (n - cargs.size) undef) := by
  have hl := h.length
  simp at hl
  refine ⟨by simp; omega, fun t => ?_⟩
  rw [getE_args]
  simp only [Nat.zero_le, if_true, Nat.sub_zero]
  cases hv : args[t]? with
  | none => exact .junk _
  | some v =>
    obtain ⟨c, h1, h2⟩ := h.get hv
    have hlt : t < cargs.size := by have := (List.getElem?_eq_some_iff.1 h1).1; simpa using this
    rw [Array.getD_eq_getD_getElem?, Array.getElem?_append_left hlt, ← Array.getElem?_toList, h1]
    exact h2

/-- A block that stands for nothing, and came behind the beginning, turns. -/
theorem Step.poke {P : Program} {σ σ' : Pl} {H H' : AHeap} {w w' : World} (h : Step P σ H w σ' H' w') {r : Nat} (hr : w.heap.size ≤ r) (hu : ∀ F g pl, σ' F g = some pl → pl.b ≠ r) (o : Obj) :
    Step P σ H w σ' H' { w' with heap := w'.heap.setIfInBounds r o } := by
  have hne : ∀ {b : Nat}, b ≠ r → ({ w' with heap := w'.heap.setIfInBounds r o } : World).heap[b]? = w'.heap[b]? := by
    intro b hb
    show (w'.heap.setIfInBounds r o)[b]? = _
    rw [Array.getElem?_setIfInBounds_ne (Ne.symm hb)]
  exact { rel := { dom := h.rel.dom, obj := fun a b => (h.rel.obj a b).mono (Ext.refl _) (hne (hu _ _ _ a)), inj := h.rel.inj, old := fun a => by have := h.rel.old a; simpa using this }
          ext := h.ext, new := h.new, hid := h.hid, ro := h.ro, n := h.n, size := by have := h.size; simpa using this
          blk := fun {b} hb hro => (hne (by omega)).trans (h.blk hb hro), os := h.os, tape := h.tape, output := h.output
          loops := fun {b r'} hr' => by
            obtain ⟨r2, h1, h2⟩ := h.loops hr'
            have hb : b < w.heap.size := (Array.getElem?_eq_some_iff.1 hr').1
            exact ⟨r2, (hne (by omega)).trans h1, h2⟩ }

/-- The marks of collected calls are taken. -/
theorem unwind_marks {P : Program} {σ σ' : Pl} {H H' : AHeap} {w : World} : ∀ (rs : List Nat) (fr : Frame) (cs : List Frame) (w' : World), fr.mode = .returning → fr.defers = rs.map mark → rs.Nodup →
    (∀ r ∈ rs, w.heap.size ≤ r ∧ r < w'.heap.size ∧ w'.heap[r]? = some (.deferred (some [])) ∧ ∀ F g pl, σ' F g = some pl → pl.b ≠ r) → Step P σ H w σ' H' w' →
    ∃ w2, Steps P (lone fr cs w') (lone { fr with defers := [] } cs w2) ∧ Step P σ H w σ' H' w2
  | [], fr, cs, w', hm, hd, _, _, h => ⟨w', by rw [show ({ fr with defers := [] } : Frame) = fr by rw [← show fr.defers = [] from hd]]; exact Steps.refl _ _, h⟩
  | r :: rs, fr, cs, w', hm, hd, hn, hr, h => by
    obtain ⟨h1, h2, h3, h4⟩ := hr r (by simp)
    have hn' := List.nodup_cons.1 hn
    obtain ⟨w2, q1, q2⟩ := unwind_marks rs { fr with defers := rs.map mark } cs { w' with heap := w'.heap.setIfInBounds r (.deferred none) } hm rfl hn'.2 (by
      intro s hs
      obtain ⟨a, b, c, d⟩ := hr s (by simp [hs])
      refine ⟨a, by simpa using b, ?_, d⟩
      show (w'.heap.setIfInBounds r _)[s]? = _
      rw [Array.getElem?_setIfInBounds_ne (by rintro rfl; exact hn'.1 hs)]
      exact c) (h.poke h1 h4 _)
    refine ⟨w2, .head (step_lone_go ?_) q1, q2⟩
    have hgo : (Instr.takeDeferred r).run P w' = .ok [] { w' with heap := w'.heap.setIfInBounds r (.deferred none) } := by
      simp [Instr.takeDeferred, run_getObj h3 (by rintro _ _ _ ⟨⟩), run_setObj h3 (by rintro _ _ _ ⟨⟩)]
    simp [stepG, unwind, hm, hd, mark, hgo]

theorem sim_results {C : Cfg} {σ : Pl} {H : AHeap} {w : World} (h : Rel C.P σ H w) {nt : Nat} {env : Env} {tmps : Array Value} (he : EnvR σ nt env tmps) {f : ResultVar → Sem Value}
    (f1 : ∀ t, f (.tmp t) = Pure.pure (tmps.getD t undef)) (f2 : ∀ a t, f (.cell a t) = (do loadVar t (← asAddr (tmps.getD a undef)))) : ∀ {l : List ResultVar} {vs : List Value}, resultsA C env H l = some vs →
    ∃ cvs, VRs σ vs cvs ∧ (l.mapM f).run C.P w = .ok cvs w
  | [], vs, hr => by
    simp only [resultsA, Option.some.injEq] at hr
    subst hr
    exact ⟨[], .nil, by simp⟩
  | x :: l, vs, hr => by
    simp only [resultsA] at hr
    cases h1 : resultA C env H x with
    | none => simp [h1] at hr
    | some v =>
      cases h2 : resultsA C env H l with
      | none => simp [h1, h2] at hr
      | some vs' =>
        simp only [h1, h2, Option.some.injEq] at hr
        subst hr
        obtain ⟨cvs, q1, q2⟩ := sim_results h he f1 f2 h2
        cases x with
        | tmp t =>
          simp only [resultA, Option.some.injEq] at h1
          subst h1
          refine ⟨tmps.getD t undef :: cvs, .cons (he.2 t) q1, ?_⟩
          simp only [List.mapM_cons, f1, Sem.run_bind, Sem.run_pure, Result.andThen_ok, q2]
        | cell a t =>
          simp only [resultA] at h1
          obtain ⟨ad, c, e1, e2, e3⟩ := sim_loadVar h (he.2 a) h1
          refine ⟨c :: cvs, .cons e3 q1, ?_⟩
          simp only [List.mapM_cons, f2, e1, asAddr, Sem.run_bind, Sem.run_pure, Result.andThen_ok, e2, q2]

theorem VR.oneOf {σ : Pl} {vs cvs : List Value} (h : VRs σ vs cvs) : VR σ (oneOf vs) (if h : (⟨cvs⟩ : Array Value).size = 1 then (⟨cvs⟩ : Array Value)[0] else .tuple ⟨cvs⟩) := by
  have hl := h.length
  cases h with
  | nil => exact .tuple .nil
  | cons h1 h2 =>
    cases h2 with
    | nil => exact h1
    | cons h3 h4 =>
      rw [dif_neg (by simp)]
      exact .tuple (.cons h1 (.cons h3 h4))

theorem run_results {C : Cfg} {σ : Pl} {H : AHeap} {w : World} (h : Rel C.P σ H w) {nt : Nat} {env : Env} {tmps : Array Value} (he : EnvR σ nt env tmps) {fn : Func} {vs : List Value} (hr : resultsA C env H fn.results.toList = some vs) :
    ∃ c, (results fn tmps).run C.P w = .ok c w ∧ VR σ (oneOf vs) c := by
  unfold results
  suffices hs : ∀ f : ResultVar → Sem Value, (∀ t, f (.tmp t) = Pure.pure (tmps.getD t undef)) → (∀ a t, f (.cell a t) = (do loadVar t (← asAddr (tmps.getD a undef)))) →
      ∃ c, (do let vs ← fn.results.mapM f; Pure.pure (if h : vs.size = 1 then vs[0] else .tuple vs) : Sem Value).run C.P w = .ok c w ∧ VR σ (oneOf vs) c from hs _ (fun _ => rfl) (fun _ _ => rfl)
  intro f f1 f2
  obtain ⟨cvs, q1, q2⟩ := sim_results h he f1 f2 hr
  refine ⟨_, ?_, VR.oneOf q1⟩
  rw [Array.mapM_eq_mapM_toList, Sem.run_bind, Sem.run_map, q2]
  rfl

/-- A function's body, from its beginning to its leaving. -/
theorem body_sim {C : Cfg} {callf : Fn → List Value → AHeap → Option (Value × AHeap)} (hcall : CallOK C callf) {fuel : Nat} (hreg : ∀ nt ops draw, RegOK C callf nt ops draw) {f : FuncId} {fn : Func} (hf : C.P.funcs[f]? = some fn)
    {args : List Value} {H H' : AHeap} {v : Value} (hbody : body C callf fuel fn args H = some (v, H')) {σ : Pl} {w : World} {cargs : Array Value} (hg : GlobR C σ) (hr : Rel C.P σ H w) (ha : VRs σ args cargs.toList) (cs : List Frame) :
    ∃ fr w' σ' c, Steps C.P (lone (Frame.enter C.P f cargs .normal) cs w) (lone fr cs w') ∧ fr.fn = f ∧ fr.leaving C.P w' (.returned c) ∧ Step C.P σ H w σ' H' w' ∧ VR σ' v c := by
  unfold body at hbody
  split at hbody
  · rename_i c hc
    split at hbody
    · rename_i hle
      have hle := Nat.le_of_ble_eq_true hle
      have he := EnvR.enter ha hle
      cases hx : exec C callf fuel fn.ntmps c (argsE 0 args) H with
      | none => simp [hx] at hbody
      | some q =>
        obtain ⟨ex, env1, H1⟩ := q
        have hent : Frame.enter C.P f cargs .normal = fput (Frame.enter C.P f cargs .normal) (cargs ++ Array.replicate (fn.ntmps - cargs.size) undef) [.code c] := by
          simp [Frame.enter, fput, hf, hc]
        have hb : BInv (Frame.enter C.P f cargs .normal) w.heap.size σ w := ⟨⟨rfl, rfl⟩, ⟨[], rfl, List.nodup_nil, by simp⟩, fun l hl => by simp [Frame.enter] at hl⟩
        obtain ⟨tmps1, w1, σ1, ds, s1, he1, hb1, ha1⟩ := exec_sim hcall (hreg fn.ntmps) c hx hg hr he hb (Nat.le_refl _) [] cs
        rw [← hent] at ha1
        -- it returns
        have hret : ∃ todo, Steps C.P (lone (Frame.enter C.P f cargs .normal) cs w) (lone { fput (withDefs (Frame.enter C.P f cargs .normal) ds) tmps1 todo with mode := .returning } cs w1) ∧ ∃ vs, resultsA C env1 H1 fn.results.toList = some vs ∧ v = oneOf vs ∧ H' = H1 := by
          cases ex with
          | normal =>
            simp only [hx] at hbody
            refine ⟨[], Steps.trans ha1 (.one (step_lone_go ?_)), ?_⟩
            · simp [stepG, stepG.exec, fput, withDefs, Frame.enter]
            · split at hbody
              · rename_i vs hvs; simp only [Option.some.injEq, Prod.mk.injEq] at hbody; exact ⟨vs, hvs, hbody.1.symm, hbody.2.symm⟩
              · simp at hbody
          | ret =>
            simp only [hx] at hbody
            obtain ⟨k2, st2⟩ := ha1
            refine ⟨.code .ret :: k2, st2.trans (.one (step_lone_go ?_)), ?_⟩
            · simp [stepG, stepG.exec, fput, withDefs, Frame.enter]
            · split at hbody
              · rename_i vs hvs; simp only [Option.some.injEq, Prod.mk.injEq] at hbody; exact ⟨vs, hvs, hbody.1.symm, hbody.2.symm⟩
              · simp at hbody
          | exit id => simp [hx] at hbody
        obtain ⟨todo, st, vs, hvs, rfl, rfl⟩ := hret
        obtain ⟨rs, d1, d2, d3⟩ := hb1.defs
        obtain ⟨w2, st2, s2⟩ := unwind_marks rs { fput (withDefs (Frame.enter C.P f cargs .normal) ds) tmps1 todo with mode := .returning } cs w1 rfl d1 d2 d3 s1
        obtain ⟨cv, r1, r2⟩ := run_results s2.rel he1 hvs
        exact ⟨_, w2, σ1, cv, st.trans st2, rfl, ⟨rfl, rfl, rfl, fn, hf, r1⟩, s2, r2⟩
    · simp at hbody
  · simp at hbody

end Go.AE
