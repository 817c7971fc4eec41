/-
  AE: an operation, a call, a round: from where it begins to where it has ended.
-/
import Derived.Test.YtkhbnkncnmeefaaDoorAeBuiltin
import Derived.Calls
namespace Go.AE

/-- A frame that runs, with other temporaries and another rest of its code. -/
def fput (b : Frame) (tmps : Array Value) (todo : List Item) : Frame := { b with tmps, todo }

theorem fput_eval (b : Frame) (tmps : Array Value) (todo : List Item) : (fput b tmps todo).eval = (⟨tmps, []⟩ : Act).eval := by
  funext x; cases x <;> rfl

/-- Where what an operation comes to goes on. -/
def nextGo (P : Program) (fr : Frame) (cs : List Frame) : Next → Option (Frame × List Frame)
  | .value v => some (fr.finish v, cs)
  | .skip => some (fr.finish undef, cs)
  | .enter f args => some (Frame.enter P f args .normal, fr :: cs)
  | .round l f tmps assign body => some (Frame.round l f tmps assign body .normal, fr :: cs)
  | .row row args => some (Frame.ofRow P row args .normal, fr :: cs)
  | _ => none

/-- A rest of code that begins with no call of the library's own. -/
inductive Ordy : List Item → Prop
  | op (ops : Array Oper) (l : List Nat) (k : List Item) : Ordy (.inRegion ops l :: k)
  | rf (l : Nat) (k : List Item) : Ordy (.inRangeFunc l :: k)
  | br (k : List Item) : Ordy (.beginRound :: k)

def Fin (P : Program) (nx : Next) (w : World) (Q : Value → World → Prop) : Prop :=
  ∀ (fr : Frame) (cs : List Frame), ∃ fr' cs' v w', nextGo P fr cs nx = some (fr', cs') ∧ Q v w' ∧ Steps P (lone fr' cs' w) (lone (fr.finish v) cs w')

def OpGoes (P : Program) (σ : Pl) (H : AHeap) (w : World) (r : Result Next) (v : Value) (H' : AHeap) : Prop :=
  ∃ nx w1, r = .ok nx w1 ∧ Fin P nx w1 fun c w' => ∃ σ', Step P σ H w σ' H' w' ∧ VR σ' v c

theorem Res.goes {P : Program} {σ : Pl} {H H' : AHeap} {w : World} {r : Result Next} {v : Value} (h : Res P σ H w r v H') : OpGoes P σ H w r v H' := by
  obtain ⟨n, w', σ', rfl, h2, h3⟩ := h
  rcases h3 with ⟨c, rfl, hv⟩ | ⟨rfl, rfl⟩
  · exact ⟨_, _, rfl, fun fr cs => ⟨_, _, c, w', rfl, ⟨σ', h2, hv⟩, Steps.refl _ _⟩⟩
  · exact ⟨_, _, rfl, fun fr cs => ⟨_, _, undef, w', rfl, ⟨σ', h2, .same _ rfl⟩, Steps.refl _ _⟩⟩

theorem apply_go {P : Program} {fr : Frame} {cs : List Frame} {s : Sem Next} {w w1 : World} {nx : Next} {fr' : Frame} {cs' : List Frame} (ho : Ordy fr.todo) (hr : s.run P w = .ok nx w1) (hn : nextGo P fr cs nx = some (fr', cs')) :
    (stepG.apply P true fr cs none s w).bare = .go { frame := fr', callers := cs', status := .running, dying := none } w1 := by
  obtain ⟨fn, tmps, todo, defers, mode, kind, roundOf⟩ := fr
  simp only at ho
  cases ho <;> cases nx <;> simp only [nextGo, Option.some.injEq, Prod.mk.injEq, reduceCtorEq] at hn <;> (obtain ⟨rfl, rfl⟩ := hn; simp [stepG.apply, hr])

/-- A function value that is called: a function, or a round. -/
inductive FnR (σ : Pl) : Fn → Fn → Prop
  | func (g : FuncId) : FnR σ (.func g) (.func g)
  | yield {l : Nat} {pl : Place} : σ l 0 = some pl → FnR σ (.yield l) (.yield pl.b)

/-- The package-level variables that are told of stand where they are to. -/
def GlobR (C : Cfg) (σ : Pl) : Prop := ∀ {g i : Nat}, idx g C.gl 0 = some i → ∃ pl, σ i 0 = some pl ∧ pl.b = g ∧ pl.d = 0 ∧ pl.lo = 0

theorem GlobR.ext {C : Cfg} {σ σ' : Pl} (e : Ext σ σ') (h : GlobR C σ) : GlobR C σ' := fun hi => by
  obtain ⟨pl, h1, h2⟩ := h hi
  exact ⟨pl, e _ _ _ h1, h2⟩

def CallOK (C : Cfg) (callf : Fn → List Value → AHeap → Option (Value × AHeap)) : Prop :=
  ∀ {fn : Fn} {args : List Value} {H : AHeap} {v : Value} {H' : AHeap}, callf fn args H = some (v, H') →
    ∀ {σ : Pl} {w : World} {cfn : Fn} {cargs : Array Value}, GlobR C σ → Rel C.P σ H w → VRs σ args cargs.toList → FnR σ fn cfn → OpGoes C.P σ H w ((invoke (.fn cfn #[]) cargs).run C.P w) v H'

theorem wrapNil (ts : Array TypeId) (t : TypeId) (a : Addr) (s m : String) : Builtin.ssaWrapNilChk_ ts t #[.pointer (some a), strVal s, strVal m] = Pure.pure (.pointer (some a)) := rfl

theorem sim_method {P : Program} {σ : Pl} {H : AHeap} {w : World} (h : Rel P σ H w) {t : TypeId} {v c x : Value} {name : String} {f : FuncId} (hv : VR σ v c) (ha : amethod P H t v name = some (f, x)) (n : Nat) :
    ∃ c', (method (n + 1) t c name).run P w = .ok (f, c') w ∧ VR σ x c' := by
  unfold amethod at ha
  cases hi : P.info? t with
  | none => simp [hi] at ha
  | some inf =>
    simp only [hi] at ha
    cases hm : inf.methods.toList.find? (fun m => m.name == name) with
    | none => simp [hm] at ha
    | some m =>
      simp only [hm] at ha
      rw [Array.find?_toList] at hm
      split at ha
      · rename_i g ptr hpath hfunc
        split at ha
        · rename_i e hu
          cases ha
          refine ⟨c, ?_, hv⟩
          simp [method, typeInfo, hi, hm, hpath, hfunc, follow, receiverAt, run_underlying hu, Go.Place.get]
        · rename_i e hu
          split at ha
          · rename_i y hl
            cases ha
            obtain ⟨ad, c', rfl, r1, r2⟩ := sim_loadVar h hv hl
            refine ⟨c', ?_, r2⟩
            have hpe : m.path = #[] := by cases hp : m.path with | mk l => rw [hp] at hpath; simp only at hpath; rw [hpath]
            simp [method, typeInfo, hi, hm, hfunc, follow, receiverAt, run_underlying hu, Go.Place.get, hpe, wrapNil, asAddr, r1]
          · simp at ha
        · rename_i d hnp hu
          cases ha
          refine ⟨c, ?_, hv⟩
          cases d <;> first
            | (exfalso; exact hnp _ rfl)
            | simp [method, typeInfo, hi, hm, hpath, hfunc, follow, receiverAt, run_underlying hu, Go.Place.get]
        · simp at ha
      · rename_i s g hpath hfunc
        split at ha
        · rename_i fields cs' hu hd
          split at ha
          · rename_i fd hfd
            split at ha
            · simp at ha
            · rename_i d hnp hu2
              split at ha
              · rename_i y hl
                cases ha
                obtain ⟨b, rfl, hb⟩ := hv.agg_inv
                obtain ⟨c', r1, r2⟩ := sim_part (w := w) hb hl
                refine ⟨c', ?_, r2⟩
                rw [Array.getElem?_toList] at hfd
                have hpe : m.path.isEmpty = false := by
                  cases hp : m.path with
                  | mk l => rw [hp] at hpath; simp only at hpath; subst hpath; rfl
                cases d <;> first
                  | (exfalso; exact hnp _ rfl)
                  | simp [method, typeInfo, hi, hm, hpath, hfunc, follow, receiverAt, run_underlying hu, run_underlying hu2, Go.Place.get, hd, hfd, r1]
              · simp at ha
            · simp at ha
          · simp at ha
        · simp at ha
      · simp at ha

theorem invoke_func (P : Program) (g : FuncId) (args captured : Array Value) (w : World) : (invoke (.fn (.func g) captured) args).run P w = (invoke (.fn (.func g) #[]) (args ++ captured)).run P w := by
  simp [invoke]

theorem VRs.toArray {σ : Pl} {a : List Value} {b : Array Value} (h : VRs σ a b.toList) : VRs σ a b.toList := h

theorem oper_sim {C : Cfg} {callf : Fn → List Value → AHeap → Option (Value × AHeap)} (hcall : CallOK C callf) {σ : Pl} {H H' : AHeap} {w : World} (hg : GlobR C σ) (h : Rel C.P σ H w) {ρ ρc : Operand → Value}
    (hρ : ∀ x, VR σ (ρ x) (ρc x)) {o : Oper} {v : Value} (ho : oper C callf ρ o H = some (v, H')) : OpGoes C.P σ H w ((execOp ρc o).run C.P w) v H' := by
  unfold oper at ho
  split at ho
  · rename_i c e
    have hargs : VRs σ (c.args.toList.map ρ) (c.args.map ρc).toList := VRs.of_array hρ c.args
    have hexec : (execOp ρc o).run C.P w = (do let d ← resolve ρc c o.type; invoke d.target d.args : Sem Next).run C.P w := by
      unfold execOp; simp only [e]
    rw [hexec]
    split at ho
    · rename_i b e2
      have hr : ∃ consts, (do let d ← resolve ρc c o.type; invoke d.target d.args : Sem Next).run C.P w = (builtin b c.argTypes o.type consts (c.args.map ρc)).run C.P w := by
        refine ⟨?_, ?_⟩
        rotate_left
        · simp only [resolve, e2, Sem.run_bind, Sem.run_pure, Result.andThen_ok, invoke]
          rfl
      obtain ⟨consts, hr⟩ := hr
      rw [hr]
      exact (sim_builtin h hargs ho).goes
    · rename_i f e2
      split at ho
      · rename_i g first captured hf
        have hv := hρ f
        rw [hf] at hv
        obtain ⟨a', b', ec, h1, h2⟩ := hv.func_inv (by rintro _ ⟨⟩)
        have hres := hcall ho hg h (cargs := a' ++ c.args.map ρc ++ b') (by
          simp only [Array.toList_append]
          exact (h1.append hargs).append h2) (.func g)
        have : (do let d ← resolve ρc c o.type; invoke d.target d.args : Sem Next).run C.P w = (invoke (.fn (.func g) b') (a' ++ c.args.map ρc)).run C.P w := by
          simp [resolve, e2, ec, Deferred.ofValue]
        rw [this, invoke_func]
        exact hres
      · rename_i l first captured hf
        split at ho
        · have hv := hρ f
          rw [hf] at hv
          obtain ⟨pl, ec, hp, _⟩ := hv.yield_inv
          have hres := hcall ho hg h (cargs := c.args.map ρc) hargs (.yield hp)
          have : (do let d ← resolve ρc c o.type; invoke d.target d.args : Sem Next).run C.P w = (invoke (.fn (.yield pl.b) #[]) (c.args.map ρc)).run C.P w := by
            simp [resolve, e2, ec, Deferred.ofValue]
          rw [this]
          exact hres
        · simp at ho
      · simp at ho
    · rename_i r name e2
      split at ho
      · rename_i t v' hr
        split at ho
        · rename_i f x hm
          have hv := hρ r
          rw [hr] at hv
          obtain ⟨c', ec, hv'⟩ := hv.iface_inv
          obtain ⟨cx, r1, r2⟩ := sim_method h hv' hm (C.P.types.size + Made.depth - 1)
          have hd : C.P.types.size + Made.depth - 1 + 1 = C.P.types.size + Made.depth := by
            have : 0 < Made.depth := by decide
            omega
          rw [hd] at r1
          have hres := hcall ho hg h (cargs := #[cx] ++ c.args.map ρc) (by simp only [Array.toList_append]; exact .cons r2 hargs) (.func f)
          have : (do let d ← resolve ρc c o.type; invoke d.target d.args : Sem Next).run C.P w = (invoke (.fn (.func f) #[]) (#[cx] ++ c.args.map ρc)).run C.P w := by
            have hex : (#[Value.iface t c'] ++ c.args.map ρc).extract 1 (#[Value.iface t c'] ++ c.args.map ρc).size = c.args.map ρc := by
              apply Array.toList_inj.1
              simp
              rw [List.take_of_length_le (by simp)]
            have h00 : (#[Value.iface t c'] ++ c.args.map ρc)[0]? = some (Value.iface t c') := by rw [Array.getElem?_append_left (by simp)]; rfl
            simp only [resolve, e2, ec, Sem.run_bind, Sem.run_pure, Result.andThen_ok, invoke]
            simp only [hex, h00]
            simp [callMethod, r1]
          rw [this]
          exact hres
        · simp at ho
      · simp at ho
  · exact (sim_opA h hρ ho).goes

end Go.AE
