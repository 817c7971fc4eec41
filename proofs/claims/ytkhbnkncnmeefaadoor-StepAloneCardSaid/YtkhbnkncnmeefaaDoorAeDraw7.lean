/-
  AE: drawn regions, seventh part: whatever the order, a region comes to what the canonical order comes to.
-/
import Derived.Test.YtkhbnkncnmeefaaDoorAeDraw6
namespace Go.AE

/-! ### Two stores, of which either may come first -/
theorem BT.set_comm {α : Type} (a b : α) : ∀ (t : BT α) (i j : Nat), i ≠ j → (t.set a i).set b j = (t.set b j).set a i
  | .nil, _, _, _ => rfl
  | .node x l r, 0, 0, h => absurd rfl h
  | .node x l r, 0, j + 1, _ => by
    rcases Nat.mod_two_eq_zero_or_one j with hj | hj <;> simp only [BT.set, hj]
  | .node x l r, i + 1, 0, _ => by
    rcases Nat.mod_two_eq_zero_or_one i with hj | hj <;> simp only [BT.set, hj]
  | .node x l r, i + 1, j + 1, h => by
    rcases Nat.mod_two_eq_zero_or_one i with hi | hi <;> rcases Nat.mod_two_eq_zero_or_one j with hj | hj <;> simp only [BT.set, hi, hj]
    · rw [BT.set_comm a b l (i / 2) (j / 2) (by omega)]
    · rw [BT.set_comm a b r (i / 2) (j / 2) (by omega)]

theorem AHeap.set_comm (H : AHeap) {i j : Nat} (h : i ≠ j) (a b : AObj) : (H.set i a).set j b = (H.set j b).set i a := by
  unfold AHeap.set
  simp only [BT.set_comm a b H.t i j h]

theorem wrCells_form {H H' : AHeap} {F i g : Nat} {vs : List Value} (h : wrCells H F i g vs = some H') : ∃ o o', H.get F = some o ∧ H' = H.set F o' ∧ ∀ H2 : AHeap, H2.get F = some o → wrCells H2 F i g vs = some (H2.set F o') := by
  unfold wrCells at h
  split at h
  · rename_i ty cells gen ro hF
    split at h
    · rename_i e2 e3
      split at h
      · rename_i cells' hw
        simp only [Option.some.injEq] at h
        subst h
        refine ⟨_, _, hF, rfl, fun H2 h2 => ?_⟩
        unfold wrCells
        rw [h2]
        simp only [e2, e3, hw]
      · simp at h
    · simp at h
  · simp at h

theorem astore_form {P : Program} {H H' : AHeap} {t : TypeId} {p : Addr} {x : Value} (h : astore P H t (.pointer (some p)) x = some H') :
    (H' = H ∧ ∀ H2, astore P H2 t (.pointer (some p)) x = some H2) ∨ ∃ o o', H.get p.block = some o ∧ H' = H.set p.block o' ∧ ∀ H2 : AHeap, H2.get p.block = some o → astore P H2 t (.pointer (some p)) x = some (H2.set p.block o') := by
  obtain ⟨F, i, g⟩ := p
  unfold astore at h
  split at h
  · rename_i a0 v0 F' i' g' vs heq hv
    simp only [Value.pointer.injEq, Option.some.injEq, Addr.mk.injEq] at heq
    obtain ⟨rfl, rfl, rfl⟩ := heq
    split at h
    · rename_i inf hi
      split at h
      · rename_i hl
        split at h
        · simp only [Option.some.injEq] at h
          subst h
          refine .inl ⟨rfl, fun H2 => ?_⟩
          unfold astore
          simp only [hv, hi, hl]
        · rename_i y ys
          obtain ⟨o, o', h1, h2, h3⟩ := wrCells_form h
          refine .inr ⟨o, o', h1, h2, fun H2 hg => ?_⟩
          unfold astore
          simp only [hv, hi, hl]
          exact h3 H2 hg
      · simp at h
    · simp at h
  · simp at h

theorem astore_comm {P : Program} {H Ha Hb Hab : AHeap} {t t' : TypeId} {p p' : Addr} {x x' : Value} (hne : p.block ≠ p'.block) (ha : astore P H t (.pointer (some p)) x = some Ha) (hb : astore P H t' (.pointer (some p')) x' = some Hb)
    (hab : astore P Ha t' (.pointer (some p')) x' = some Hab) : astore P Hb t (.pointer (some p)) x = some Hab := by
  rcases astore_form ha with ⟨rfl, ha2⟩ | ⟨o, o', h1, rfl, ha2⟩
  · rw [hb] at hab; cases hab
    exact ha2 _
  · rcases astore_form hb with ⟨rfl, hb2⟩ | ⟨u, u', h2, rfl, hb2⟩
    · rw [hb2] at hab; cases hab
      exact ha
    · rw [hb2 _ (by rw [AHeap.get_set, if_neg (fun e => hne e.symm)]; exact h2)] at hab
      cases hab
      rw [ha2 _ (by rw [AHeap.get_set, if_neg hne]; exact h1), AHeap.set_comm H hne]

theorem keepP_comm (bef : List Nat) (i j : Nat) (pend : List Pend) : keepP bef i (keepP bef j pend) = keepP bef j (keepP bef i pend) := by
  unfold keepP
  rw [List.filter_filter, List.filter_filter]
  congr 1
  funext p
  rw [Bool.and_comm]

section
variable {C : Cfg} {callf : Fn → List Value → AHeap → Option (Value × AHeap)} {nt : Nat} {ops : Array Oper} {bef : List Nat}

theorem plainStore_form {o : Oper} (h : plainStore o = true) : ∃ t a x, o.op = .store t a x ∧ o.dst = none ∧ o.guard = none := by
  obtain ⟨dst, op, type, pos, after, guard⟩ := o
  unfold plainStore at h
  split at h
  · rename_i t a x h1 h2 h3
    exact ⟨t, a, x, h1, h2, h3⟩
  · simp at h

theorem effectful_store {o : Oper} {t : TypeId} {a x : Operand} (h : o.op = .store t a x) : effectful o = true := by
  unfold effectful; rw [h]

theorem runDraw_store {i : Nat} {r : List Nat} {pend : List Pend} {env : Env} {H H' : AHeap} {o : Oper} (ho : ops[i]? = some o) {t : TypeId} {a x : Operand} (h1 : o.op = .store t a x) (h2 : o.dst = none) (h3 : o.guard = none)
    (hs : stillR C H pend = true) (hst : astore C.P H t (eval C env a) (eval C env x) = some H') :
    runDraw C callf nt ops bef none (i :: r) pend env H = runDraw C callf nt ops bef none r (keepP bef i pend) env H' := by
  have hw : wantedA ops env o = some true := by unfold wantedA; rw [h3]
  have hop : oper C callf (eval C env) o H = some (undef, H') := by
    unfold oper opA
    simp only [h1]
    rw [hst]; rfl
  rw [← Array.getElem?_toList] at ho
  conv => lhs; rw [runDraw]
  simp only [ho, effectful_store h1, hs, hw, hop, h2, putE]

theorem runTwin_seq {i j : Nat} {pend : List Pend} {env : Env} {H : AHeap} {fin : Env × AHeap} {oi oj : Oper} (hi : ops[i]? = some oi) (hj : ops[j]? = some oj) (pi : plainStore oi = true) (pj : plainStore oj = true)
    (h : runTwin C ops bef i j pend env H = some fin) :
    stillR C H pend = true ∧ runDraw C callf nt ops bef none [i, j] pend env H = some fin ∧ runDraw C callf nt ops bef none [j, i] pend env H = some fin := by
  obtain ⟨t, a, x, i1, i2, i3⟩ := plainStore_form pi
  obtain ⟨t', a', x', j1, j2, j3⟩ := plainStore_form pj
  unfold runTwin at h
  have ei : opAt ops i = some oi.op := by unfold opAt; rw [Array.getElem?_toList, hi]
  have ej : opAt ops j = some oj.op := by unfold opAt; rw [Array.getElem?_toList, hj]
  rw [ei, ej, i1, j1] at h
  simp only at h
  split at h
  · rename_i p p' hp hp'
    split at h
    · rename_i hc
      simp only [Bool.and_eq_true, Bool.not_eq_true'] at hc
      obtain ⟨hne, hs⟩ := hc
      have hne : p.block ≠ p'.block := fun e => by rw [e] at hne; simp at hne
      split at h
      · rename_i Ha Hb ha hb
        split at h
        · rename_i Hab hab
          split at h
          · rename_i hst
            simp only [Bool.and_eq_true] at hst
            obtain ⟨⟨s1, s2⟩, s3⟩ := hst
            simp only [Option.some.injEq] at h
            subst h
            have hba := astore_comm hne ha hb hab
            refine ⟨hs, ?_, ?_⟩
            · rw [runDraw_store hi i1 i2 i3 hs (by rw [hp]; exact ha), runDraw_store hj j1 j2 j3 s1 (by rw [hp']; exact hab)]
              simp only [runDraw, s3]
            · rw [runDraw_store hj j1 j2 j3 hs (by rw [hp']; exact hb), runDraw_store hi i1 i2 i3 s2 (by rw [hp]; exact hba)]
              rw [keepP_comm]
              simp only [runDraw, s3]
          · simp at h
        · simp at h
      · simp at h
    · simp at h
  · simp at h

end

/-! ### Any order -/
/-- What is left of the canonical order. -/
inductive Shape (bef : List Nat) (ops : Array Oper) (done : Nat) : List Nat → Option (Nat × Nat) → List Nat → Prop
  | one {L : List Nat} {last : Option Nat} : orderFine bef (ops.toList.map effectful) L done last = true → Shape bef ops done L none L
  | two {L : List Nat} {i j : Nat} {last : Option Nat} : orderFine bef (ops.toList.map effectful) (L ++ [i]) done last = true → orderFine bef (ops.toList.map effectful) (L ++ [j]) done last = true → i ≠ j →
      (∃ o, ops[i]? = some o ∧ plainStore o = true) → (∃ o, ops[j]? = some o ∧ plainStore o = true) → Shape bef ops done L (some (i, j)) (L ++ [i, j])

/-- An effect stands at its head, if anything does. -/
def Norm (ops : Array Oper) (L : List Nat) : Prop := ∀ i r, L = i :: r → ∃ o, ops[i]? = some o ∧ effectful o = true

theorem Shape.tail {bef : List Nat} {ops : Array Oper} {done i : Nat} {L rest : List Nat} {twin : Option (Nat × Nat)} (h : Shape bef ops done (i :: L) twin rest) :
    ∃ rest', rest = i :: rest' ∧ Shape bef ops (done ||| 2 ^ i) L twin rest' ∧ ∀ k, hasBit (bef.getD i 0) k = true → hasBit done k = true := by
  cases h with
  | one h =>
    obtain ⟨_, h2, _, h4⟩ := orderFine_head h
    exact ⟨_, rfl, .one h4, h2⟩
  | two h k hne hi hj =>
    obtain ⟨_, h2, _, h4⟩ := orderFine_head h
    obtain ⟨_, _, _, k4⟩ := orderFine_head k
    exact ⟨_, rfl, .two h4 k4 hne hi hj, h2⟩

/-- Behind an effect: whoever stands there waits for one that is not done. -/
theorem Shape.behind {bef : List Nat} {ops : Array Oper} {done e : Nat} {r rest : List Nat} {twin : Option (Nat × Nat)} (h : Shape bef ops done (e :: r) twin rest) {o : Oper} (ho : ops[e]? = some o) (he : effectful o = true) {i : Nat} (hi : i ∈ rest)
    (hne : i ≠ e) : ∃ e' ∈ rest, hasBit (bef.getD i 0) e' = true := by
  have heff : (ops.toList.map effectful).getD e false = true := by
    rw [List.getD_eq_getElem?_getD, List.getElem?_map, Array.getElem?_toList, ho]; simpa using he
  cases h with
  | one h =>
    obtain ⟨_, _, _, h4⟩ := orderFine_head h
    rw [heff] at h4
    obtain ⟨e', h5, h6⟩ := orderFine_behind h4 i ((List.mem_cons.1 hi).resolve_left hne)
    exact ⟨e', by rcases h5 with rfl | h5 <;> simp [*], h6⟩
  | two h k hij hi' hj' =>
    rename_i a b last
    obtain ⟨_, _, _, h4⟩ := orderFine_head h
    obtain ⟨_, _, _, k4⟩ := orderFine_head k
    rw [heff] at h4 k4
    have hi2 : i ∈ r ++ [a] ∨ i ∈ r ++ [b] := by
      have := (List.mem_cons.1 hi).resolve_left hne
      change i ∈ r ++ [a, b] at this
      simp only [List.mem_append, List.mem_cons, List.not_mem_nil, or_false] at this ⊢
      rcases this with h | h | h
      · exact .inl (.inl h)
      · exact .inl (.inr h)
      · exact .inr (.inr h)
    rcases hi2 with hi2 | hi2
    · obtain ⟨e', h5, h6⟩ := orderFine_behind h4 i hi2
      refine ⟨e', ?_, h6⟩
      rcases h5 with rfl | h5
      · simp
      · change e' ∈ r ++ [a] at h5
        simp only [List.mem_append, List.mem_cons, List.not_mem_nil, or_false] at h5
        rcases h5 with h5 | rfl <;> simp [*]
    · obtain ⟨e', h5, h6⟩ := orderFine_behind k4 i hi2
      refine ⟨e', ?_, h6⟩
      rcases h5 with rfl | h5
      · simp
      · change e' ∈ r ++ [b] at h5
        simp only [List.mem_append, List.mem_cons, List.not_mem_nil, or_false] at h5
        rcases h5 with h5 | rfl <;> simp [*]

section main
variable {C : Cfg} {callf : Fn → List Value → AHeap → Option (Value × AHeap)} {nt : Nat} {ops : Array Oper} {σ0 : Pl} {H0 : AHeap} {w0 : World} {fin : Env × AHeap}

/-- All that turns no memory is put among those that wait. -/
theorem normalise (hfine : tmpsFine (beforeL ops.toList []) ops.toList = true) {listed : Array Bool} {twin : Option (Nat × Nat)} {envC : Env} {σ : Pl} {w : World} {tmps : Array Value} : ∀ {L : List Nat} {done : Nat} {P : List (Pend × Option Nat)} {pend : List Pend}
    {rest : List Nat} {env : Env} {H : AHeap}, Inv C callf nt ops (beforeL ops.toList []) σ0 H0 w0 listed done P pend rest env envC H σ w tmps → Shape (beforeL ops.toList []) ops done L twin rest →
    runDraw C callf nt ops (beforeL ops.toList []) twin L pend env H = some fin →
    ∃ done' P' pend' L' rest' env' H', Inv C callf nt ops (beforeL ops.toList []) σ0 H0 w0 listed done' P' pend' rest' env' envC H' σ w tmps ∧ Shape (beforeL ops.toList []) ops done' L' twin rest' ∧
      runDraw C callf nt ops (beforeL ops.toList []) twin L' pend' env' H' = some fin ∧ Norm ops L'
  | [], done, P, pend, rest, env, H, h, hs, hr => ⟨done, P, pend, [], rest, env, H, h, hs, hr, by intro i r e; cases e⟩
  | i :: L, done, P, pend, rest, env, H, h, hs, hr => by
    obtain ⟨o, ho, v, H', env', hput, hcase⟩ := runDraw_cons hr
    rcases hcase with ⟨he, _, _, _⟩ | ⟨he, hcase⟩
    · exact ⟨done, P, pend, i :: L, rest, env, H, h, hs, hr, by intro i' r' e; cases e; exact ⟨o, ho, he⟩⟩
    · obtain ⟨rest', e, hs', hb⟩ := hs.tail
      rcases hcase with ⟨hw, hv, hH, hr'⟩ | ⟨hw, k, hk, hop, hr'⟩
      · obtain ⟨P', h'⟩ := h.advance hfine e hb ho hput (pend' := pend) (fun _ => id) (.inl ⟨hw, hv, hH⟩)
        exact normalise hfine h' hs' hr'
      · cases k with
        | eff => rw [kind_eff hk |>.2 rfl] at he; cases he
        | pure =>
          obtain ⟨rfl, hp⟩ := kind_pure hk hop
          obtain ⟨P', h'⟩ := h.advance hfine e hb ho hput (pend' := pend) (fun _ => id) (.inr ⟨hw, .inl ⟨rfl, .pure hp⟩⟩)
          exact normalise hfine h' hs' hr'
        | read =>
          obtain ⟨rfl, hp⟩ := kind_read hk hop
          obtain ⟨P', h'⟩ := h.advance hfine e hb ho hput (pend' := ⟨i, o, env, v⟩ :: pend) (fun _ hm => List.mem_cons_of_mem _ hm) (.inr ⟨hw, .inl ⟨rfl, .read hk (by simp)⟩⟩)
          exact normalise hfine h' hs' hr'
        | alloc =>
          obtain ⟨ob, hH, hro⟩ := abs_alloc hk hop
          obtain ⟨P', h'⟩ := h.advance hfine e hb ho hput (pend' := pend) (fun _ => id) (.inr ⟨hw, .inr ⟨ob, hH, hro, hk, hop⟩⟩)
          exact normalise hfine h' hs' hr'

theorem first_of (p : Nat → Bool) : ∀ (l : List Nat), (∃ x ∈ l, p x = true) → ∃ l1 x l2, l = l1 ++ x :: l2 ∧ p x = true ∧ ∀ y ∈ l1, p y = false
  | [], ⟨x, hx, _⟩ => by simp at hx
  | a :: l, h => by
    cases ha : p a with
    | true => exact ⟨[], a, l, rfl, ha, by simp⟩
    | false =>
      obtain ⟨x, hx, hp⟩ := h
      have hx' : x ∈ l := by
        rcases List.mem_cons.1 hx with rfl | h
        · rw [ha] at hp; cases hp
        · exact h
      obtain ⟨l1, y, l2, rfl, h2, h3⟩ := first_of p l ⟨x, hx', hp⟩
      refine ⟨a :: l1, y, l2, rfl, h2, fun z hz => ?_⟩
      rcases List.mem_cons.1 hz with rfl | hz
      · exact ha
      · exact h3 z hz

/-- The model's order ends only where all is done. -/
theorem all_listed {O : List Nat} (hO : ∀ i, i < ops.size ↔ i ∈ O) (hbef : ∀ (O1 : List Nat) (i : Nat) (O2 : List Nat), O = O1 ++ i :: O2 → ∀ k, hasBit ((beforeL ops.toList []).getD i 0) k = true → k ∈ O1) {listed : Array Bool}
    (hsize : listed.size = ops.size) (hr : Region.ready .any ops listed = []) : ∀ i, i < ops.size → listed.getD i false = true := by
  intro i hi
  cases hv : listed.getD i false with
  | true => rfl
  | false =>
    exfalso
    obtain ⟨O1, x, O2, rfl, h2, h3⟩ := first_of (fun i => !listed.getD i false) O ⟨i, (hO i).1 hi, by rw [hv]; rfl⟩
    have hx : x < ops.size := (hO x).2 (by simp)
    have hmem : x ∈ Region.ready .any ops listed := by
      refine mem_ready.2 ⟨?_, ops[x], Array.getElem?_eq_getElem hx, fun e he hb => ?_⟩
      · have hx' : x < listed.size := by omega
        simp [hx'] at h2 ⊢
        exact h2
      · have := hbef O1 x O2 rfl e.on (bef_waits ⟨ops[x], Array.getElem?_eq_getElem hx, e, he, hb, rfl⟩)
        have := h3 _ this
        simpa using this
    rw [hr] at hmem
    cases hmem

theorem stillR_norm {twin : Option (Nat × Nat)} {done : Nat} {L rest : List Nat} {pend : List Pend} {env : Env} {H : AHeap} (hs : Shape (beforeL ops.toList []) ops done L twin rest) (hn : Norm ops L)
    (h : runDraw C callf nt ops (beforeL ops.toList []) twin L pend env H = some fin) : stillR C H pend = true := by
  cases L with
  | nil =>
    cases hs with
    | one _ =>
      simp only [runDraw] at h
      split at h
      · rename_i hs; exact hs
      · simp at h
    | two _ _ _ hi hj =>
      obtain ⟨oi, hi1, hi2⟩ := hi
      obtain ⟨oj, hj1, hj2⟩ := hj
      simp only [runDraw] at h
      exact (runTwin_seq (callf := callf) (nt := nt) hi1 hj1 hi2 hj2 h).1
  | cons i r =>
    obtain ⟨o, ho, v, H', env', hput, hcase⟩ := runDraw_cons h
    obtain ⟨o', ho', he'⟩ := hn i r rfl
    rw [ho] at ho'; cases ho'
    rcases hcase with ⟨_, hs, _, _⟩ | ⟨he, _⟩
    · exact hs
    · rw [he'] at he; cases he

theorem draw_sim (hcall : CallOK C callf) (hdeq : ∀ a b, C.deq a b = true → a = b) (hg0 : GlobR C σ0) (hr0 : Rel C.P σ0 H0 w0) (hfine : tmpsFine (beforeL ops.toList []) ops.toList = true)
    {O : List Nat} (hO : ∀ i, i < ops.size ↔ i ∈ O) (hbef : ∀ (O1 : List Nat) (i : Nat) (O2 : List Nat), O = O1 ++ i :: O2 → ∀ k, hasBit ((beforeL ops.toList []).getD i 0) k = true → k ∈ O1) {b : Frame} (hb : BOK b) (k : List Item) (cs : List Frame) :
    ∀ {listed : Array Bool} {l : List Nat}, Lin ops listed l → ∀ {done : Nat} {P : List (Pend × Option Nat)} {pend : List Pend} {L rest : List Nat} {twin : Option (Nat × Nat)} {env envC : Env} {H : AHeap} {σ : Pl} {w : World} {tmps : Array Value},
      Inv C callf nt ops (beforeL ops.toList []) σ0 H0 w0 listed done P pend rest env envC H σ w tmps → Shape (beforeL ops.toList []) ops done L twin rest →
      runDraw C callf nt ops (beforeL ops.toList []) twin L pend env H = some fin →
      ∃ tmps' w' σ', Step C.P σ0 H0 w0 σ' fin.2 w' ∧ EnvR σ' nt fin.1 tmps' ∧ Steps C.P (lone (fput b tmps (.inRegion ops l :: k)) cs w) (lone (fput b tmps' (.inRegion ops [] :: k)) cs w')
  | listed, _, .nil hr, done, P, pend, L, rest, twin, env, envC, H, σ, w, tmps, h0, hs0, hd0 => by
    obtain ⟨done, P, pend, L, rest, env, H, h, hs, hd, hn⟩ := normalise hfine h0 hs0 hd0
    have hall := all_listed hO hbef h.size hr
    have hempty : ∀ i, ¬ ((∃ x ∈ P, x.1.i = i) ∨ i ∈ rest) := fun i hi => by
      obtain ⟨h1, h2⟩ := (h.mem i).2 hi
      rw [hall i h1] at h2; cases h2
    have hP : P = [] := by
      cases P with
      | nil => rfl
      | cons x P => exact absurd (.inl ⟨x, by simp, rfl⟩) (hempty x.1.i)
    have hrest : rest = [] := by
      cases rest with
      | nil => rfl
      | cons x P => exact absurd (.inr (by simp)) (hempty x)
    subst hP
    cases hs with
    | two _ _ _ _ _ => simp at hrest
    | one _ =>
      subst hrest
      simp only [runDraw] at hd
      split at hd
      · simp only [Option.some.injEq] at hd
        subst hd
        refine ⟨tmps, w, σ, h.step, ⟨h.envr.1, fun t => ?_⟩, Steps.refl _ _⟩
        have := h.e1 t (by simp)
        show VR σ (getE env t) _
        rw [← this]
        exact h.envr.2 t
      · simp at hd
  | listed, _, .cons hi hl, done, P, pend, L, rest, twin, env, envC, H, σ, w, tmps, h0, hs0, hd0 => by
    rename_i i l
    obtain ⟨done, P, pend, L, rest, env, H, h, hs, hd, hn⟩ := normalise hfine h0 hs0 hd0
    obtain ⟨hun, hwait, hb'⟩ := h.ready hi
    have hst := stillR_norm hs hn hd
    rcases (h.mem i).1 hun with hP | hrest
    · obtain ⟨P', envC', σ', w', tmps', h', hsteps⟩ := h.execP hcall hdeq hg0 hr0 hfine hi hP hst hb l k cs
      obtain ⟨tmps'', w'', σ'', q1, q2, q3⟩ := draw_sim hcall hdeq hg0 hr0 hfine hO hbef hb k cs hl h' hs hd
      exact ⟨tmps'', w'', σ'', q1, q2, hsteps.trans q3⟩
    · cases L with
      | nil =>
        cases hs with
        | one _ => simp at hrest
        | two h1 h2 hij hoi hoj =>
          rename_i a c last
          obtain ⟨oi, hi1, hi2⟩ := hoi
          obtain ⟨oj, hj1, hj2⟩ := hoj
          simp only [runDraw] at hd
          obtain ⟨_, d1, d2⟩ := runTwin_seq (callf := callf) (nt := nt) hi1 hj1 hi2 hj2 hd
          obtain ⟨f1, g1, _, _⟩ := orderFine_head h1
          obtain ⟨f2, g2, _, _⟩ := orderFine_head h2
          have lastone : ∀ {x y : Nat}, hasBit done y = false → (∀ k, hasBit ((beforeL ops.toList []).getD y 0) k = true → hasBit done k = true) → x ≠ y → orderFine (beforeL ops.toList []) (ops.toList.map effectful) [y] (done ||| 2 ^ x) none = true := by
            intro x y hy hby hxy
            simp only [orderFine, Bool.and_eq_true, Bool.not_eq_true', and_true]
            refine ⟨?_, within_iff.2 fun k hk => by rw [hasBit_or, hby k hk]; rfl⟩
            rw [hasBit_or, hy, Bool.false_or]
            cases hv : hasBit (2 ^ x) y with
            | false => rfl
            | true => exact absurd ((hasBit_pow x y).1 hv) hxy
          have hcase : i = a ∨ i = c := by simpa using hrest
          rcases hcase with rfl | rfl
          · obtain ⟨o, ho, v, H', env', hput, hc⟩ := runDraw_cons d1
            have heff : effectful oi = true := by obtain ⟨_, _, _, e, _⟩ := plainStore_form hi2; exact effectful_store e
            rw [hi1] at ho; cases ho
            rcases hc with ⟨_, _, hc, hd'⟩ | ⟨he, _⟩
            · obtain ⟨envC', σ', w', tmps', h', hsteps⟩ := h.execE hcall hg0 hr0 hfine hi hi1 hput hc hb l k cs
              obtain ⟨tmps'', w'', σ'', q1, q2, q3⟩ := draw_sim hcall hdeq hg0 hr0 hfine hO hbef hb k cs hl h' (.one (lastone f2 g2 hij)) hd'
              exact ⟨tmps'', w'', σ'', q1, q2, hsteps.trans q3⟩
            · rw [heff] at he; cases he
          · obtain ⟨o, ho, v, H', env', hput, hc⟩ := runDraw_cons d2
            have heff : effectful oj = true := by obtain ⟨_, _, _, e, _⟩ := plainStore_form hj2; exact effectful_store e
            rw [hj1] at ho; cases ho
            have hsw : Inv C callf nt ops (beforeL ops.toList []) σ0 H0 w0 listed done P pend [i, a] env envC H σ w tmps :=
              { h with
                mem := fun m => by rw [h.mem m]; simp only [List.nil_append, List.mem_cons, List.not_mem_nil, or_false]; exact or_congr_right or_comm
                fresh := fun m hm => h.fresh m (by simp only [List.nil_append, List.mem_cons, List.not_mem_nil, or_false] at hm ⊢; exact hm.symm)
                nd := by simp; exact fun e => hij e.symm }
            rcases hc with ⟨_, _, hc, hd'⟩ | ⟨he, _⟩
            · obtain ⟨envC', σ', w', tmps', h', hsteps⟩ := hsw.execE hcall hg0 hr0 hfine hi hj1 hput hc hb l k cs
              obtain ⟨tmps'', w'', σ'', q1, q2, q3⟩ := draw_sim hcall hdeq hg0 hr0 hfine hO hbef hb k cs hl h' (.one (lastone f1 g1 fun e => hij e.symm)) hd'
              exact ⟨tmps'', w'', σ'', q1, q2, hsteps.trans q3⟩
            · rw [heff] at he; cases he
      | cons e r =>
        obtain ⟨o, ho, v, H', env', hput, hc⟩ := runDraw_cons hd
        obtain ⟨o', ho', he'⟩ := hn e r rfl
        rw [ho] at ho'; cases ho'
        by_cases hie : i = e
        · subst hie
          obtain ⟨rest', e2, hs', _⟩ := hs.tail
          subst e2
          rcases hc with ⟨_, _, hc, hd'⟩ | ⟨he, _⟩
          · obtain ⟨envC', σ', w', tmps', h', hsteps⟩ := h.execE hcall hg0 hr0 hfine hi ho hput hc hb l k cs
            obtain ⟨tmps'', w'', σ'', q1, q2, q3⟩ := draw_sim hcall hdeq hg0 hr0 hfine hO hbef hb k cs hl h' hs' hd'
            exact ⟨tmps'', w'', σ'', q1, q2, hsteps.trans q3⟩
          · rw [he'] at he; cases he
        · exfalso
          obtain ⟨e', m1, m2⟩ := hs.behind ho he' hrest hie
          have h1 := hb' e' m2
          have h2 := ((h.mem e').2 (.inr m1)).2
          rw [h1] at h2; cases h2

end main

theorem orderFine_nodup {bef : List Nat} {eff : List Bool} : ∀ {l : List Nat} {done : Nat} {last : Option Nat}, orderFine bef eff l done last = true → l.Nodup
  | [], _, _, _ => List.nodup_nil
  | j :: r, done, last, h => by
    obtain ⟨_, _, _, h4⟩ := orderFine_head h
    refine List.nodup_cons.2 ⟨fun hj => ?_, orderFine_nodup h4⟩
    have := orderFine_fresh h4 j hj
    rw [hasBit_or, Bool.or_eq_false_iff] at this
    have h2 := this.2
    rw [(hasBit_pow j j).2 rfl] at h2; cases h2

/-- A drawn region. -/
theorem reg_draw {C : Cfg} {callf : Fn → List Value → AHeap → Option (Value × AHeap)} (hcall : CallOK C callf) (hdeq : ∀ a b, C.deq a b = true → a = b) (hmixed : C.P.follows .mixedOrders = true) {nt : Nat} {ops : Array Oper} : RegOK C callf nt ops true := by
  intro env env' H H' h σ w tmps hg hr he b hb id k cs
  simp only [runRegion] at h
  split at h
  · rename_i hf
    obtain ⟨p1, p2, p3, p4, p5⟩ := planned hf
    rw [p1] at h p2 p4 p5
    have hsched : Lin ops (Array.replicate ops.size false) (Region.schedule (C.P.follows .mixedOrders) ops (w.tape w.drawn (.order b.fn id))) := by rw [hmixed]; exact lin_schedule _
    have hrel' := hr.of_heap (w' := { w with drawn := w.drawn + 1 }) rfl
    obtain ⟨rest, hshape, hO, hbef⟩ : ∃ rest, Shape (beforeL ops.toList []) ops 0 (planOf ops).order (planOf ops).twin rest ∧ (∀ i, i < ops.size ↔ i ∈ rest) ∧
        ∀ (O1 : List Nat) (i : Nat) (O2 : List Nat), rest = O1 ++ i :: O2 → ∀ k, hasBit ((beforeL ops.toList []).getD i 0) k = true → k ∈ O1 := by
      have plainB : ∀ {l : List Nat} {last : Option Nat}, orderFine (beforeL ops.toList []) (ops.toList.map effectful) l 0 last = true → ∀ (O1 : List Nat) (i : Nat) (O2 : List Nat), l = O1 ++ i :: O2 → ∀ k, hasBit ((beforeL ops.toList []).getD i 0) k = true → k ∈ O1 := by
        intro l last hl O1 i O2 e k hk
        rcases orderFine_bef hl O1 i O2 e k hk with h1 | h1
        · rw [hasBit_zero] at h1; cases h1
        · exact h1
      cases ht : (planOf ops).twin with
      | none => exact ⟨_, .one (p4 ht), fun i => by rw [p3 i, ht]; simp, plainB (p4 ht)⟩
      | some ij =>
        obtain ⟨i, j⟩ := ij
        obtain ⟨hij, f1, f2, s1, s2⟩ := p5 i j ht
        refine ⟨_, .two f1 f2 hij s1 s2, fun m => ?_, fun O1 m O2 e k hk => ?_⟩
        · rw [p3 m, ht]
          simp only [List.mem_append, List.mem_cons, List.not_mem_nil, or_false, Option.some.injEq, Prod.mk.injEq]
          constructor
          · rintro (h | ⟨a, b, ⟨rfl, rfl⟩, h⟩)
            · exact .inl h
            · exact .inr h
          · rintro (h | h)
            · exact .inl h
            · exact .inr ⟨i, j, ⟨rfl, rfl⟩, h⟩
        · -- where m stands
          rcases List.append_eq_append_iff.1 e with ⟨as, e1, e2⟩ | ⟨bs, e1, e2⟩
          · cases as with
            | nil =>
              simp at e1 e2
              obtain ⟨rfl, rfl⟩ := e2
              subst e1
              exact plainB f1 _ _ [] rfl k hk
            | cons x xs =>
              simp at e2
              obtain ⟨rfl, e2⟩ := e2
              cases xs with
              | nil =>
                simp at e2
                obtain ⟨rfl, rfl⟩ := e2
                have := plainB f2 _ _ [] rfl k hk
                rw [e1]; simp [this]
              | cons y ys =>
                simp at e2
          · cases bs with
            | nil =>
              simp at e1 e2
              obtain ⟨rfl, rfl⟩ := e2
              subst e1
              exact plainB f1 _ _ [] rfl k hk
            | cons x xs =>
              simp at e2
              obtain ⟨rfl, e2⟩ := e2
              refine plainB f1 O1 m (xs ++ [i]) ?_ k hk
              rw [e1]; simp
    have hnd : rest.Nodup := by
      generalize (planOf ops).twin = tw at hshape
      generalize (planOf ops).order = od at hshape
      cases hshape with
      | one h => exact orderFine_nodup h
      | two h1 h2 hij _ _ =>
        rename_i i j last
        have n1 := orderFine_nodup h1
        have n2 := orderFine_nodup h2
        rw [List.nodup_append] at n1 n2 ⊢
        refine ⟨n1.1, by simp [hij], ?_⟩
        intro a ha b hb
        rcases List.mem_cons.1 hb with rfl | hb
        · exact n1.2.2 a ha b (by simp)
        · exact n2.2.2 a ha b hb
    have hinv : Inv C callf nt ops (beforeL ops.toList []) σ H { w with drawn := w.drawn + 1 } (Array.replicate ops.size false) 0 [] [] rest env env H σ { w with drawn := w.drawn + 1 } tmps :=
      { size := by simp
        closed := fun m k hm _ => by
          exfalso
          rw [Array.getD_eq_getD_getElem?, Array.getElem?_replicate] at hm
          split at hm <;> simp at hm
        step := Step.refl hrel'
        envr := he
        mem := fun i => by
          rw [hO i]
          constructor
          · rintro ⟨h, _⟩; exact .inr h
          · rintro (⟨x, hx, _⟩ | h)
            · simp at hx
            · refine ⟨h, ?_⟩
              rw [Array.getD_eq_getD_getElem?, Array.getElem?_replicate]
              split <;> simp
        dn := fun k => by
          rw [hasBit_zero]
          constructor
          · intro h; cases h
          · rintro (⟨x, hx, _⟩ | h)
            · simp at hx
            · exfalso
              rw [Array.getD_eq_getD_getElem?, Array.getElem?_replicate] at h
              split at h <;> simp at h
        fresh := fun i _ => hasBit_zero i
        nd := hnd
        bf := by simp
        ok := by simp
        al := by simp
        e1 := fun t _ => rfl
        e3 := by simp
        e2a := by simp
        e2b := by simp }
    obtain ⟨tmps', w', σ', q1, q2, q3⟩ := draw_sim hcall hdeq hg hrel' p2 hO hbef hb k cs hsched hinv hshape h
    exact ⟨tmps', w', σ', (Step.drew hr).trans q1 hr, q2, .head (st_region_draw hb) (q3.trans (.one (st_region_end hb)))⟩
  · simp at h

/-- What must hold of a program. -/
theorem cok {C : Cfg} (names : ∀ (f : Nat) (fn : Func), C.P.funcs.toList[f]? = some fn → fn.body.isSome = true → (fn.name == "runtime.NumGoroutine") = false)
    (prims : ∀ {f : FuncId} {p : List Value → AHeap → Option (Value × AHeap)}, C.prim f = some p → ∀ {args : List Value} {H : AHeap} {v : Value} {H' : AHeap}, p args H = some (v, H') →
      ∀ {σ : Pl} {w : World} {cargs : Array Value}, GlobR C σ → Rel C.P σ H w → VRs σ args cargs.toList → OpGoes C.P σ H w ((callFunc f cargs).run C.P w) v H')
    (hdeq : ∀ a b, C.deq a b = true → a = b) (hmixed : C.P.follows .mixedOrders = true) : COk C :=
  { names := names, prims := prims, regs := fun hcall nt ops draw => by
      cases draw with
      | false => exact reg_seq hcall
      | true => exact reg_draw hcall hdeq hmixed }

end Go.AE
