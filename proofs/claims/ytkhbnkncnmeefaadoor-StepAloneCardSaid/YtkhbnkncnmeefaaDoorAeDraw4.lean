/-
  AE: drawn regions, fourth part: which orders there are; what the checks of the canonical order say.
-/
import Derived.Test.YtkhbnkncnmeefaaDoorAeDraw3
namespace Go.AE

/-! ### Sets of numbers as bits -/
theorem hasBit_or (a b i : Nat) : hasBit (a ||| b) i = (hasBit a i || hasBit b i) := by simp [hasBit]
theorem hasBit_pow (k i : Nat) : hasBit (2 ^ k) i = true ↔ k = i := by simp [hasBit, Nat.testBit_two_pow]
theorem hasBit_zero (i : Nat) : hasBit 0 i = false := by simp [hasBit]
theorem within_iff {m d : Nat} : within m d = true ↔ ∀ k, hasBit m k = true → hasBit d k = true := by
  unfold within
  constructor
  · intro h k hk
    have e := Nat.eq_of_beq_eq_true h
    rw [← e] at hk
    simp only [hasBit, Nat.testBit_and, Bool.and_eq_true] at hk
    exact hk.2
  · intro h
    have e : m &&& d = m := by
      apply Nat.eq_of_testBit_eq
      intro i
      rw [Nat.testBit_and]
      cases hm : m.testBit i with
      | false => simp
      | true => have := h i hm; simp only [hasBit] at this; simp [this]
    rw [e]; simp

theorem maskOf_bit : ∀ (l : List Nat) (k : Nat), hasBit (maskOf l) k = true ↔ k ∈ l
  | [], k => by simp [maskOf, hasBit_zero]
  | i :: r, k => by
    rw [maskOf, hasBit_or, Bool.or_eq_true, hasBit_pow, maskOf_bit r k, List.mem_cons]
    constructor
    · rintro (h | h)
      · exact .inl h.symm
      · exact .inr h
    · rintro (h | h)
      · exact .inl h.symm
      · exact .inr h

/-! ### Who waits for whom -/
def Waits (ops : Array Oper) (i k : Nat) : Prop := ∃ o, ops[i]? = some o ∧ ∃ e ∈ o.after, Region.binds .any e = true ∧ e.on = k

def stepB (o : Oper) (acc : List Nat) : Nat := o.after.toList.foldl (fun s e => match Region.binds .any e with
      | true => s ||| 2 ^ e.on ||| acc.getD e.on 0
      | false => s) 0

theorem stepB_bit (o : Oper) (acc : List Nat) (k : Nat) : hasBit (stepB o acc) k = true ↔ ∃ e ∈ o.after, Region.binds .any e = true ∧ (e.on = k ∨ hasBit (acc.getD e.on 0) k = true) := by
  have key : ∀ (l : List Edge) (s : Nat), hasBit (l.foldl (fun s e => match Region.binds .any e with
      | true => s ||| 2 ^ e.on ||| acc.getD e.on 0
      | false => s) s) k = true ↔ hasBit s k = true ∨ ∃ e ∈ l, Region.binds .any e = true ∧ (e.on = k ∨ hasBit (acc.getD e.on 0) k = true) := by
    intro l
    induction l with
    | nil => intro s; simp
    | cons e r ih =>
      intro s
      rw [List.foldl_cons, ih]
      cases hb : Region.binds .any e with
      | false =>
        simp only [List.mem_cons]
        constructor
        · rintro (h | ⟨e', h1, h2⟩)
          · exact .inl h
          · exact .inr ⟨e', .inr h1, h2⟩
        · rintro (h | ⟨e', h1 | h1, h2⟩)
          · exact .inl h
          · subst h1; rw [hb] at h2; simp at h2
          · exact .inr ⟨e', h1, h2⟩
      | true =>
        simp only [hasBit_or, Bool.or_eq_true, hasBit_pow, List.mem_cons]
        constructor
        · rintro (((h | h) | h) | ⟨e', h1, h2⟩)
          · exact .inl h
          · exact .inr ⟨e, .inl rfl, hb, .inl h⟩
          · exact .inr ⟨e, .inl rfl, hb, .inr h⟩
          · exact .inr ⟨e', .inr h1, h2⟩
        · rintro (h | ⟨e', h1 | h1, h2, h3⟩)
          · exact .inl (.inl (.inl h))
          · subst h1
            rcases h3 with h3 | h3
            · exact .inl (.inl (.inr h3))
            · exact .inl (.inr h3)
          · exact .inr ⟨e', h1, h2, h3⟩
  unfold stepB
  rw [key]
  simp [hasBit_zero]

theorem beforeL_pre : ∀ (l : List Oper) (acc : List Nat), ∃ s, beforeL l acc = acc ++ s
  | [], acc => ⟨[], by simp [beforeL]⟩
  | o :: r, acc => by
    obtain ⟨s, hs⟩ := beforeL_pre r (acc ++ [stepB o acc])
    exact ⟨stepB o acc :: s, by show beforeL r (acc ++ [stepB o acc]) = _; rw [hs]; simp⟩

theorem beforeL_at : ∀ (l : List Oper) (acc : List Nat) (j : Nat) (o : Oper), l[j]? = some o → (beforeL l acc).getD (acc.length + j) 0 = stepB o ((beforeL l acc).take (acc.length + j))
  | [], _, _, _, h => by simp at h
  | o' :: r, acc, 0, o, h => by
    simp at h; subst h
    show (beforeL r (acc ++ [stepB o' acc])).getD _ 0 = stepB o' ((beforeL r (acc ++ [stepB o' acc])).take _)
    obtain ⟨s, hs⟩ := beforeL_pre r (acc ++ [stepB o' acc])
    rw [hs]
    simp
  | o' :: r, acc, j + 1, o, h => by
    have := beforeL_at r (acc ++ [stepB o' acc]) j o (by simpa using h)
    simp only [List.length_append, List.length_singleton] at this
    rw [show acc.length + (j + 1) = acc.length + 1 + j by omega]
    exact this

theorem bef_at {ops : Array Oper} {i : Nat} {o : Oper} (h : ops[i]? = some o) (k : Nat) :
    hasBit ((beforeL ops.toList []).getD i 0) k = true ↔ ∃ e ∈ o.after, Region.binds .any e = true ∧ (e.on = k ∨ (e.on < i ∧ hasBit ((beforeL ops.toList []).getD e.on 0) k = true)) := by
  have h0 := beforeL_at ops.toList [] i o (by rw [Array.getElem?_toList]; exact h)
  simp only [List.length_nil, Nat.zero_add] at h0
  rw [h0, stepB_bit]
  have key : ∀ m, hasBit (((beforeL ops.toList []).take i).getD m 0) k = true ↔ (m < i ∧ hasBit ((beforeL ops.toList []).getD m 0) k = true) := by
    intro m
    rw [List.getD_eq_getElem?_getD, List.getD_eq_getElem?_getD]
    by_cases hm : m < i
    · rw [List.getElem?_take_of_lt hm]; simp [hm]
    · rw [List.getElem?_eq_none (by simp; omega)]; simp [hm, hasBit_zero]
  simp only [key]

theorem bef_waits {ops : Array Oper} {i k : Nat} (h : Waits ops i k) : hasBit ((beforeL ops.toList []).getD i 0) k = true := by
  obtain ⟨o, ho, e, he, hb, hk⟩ := h
  exact (bef_at ho k).2 ⟨e, he, hb, .inl hk⟩

/-- A set that whoever is in it waits for: so it holds all that is before. -/
theorem bef_closed {ops : Array Oper} {S : Nat → Prop} (hS : ∀ m k, S m → Waits ops m k → S k) : ∀ (i : Nat) (o : Oper), ops[i]? = some o → (∀ k, Waits ops i k → S k) → ∀ k, hasBit ((beforeL ops.toList []).getD i 0) k = true → S k := by
  intro i
  induction i using Nat.strongRecOn with
  | _ i ih =>
    intro o ho hw k hk
    obtain ⟨e, he, hb, h⟩ := (bef_at ho k).1 hk
    have hSe : S e.on := hw e.on ⟨o, ho, e, he, hb, rfl⟩
    rcases h with h | ⟨hlt, h⟩
    · exact h ▸ hSe
    · have hlt' : e.on < ops.size := Nat.lt_trans hlt (Array.getElem?_eq_some_iff.1 ho).1
      exact ih e.on hlt _ (Array.getElem?_eq_getElem hlt') (fun k' hk' => hS _ _ hSe hk') k h

/-! ### The orders of the model -/
inductive Lin (ops : Array Oper) : Array Bool → List Nat → Prop
  | nil {listed : Array Bool} : Region.ready .any ops listed = [] → Lin ops listed []
  | cons {listed : Array Bool} {i : Nat} {l : List Nat} : i ∈ Region.ready .any ops listed → Lin ops (listed.setIfInBounds i true) l → Lin ops listed (i :: l)

theorem getD_false_lt {listed : Array Bool} {j : Nat} (h : listed.getD j true = false) : ∃ hj : j < listed.size, listed[j] = false := by
  rcases Nat.lt_or_ge j listed.size with hj | hj
  · exact ⟨hj, by simpa [hj] using h⟩
  · simp [Array.getElem?_eq_none hj] at h

theorem lin_go {ops : Array Oper} : ∀ (fuel t : Nat) (listed : Array Bool), listed.toList.count false ≤ fuel → Lin ops listed (Region.linearise.go .any ops fuel t listed []) := by
  intro fuel
  induction fuel with
  | zero =>
    intro t listed h
    simp only [Region.linearise.go, List.reverse_nil]
    refine .nil ?_
    cases hr : Region.ready .any ops listed with
    | nil => rfl
    | cons i r =>
      exfalso
      have hi : i ∈ Region.ready .any ops listed := by rw [hr]; simp
      obtain ⟨h1, _⟩ := mem_ready.1 hi
      obtain ⟨hlt, hv⟩ := getD_false_lt h1
      have : false ∈ listed.toList := by rw [← hv]; simp
      have := List.count_pos_iff.2 this
      omega
  | succ fuel ih =>
    intro t listed h
    simp only [Region.linearise.go]
    change Lin ops listed (match (Region.ready .any ops listed)[t % (Region.ready .any ops listed).length]? with
      | some i => Region.linearise.go .any ops fuel (t / (Region.ready .any ops listed).length) (listed.setIfInBounds i true) [i]
      | none => [].reverse)
    cases hi : (Region.ready .any ops listed)[t % (Region.ready .any ops listed).length]? with
    | none =>
      have hnil : Region.ready .any ops listed = [] := by
        cases hr : Region.ready .any ops listed with
        | nil => rfl
        | cons x xs =>
          rw [hr] at hi
          have hlt : t % (x :: xs).length < (x :: xs).length := Nat.mod_lt _ (by simp)
          simp at hi
          simp at hlt
          omega
      exact .nil hnil
    | some i =>
      simp only []
      rw [linearise_go_acc, List.reverse_singleton, List.singleton_append]
      have hm := List.mem_of_getElem? hi
      refine .cons hm (ih _ _ ?_)
      obtain ⟨h1, _⟩ := mem_ready.1 hm
      obtain ⟨hlt, hv⟩ := getD_false_lt h1
      have hpos : 0 < listed.toList.count false := List.count_pos_iff.2 (by rw [← hv]; simp)
      have e1 : listed.toList[i]'(by simpa using hlt) = false := by simpa using hv
      rw [Array.toList_setIfInBounds, List.count_set (by simpa using hlt), e1]
      have e2 : (false == false) = true := rfl
      have e3 : (true == false) = false := rfl
      rw [e2, e3, if_pos rfl, if_neg (by simp)]
      omega

theorem lin_schedule {ops : Array Oper} (t : Nat) : Lin ops (Array.replicate ops.size false) (Region.schedule true ops t) := by
  simp only [Region.schedule, Bool.true_or, if_true, Region.linearise]
  exact lin_go _ _ _ (by simp)

/-! ### The canonical order -/
theorem orderFine_head {bef : List Nat} {eff : List Bool} {i : Nat} {r : List Nat} {done : Nat} {last : Option Nat} (h : orderFine bef eff (i :: r) done last = true) :
    hasBit done i = false ∧ (∀ k, hasBit (bef.getD i 0) k = true → hasBit done k = true) ∧ (∀ e, last = some e → hasBit (bef.getD i 0) e = true) ∧
    orderFine bef eff r (done ||| 2 ^ i) (match eff.getD i false with | true => some i | false => last) = true := by
  simp only [orderFine, Bool.and_eq_true, Bool.not_eq_true'] at h
  refine ⟨h.1.1.1, within_iff.1 h.1.1.2, ?_, h.2⟩
  rintro e rfl
  exact h.1.2

/-- Who stands behind an effect waits for one that is there. -/
theorem orderFine_behind {bef : List Nat} {eff : List Bool} : ∀ {l : List Nat} {done e : Nat}, orderFine bef eff l done (some e) = true → ∀ i ∈ l, ∃ e', (e' = e ∨ e' ∈ l) ∧ hasBit (bef.getD i 0) e' = true
  | [], _, _, _, _, hi => by simp at hi
  | j :: r, done, e, h, i, hi => by
    obtain ⟨_, _, h3, h4⟩ := orderFine_head h
    rcases List.mem_cons.1 hi with rfl | hi
    · exact ⟨e, .inl rfl, h3 e rfl⟩
    · cases he : eff.getD j false with
      | false =>
        rw [he] at h4
        obtain ⟨e', h5, h6⟩ := orderFine_behind h4 i hi
        exact ⟨e', h5.imp id fun x => List.mem_cons_of_mem _ x, h6⟩
      | true =>
        rw [he] at h4
        obtain ⟨e', h5, h6⟩ := orderFine_behind h4 i hi
        refine ⟨e', .inr ?_, h6⟩
        rcases h5 with rfl | h5
        · simp
        · exact List.mem_cons_of_mem _ h5

/-- None of the row is done. -/
theorem orderFine_fresh {bef : List Nat} {eff : List Bool} : ∀ {l : List Nat} {done : Nat} {last : Option Nat}, orderFine bef eff l done last = true → ∀ i ∈ l, hasBit done i = false
  | [], _, _, _, _, hi => by simp at hi
  | j :: r, done, last, h, i, hi => by
    obtain ⟨h1, _, _, h4⟩ := orderFine_head h
    rcases List.mem_cons.1 hi with rfl | hi
    · exact h1
    · have := orderFine_fresh h4 i hi
      rw [hasBit_or, Bool.or_eq_false_iff] at this
      exact this.1

/-- Each one's turn comes when what is before is done. -/
theorem orderFine_bef {bef : List Nat} {eff : List Bool} : ∀ {l : List Nat} {done : Nat} {last : Option Nat}, orderFine bef eff l done last = true → ∀ (l1 : List Nat) (i : Nat) (l2 : List Nat), l = l1 ++ i :: l2 →
      ∀ k, hasBit (bef.getD i 0) k = true → hasBit done k = true ∨ k ∈ l1
  | [], _, _, _, l1, i, l2, e, _, _ => by simp at e
  | j :: r, done, last, h, l1, i, l2, e, k, hk => by
    obtain ⟨_, h2, _, h4⟩ := orderFine_head h
    cases l1 with
    | nil => simp at e; obtain ⟨rfl, rfl⟩ := e; exact .inl (h2 k hk)
    | cons x l1 =>
      simp at e
      obtain ⟨rfl, rfl⟩ := e
      rcases orderFine_bef h4 l1 i l2 rfl k hk with h5 | h5
      · rw [hasBit_or, Bool.or_eq_true, hasBit_pow] at h5
        rcases h5 with h5 | rfl
        · exact .inl h5
        · exact .inr (by simp)
      · exact .inr (List.mem_cons_of_mem _ h5)

theorem lastTwo_eq : ∀ {l p : List Nat} {i j : Nat}, lastTwo l = some (p, i, j) → l = p ++ [i, j]
  | [], _, _, _, h => by simp [lastTwo] at h
  | [_], _, _, _, h => by simp [lastTwo] at h
  | [a, b], p, i, j, h => by simp [lastTwo] at h; obtain ⟨rfl, rfl, rfl⟩ := h; rfl
  | a :: b :: c :: r, p, i, j, h => by
    simp only [lastTwo] at h
    split at h
    · rename_i p' x y h'
      simp only [Option.some.injEq, Prod.mk.injEq] at h
      obtain ⟨rfl, rfl, rfl⟩ := h
      rw [lastTwo_eq h']; rfl
    · simp at h

/-- What the plan of a region promises. -/
structure Planned (ops : Array Oper) (p : Plan) : Prop where
  bef : p.bef = beforeL ops.toList []
  tmps : tmpsFine p.bef ops.toList = true
  all : ∀ i, i < ops.size ↔ (i ∈ p.order ∨ ∃ a b, p.twin = some (a, b) ∧ (i = a ∨ i = b))
  one : p.twin = none → orderFine p.bef (ops.toList.map effectful) p.order 0 none = true
  two : ∀ i j, p.twin = some (i, j) → i ≠ j ∧ orderFine p.bef (ops.toList.map effectful) (p.order ++ [i]) 0 none = true ∧ orderFine p.bef (ops.toList.map effectful) (p.order ++ [j]) 0 none = true ∧
    (∃ o, ops[i]? = some o ∧ plainStore o = true) ∧ ∃ o, ops[j]? = some o ∧ plainStore o = true

theorem planned {ops : Array Oper} (h : (planOf ops).fine = true) : Planned ops (planOf ops) := by
  have hall : ∀ {l : List Nat}, Nat.beq (maskOf l) (2 ^ ops.toList.length - 1) = true → ∀ i, i < ops.size ↔ i ∈ l := by
    intro l hl i
    have e := Nat.eq_of_beq_eq_true hl
    rw [← maskOf_bit, e]
    simp [hasBit, Nat.testBit_two_pow_sub_one]
  unfold planOf at h ⊢
  simp only at h ⊢
  split at h
  · rename_i pre i j hl
    have hord := lastTwo_eq hl
    split at h
    · rename_i h1 h2 _
      simp only [Bool.and_eq_true, Bool.not_eq_true'] at h
      obtain ⟨⟨⟨⟨h3, h4⟩, h5⟩, h6⟩, h7⟩ := h
      refine ⟨rfl, h3, ?_, by simp, ?_⟩
      · intro k
        rw [hall h4, hord]
        simp only [List.mem_append, List.mem_cons, List.not_mem_nil, or_false, Option.some.injEq, Prod.mk.injEq]
        constructor
        · rintro (h | h)
          · exact .inl h
          · exact .inr ⟨i, j, ⟨rfl, rfl⟩, h⟩
        · rintro (h | ⟨a, b, ⟨rfl, rfl⟩, h⟩)
          · exact .inl h
          · exact .inr h
      · rintro a b hab
        simp only [Option.some.injEq, Prod.mk.injEq] at hab
        obtain ⟨rfl, rfl⟩ := hab
        refine ⟨fun e => ?_, h5, h6, ?_, ?_⟩
        · subst e; simp at h7
        · simp only [Option.map_eq_some_iff] at h1
          obtain ⟨o, ho, hp⟩ := h1
          exact ⟨o, by rw [← Array.getElem?_toList]; exact ho, hp⟩
        · simp only [Option.map_eq_some_iff] at h2
          obtain ⟨o, ho, hp⟩ := h2
          exact ⟨o, by rw [← Array.getElem?_toList]; exact ho, hp⟩
    · rename_i hne
      simp only [Bool.and_eq_true] at h
      refine ⟨rfl, h.1.1, fun i => by rw [hall h.1.2]; simp, fun _ => h.2, by simp⟩
  · rename_i hl
    simp only [Bool.and_eq_true] at h
    refine ⟨rfl, h.1.1, fun i => by rw [hall h.1.2]; simp, fun _ => h.2, by simp⟩

/-! ### Temporaries -/
theorem tmpsFine_spec {bef : List Nat} {ops : List Oper} (h : tmpsFine bef ops = true) {i j : Nat} {oi oj : Oper} (hi : ops[i]? = some oi) (hj : ops[j]? = some oj) (hne : i ≠ j) {d : Tmp} (hd : oi.dst = some d) :
    oj.dst ≠ some d ∧ (d ∈ tmpsOf ops oj → hasBit (bef.getD i 0) j = true ∨ hasBit (bef.getD j 0) i = true) := by
  unfold tmpsFine at h
  simp only [List.all_eq_true] at h
  have mem : ∀ {i : Nat} {o : Oper}, ops[i]? = some o → (o, i) ∈ ops.zipIdx := fun {i o} hi => by
    rw [List.mem_zipIdx_iff_getElem?]; exact hi
  have h1 := h (oi, i) (mem hi)
  simp only [hd, List.all_eq_true] at h1
  have h2 := h1 (oj, j) (mem hj)
  simp only [Bool.or_eq_true, Bool.and_eq_true, Bool.not_eq_true'] at h2
  rcases h2 with h2 | ⟨h2, h3⟩
  · exact absurd (Nat.eq_of_beq_eq_true h2) hne
  · refine ⟨?_, fun hm => ?_⟩
    · intro e
      rw [e] at h2
      simp at h2
    · rcases h3 with (h3 | h3) | h3
      · rw [List.contains_iff_mem.2 hm] at h3; simp at h3
      · exact .inl h3
      · exact .inr h3

theorem wantedA_congr {ops : Array Oper} {env env' : Env} {o : Oper} (h : ∀ t ∈ tmpsOf ops.toList o, getE env t = getE env' t) : wantedA ops env o = wantedA ops env' o := by
  unfold wantedA
  cases hg : o.guard with
  | none => rfl
  | some p =>
    obtain ⟨j, want⟩ := p
    simp only
    cases hd : (ops.toList[j]?).bind (·.dst) with
    | none => rfl
    | some d =>
      have : getE env d = getE env' d := h d (by simp only [tmpsOf, hg, hd]; simp)
      simp only [this]

theorem eval_congr {C : Cfg} {ops : List Oper} {env env' : Env} {o : Oper} (h : ∀ t ∈ tmpsOf ops o, getE env t = getE env' t) : ∀ x ∈ o.op.operands, eval C env x = eval C env' x := by
  intro x hx
  cases x with
  | tmp t =>
    refine h t ?_
    simp only [tmpsOf, List.mem_append, List.mem_filterMap]
    exact .inl ⟨.tmp t, by simpa using hx, rfl⟩
  | _ => rfl

end Go.AE
