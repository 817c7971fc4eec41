/-
  AE: what abstract values and memory stand for: the relation to the model's worlds, and what each kind of change does to it.
-/
import Derived.Test.YtkhbnkncnmeefaaDoorAeDefs
import Derived.Laws.Rows
import Derived.Laws.Sem
namespace Go.AE

structure Place where
  b : Nat
  d : Int
  lo : Nat
  sz : Nat
  s : Nat

abbrev Pl := Nat → Nat → Option Place

mutual
inductive VR (σ : Pl) : Value → Value → Prop
  | junk (c : Value) : VR σ (.chan (some 0)) c
  | same (v : Value) : flat v = true → VR σ v v
  | ptr {F i g : Nat} {pl : Place} {o : Nat} : σ F g = some pl → pl.lo ≤ i → (o : Int) = i + pl.d → VR σ (.pointer (some ⟨F, i, some g⟩)) (.pointer (some ⟨pl.b, o, none⟩))
  | slice {F i room len g : Nat} {pl : Place} {o cap : Nat} : σ F g = some pl → pl.lo ≤ i → len ≤ room → room ≤ cap →
      (cap = 0 ∨ ((o : Int) = i + pl.d ∧ o + cap * pl.s ≤ pl.sz)) → VR σ (.slice (some ⟨F, i, some room⟩) len g) (.slice (some ⟨pl.b, o, none⟩) len cap)
  | bare (a : Addr) : VR σ (.slice (some ⟨0, 0, none⟩) 0 0) (.slice (some a) 0 0)
  | map {F : Nat} {pl : Place} : σ F 0 = some pl → VR σ (.map (some F)) (.map (some pl.b))
  | func {fn : Fn} {a b a' b' : List Value} : (∀ l, fn ≠ .yield l) → VRs σ a a' → VRs σ b b' → VR σ (.func fn ⟨a⟩ ⟨b⟩) (.func fn ⟨a'⟩ ⟨b'⟩)
  | yield {l : Nat} {pl : Place} : σ l 0 = some pl → VR σ (.func (.yield l) ⟨[]⟩ ⟨[]⟩) (.func (.yield pl.b) ⟨[]⟩ ⟨[]⟩)
  | iface {t : TypeId} {v v' : Value} : VR σ v v' → VR σ (.iface t v) (.iface t v')
  | agg {a b : List Value} : VRs σ a b → VR σ (.agg ⟨a⟩) (.agg ⟨b⟩)
  | tuple {a b : List Value} : VRs σ a b → VR σ (.tuple ⟨a⟩) (.tuple ⟨b⟩)
inductive VRs (σ : Pl) : List Value → List Value → Prop
  | nil : VRs σ [] []
  | cons {v v' : Value} {l l' : List Value} : VR σ v v' → VRs σ l l' → VRs σ (v :: l) (v' :: l')
end

/-! ### Flat values -/
theorem flatN_succ : ∀ (n : Nat) (v : Value), flatN n v = true → flatN (n + 1) v = true := by
  intro n
  induction n with
  | zero => intro v h; simp [flatN] at h
  | succ n ih =>
    intro v h
    cases v <;> simp only [flatN] at h ⊢ <;> try exact h
    · exact ih _ h
    · rw [List.all_eq_true] at h ⊢; exact fun x hx => ih x (h x hx)
    · rw [List.all_eq_true] at h ⊢; exact fun x hx => ih x (h x hx)

theorem flatN_add (n k : Nat) (v : Value) (h : flatN n v = true) : flatN (n + k) v = true := by
  induction k with
  | zero => exact h
  | succ k ih => exact flatN_succ _ _ ih

theorem flat_of_flatN {n : Nat} (hn : n ≤ 6) {v : Value} (h : flatN n v = true) : flat v = true := by
  have := flatN_add n (6 - n) v h
  rwa [show n + (6 - n) = 6 by omega] at this

theorem flatN_agg (n : Nat) (cs : Array Value) : flatN (n + 1) (.agg cs) = cs.toList.all (flatN n) := rfl
theorem flatN_tuple (n : Nat) (cs : Array Value) : flatN (n + 1) (.tuple cs) = cs.toList.all (flatN n) := rfl
theorem flatN_iface (n : Nat) (t : TypeId) (v : Value) : flatN (n + 1) (.iface t v) = flatN n v := rfl

theorem VRs_same {σ : Pl} : ∀ {l : List Value}, (∀ v ∈ l, flat v = true) → VRs σ l l
  | [], _ => .nil
  | v :: l, h => .cons (.same v (h v (by simp))) (VRs_same fun x hx => h x (by simp [hx]))

theorem flat_agg {cs : Array Value} (h : flat (.agg cs) = true) : ∀ v ∈ cs.toList, flat v = true := by
  intro v hv
  have h' : flatN (5 + 1) (.agg cs) = true := h
  rw [flatN_agg, List.all_eq_true] at h'
  exact flat_of_flatN (by omega) (h' v hv)

theorem flat_tuple {cs : Array Value} (h : flat (.tuple cs) = true) : ∀ v ∈ cs.toList, flat v = true := by
  intro v hv
  have h' : flatN (5 + 1) (.tuple cs) = true := h
  rw [flatN_tuple, List.all_eq_true] at h'
  exact flat_of_flatN (by omega) (h' v hv)

section inv
variable {σ : Pl} {c : Value}

theorem VR.int_inv {k : IntKind} {n : Int} (h : VR σ (.int k n) c) : c = .int k n := by cases h; rfl
theorem VR.bool_inv {b : Bool} (h : VR σ (.bool b) c) : c = .bool b := by cases h; rfl
theorem VR.string_inv {s : ByteArray} (h : VR σ (.string s) c) : c = .string s := by cases h; rfl
theorem VR.nilp_inv (h : VR σ (.pointer none) c) : c = .pointer none := by cases h; rfl
theorem VR.nils_inv {l k : Nat} (h : VR σ (.slice none l k) c) : c = .slice none 0 0 ∧ l = 0 ∧ k = 0 := by
  cases h with
  | same v hf => simp [flat, flatN] at hf; exact ⟨by rw [hf.1, hf.2], hf.1, hf.2⟩
theorem VR.nilm_inv (h : VR σ (.map none) c) : c = .map none := by cases h; rfl
theorem VR.nilFunc_inv (h : VR σ .nilFunc c) : c = .nilFunc := by cases h; rfl
theorem VR.nilIface_inv (h : VR σ .nilIface c) : c = .nilIface := by cases h; rfl
theorem VR.ptr_inv {F i g : Nat} (h : VR σ (.pointer (some ⟨F, i, some g⟩)) c) :
    ∃ pl o, c = .pointer (some ⟨pl.b, o, none⟩) ∧ σ F g = some pl ∧ pl.lo ≤ i ∧ (o : Int) = i + pl.d := by
  cases h with
  | same v hf => simp [flat, flatN] at hf
  | ptr h1 h2 h3 => exact ⟨_, _, rfl, h1, h2, h3⟩
theorem VR.slice_inv {F i room len g : Nat} (h : VR σ (.slice (some ⟨F, i, some room⟩) len g) c) :
    ∃ pl o cap, c = .slice (some ⟨pl.b, o, none⟩) len cap ∧ σ F g = some pl ∧ pl.lo ≤ i ∧ len ≤ room ∧ room ≤ cap ∧ (cap = 0 ∨ ((o : Int) = i + pl.d ∧ o + cap * pl.s ≤ pl.sz)) := by
  cases h with
  | same v hf => simp [flat, flatN] at hf
  | slice h1 h2 h3 h4 h5 => exact ⟨_, _, _, rfl, h1, h2, h3, h4, h5⟩
theorem VR.bare_inv {F i l k : Nat} (h : VR σ (.slice (some ⟨F, i, none⟩) l k) c) : (∃ a, c = .slice (some a) 0 0) ∧ F = 0 ∧ i = 0 ∧ l = 0 ∧ k = 0 := by
  cases h with
  | same v hf => simp [flat, flatN] at hf
  | bare a => exact ⟨⟨a, rfl⟩, rfl, rfl, rfl, rfl⟩
theorem VR.map_inv {F : Nat} (h : VR σ (.map (some F)) c) : ∃ pl, c = .map (some pl.b) ∧ σ F 0 = some pl := by
  cases h with
  | same v hf => simp [flat, flatN] at hf
  | map h => exact ⟨_, rfl, h⟩
theorem VR.agg_inv {a : Array Value} (h : VR σ (.agg a) c) : ∃ b, c = .agg b ∧ VRs σ a.toList b.toList := by
  cases h with
  | same v hf => exact ⟨a, rfl, VRs_same (flat_agg hf)⟩
  | agg h => exact ⟨_, rfl, h⟩
theorem VR.tuple_inv {a : Array Value} (h : VR σ (.tuple a) c) : ∃ b, c = .tuple b ∧ VRs σ a.toList b.toList := by
  cases h with
  | same v hf => exact ⟨a, rfl, VRs_same (flat_tuple hf)⟩
  | tuple h => exact ⟨_, rfl, h⟩
theorem VR.iface_inv {t : TypeId} {v : Value} (h : VR σ (.iface t v) c) : ∃ v', c = .iface t v' ∧ VR σ v v' := by
  cases h with
  | same _ hf => exact ⟨v, rfl, .same v (flat_of_flatN (n := 5) (by omega) hf)⟩
  | iface h => exact ⟨_, rfl, h⟩
theorem VR.func_inv {fn : Fn} {a b : Array Value} (hfn : ∀ l, fn ≠ .yield l) (h : VR σ (.func fn a b) c) :
    ∃ a' b', c = .func fn a' b' ∧ VRs σ a.toList a'.toList ∧ VRs σ b.toList b'.toList := by
  cases h with
  | same _ hf =>
    unfold flat at hf
    simp only [flatN, Bool.and_eq_true] at hf
    have h1 : a.toList = [] := by have := hf.1.2; cases ha : a.toList with | nil => rfl | cons x r => rw [ha] at this; simp at this
    have h2 : b.toList = [] := by have := hf.2; cases hb : b.toList with | nil => rfl | cons x r => rw [hb] at this; simp at this
    exact ⟨a, b, rfl, by rw [h1]; exact .nil, by rw [h2]; exact .nil⟩
  | func _ h1 h2 => exact ⟨_, _, rfl, h1, h2⟩
  | yield _ => exact absurd rfl (hfn _)
theorem VR.yield_inv {l : Nat} {a b : Array Value} (h : VR σ (.func (.yield l) a b) c) : ∃ pl, c = .func (.yield pl.b) #[] #[] ∧ σ l 0 = some pl ∧ a = #[] ∧ b = #[] := by
  cases h with
  | same _ hf => simp [flat, flatN] at hf
  | func hn _ _ => exact absurd rfl (hn l)
  | yield h => exact ⟨_, rfl, h, rfl, rfl⟩

theorem VR.flat_inv : ∀ {n : Nat} {v c : Value}, flatN n v = true → VR σ v c → c = v := by
  intro n
  induction n with
  | zero => intro v c h; simp [flatN] at h
  | succ n ih =>
    have ihs : ∀ {l l' : List Value}, (l.all (flatN n)) = true → VRs σ l l' → l' = l := by
      intro l
      induction l with
      | nil => intro l' _ h; cases h; rfl
      | cons x r ihr =>
        intro l' hl h
        cases h with
        | cons h1 h2 =>
          simp only [List.all_cons, Bool.and_eq_true] at hl
          rw [ih hl.1 h1, ihr hl.2 h2]
    intro v c h hv
    cases hv with
    | junk c => simp [flatN] at h
    | same v _ => rfl
    | ptr _ _ _ => simp [flatN] at h
    | slice _ _ _ _ _ => simp [flatN] at h
    | bare a => simp [flatN] at h
    | map _ => simp [flatN] at h
    | func hn h1 h2 =>
      simp only [flatN, Bool.and_eq_true] at h
      rename_i a b a' b' 
      have e1 : a = [] := by have := h.1.2; cases a with | nil => rfl | cons x r => simp at this
      have e2 : b = [] := by have := h.2; cases b with | nil => rfl | cons x r => simp at this
      subst e1; subst e2
      cases h1; cases h2; rfl
    | yield _ => simp [flatN] at h
    | iface h1 => simp only [flatN] at h; rw [ih h h1]
    | agg h1 => simp only [flatN] at h; rw [ihs h h1]
    | tuple h1 => simp only [flatN] at h; rw [ihs h h1]

theorem VR.flat_eq {v : Value} (hf : flat v = true) (h : VR σ v c) : c = v := VR.flat_inv hf h

end inv

/-! ### Lists of values -/
section lists
variable {σ : Pl}

theorem VRs.length {l l' : List Value} (h : VRs σ l l') : l'.length = l.length := by
  induction l generalizing l' with
  | nil => cases h; rfl
  | cons x r ih => cases h with | cons _ h2 => simp [ih h2]

theorem VRs.get {l l' : List Value} (h : VRs σ l l') {i : Nat} {v : Value} (hi : l[i]? = some v) : ∃ c, l'[i]? = some c ∧ VR σ v c := by
  induction l generalizing l' i with
  | nil => simp at hi
  | cons x r ih =>
    cases h with
    | cons h1 h2 =>
      cases i with
      | zero => simp at hi; subst hi; exact ⟨_, by simp, h1⟩
      | succ i => simp at hi; obtain ⟨c, hc, hv⟩ := ih h2 hi; exact ⟨c, by simpa using hc, hv⟩

theorem VRs.of_get : ∀ {l l' : List Value}, l.length = l'.length → (∀ (i : Nat) (v c : Value), l[i]? = some v → l'[i]? = some c → VR σ v c) → VRs σ l l'
  | [], [], _, _ => .nil
  | [], _ :: _, h, _ => by simp at h
  | _ :: _, [], h, _ => by simp at h
  | x :: r, y :: s, h, hg => .cons (hg 0 x y (by simp) (by simp)) (VRs.of_get (by simpa using h) fun i v c h1 h2 => hg (i + 1) v c (by simpa using h1) (by simpa using h2))

theorem VRs.append {a a' b b' : List Value} (h : VRs σ a a') (k : VRs σ b b') : VRs σ (a ++ b) (a' ++ b') := by
  induction a generalizing a' with
  | nil => cases h; exact k
  | cons x r ih => cases h with | cons h1 h2 => exact .cons h1 (ih h2)

theorem VRs.drop {a a' : List Value} (h : VRs σ a a') (n : Nat) : VRs σ (a.drop n) (a'.drop n) := by
  induction n generalizing a a' with
  | zero => simpa using h
  | succ n ih => cases h with
    | nil => simpa using VRs.nil
    | cons _ h2 => simpa using ih h2

theorem VRs.take {a a' : List Value} (h : VRs σ a a') (n : Nat) : VRs σ (a.take n) (a'.take n) := by
  induction n generalizing a a' with
  | zero => simpa using VRs.nil
  | succ n ih => cases h with
    | nil => simpa using VRs.nil
    | cons h1 h2 => simpa using VRs.cons h1 (ih h2)

theorem VRs.map {α : Type} {f g : α → Value} : ∀ {l : List α}, (∀ x ∈ l, VR σ (f x) (g x)) → VRs σ (l.map f) (l.map g)
  | [], _ => .nil
  | x :: l, h => .cons (h x (by simp)) (VRs.map fun y hy => h y (by simp [hy]))

theorem VRs.flat_eq {l l' : List Value} (hf : ∀ v ∈ l, flat v = true) (h : VRs σ l l') : l' = l := by
  induction l generalizing l' with
  | nil => cases h; rfl
  | cons x r ih => cases h with | cons h1 h2 => rw [h1.flat_eq (hf x (by simp)), ih (fun v hv => hf v (by simp [hv])) h2]

end lists

def Ext (σ σ' : Pl) : Prop := ∀ F g pl, σ F g = some pl → σ' F g = some pl

theorem Ext.refl (σ : Pl) : Ext σ σ := fun _ _ _ h => h
theorem Ext.trans {a b c : Pl} (h : Ext a b) (k : Ext b c) : Ext a c := fun F g pl x => k F g pl (h F g pl x)

mutual
theorem VR.ext {σ σ' : Pl} (e : Ext σ σ') : ∀ {v c : Value}, VR σ v c → VR σ' v c
  | _, _, .junk c => .junk c
  | _, _, .same v h => .same v h
  | _, _, .ptr h1 h2 h3 => .ptr (e _ _ _ h1) h2 h3
  | _, _, .slice h1 h2 h3 h4 h5 => .slice (e _ _ _ h1) h2 h3 h4 h5
  | _, _, .bare a => .bare a
  | _, _, .map h => .map (e _ _ _ h)
  | _, _, .func h h1 h2 => .func h (VRs.ext e h1) (VRs.ext e h2)
  | _, _, .yield h => .yield (e _ _ _ h)
  | _, _, .iface h => .iface (VR.ext e h)
  | _, _, .agg h => .agg (VRs.ext e h)
  | _, _, .tuple h => .tuple (VRs.ext e h)
theorem VRs.ext {σ σ' : Pl} (e : Ext σ σ') : ∀ {l l' : List Value}, VRs σ l l' → VRs σ' l l'
  | _, _, .nil => .nil
  | _, _, .cons h1 h2 => .cons (VR.ext e h1) (VRs.ext e h2)
end

/-- A value's cells. -/
theorem VR.cells {σ : Pl} {v c : Value} {vs : List Value} (h : VR σ v c) (hv : cellsOf? v = some vs) : VRs σ vs c.cells.toList := by
  cases h with
  | junk c => simp [cellsOf?] at hv
  | same v hf =>
    cases v with
    | agg cs => simp only [cellsOf?, Option.some.injEq] at hv; subst hv; exact VRs_same (flat_agg hf)
    | chan r => simp [cellsOf?] at hv
    | _ => simp only [cellsOf?, Option.some.injEq] at hv; subst hv; exact .cons (.same _ hf) .nil
  | agg h1 => simp only [cellsOf?, Option.some.injEq] at hv; subst hv; exact h1
  | ptr h1 h2 h3 => simp only [cellsOf?, Option.some.injEq] at hv; subst hv; exact .cons (.ptr h1 h2 h3) .nil
  | slice h1 h2 h3 h4 h5 => simp only [cellsOf?, Option.some.injEq] at hv; subst hv; exact .cons (.slice h1 h2 h3 h4 h5) .nil
  | bare a => simp only [cellsOf?, Option.some.injEq] at hv; subst hv; exact .cons (.bare a) .nil
  | map h1 => simp only [cellsOf?, Option.some.injEq] at hv; subst hv; exact .cons (.map h1) .nil
  | func h1 h2 h3 => simp only [cellsOf?, Option.some.injEq] at hv; subst hv; exact .cons (.func h1 h2 h3) .nil
  | yield h1 => simp only [cellsOf?, Option.some.injEq] at hv; subst hv; exact .cons (.yield h1) .nil
  | iface h1 => simp only [cellsOf?, Option.some.injEq] at hv; subst hv; exact .cons (.iface h1) .nil
  | tuple h1 => simp only [cellsOf?, Option.some.injEq] at hv; subst hv; exact .cons (.tuple h1) .nil

theorem VR.cellable {σ : Pl} {v c : Value} (h : VR σ v c) (hv : cellable v = true) : c.oneCell' = true := by
  cases h <;> first | rfl | (simp [AE.cellable] at hv; done) | skip
  rename_i hf
  cases v <;> first | rfl | (simp [AE.cellable] at hv; done)

/-! ### The relation of memories -/
def isRo (H : AHeap) (F : Nat) : Prop := ∃ ty cells gen, H.get F = some (.row ty cells gen true)

structure RowR (P : Program) (σ : Pl) (w : World) (pl : Place) (g : Nat) (ty : TypeId) (cells : List (Value × Nat)) (gen : Nat) (ro : Bool) : Prop where
  le : g ≤ gen
  gens : ∀ (i : Nat) (v : Value) (k : Nat), cells[i]? = some (v, k) → k ≤ gen
  sc : pl.s = P.cellsOf ty
  blk : ∃ cs ty' fr, w.heap[pl.b]? = some (.cells cs ty' fr) ∧ (ro = false → ty' = ty ∧ cs.size = pl.sz ∧ ∀ off, off < cs.size → ¬ (fr.1 ≤ off ∧ off < fr.2)) ∧
    ∀ (i : Nat) (v : Value) (k : Nat), pl.lo ≤ i → cells[i]? = some (v, k) → k ≤ g → ∃ (j : Nat) (c : Value), (j : Int) = i + pl.d ∧ cs[j]? = some c ∧ VR σ v c

inductive EsR (σ : Pl) : List (Value × Value × Nat) → List MapEntry → Prop
  | nil : EsR σ [] []
  | cons {k v : Value} {b : Nat} {c : Value} {es : List (Value × Value × Nat)} {cs : List MapEntry} :
      flat k = true → VR σ v c → EsR σ es cs → EsR σ ((k, v, b) :: es) ({ key := k, val := c, born := b } :: cs)

def EnvR (σ : Pl) (nt : Nat) (env : Env) (tmps : Array Value) : Prop := tmps.size = nt ∧ ∀ t, VR σ (getE env t) (tmps.getD t undef)

structure LoopR (σ : Pl) (nt : Nat) (env : Env) (params : List Tmp) (assign body : Code) (ready : Bool) (pending : Option Code) (r : Loop) : Prop where
  envr : EnvR σ nt env r.tmps
  par : r.params.toList = params
  asg : r.assign = assign
  bod : r.body = body
  rdy : ready = true → r.state = .ready
  pnd : r.pending = pending
  dn : pending ≠ none → r.state ≠ .busy

/-- An object, seen at one of its places. -/
def ObjR (P : Program) (σ : Pl) (w : World) (pl : Place) (g : Nat) : AObj → Prop
  | .row ty cells gen ro => RowR P σ w pl g ty cells gen ro
  | .map es clock => g = 0 ∧ ∃ ces : Array MapEntry, w.heap[pl.b]? = some (.map ces clock) ∧ EsR σ es ces.toList
  | .iter m since seen last => g = 0 ∧ pl.d = 0 ∧ ∃ m' : Option Nat, w.heap[pl.b]? = some (.mapIter m' since ⟨seen⟩ last) ∧ ((m = none ∧ m' = none) ∨ ∃ M pm, m = some M ∧ σ M 0 = some pm ∧ m' = some pm.b)
  | .loop nt env params assign body ready pending => g = 0 ∧ ∃ r : Loop, w.heap[pl.b]? = some (.loop r) ∧ LoopR σ nt env params assign body ready pending r

structure Rel (P : Program) (σ : Pl) (H : AHeap) (w : World) : Prop where
  dom : ∀ {F g pl}, σ F g = some pl → F < H.n
  obj : ∀ {F g pl o}, σ F g = some pl → H.get F = some o → ObjR P σ w pl g o
  inj : ∀ {F g pl F' g' pl'}, σ F g = some pl → σ F' g' = some pl' → pl.b = pl'.b → (F = F' ∧ pl.d = pl'.d) ∨ (isRo H F ∧ isRo H F')
  old : ∀ {F g pl}, σ F g = some pl → pl.b < w.heap.size

/-- What a piece of a run does to memory. -/
structure Step (P : Program) (σ : Pl) (H : AHeap) (w : World) (σ' : Pl) (H' : AHeap) (w' : World) : Prop where
  rel : Rel P σ' H' w'
  ext : Ext σ σ'
  new : ∀ {F g pl}, σ' F g = some pl → σ F g = some pl ∨ w.heap.size ≤ pl.b ∨ ∃ g0 pl0, σ F g0 = some pl0 ∧ pl0.b = pl.b
  hid : ∀ {F}, F < H.n → (∀ g, σ F g = none) → (∀ g, σ' F g = none) ∧ H'.get F = H.get F
  ro : ∀ {F}, isRo H F → H'.get F = H.get F
  n : H.n ≤ H'.n
  size : w.heap.size ≤ w'.heap.size
  blk : ∀ {b : Nat}, b < w.heap.size → (∀ F g pl, σ F g = some pl → pl.b = b → isRo H F) → w'.heap[b]? = w.heap[b]?
  os : w'.os = w.os
  tape : w'.tape = w.tape
  output : w'.output = w.output
  loops : ∀ {b : Nat} {r : Loop}, w.heap[b]? = some (Obj.loop r) → ∃ r' : Loop, w'.heap[b]? = some (Obj.loop r') ∧ r'.defers = r.defers

theorem isRo_of_get {H H' : AHeap} {F : Nat} (h : isRo H F) (e : H'.get F = H.get F) : isRo H' F := by
  obtain ⟨ty, cells, gen, hg⟩ := h
  exact ⟨ty, cells, gen, e.trans hg⟩

theorem Step.refl {P : Program} {σ : Pl} {H : AHeap} {w : World} (h : Rel P σ H w) : Step P σ H w σ H w :=
  { rel := h, ext := Ext.refl σ, new := fun h => .inl h, hid := fun _ h => ⟨h, rfl⟩, ro := fun _ => rfl, n := Nat.le_refl _, size := Nat.le_refl _, blk := fun _ _ => rfl,
    os := rfl, tape := rfl, output := rfl, loops := fun h => ⟨_, h, rfl⟩ }

theorem Step.trans {P : Program} {σ σ1 σ2 : Pl} {H H1 H2 : AHeap} {w w1 w2 : World} (h : Step P σ H w σ1 H1 w1) (k : Step P σ1 H1 w1 σ2 H2 w2) (_r : Rel P σ H w) : Step P σ H w σ2 H2 w2 where
  rel := k.rel
  ext := h.ext.trans k.ext
  new := by
    intro F g pl hp
    rcases k.new hp with h1 | h1 | ⟨g0, pl0, h1, h2⟩
    · exact h.new h1
    · exact .inr (.inl (Nat.le_trans h.size h1))
    · rcases h.new h1 with h3 | h3 | ⟨g1, pl1, h3, h4⟩
      · exact .inr (.inr ⟨g0, pl0, h3, h2⟩)
      · exact .inr (.inl (h2 ▸ h3))
      · exact .inr (.inr ⟨g1, pl1, h3, h4.trans h2⟩)
  hid := by
    intro F hF hs
    obtain ⟨h1, h2⟩ := h.hid hF hs
    obtain ⟨h3, h4⟩ := k.hid (Nat.lt_of_lt_of_le hF h.n) h1
    exact ⟨h3, h4.trans h2⟩
  ro := by
    intro F hF
    have e := h.ro hF
    exact (k.ro (isRo_of_get hF e)).trans e
  n := Nat.le_trans h.n k.n
  size := Nat.le_trans h.size k.size
  blk := by
    intro b hb hro
    have e1 := h.blk hb hro
    refine (k.blk (Nat.lt_of_lt_of_le hb h.size) ?_).trans e1
    intro F g pl hp hpb
    rcases h.new hp with h1 | h1 | ⟨g0, pl0, h1, h2⟩
    · have := hro F g pl h1 hpb; exact isRo_of_get this (h.ro this)
    · omega
    · have := hro F g0 pl0 h1 (h2.trans hpb); exact isRo_of_get this (h.ro this)
  os := k.os.trans h.os
  tape := k.tape.trans h.tape
  output := k.output.trans h.output
  loops := by
    intro b r hr
    obtain ⟨r1, h1, h2⟩ := h.loops hr
    obtain ⟨r2, h3, h4⟩ := k.loops h1
    exact ⟨r2, h3, h4.trans h2⟩

end Go.AE
