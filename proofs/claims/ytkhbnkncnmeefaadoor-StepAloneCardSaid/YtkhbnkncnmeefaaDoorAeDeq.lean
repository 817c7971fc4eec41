/-
  AE: a test whether two abstract values are the same.
-/
import Derived.Test.YtkhbnkncnmeefaaDoorAeLaw
namespace Go.AE

def onEq : Option Nat → Option Nat → Bool
  | none, none => true
  | some a, some b => Nat.beq a b
  | _, _ => false
def oaEq : Option Addr → Option Addr → Bool
  | none, none => true
  | some a, some b => Nat.beq a.block b.block && Nat.beq a.off b.off && onEq a.spot b.spot
  | _, _ => false
def lsEq (f : Value → Value → Bool) : List Value → List Value → Bool
  | [], [] => true
  | a :: r, b :: s => f a b && lsEq f r s
  | _, _ => false

def veq : Nat → Value → Value → Bool
  | 0, _, _ => false
  | n + 1, a, b => match a with
    | .bool x => match b with | .bool y => (x == y) | _ => false
    | .int k x => match b with | .int k' y => decide (k = k') && ieq x y | _ => false
    | .string s => match b with | .string u => strEq s.data.toList u.data.toList | _ => false
    | .pointer p => match b with | .pointer q => oaEq p q | _ => false
    | .slice p l c => match b with | .slice q l' c' => oaEq p q && Nat.beq l l' && Nat.beq c c' | _ => false
    | .map p => match b with | .map q => onEq p q | _ => false
    | .chan p => match b with | .chan q => onEq p q | _ => false
    | .nilFunc => match b with | .nilFunc => true | _ => false
    | .nilIface => match b with | .nilIface => true | _ => false
    | .iface t v => match b with | .iface u w => Nat.beq t u && veq n v w | _ => false
    | .agg cs => match b with | .agg ds => lsEq (veq n) cs.toList ds.toList | _ => false
    | .tuple cs => match b with | .tuple ds => lsEq (veq n) cs.toList ds.toList | _ => false
    | .func f x y => match b with
      | .func g u v => match f, g with
        | .func f, .func g => Nat.beq f g && lsEq (veq n) x.toList u.toList && lsEq (veq n) y.toList v.toList
        | _, _ => false
      | _ => false
    | _ => false

theorem onEq_eq {a b : Option Nat} (h : onEq a b = true) : a = b := by
  cases a <;> cases b <;> simp only [onEq] at h <;> first | rfl | (cases h; done) | skip
  rw [Nat.eq_of_beq_eq_true h]
theorem oaEq_eq {a b : Option Addr} (h : oaEq a b = true) : a = b := by
  cases a <;> cases b <;> simp only [oaEq] at h <;> first | rfl | (cases h; done) | skip
  rename_i x y
  obtain ⟨x1, x2, x3⟩ := x
  obtain ⟨y1, y2, y3⟩ := y
  simp only [Bool.and_eq_true] at h
  obtain ⟨⟨h1, h2⟩, h3⟩ := h
  rw [Nat.eq_of_beq_eq_true h1, Nat.eq_of_beq_eq_true h2, onEq_eq h3]
theorem lsEq_eq {f : Value → Value → Bool} (hf : ∀ a b, f a b = true → a = b) : ∀ {a b : List Value}, lsEq f a b = true → a = b
  | [], [], _ => rfl
  | [], _ :: _, h => by simp [lsEq] at h
  | _ :: _, [], h => by simp [lsEq] at h
  | x :: r, y :: s, h => by
    simp only [lsEq, Bool.and_eq_true] at h
    rw [hf x y h.1, lsEq_eq hf h.2]

theorem veq_eq : ∀ (n : Nat) (a b : Value), veq n a b = true → a = b := by
  intro n
  induction n with
  | zero => intro a b h; simp [veq] at h
  | succ n ih =>
    intro a b h
    cases a <;> simp only [veq] at h <;> try (simp at h; done)
    all_goals cases b <;> simp only at h <;> try (simp at h; done)
    case bool.bool => simp only [beq_iff_eq] at h; rw [h]
    case int.int =>
      simp only [Bool.and_eq_true, decide_eq_true_eq] at h
      rw [ieq_eq] at h
      rw [h.1, eq_of_beq h.2]
    case string.string s u =>
      rw [strEq_eq] at h
      have e := eq_of_beq h
      obtain ⟨⟨x⟩⟩ := s
      obtain ⟨⟨y⟩⟩ := u
      simp only at e
      rw [e]
    case pointer.pointer => rw [oaEq_eq h]
    case slice.slice =>
      simp only [Bool.and_eq_true] at h
      rw [oaEq_eq h.1.1, Nat.eq_of_beq_eq_true h.1.2, Nat.eq_of_beq_eq_true h.2]
    case map.map => rw [onEq_eq h]
    case chan.chan => rw [onEq_eq h]
    case nilFunc.nilFunc => rfl
    case nilIface.nilIface => rfl
    case iface.iface =>
      simp only [Bool.and_eq_true] at h
      rw [Nat.eq_of_beq_eq_true h.1, ih _ _ h.2]
    case agg.agg x y =>
      have e := lsEq_eq ih h
      obtain ⟨x⟩ := x
      obtain ⟨y⟩ := y
      simp only at e
      rw [e]
    case tuple.tuple x y =>
      have e := lsEq_eq ih h
      obtain ⟨x⟩ := x
      obtain ⟨y⟩ := y
      simp only at e
      rw [e]
    case func.func f x y g u v =>
      cases f <;> cases g <;> simp only at h <;> try (simp at h; done)
      simp only [Bool.and_eq_true] at h
      have e1 := lsEq_eq ih h.1.2
      have e2 := lsEq_eq ih h.2
      obtain ⟨x⟩ := x
      obtain ⟨y⟩ := y
      obtain ⟨u⟩ := u
      obtain ⟨v⟩ := v
      simp only at e1 e2
      rw [Nat.eq_of_beq_eq_true h.1.1, e1, e2]

/-- No function is one that the model answers for itself by name. -/
def namesFine (P : Program) : Bool := P.funcs.toList.all fun fn => fn.body.isNone || !(fn.name == "runtime.NumGoroutine")

theorem namesFine_spec {P : Program} (h : namesFine P = true) (f : Nat) (fn : Func) (hf : P.funcs.toList[f]? = some fn) (hb : fn.body.isSome = true) : (fn.name == "runtime.NumGoroutine") = false := by
  unfold namesFine at h
  rw [List.all_eq_true] at h
  have := h fn (List.mem_of_getElem? hf)
  cases hn : (fn.name == "runtime.NumGoroutine") with
  | false => rfl
  | true =>
    rw [hn] at this
    cases hbb : fn.body with
    | none => rw [hbb] at hb; cases hb
    | some c => rw [hbb] at this; simp at this

/-- A program, its listed variables, nothing known otherwise. -/
noncomputable def plainCfg (P : Program) (gl : List Nat) : Cfg := { P := P, gl := gl, prim := fun _ => none, deq := veq 12 }

theorem plainCfg_ok {P : Program} {gl : List Nat} (h1 : namesFine P = true) (h2 : P.follows .mixedOrders = true) : COk (plainCfg P gl) :=
  cok (namesFine_spec h1) (by intro f p h; cases h) (veq_eq 12) h2

end Go.AE
