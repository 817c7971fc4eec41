/-
  AE: an abstract evaluator of the model's code: one run, in a memory of its own, that stands for all runs: whatever the order of evaluation, whatever capacities append gives.
  Definitions alone. (Abstract values are the model's Value. An abstract address is ⟨object, index, some generation⟩. An abstract slice is nil; or ⟨0, 0, none⟩ 0 0: no nil, but without room; or ⟨object, index, some room⟩ length generation: the room is what is known to be there at least.)
-/
import Derived.Calls
namespace Go.AE

/-! ### A tree that is numbered from 0 on -/
inductive BT (α : Type) where
  | nil
  | node (x : α) (l r : BT α)

def BT.get {α : Type} : BT α → Nat → Option α
  | .nil, _ => none
  | .node x l r, i => match i with
    | 0 => some x
    | i + 1 => match i % 2 with
      | 0 => l.get (i / 2)
      | _ + 1 => r.get (i / 2)

def BT.set {α : Type} (v : α) : BT α → Nat → BT α
  | .nil, _ => .nil
  | .node x l r, i => match i with
    | 0 => .node v l r
    | i + 1 => match i % 2 with
      | 0 => .node x (l.set v (i / 2)) r
      | _ + 1 => .node x l (r.set v (i / 2))

def BT.push {α : Type} (v : α) : BT α → Nat → BT α
  | .nil, _ => .node v .nil .nil
  | .node x l r, i => match i with
    | 0 => .node x l r
    | i + 1 => match i % 2 with
      | 0 => .node x (l.push v (i / 2)) r
      | _ + 1 => .node x l (r.push v (i / 2))

theorem BT.get_set {α : Type} (v : α) : ∀ (t : BT α) (i j : Nat), (t.set v i).get j = if j = i then (t.get i).map (fun _ => v) else t.get j
  | .nil, i, j => by simp [BT.set, BT.get]
  | .node x l r, 0, j => by cases j <;> simp [BT.set, BT.get]
  | .node x l r, i + 1, j => by
    have hl := BT.get_set v l (i / 2)
    have hr := BT.get_set v r (i / 2)
    rcases Nat.mod_two_eq_zero_or_one i with hi | hi
    all_goals
      simp only [BT.set, hi]
      cases j with
      | zero => simp [BT.get]
      | succ j =>
        rcases Nat.mod_two_eq_zero_or_one j with hj | hj
        all_goals
          simp only [BT.get, hi, hj, hl, hr]
          by_cases e : j = i
          · subst e; simp_all
          · have e' : ¬ (j + 1 = i + 1) := by omega
            rw [if_neg e']
            try rw [if_neg (by omega)]

/-- All below n, and nothing else, is there. -/
def BT.Full {α : Type} (t : BT α) (n : Nat) : Prop := ∀ i, (t.get i).isSome = true ↔ i < n

theorem BT.Full.left {α : Type} {x : α} {l r : BT α} {n : Nat} (h : (BT.node x l r).Full n) : l.Full (n / 2) := by
  intro i
  have := h (2 * i + 1)
  simp only [BT.get, show 2 * i % 2 = 0 by omega, show 2 * i / 2 = i by omega] at this
  rw [this]; omega

theorem BT.Full.right {α : Type} {x : α} {l r : BT α} {n : Nat} (h : (BT.node x l r).Full n) : r.Full ((n - 1) / 2) := by
  intro i
  have := h (2 * i + 2)
  simp only [BT.get, show (2 * i + 1) % 2 = 0 + 1 by omega, show (2 * i + 1) / 2 = i by omega] at this
  rw [this]; omega

theorem BT.get_push {α : Type} (v : α) : ∀ (t : BT α) (n : Nat), t.Full n → ∀ j, (t.push v n).get j = if j = n then some v else t.get j
  | .nil, n, h, j => by
    have hn : n = 0 := by
      have := (h 0).mpr
      rcases Nat.eq_zero_or_pos n with e | e
      · exact e
      · simp [BT.get] at this; omega
    subst hn
    cases j with
    | zero => simp [BT.push, BT.get]
    | succ j => simp only [BT.push, BT.get]; split <;> simp
  | .node x l r, n, h, j => by
    have hn : 0 < n := (h 0).1 (by simp [BT.get])
    obtain ⟨n, rfl⟩ : ∃ m, n = m + 1 := ⟨n - 1, by omega⟩
    rcases Nat.mod_two_eq_zero_or_one n with hi | hi
    · have hl := BT.get_push v l (n / 2) (by have := h.left; rwa [show (n + 1) / 2 = n / 2 by omega] at this)
      simp only [BT.push, hi]
      cases j with
      | zero => simp [BT.get]
      | succ j =>
        rcases Nat.mod_two_eq_zero_or_one j with hj | hj
        all_goals simp only [BT.get, hj, hl]
        · by_cases e : j = n
          · subst e; simp
          · rw [if_neg (by omega), if_neg (by omega)]
        · rw [if_neg (by omega)]
    · have hr := BT.get_push v r (n / 2) (by have := h.right; rwa [show (n + 1 - 1) / 2 = n / 2 by omega] at this)
      simp only [BT.push, hi]
      cases j with
      | zero => simp [BT.get]
      | succ j =>
        rcases Nat.mod_two_eq_zero_or_one j with hj | hj
        all_goals simp only [BT.get, hj, hr]
        · rw [if_neg (by omega)]
        · by_cases e : j = n
          · subst e; simp
          · rw [if_neg (by omega), if_neg (by omega)]

/-! ### The abstract memory -/
inductive AObj where
  /-- A row of cells (each with the generation in which it was written), how often it was appended to, and whether it came in (then it is only read). -/
  | row (ty : TypeId) (cells : List (Value × Nat)) (gen : Nat) (ro : Bool)
  | map (es : List (Value × Value × Nat)) (clock : Nat)
  /-- A range over a function: its frame's temporaries, the round's parameters and code; may it go on; what it left for. -/
  | loop (nt : Nat) (tmps : List (Tmp × Value)) (params : List Tmp) (assign body : Code) (ready : Bool) (pending : Option Code)
  /-- A range over a map: which one, its clock then, whose turns are over, its clock at the last one. -/
  | iter (map : Option Nat) (since : Nat) (seen : List Nat) (last : Nat)

structure AHeap where
  n : Nat
  t : BT AObj
  ok : t.Full n

def AHeap.empty : AHeap := ⟨0, .nil, fun i => by simp [BT.get]⟩
def AHeap.get (H : AHeap) (i : Nat) : Option AObj := H.t.get i
def AHeap.push (H : AHeap) (o : AObj) : AHeap :=
  ⟨H.n + 1, H.t.push o H.n, fun i => by
    rw [BT.get_push o H.t H.n H.ok]
    by_cases e : i = H.n
    · simp [e]
    · rw [if_neg e, H.ok i]; omega⟩
def AHeap.set (H : AHeap) (i : Nat) (o : AObj) : AHeap :=
  ⟨H.n, H.t.set o i, fun j => by
    rw [BT.get_set]
    by_cases e : j = i
    · subst e; rw [if_pos rfl, ← H.ok j]; cases H.t.get j <;> simp
    · rw [if_neg e, H.ok j]⟩

theorem AHeap.get_push (H : AHeap) (o : AObj) (j : Nat) : (H.push o).get j = if j = H.n then some o else H.get j := BT.get_push o H.t H.n H.ok j
theorem AHeap.get_set (H : AHeap) (i : Nat) (o : AObj) (j : Nat) : (H.set i o).get j = if j = i then (H.get i).map (fun _ => o) else H.get j := BT.get_set o H.t i j
theorem AHeap.get_lt {H : AHeap} {i : Nat} {o : AObj} (h : H.get i = some o) : i < H.n := (H.ok i).1 (by show (H.get i).isSome = true; simp [h])
theorem AHeap.lt_get {H : AHeap} {i : Nat} (h : i < H.n) : ∃ o, H.get i = some o := Option.isSome_iff_exists.1 ((H.ok i).2 h)
@[simp] theorem AHeap.n_push (H : AHeap) (o : AObj) : (H.push o).n = H.n + 1 := rfl
@[simp] theorem AHeap.n_set (H : AHeap) (i : Nat) (o : AObj) : (H.set i o).n = H.n := rfl

/-! ### Values -/
/-- No address in it. -/
def flatN : Nat → Value → Bool
  | 0, _ => false
  | n + 1, v => match v with
    | .bool _ | .int _ _ | .float _ _ | .complex _ _ _ | .string _ | .nilFunc | .nilIface => true
    | .pointer a => a.isNone
    | .slice a l c => a.isNone && Nat.beq l 0 && Nat.beq c 0
    | .map r => r.isNone
    | .chan _ => false
    | .func fn first captured => (match fn with | .yield _ => false | _ => true) && first.toList.isEmpty && captured.toList.isEmpty
    | .iface _ v => flatN n v
    | .agg cs => cs.toList.all (flatN n)
    | .tuple vs => vs.toList.all (flatN n)
def flat (v : Value) : Bool := flatN 6 v

/-- What nobody may look at. -/
def junk : Value := .chan (some 0)

/-- May it be stored in one cell? -/
def cellable : Value → Bool
  | .agg _ | .tuple _ | .chan _ => false
  | _ => true

/-- A run that asks nothing of the world. -/
def pureRun {α : Type} (P : Program) : Sem α → Option α
  | .pure a => some a
  | .program k => pureRun P (k P)
  | _ => none

theorem run_of_pureRun {α : Type} {P : Program} : ∀ {s : Sem α} {a : α}, pureRun P s = some a → ∀ w, s.run P w = .ok a w
  | .pure b, a, h, w => by simp only [pureRun, Option.some.injEq] at h; subst h; rfl
  | .program k, a, h, w => by
    simp only [pureRun] at h
    exact run_of_pureRun h w
  | .load _ _ _, _, h, _ | .store _ _ _ _, _, h, _ | .new _ _, _, h, _ | .shape _ _, _, h, _ | .freeze _ _ _, _, h, _ | .frozen _ _, _, h, _ | .getObj _ _, _, h, _
  | .setObj _ _ _, _, h, _ | .choose _ _, _, h, _ | .sys _ _, _, h, _ | .mark _ _, _, h, _ | .halt _, _, h, _ => by simp [pureRun] at h

/-! ### Rows of cells -/
def rdN (g : Nat) : Nat → List (Value × Nat) → Option (List Value)
  | 0, _ => some []
  | n + 1, l => match l with
    | [] => none
    | (v, k) :: r => match Nat.ble k g with
      | true => match rdN g n r with
        | some vs => some (v :: vs)
        | none => none
      | false => none

def rdAt (cells : List (Value × Nat)) (i g n : Nat) : Option (List Value) := rdN g n (cells.drop i)

def wrN (g : Nat) : List Value → List (Value × Nat) → Option (List (Value × Nat))
  | [], r => some r
  | v :: vs, l => match l with
    | [] => none
    | _ :: r => match wrN g vs r with
      | some r' => some ((v, g) :: r')
      | none => none

def wrAt (g : Nat) (vs : List Value) : Nat → List (Value × Nat) → Option (List (Value × Nat))
  | 0, r => wrN g vs r
  | i + 1, l => match l with
    | [] => none
    | c :: r => match wrAt g vs i r with
      | some r' => some (c :: r')
      | none => none

def isAggB (P : Program) (t : TypeId) : Option Bool := match P.underlying t with
  | some (.struct _) | some (.array _ _) => some true
  | some _ => some false
  | none => none

def rdVar (H : AHeap) (agg : Bool) (n : Nat) (F i g : Nat) : Option Value :=
  match H.get F with
  | some (.row _ cells _ _) => match agg with
    | true => match rdAt cells i g n with
      | some vs => some (.agg ⟨vs⟩)
      | none => none
    | false => match rdAt cells i g 1 with
      | some vs => vs.head?
      | none => none
  | _ => none

def aload (P : Program) (H : AHeap) (t : TypeId) (a : Value) : Option Value :=
  match a with
  | .pointer (some ⟨F, i, some g⟩) => match isAggB P t with
    | some b => match P.info? t with
      | some inf => rdVar H b inf.size F i g
      | none => none
    | none => none
  | _ => none

def wrCells (H : AHeap) (F i g : Nat) (vs : List Value) : Option AHeap :=
  match H.get F with
  | some (.row ty cells gen ro) => match ro, Nat.beq g gen, vs.all cellable with
    | false, true, true => match wrAt g vs i cells with
      | some cells' => some (H.set F (.row ty cells' gen false))
      | none => none
    | _, _, _ => none
  | _ => none

/-- The cells of a value; none of what nobody may look at. -/
def cellsOf? : Value → Option (List Value)
  | .agg cs => some cs.toList
  | .chan _ => none
  | v => some [v]

def astore (P : Program) (H : AHeap) (t : TypeId) (a v : Value) : Option AHeap :=
  match a, cellsOf? v with
  | .pointer (some ⟨F, i, some g⟩), some vs => match P.info? t with
    | some inf => match Nat.beq vs.length inf.size with
      | true => match vs with
        | [] => some H
        | _ :: _ => wrCells H F i g vs
      | false => none
    | none => none
  | _, _ => none

def newRow (H : AHeap) (ty : TypeId) (cells : List Value) : Value × AHeap :=
  (.pointer (some ⟨H.n, 0, some 0⟩), H.push (.row ty (cells.map fun v => (v, 0)) 0 false))

def zeroOf (P : Program) (t : TypeId) : Option Value := match P.info? t with
  | some inf => match inf.zero with
    | some z => match flat z with
      | true => some z
      | false => none
    | none => none
  | none => none

def aalloc (P : Program) (H : AHeap) (t : TypeId) : Option (Value × AHeap) :=
  match zeroOf P t with
  | some z => some (newRow H t z.cells.toList)
  | none => none

def abox (H : AHeap) (t : TypeId) (v : Value) : Option (Value × AHeap) :=
  match cellsOf? v with
  | some vs => some (newRow H t vs)
  | none => none

/-! ### Parts of aggregates -/
/-- vs over the cells from 'off' on. -/
def overN : List Value → List Value → Option (List Value)
  | [], r => some r
  | v :: vs, l => match l with
    | [] => none
    | _ :: r => match overN vs r with
      | some r' => some (v :: r')
      | none => none
def overAt (vs : List Value) : Nat → List Value → Option (List Value)
  | 0, r => overN vs r
  | i + 1, l => match l with
    | [] => none
    | c :: r => match overAt vs i r with
      | some r' => some (c :: r')
      | none => none

def fillA (place : Nat → Option (Nat × Nat)) : List Value → List (Nat × Value) → Option (List Value)
  | cells, [] => some cells
  | cells, (i, v) :: rest => match place i, cellsOf? v with
    | some (off, size), some vs => match Nat.beq vs.length size with
      | true => match overAt vs off cells with
        | some cells' => fillA place cells' rest
        | none => none
      | false => none
    | _, _ => none

def sizeOf? (P : Program) (t : TypeId) : Option Nat := match P.info? t with
  | some inf => some inf.size
  | none => none

def placesOf (P : Program) : List Field → Option (List (Nat × Nat))
  | [] => some []
  | f :: r => match sizeOf? P f.type, placesOf P r with
    | some s, some l => some ((f.offset, s) :: l)
    | _, _ => none

def abuild (P : Program) (t : TypeId) (parts : List (Nat × Value)) : Option Value :=
  match zeroOf P t, P.underlying t with
  | some z, some (.struct fields) => match placesOf P fields.toList with
    | some places => match fillA (fun i => places[i]?) z.cells.toList parts with
      | some cells => some (.agg ⟨cells⟩)
      | none => none
    | none => none
  | some z, some (.array _ elem) => match sizeOf? P elem with
    | some size => match fillA (fun i => some (i * size, size)) z.cells.toList parts with
      | some cells => some (.agg ⟨cells⟩)
      | none => none
    | none => none
  | _, _ => none

/-- n times the zero value's cells. -/
def zeros (z : List Value) : Nat → List Value
  | 0 => []
  | n + 1 => z ++ zeros z n

/-- A slice of a new row. -/
def newSlice (H : AHeap) (ty : TypeId) (cells : List Value) (len room : Nat) : Value × AHeap :=
  (.slice (some ⟨H.n, 0, some room⟩) len 0, H.push (.row ty (cells.map fun v => (v, 0)) 0 false))

def abuildSlice (P : Program) (H : AHeap) (t : TypeId) (len : Nat) (parts : List (Nat × Value)) : Option (Value × AHeap) :=
  match P.underlying t with
  | some (.slice elem) => match sizeOf? P elem, zeroOf P elem with
    | some size, some z => match Nat.beq z.cells.toList.length size && Nat.ble (len * size) 16777216 with
      | true => match fillA (fun i => some (i * size, size)) (zeros z.cells.toList len) parts with
        | some cells => some (newSlice H elem cells len len)
        | none => none
      | false => none
    | _, _ => none
  | _ => none

def apart (P : Program) (t : TypeId) (cs : List Value) (off : Nat) : Option Value :=
  match isAggB P t, sizeOf? P t with
  | some true, some n => match Nat.ble (off + n) cs.length with
    | true => some (.agg ⟨(cs.drop off).take n⟩)
    | false => none
  | some false, some _ => cs[off]?
  | _, _ => none

def afield (P : Program) (t : TypeId) (x : Value) (f : Nat) : Option Value :=
  match P.underlying t, x with
  | some (.struct fields), .agg cs => match fields.toList[f]? with
    | some fd => apart P fd.type cs.toList fd.offset
    | none => none
  | _, _ => none

def afieldAddr (P : Program) (t : TypeId) (x : Value) (f : Nat) : Option Value :=
  match P.underlying t, x with
  | some (.struct fields), .pointer (some ⟨F, i, some g⟩) => match fields.toList[f]? with
    | some fd => match sizeOf? P fd.type with
      | some (_ + 1) => some (.pointer (some ⟨F, i + fd.offset, some g⟩))
      | _ => none
    | none => none
  | _, _ => none

def aindexAddr (P : Program) (t : TypeId) (x ix : Value) : Option Value :=
  match ix, P.underlying t, x with
  | .int _ i, some (.slice elem), .slice (some ⟨F, o, some _⟩) len g => match decide (0 ≤ i), Nat.blt i.toNat len, sizeOf? P elem with
    | true, true, some s => some (.pointer (some ⟨F, o + i.toNat * s, some g⟩))
    | _, _, _ => none
  | .int _ i, some (.array len elem), .pointer (some ⟨F, o, some g⟩) => match decide (0 ≤ i), Nat.blt i.toNat len, sizeOf? P elem with
    | true, true, some s => some (.pointer (some ⟨F, o + i.toNat * s, some g⟩))
    | _, _, _ => none
  | _, _, _ => none

def aindex (P : Program) (t : TypeId) (x ix : Value) : Option Value :=
  match ix, P.underlying t, x with
  | .int _ i, some .string, .string s => match decide (0 ≤ i), s.data.toList[i.toNat]? with
    | true, some b => some (.int .u8 b.toNat)
    | _, _ => none
  | .int _ i, some (.array len elem), .agg cs => match decide (0 ≤ i), Nat.blt i.toNat len, sizeOf? P elem with
    | true, true, some s => apart P elem cs.toList (i.toNat * s)
    | _, _, _ => none
  | _, _, _ => none

/-- A bound of a slice, from 0 to y. -/
def abound (y : Nat) : Option Value → Nat → Option Nat
  | none, d => some d
  | some (.int _ i), _ => match decide (0 ≤ i), Nat.ble i.toNat y with
    | true, true => some i.toNat
    | _, _ => none
  | some _, _ => none

def str (l : List UInt8) : Value := .string ⟨⟨l⟩⟩

/-- The bounds of a slice of something that is len long, and has room. -/
def abounds (len room : Nat) (lo hi mx : Option Value) : Option (Nat × Nat × Nat) :=
  match abound room mx room with
  | some m => match mx.isSome && hi.isNone with
    | true => none
    | false => match abound m hi len with
      | some h => match abound h lo 0 with
        | some l => some (l, h, m)
        | none => none
      | none => none
  | none => none

def aslice (P : Program) (H : AHeap) (t : TypeId) (x : Value) (lo hi mx : Option Value) : Option Value :=
  match P.underlying t, x with
  | some .string, .string s => match mx, abounds s.data.toList.length s.data.toList.length lo hi none with
    | none, some (l, h, _) => some (str ((s.data.toList.drop l).take (h - l)))
    | _, _ => none
  | some (.slice elem), .slice (some ⟨F, o, some room⟩) len g => match abounds len room lo hi mx, sizeOf? P elem with
    | some (l, h, m), some s => match mx.isSome && Nat.beq m l with
      | true => some (.slice (some ⟨0, 0, none⟩) 0 0)
      | false => match H.get F with
        | some (.row ty _ _ _) => match sizeOf? P ty with
          | some s' => match Nat.beq s s' with
            | true => some (.slice (some ⟨F, o + l * s, some (m - l)⟩) (h - l) g)
            | false => none
          | none => none
        | _ => none
    | _, _ => none
  | some (.slice elem), .slice none 0 0 => match abounds 0 0 lo hi mx, sizeOf? P elem with
    | some _, some _ => some (.slice none 0 0)
    | _, _ => none
  | some (.slice elem), .slice (some ⟨0, 0, none⟩) 0 0 => match abounds 0 0 lo hi mx, sizeOf? P elem with
    | some _, some _ => some (.slice (some ⟨0, 0, none⟩) 0 0)
    | _, _ => none
  | _, _ => none

def amakeSlice (P : Program) (H : AHeap) (t : TypeId) (len cap : Value) : Option (Value × AHeap) :=
  match P.underlying t, len, cap with
  | some (.slice elem), .int _ l, .int _ c => match decide (0 ≤ l ∧ l ≤ c ∧ c ≤ 1099511627776), zeroOf P elem, P.info? elem with
    | true, some z, some inf => match Nat.beq z.cells.toList.length inf.size && Nat.ble (c.toNat * inf.bytes) 17592186044416 with
      | true => some (newSlice H elem (zeros z.cells.toList c.toNat) l.toNat c.toNat)
      | false => none
    | _, _, _ => none
  | _, _, _ => none

/-! ### Operators -/
def bytesLess : List UInt8 → List UInt8 → Bool := Op.bytesLess

def strEq : List UInt8 → List UInt8 → Bool
  | [], [] => true
  | a :: x, b :: y => match Nat.beq a.toNat b.toNat with
    | true => strEq x y
    | false => false
  | _, _ => false

def astrOp (op : BinOp) (x y : List UInt8) : Option Value :=
  match op with
  | .add => match Nat.ble (x.length + y.length) 9223372036854775807 with
    | true => some (str (x ++ y))
    | false => none
  | .eql => some (.bool (strEq x y))
  | .neq => some (.bool !(strEq x y))
  | .lss => some (.bool (bytesLess x y))
  | .leq => some (.bool (bytesLess x y || strEq x y))
  | .gtr => some (.bool !(bytesLess x y || strEq x y))
  | .geq => some (.bool !(bytesLess x y))
  | _ => none

def limK : IntKind → Nat
  | .i8 => 127
  | .i16 => 32767
  | .i32 => 2147483647
  | .i64 => 9223372036854775807
  | .u8 => 255
  | .u16 => 65535
  | .u32 => 4294967295
  | .u64 => 18446744073709551615

def wrapF (k : IntKind) (n : Int) : Int := match n with
  | .ofNat m => match Nat.ble m (limK k) with
    | true => .ofNat m
    | false => k.wrap (.ofNat m)
  | .negSucc m => k.wrap (.negSucc m)

def ieq : Int → Int → Bool
  | .ofNat a, .ofNat b => Nat.beq a b
  | .negSucc a, .negSucc b => Nat.beq a b
  | _, _ => false

def ilt : Int → Int → Bool
  | .ofNat a, .ofNat b => Nat.blt a b
  | .negSucc a, .negSucc b => Nat.blt b a
  | .negSucc _, .ofNat _ => true
  | .ofNat _, .negSucc _ => false

/-- What is often done to numbers; none: it is done elsewhere. -/
def aint (op : BinOp) (k : IntKind) (x y : Int) : Option Value :=
  match op with
  | .add => some (.int k (wrapF k (x + y)))
  | .sub => some (.int k (wrapF k (x - y)))
  | .mul => some (.int k (wrapF k (x * y)))
  | .eql => some (.bool (ieq x y))
  | .neq => some (.bool !(ieq x y))
  | .lss => some (.bool (ilt x y))
  | .gtr => some (.bool (ilt y x))
  | .leq => some (.bool !(ilt y x))
  | .geq => some (.bool !(ilt x y))
  | _ => none

/-- Something held against nil: are they the same? -/
def nilEq (P : Program) (t : TypeId) (a b : Value) : Option Bool :=
  match P.underlying t with
  | some (.pointer _) => match a, b with
    | .pointer (some _), .pointer none => some false
    | .pointer none, .pointer (some _) => some false
    | _, _ => none
  | some (.slice _) => match a, b with
    | .slice (some _) _ _, .slice none _ _ => some false
    | .slice none _ _, .slice (some _) _ _ => some false
    | _, _ => none
  | some (.map _ _) => match a, b with
    | .map (some _), .map none => some false
    | .map none, .map (some _) => some false
    | _, _ => none
  | some (.func _ _ _) => match a, b with
    | .func _ _ _, .nilFunc => some false
    | .nilFunc, .func _ _ _ => some false
    | _, _ => none
  | some (.interface _) => match a, b with
    | .iface _ _, .nilIface => some false
    | .nilIface, .iface _ _ => some false
    | _, _ => none
  | _ => none

def agenOp (P : Program) (op : BinOp) (t : TypeId) (x y : Operand) (a b : Value) : Option Value :=
  match flat a && flat b with
  | true => match pureRun P (do eqGuard op t x y a b; binOp op t a b) with
    | some v => match flat v with
      | true => some v
      | false => none
    | none => none
  | false => match op with
    | .eql => match nilEq P t a b with
      | some r => some (.bool r)
      | none => none
    | .neq => match nilEq P t a b with
      | some r => some (.bool !r)
      | none => none
    | _ => none

def abinOp (P : Program) (op : BinOp) (t : TypeId) (x y : Operand) (a b : Value) : Option Value :=
  match a, b with
  | .string s, .string u => astrOp op s.data.toList u.data.toList
  | .int k m, .int k' n => match decide (k = k'), aint op k m n with
    | true, some v => some v
    | _, _ => agenOp P op t x y (.int k m) (.int k' n)
  | a, b => agenOp P op t x y a b

def aunOp (P : Program) (op : UnOp) (a : Value) : Option Value :=
  match flat a with
  | true => match pureRun P (Op.unary op a) with
    | some v => match flat v with
      | true => some v
      | false => none
    | none => none
  | false => none

/-- The bytes that cells are. -/
def bytesOf : List Value → Option (List UInt8)
  | [] => some []
  | .int .u8 n :: r => match bytesOf r with
    | some l => some (UInt8.ofNat n.toNat :: l)
    | none => none
  | _ => none

def aconvert (P : Program) (H : AHeap) (src dst : TypeId) (a : Value) : Option (Value × AHeap) :=
  match P.underlying src, P.underlying dst, a with
  | some .string, some (.slice e), .string s => match P.underlying e, P.info? e with
    | some (.int .u8), some inf => match Nat.beq inf.size 1 with
      | true => some (newSlice H e (s.data.toList.map fun b => .int .u8 b.toNat) s.data.toList.length s.data.toList.length)
      | false => none
    | _, _ => none
  | some (.slice e), some .string, .slice a len g => match P.underlying e with
    | some (.int .u8) => match a, len with
      | none, 0 => some (str [], H)
      | some ⟨F, o, some _⟩, len => match H.get F with
        | some (.row _ cells _ _) => match rdAt cells o g len with
          | some vs => match bytesOf vs with
            | some l => some (str l, H)
            | none => none
          | none => none
        | _ => none
      | some ⟨_, _, none⟩, 0 => some (str [], H)
      | _, _ => none
    | _ => none
  | some _, some .string, .string s => some (.string s, H)
  | some _, some (.int k), .int _ n => some (.int k (k.wrap n), H)
  | _, _, _ => none

def amakeInterface (P : Program) (t : TypeId) (x : Value) : Option Value :=
  match P.underlying t with
  | some (.interface _) => none
  | some _ => some (.iface t x)
  | none => none

def anilCheck (x : Value) : Option Value :=
  match x with
  | .pointer (some a) => some (.pointer (some a))
  | .iface t v => some (.iface t v)
  | .func (.func f) a b => some (.func (.func f) a b)
  | _ => none

/-! ### Maps (keys: numbers, texts, flags) -/
def keyEq : Value → Value → Option Bool
  | .int k a, .int k' b => match decide (k = k') with
    | true => some (decide (a = b))
    | false => none
  | .string a, .string b => some (strEq a.data.toList b.data.toList)
  | _, _ => none

def findE (k : Value) : List (Value × Value × Nat) → Nat → Option (Option (Nat × Value))
  | [], _ => some none
  | (k', v, _) :: es, i => match keyEq k k' with
    | some true => some (some (i, v))
    | some false => findE k es (i + 1)
    | none => none

def keyKind (P : Program) (t : TypeId) (k : Value) : Bool :=
  match P.underlying t, k with
  | some (.int _), .int _ _ => true
  | some .string, .string _ => true
  | _, _ => false

def entriesOf (H : AHeap) (x : Value) : Option (List (Value × Value × Nat)) := match x with
  | .map none => some []
  | .map (some F) => match H.get F with
    | some (.map es _) => some es
    | _ => none
  | _ => none

def alookup (P : Program) (H : AHeap) (t : TypeId) (x ix : Value) (ok : Bool) : Option Value :=
  match P.underlying t with
  | some (.map kt et) => match keyKind P kt ix, zeroOf P et with
    | true, some z =>
      match entriesOf H x with
      | some es => match findE ix es 0 with
        | some (some (_, v)) => match ok with
          | true => some (.tuple ⟨[v, .bool true]⟩)
          | false => some v
        | some none => match ok with
          | true => some (.tuple ⟨[z, .bool false]⟩)
          | false => some z
        | none => none
      | none => none
    | _, _ => none
  | _ => none

def setE (v : Value) : Nat → List (Value × Value × Nat) → List (Value × Value × Nat)
  | _, [] => []
  | 0, (k, _, b) :: r => (k, v, b) :: r
  | i + 1, e :: r => e :: setE v i r

def amapUpdate (P : Program) (H : AHeap) (t : TypeId) (m k v : Value) : Option AHeap :=
  match P.underlying t, m with
  | some (.map kt _), .map (some F) => match keyKind P kt k, H.get F with
    | true, some (.map es clock) => match findE k es 0 with
      | some (some (i, _)) => some (H.set F (.map (setE v i es) clock))
      | some none => some (H.set F (.map (es ++ [(k, v, clock)]) (clock + 1)))
      | none => none
    | _, _ => none
  | _, _ => none

/-! ### Builtins -/
def acellsOf (H : AHeap) (size n : Nat) : Value → Option (List Value)
  | .slice (some ⟨F, o, some _⟩) _ g => match H.get F with
    | some (.row _ cells _ _) => rdAt cells o g (n * size)
    | _ => none
  | .slice none _ _ => match n with | 0 => some [] | _ + 1 => none
  | .slice (some ⟨_, _, none⟩) _ _ => match n with | 0 => some [] | _ + 1 => none
  | .string s => match size with
    | 1 => some ((s.data.toList.take n).map fun b => .int .u8 b.toNat)
    | _ => none
  | _ => none

def alen (H : AHeap) : Value → Option Nat
  | .slice _ n _ => some n
  | .string s => some s.data.toList.length
  | .map none => some 0
  | .map (some F) => match H.get F with
    | some (.map es _) => some es.length
    | _ => none
  | _ => none

/-- What is appended: how many elements, and their cells. -/
def appSrc (P : Program) (H : AHeap) (inf : TypeInfo) (z : List Value) (xt : TypeId) (x : Value) : Option (Nat × List Value) :=
  match P.underlying xt, x with
  | some (.int _), .int _ n => match decide (0 ≤ n ∧ n ≤ 1099511627776), Nat.ble (n.toNat * inf.bytes) 17592186044416 with
    | true, true => some (n.toNat, zeros z n.toNat)
    | _, _ => none
  | some (.slice _), .slice a n g => match acellsOf H inf.size n (.slice a n g) with
    | some vs => some (n, vs)
    | none => none
  | some .string, .string s => match Nat.beq inf.size 1 with
    | true => some (s.data.toList.length, s.data.toList.map fun b => .int .u8 b.toNat)
    | false => none
  | _, _ => none

/-- Into a new row. -/
def appNew (H : AHeap) (elem : TypeId) (inf : TypeInfo) (nil : Value) (n : Nat) (vs : List Value) : Option (Value × AHeap) :=
  match n with
  | 0 => some (nil, H)
  | _ + 1 => match Nat.ble (n * inf.bytes) 17592186044416 && Nat.blt 0 inf.bytes && Nat.beq vs.length (n * inf.size) with
    | true => some (newSlice H elem vs n n)
    | false => none

def appOld (H : AHeap) (elem : TypeId) (inf : TypeInfo) (F o room len g n : Nat) (vs : List Value) : Option (Value × AHeap) :=
  match n with
  | 0 => some (.slice (some ⟨F, o, some room⟩) len g, H)
  | _ + 1 => match Nat.ble (len + n) room with
    | true => match vs with
      | [] => none
      | _ :: _ => match wrCells H F (o + len * inf.size) g vs with
        | some H' => some (.slice (some ⟨F, o, some room⟩) (len + n) g, H')
        | none => none
    | false => match H.get F with
      | some (.row ty cells gen ro) =>
        match !ro && Nat.beq ty elem && Nat.ble ((len + n) * inf.bytes) 17592186044416 && Nat.blt 0 inf.bytes && Nat.beq vs.length (n * inf.size) && vs.all cellable && Nat.ble (o + len * inf.size) cells.length with
        | true => match rdAt cells o g (len * inf.size) with
          | some _ => some (.slice (some ⟨F, o, some (len + n)⟩) (len + n) (gen + 1), H.set F (.row ty (cells.take (o + len * inf.size) ++ vs.map fun v => (v, gen + 1)) (gen + 1) false))
          | none => none
        | false => none
      | _ => none

def aappend (P : Program) (H : AHeap) (st xt : TypeId) (s x : Value) : Option (Value × AHeap) :=
  match P.underlying st with
  | some (.slice elem) => match P.info? elem, zeroOf P elem with
    | some inf, some z => match Nat.beq z.cells.toList.length inf.size, appSrc P H inf z.cells.toList xt x with
      | true, some (n, vs) => match s with
        | .slice none 0 0 => appNew H elem inf (.slice none 0 0) n vs
        | .slice (some ⟨0, 0, none⟩) 0 0 => appNew H elem inf (.slice (some ⟨0, 0, none⟩) 0 0) n vs
        | .slice (some ⟨F, o, some room⟩) len g => appOld H elem inf F o room len g n vs
        | _ => none
      | _, _ => none
    | _, _ => none
  | _ => none

def copyLen (x : Value) (dl : Nat) : Option Nat := match x with
  | .slice _ n _ => some (Nat.min n dl)
  | .string s => some (Nat.min s.data.toList.length dl)
  | _ => none

def acopy (P : Program) (H : AHeap) (dt : TypeId) (d x : Value) : Option (Value × AHeap) :=
  match P.underlying dt, d with
  | some (.slice elem), .slice a dl g =>
    match copyLen x dl, sizeOf? P elem with
    | some 0, some _ => some (.int .i64 0, H)
    | some (n + 1), some size => match acellsOf H size (n + 1) x, a with
      | some (y :: ys), some ⟨F, o, some _⟩ => match wrCells H F o g (y :: ys) with
        | some H' => some (.int .i64 (n + 1 : Nat), H')
        | none => none
      | _, _ => none
    | _, _ => none
  | _, _ => none

def adelete (P : Program) (H : AHeap) (t : TypeId) (m k : Value) : Option AHeap :=
  match P.underlying t with
  | some (.map kt _) => match keyKind P kt k with
    | true => match m with
      | .map none => some H
      | .map (some F) => match H.get F with
        | some (.map es clock) => match findE k es 0 with
          | some (some (i, _)) => some (H.set F (.map (es.eraseIdx i) clock))
          | some none => some H
          | none => none
        | _ => none
      | _ => none
    | false => none
  | _ => none

def aclear (P : Program) (H : AHeap) (t : TypeId) (x : Value) : Option AHeap :=
  match P.underlying t, x with
  | some (.slice elem), .slice a n g => match n with
    | 0 => some H
    | _ + 1 => match zeroOf P elem, a with
      | some z, some ⟨F, o, some _⟩ => match zeros z.cells.toList n with
        | [] => none
        | y :: ys => wrCells H F o g (y :: ys)
      | _, _ => none
  | _, _ => none

def maxA : List Value → Option Int
  | [] => none
  | [.int .i64 n] => some n
  | .int .i64 n :: r => match maxA r with
    | some m => some (if m > n then m else n)
    | none => none
  | _ => none
def minA : List Value → Option Int
  | [] => none
  | [.int .i64 n] => some n
  | .int .i64 n :: r => match minA r with
    | some m => some (if m < n then m else n)
    | none => none
  | _ => none

def abuiltin (P : Program) (H : AHeap) (b : Builtin) (ts : Array TypeId) (args : List Value) : Option (Value × AHeap) :=
  match b, args with
  | .len, [x] => match ts.toList[0]? with
    | some t => match P.underlying t, alen H x with
      | some (.array _ _), _ => none
      | some (.pointer _), _ => none
      | some .string, some n => (match x with | .string _ => some (.int .i64 n, H) | _ => none)
      | some (.slice _), some n => (match x with | .slice _ _ _ => some (.int .i64 n, H) | _ => none)
      | some (.map _ _), some n => (match x with | .map _ => some (.int .i64 n, H) | _ => none)
      | _, _ => none
    | none => none
  | .append, [s, x] => match ts.toList[0]? with
    | some st => match ts.toList[1]? with
      | some xt => aappend P H st xt s x
      | none => none
    | none => none
  | .copy, [d, x] => match ts.toList[0]? with
    | some dt => acopy P H dt d x
    | none => none
  | .delete, [m, k] => match ts.toList[0]? with
    | some t => match adelete P H t m k with
      | some H' => some (.tuple ⟨[]⟩, H')
      | none => none
    | none => none
  | .clear, [x] => match ts.toList[0]? with
    | some t => match aclear P H t x with
      | some H' => some (.tuple ⟨[]⟩, H')
      | none => none
    | none => none
  | .max, l => match l.all flat, pureRun P (Builtin.max_ #[] 0 ⟨l⟩) with
    | true, some v => (match flat v with | true => some (v, H) | false => none)
    | _, _ => none
  | .min, l => match l.all flat, pureRun P (Builtin.min_ #[] 0 ⟨l⟩) with
    | true, some v => (match flat v with | true => some (v, H) | false => none)
    | _, _ => none
  | _, _ => none

/-! ### Methods -/
/-- The function that a method's name comes to, and its receiver. -/
def amethod (P : Program) (H : AHeap) (t : TypeId) (v : Value) (name : String) : Option (FuncId × Value) :=
  match P.info? t with
  | some inf => match inf.methods.toList.find? (fun m => m.name == name) with
    | some m => match m.path.toList, m.func with
      | [], some (f, ptr) => match P.underlying t, ptr with
        | some (.pointer _), true => some (f, v)
        | some (.pointer elem), false => match aload P H elem v with
          | some x => some (f, x)
          | none => none
        | some _, false => some (f, v)
        | _, _ => none
      | [s], some (f, false) => match P.underlying s.struct, s.deref, v with
        | some (.struct fields), false, .agg cs => match fields.toList[s.index]? with
          | some fd => match P.underlying fd.type with
            | some (.pointer _) => none
            | some _ => match apart P fd.type cs.toList fd.offset with
              | some x => some (f, x)
              | none => none
            | none => none
          | none => none
        | _, _, _ => none
      | _, _ => none
    | none => none
  | none => none

/-! ### A range over a map, where nothing is open: nothing, or one entry, is left -/
def leftOf (seen : List Nat) : List (Value × Value × Nat) → List (Value × Value × Nat)
  | [] => []
  | e :: r => match seen.contains e.2.2 with
    | true => leftOf seen r
    | false => e :: leftOf seen r

def anext (H : AHeap) (it : Value) : Option (Value × AHeap) :=
  match it with
  | .pointer (some ⟨r, 0, some 0⟩) => match H.get r with
    | some (.iter none _ _ _) => some (.tuple ⟨[.bool false]⟩, H)
    | some (.iter (some m) since seen last) => match H.get m with
      | some (.map es clock) => match !seen.isEmpty && !es.isEmpty && es.all (fun e => Nat.ble last e.2.2) with
        | true => none
        | false => match leftOf seen es with
          | [] => some (.tuple ⟨[.bool false]⟩, H)
          | [(k, v, b)] => match Nat.blt b since with
            | true => some (.tuple ⟨[.bool true, k, v]⟩, H.set r (.iter (some m) since (seen ++ [b]) clock))
            | false => none
          | _ => none
      | _ => none
    | _ => none
  | _ => none

/-! ### One operation that calls nothing -/
structure Cfg where
  P : Program
  /-- The package-level variables that are told of: the i-th one is the object i. -/
  gl : List Nat
  /-- Functions that are known otherwise. -/
  prim : FuncId → Option (List Value → AHeap → Option (Value × AHeap))
  /-- Are two values the same? -/
  deq : Value → Value → Bool

def idx (g : Nat) : List Nat → Nat → Option Nat
  | [], _ => none
  | x :: r, i => match Nat.beq x g with
    | true => some i
    | false => idx g r (i + 1)

/-- Temporaries, the last one that was written first. -/
abbrev Env := List (Tmp × Value)

noncomputable def getE (env : Env) (t : Tmp) : Value :=
  List.rec (motive := fun _ => Value) junk (fun p _ ih => cond (Nat.beq p.1 t) p.2 ih) env

noncomputable def eval (C : Cfg) (env : Env) : Operand → Value
  | .tmp t => getE env t
  | .const v => match flat v with
    | true => v
    | false => junk
  | .global g => match idx g C.gl 0 with
    | some i => .pointer (some ⟨i, 0, some 0⟩)
    | none => junk
  | .func f => .func (.func f) #[] #[]

def some2 (H : AHeap) (v : Option Value) : Option (Value × AHeap) := match v with
  | some v => some (v, H)
  | none => none
def unit2 (H : Option AHeap) : Option (Value × AHeap) := match H with
  | some H => some (undef, H)
  | none => none

def opA (C : Cfg) (ρ : Operand → Value) (o : Oper) (H : AHeap) : Option (Value × AHeap) :=
  match o.op with
  | .move x | .assign x => some (ρ x, H)
  | .pick c a b => match ρ c with
    | .bool true => some (ρ a, H)
    | .bool false => some (ρ b, H)
    | _ => none
  | .alloc e => aalloc C.P H e
  | .box e x => abox H e (ρ x)
  | .build t ps => some2 H (abuild C.P t (ps.toList.map fun (i, x) => (i, ρ x)))
  | .buildSlice t len ps => abuildSlice C.P H t len (ps.toList.map fun (i, x) => (i, ρ x))
  | .load t a => some2 H (aload C.P H t (ρ a))
  | .store t a x => unit2 (astore C.P H t (ρ a) (ρ x))
  | .nilCheck x => some2 H (anilCheck (ρ x))
  | .binOp op t x y _ => some2 H (abinOp C.P op t x y (ρ x) (ρ y))
  | .unOp op _ x => some2 H (aunOp C.P op (ρ x))
  | .convert src dst x => aconvert C.P H src dst (ρ x)
  | .makeInterface t x => some2 H (amakeInterface C.P t (ρ x))
  | .makeFunc fn first captured => match fn with
    | .yield _ => none
    | _ => some (.func fn ⟨first.toList.map ρ⟩ ⟨captured.toList.map ρ⟩, H)
  | .makeMap _ none => some (.map (some H.n), H.push (.map [] 0))
  | .makeSlice t l c => amakeSlice C.P H t (ρ l) (ρ c)
  | .slice t x lo hi mx => some2 H (aslice C.P H t (ρ x) (lo.map ρ) (hi.map ρ) (mx.map ρ))
  | .fieldAddr s x f => some2 H (afieldAddr C.P s (ρ x) f)
  | .field t x f => some2 H (afield C.P t (ρ x) f)
  | .indexAddr t x ix => some2 H (aindexAddr C.P t (ρ x) (ρ ix))
  | .index t x ix => some2 H (aindex C.P t (ρ x) (ρ ix))
  | .lookup t x ix ok => some2 H (alookup C.P H t (ρ x) (ρ ix) ok)
  | .mapUpdate t m k x | .insert t m k x => unit2 (amapUpdate C.P H t (ρ m) (ρ k) (ρ x))
  | .range t x => match C.P.underlying t, ρ x with
    | some (.map _ _), .map none => some (.pointer (some ⟨H.n, 0, some 0⟩), H.push (.iter none 0 [] 0))
    | some (.map _ _), .map (some m) => match H.get m with
      | some (.map _ clock) => some (.pointer (some ⟨H.n, 0, some 0⟩), H.push (.iter (some m) clock [] clock))
      | _ => none
    | _, _ => none
  | .next it false => anext H (ρ it)
  | .extract t ix => match ρ t with
    | .tuple vs => some2 H vs.toList[ix]?
    | _ => none
  | _ => none

/-- One operation. -/
def oper (C : Cfg) (callf : Fn → List Value → AHeap → Option (Value × AHeap)) (ρ : Operand → Value) (o : Oper) (H : AHeap) : Option (Value × AHeap) :=
  match o.op with
  | .call c => match c.callee with
    | .builtin b => abuiltin C.P H b c.argTypes (c.args.toList.map ρ)
    | .value f => match ρ f with
      | .func (.func g) first captured => callf (.func g) (first.toList ++ c.args.toList.map ρ ++ captured.toList) H
      | .func (.yield l) first captured => match first.toList, captured.toList with
        | [], [] => callf (.yield l) (c.args.toList.map ρ) H
        | _, _ => none
      | _ => none
    | .invoke r name => match ρ r with
      | .iface t v => match amethod C.P H t v name with
        | some (f, x) => callf (.func f) (x :: c.args.toList.map ρ) H
        | none => none
      | _ => none
  | _ => opA C ρ o H

/-! ### A region -/
def putE (nt : Nat) (dst : Option Tmp) (v : Value) (env : Env) : Option Env := match dst with
  | some d => match Nat.blt d nt with
    | true => some ((d, v) :: env)
    | false => none
  | none => some env

/-- Is the operation asked for? none: nobody knows. -/
noncomputable def wantedA (ops : Array Oper) (env : Env) (o : Oper) : Option Bool :=
  match o.guard with
  | none => some true
  | some (j, want) => match (ops.toList[j]?).bind (·.dst) with
    | some d => match getE env d with
      | .bool b => some (b == want)
      | .tuple vs => match vs.toList with
        | [] => some false
        | _ :: _ => none
      | _ => none
    | none => none

noncomputable def runSeq (C : Cfg) (callf : Fn → List Value → AHeap → Option (Value × AHeap)) (nt : Nat) (ops : Array Oper) : List Oper → Env → AHeap → Option (Env × AHeap)
  | [], env, H => some (env, H)
  | o :: r, env, H => match wantedA ops env o with
    | some true => match oper C callf (eval C env) o H with
      | some (v, H') => match putE nt o.dst v env with
        | some env' => runSeq C callf nt ops r env' H'
        | none => none
      | none => none
    | some false => match putE nt o.dst undef env with
      | some env' => runSeq C callf nt ops r env' H
      | none => none
    | none => none

/-- Does it turn memory (beyond what is new), or call? -/
def effectful (o : Oper) : Bool := match o.op with
  | .store .. | .mapUpdate .. | .insert .. | .mapEntry .. | .entryStore .. | .next .. => true
  | .call { callee := .builtin b, .. } => (match b with | .len | .max | .min => false | _ => true)
  | .call _ => true
  | _ => false

inductive Kind where
  | eff
  | pure
  | read
  | alloc

/-- What kind of operation it is: it turns memory or calls; it asks nothing of memory; it looks into memory; it makes one new object of what it is given. -/
def kindA (P : Program) (o : Oper) : Option Kind := match o.op with
  | .store .. | .mapUpdate .. | .insert .. | .next .. => some .eff
  | .call c => match c.callee with
    | .builtin b => match b with
      | .len => some .read
      | .max | .min => some .pure
      | _ => some .eff
    | _ => some .eff
  | .load .. | .lookup .. | .slice .. => some .read
  | .convert src dst _ => match P.underlying src, P.underlying dst with
    | some (.slice _), some .string => some .read
    | some .string, some (.slice _) => some .alloc
    | some _, some _ => some .pure
    | _, _ => none
  | .alloc _ | .box .. | .buildSlice .. | .makeMap _ none | .makeSlice .. => some .alloc
  | .move _ | .assign _ | .pick .. | .build .. | .nilCheck _ | .binOp .. | .unOp .. | .makeInterface .. | .makeFunc .. | .fieldAddr .. | .field .. | .indexAddr .. | .index .. | .extract .. => some .pure
  | _ => none

/-- On which operations each one waits, whatever the mode; and these on others, and so on. -/
def beforeL : List Oper → List Nat → List Nat
  | [], acc => acc
  | o :: r, acc => beforeL r (acc ++ [o.after.toList.foldl (fun s e => match Region.binds .any e with
      | true => s ||| 2 ^ e.on ||| acc.getD e.on 0
      | false => s) 0])

def hasBit (m i : Nat) : Bool := Nat.testBit m i
def within (m d : Nat) : Bool := Nat.beq (m &&& d) m

def pickOp (bef : List Nat) (eff : List Bool) (done : Nat) (want : Bool) : Nat → Nat → Option Nat
  | 0, _ => none
  | n + 1, i => match !(hasBit done i) && within (bef.getD i 0) done && (eff.getD i false == want) with
    | true => some i
    | false => pickOp bef eff done want n (i + 1)

/-- An order: what turns no memory as early as can be. -/
def orderOf (bef : List Nat) (eff : List Bool) (n : Nat) : Nat → Nat → List Nat
  | 0, _ => []
  | k + 1, done => match pickOp bef eff done false n 0 with
    | some i => i :: orderOf bef eff n k (done ||| 2 ^ i)
    | none => match pickOp bef eff done true n 0 with
      | some i => i :: orderOf bef eff n k (done ||| 2 ^ i)
      | none => []

def tmpsOf (ops : List Oper) (o : Oper) : List Tmp :=
  let rd := o.op.operands.toList.filterMap fun | .tmp t => some t | _ => none
  let gd := match o.guard with
    | some (j, _) => ((ops[j]?).bind (·.dst)).toList
    | none => []
  rd ++ gd

/-- Temporaries: one operation at most writes one, and who else reads it is in order with it. -/
def tmpsFine (bef : List Nat) (ops : List Oper) : Bool :=
  let l := ops.zipIdx
  l.all fun (o, i) => match o.dst with
    | none => true
    | some d => l.all fun (p, j) => Nat.beq i j || ((match p.dst with
      | some d' => !(Nat.beq d d')
      | none => true) && (!((tmpsOf ops p).contains d) || hasBit (bef.getD i 0) j || hasBit (bef.getD j 0) i))

/-- Is an order fit: each waits for what it must; who turns memory, in one row; who does not, and stands behind one who does, must wait for it. -/
def orderFine (bef : List Nat) (eff : List Bool) : List Nat → Nat → Option Nat → Bool
  | [], _, _ => true
  | i :: r, done, last => !(hasBit done i) && within (bef.getD i 0) done &&
    (match last with | some e => hasBit (bef.getD i 0) e | none => true) &&
    orderFine bef eff r (done ||| 2 ^ i) (match eff.getD i false with | true => some i | false => last)

def maskOf : List Nat → Nat
  | [] => 0
  | i :: r => 2 ^ i ||| maskOf r

/-- A store that is no part of a guard. -/
def plainStore (o : Oper) : Bool := match o.op, o.dst, o.guard with
  | .store .., none, none => true
  | _, _, _ => false

/-- The last two of a row. -/
def lastTwo : List Nat → Option (List Nat × Nat × Nat)
  | [] => none
  | [_] => none
  | [i, j] => some ([], i, j)
  | i :: r => match lastTwo r with
    | some (p, a, b) => some (i :: p, a, b)
    | none => none

structure Plan where
  order : List Nat
  /-- Two stores at the end, of which either may come first. -/
  twin : Option (Nat × Nat)
  bef : List Nat
  fine : Bool

def planOf (ops : Array Oper) : Plan :=
  let l := ops.toList
  let bef := beforeL l []
  let eff := l.map effectful
  let order := orderOf bef eff l.length l.length 0
  let tf := tmpsFine bef l && Nat.beq (maskOf order) (2 ^ l.length - 1)
  let plain : Plan := ⟨order, none, bef, tf && orderFine bef eff order 0 none⟩
  match lastTwo order with
  | some (pre, i, j) => match (l[i]?).map plainStore, (l[j]?).map plainStore, hasBit (bef.getD j 0) i with
    | some true, some true, false => ⟨pre, some (i, j), bef, tf && orderFine bef eff (pre ++ [i]) 0 none && orderFine bef eff (pre ++ [j]) 0 none && !(Nat.beq i j)⟩
    | _, _, _ => plain
  | none => plain

/-- What was read, and is to read the same until it can be read no more: the operation, what its operands were, what it read. -/
structure Pend where
  i : Nat
  o : Oper
  env : Env
  v : Value

noncomputable def readsA (C : Cfg) (H : AHeap) (ρ : Operand → Value) (o : Oper) : Option Value := match o.op with
  | .call c => match c.callee with
    | .builtin b => (abuiltin C.P H b c.argTypes (c.args.toList.map ρ)).map (·.1)
    | _ => none
  | _ => (opA C ρ o H).map (·.1)

noncomputable def stillR (C : Cfg) (H : AHeap) : List Pend → Bool
  | [] => true
  | p :: r => match readsA C H (eval C p.env) p.o with
    | some v => C.deq v p.v && stillR C H r
    | none => false

/-- What may still be read behind an operation. -/
def keepP (bef : List Nat) (i : Nat) (pend : List Pend) : List Pend := pend.filter fun p => !(hasBit (bef.getD i 0) p.i)

def opAt (ops : Array Oper) (i : Nat) : Option Op := match ops.toList[i]? with
  | some o => some o.op
  | none => none

noncomputable def runTwin (C : Cfg) (ops : Array Oper) (bef : List Nat) (i j : Nat) (pend : List Pend) (env : Env) (H : AHeap) : Option (Env × AHeap) :=
  match opAt ops i, opAt ops j with
  | some (.store t a x), some (.store t' a' x') => match eval C env a, eval C env a' with
    | .pointer (some p), .pointer (some p') => match !(Nat.beq p.block p'.block) && stillR C H pend with
      | true => match astore C.P H t (.pointer (some p)) (eval C env x), astore C.P H t' (.pointer (some p')) (eval C env x') with
        | some Ha, some Hb => match astore C.P Ha t' (.pointer (some p')) (eval C env x') with
          | some Hab => match stillR C Ha (keepP bef i pend) && stillR C Hb (keepP bef j pend) && stillR C Hab (keepP bef j (keepP bef i pend)) with
            | true => some (env, Hab)
            | false => none
          | none => none
        | _, _ => none
      | false => none
    | _, _ => none
  | _, _ => none

noncomputable def runDraw (C : Cfg) (callf : Fn → List Value → AHeap → Option (Value × AHeap)) (nt : Nat) (ops : Array Oper) (bef : List Nat) (twin : Option (Nat × Nat)) : List Nat → List Pend → Env → AHeap → Option (Env × AHeap)
  | [], pend, env, H => match twin with
    | some (i, j) => runTwin C ops bef i j pend env H
    | none => match stillR C H pend with
      | true => some (env, H)
      | false => none
  | i :: r, pend, env, H => match ops.toList[i]? with
    | none => none
    | some o => match effectful o with
      | true => match stillR C H pend with
        | true => match wantedA ops env o with
          | some false => match putE nt o.dst undef env with
            | some env' => runDraw C callf nt ops bef twin r (keepP bef i pend) env' H
            | none => none
          | some true => match oper C callf (eval C env) o H with
            | some (v, H') => match putE nt o.dst v env with
              | some env' => runDraw C callf nt ops bef twin r (keepP bef i pend) env' H'
              | none => none
            | none => none
          | none => none
        | false => none
      | false => match wantedA ops env o with
        | some false => match putE nt o.dst undef env with
          | some env' => runDraw C callf nt ops bef twin r pend env' H
          | none => none
        | some true => match kindA C.P o with
          | some k => match oper C callf (eval C env) o H with
            | some (v, H') => match putE nt o.dst v env with
              | some env' => runDraw C callf nt ops bef twin r (match k with | .read => ⟨i, o, env, v⟩ :: pend | _ => pend) env' H'
              | none => none
            | none => none
          | none => none
        | none => none

noncomputable def runRegion (C : Cfg) (callf : Fn → List Value → AHeap → Option (Value × AHeap)) (nt : Nat) (ops : Array Oper) (draw : Bool) (env : Env) (H : AHeap) : Option (Env × AHeap) :=
  match draw with
  | false => runSeq C callf nt ops ops.toList env H
  | true => match (planOf ops).fine with
    | true => runDraw C callf nt ops (planOf ops).bef (planOf ops).twin (planOf ops).order [] env H
    | false => none

/-! ### Code -/
inductive Ex where
  | normal
  | exit (id : Nat)
  | ret

def aloop (f : Env → AHeap → Option (Ex × Env × AHeap)) : Nat → Env → AHeap → Option (Ex × Env × AHeap)
  | 0, _, _ => none
  | n + 1, env, H => match f env H with
    | some (.normal, env', H') => aloop f n env' H'
    | some (e, env', H') => some (e, env', H')
    | none => none

noncomputable def exec (C : Cfg) (callf : Fn → List Value → AHeap → Option (Value × AHeap)) (fuel nt : Nat) : Code → Env → AHeap → Option (Ex × Env × AHeap)
  | .skip, env, H => some (.normal, env, H)
  | .region _ ops draw, env, H => match runRegion C callf nt ops draw env H with
    | some (env', H') => some (.normal, env', H')
    | none => none
  | .seq a b, env, H => match exec C callf fuel nt a env H with
    | some (.normal, env', H') => exec C callf fuel nt b env' H'
    | some (e, env', H') => some (e, env', H')
    | none => none
  | .cond c a b, env, H => match eval C env c with
    | .bool true => exec C callf fuel nt a env H
    | .bool false => exec C callf fuel nt b env H
    | _ => none
  | .block id body, env, H => match exec C callf fuel nt body env H with
    | some (.exit i, env', H') => match Nat.beq i id with
      | true => some (.normal, env', H')
      | false => some (.exit i, env', H')
    | some (e, env', H') => some (e, env', H')
    | none => none
  | .loop body, env, H => aloop (exec C callf fuel nt body) fuel env H
  | .scope body, env, H => exec C callf fuel nt body env H
  | .rangeFunc f params assign body, env, H => match eval C env f with
    | .func (.func g) first captured => match callf (.func g) (first.toList ++ [.func (.yield H.n) #[] #[]] ++ captured.toList) (H.push (.loop nt env params.toList assign body true none)) with
      | some (_, H') => match H'.get H.n with
        | some (.loop nt' tmps params assign body ready pending) => match pending, ready with
          | none, true => some (.normal, env, H'.set H.n (.loop nt' tmps params assign body false none))
          | some .ret, _ => some (.ret, env, H'.set H.n (.loop nt' tmps params assign body false (some .ret)))
          | some (.exit id), _ => some (.exit id, env, H'.set H.n (.loop nt' tmps params assign body false (some (.exit id))))
          | _, _ => none
        | _ => none
      | none => none
    | _ => none
  | .exit id, env, H => some (.exit id, env, H)
  | .label _, env, H => some (.normal, env, H)
  | .ret, env, H => some (.ret, env, H)
  | _, _, _ => none

/-! ### Functions -/
noncomputable def resultA (C : Cfg) (env : Env) (H : AHeap) : ResultVar → Option Value
  | .tmp t => some (getE env t)
  | .cell a t => aload C.P H t (getE env a)

noncomputable def resultsA (C : Cfg) (env : Env) (H : AHeap) : List ResultVar → Option (List Value)
  | [] => some []
  | r :: l => match resultA C env H r, resultsA C env H l with
    | some v, some vs => some (v :: vs)
    | _, _ => none

def oneOf : List Value → Value
  | [v] => v
  | vs => .tuple ⟨vs⟩

/-- The arguments, in the first temporaries. -/
def argsE : Nat → List Value → Env
  | _, [] => []
  | i, v :: r => (i, v) :: argsE (i + 1) r

noncomputable def body (C : Cfg) (callf : Fn → List Value → AHeap → Option (Value × AHeap)) (fuel : Nat) (fn : Func) (args : List Value) (H : AHeap) : Option (Value × AHeap) :=
  match fn.body with
  | some c => match Nat.ble args.length fn.ntmps with
    | true => match exec C callf fuel fn.ntmps c (argsE 0 args) H with
      | some (.normal, env, H') | some (.ret, env, H') => match resultsA C env H' fn.results.toList with
        | some vs => some (oneOf vs, H')
        | none => none
      | _ => none
    | false => none
  | none => none

/-- The round's parameters. -/
def setAll (nt : Nat) : List Tmp → List Value → Env → Option Env
  | [], [], env => some env
  | t :: ts, a :: as, env => match putE nt (some t) a env with
    | some env' => setAll nt ts as env'
    | none => none
  | _, _, _ => none

/-- A round: what stands between the loop and its function. -/
noncomputable def round (C : Cfg) (callf : Fn → List Value → AHeap → Option (Value × AHeap)) (fuel : Nat) (l : Nat) (args : List Value) (H : AHeap) : Option (Value × AHeap) :=
  match H.get l with
  | some (.loop nt tmps params assign bd _ _) => match setAll nt params args tmps with
    | some env0 => match exec C callf fuel nt assign env0 H with
      | some (.normal, env1, H1) => match H1.get l with
        | some (.loop nt' tmps params assign bd' true none) => match exec C callf fuel nt bd env1 (H1.set l (.loop nt' tmps params assign bd' false none)) with
          | some (e, _, H2) => match H2.get l, e with
            | some (.loop nt tmps params assign bd _ _), .normal => some (.bool true, H2.set l (.loop nt tmps params assign bd true none))
            | some (.loop nt tmps params assign bd _ _), .ret => some (.bool false, H2.set l (.loop nt tmps params assign bd false (some .ret)))
            | some (.loop nt tmps params assign bd _ _), .exit id => some (.bool false, H2.set l (.loop nt tmps params assign bd false (some (.exit id))))
            | _, _ => none
          | none => none
        | _ => none
      | _ => none
    | none => none
  | _ => none

noncomputable def call (C : Cfg) : Nat → Fn → List Value → AHeap → Option (Value × AHeap)
  | 0, _, _, _ => none
  | n + 1, f, args, H => match f with
    | .func f => match C.prim f with
      | some p => p args H
      | none => match C.P.funcs.toList[f]? with
        | some fn => body C (call C n) n fn args H
        | none => none
    | .yield l => round C (call C n) n l args H
    | _ => none

end Go.AE
