/-
  AE: what comes in: data as rows of abstract memory that are only read.
-/
import Derived.Test.YtkhbnkncnmeefaaDoorAeDraw7
import Derived.ChangeArms
import Derived.OpenShut
import GoSem.ClaimDataLaid
namespace Go.AE

def absAll {α : Type} (f : α → AHeap → Option (List Value × AHeap)) : List α → AHeap → Option (List Value × AHeap)
  | [], H => some ([], H)
  | x :: r, H => match f x H with
    | some (cs, H1) => match absAll f r H1 with
      | some (ds, H2) => some (cs ++ ds, H2)
      | none => none
    | none => none

/-- A row that is only read. -/
def roRow (ty : TypeId) (cs : List Value) : AObj := .row ty (cs.map fun v => (v, 0)) 0 true

/-- What data reads as: each pointer's and each slice's cells are a row of their own. -/
def absD {X : Type} (P : Program) : Nat → TypeId × DataW X → AHeap → Option (List Value × AHeap)
  | 0, _, _ => none
  | n + 1, x, H => match P.underlying x.1 with
    | some .bool => match x.2 with
      | .lit (.bool b) => some ([.bool b], H)
      | _ => none
    | some (.int k) => match x.2 with
      | .lit (.int _ m) => some ([.int k m], H)
      | _ => none
    | some .string => match x.2 with
      | .lit (.string l) => some ([str l], H)
      | _ => none
    | some (.pointer e) => match x.2 with
      | .nil => some ([.pointer none], H)
      | .ptr d => match sizeOf? P e with
        | some (_ + 1) => match absD P n (e, d) H with
          | some (cs, H1) => some ([.pointer (some ⟨H1.n, 0, some 0⟩)], H1.push (roRow e cs))
          | none => none
        | _ => none
      | _ => none
    | some (.slice e) => match x.2 with
      | .nil => some ([.slice none 0 0], H)
      | .slice es sp => match es, sp with
        | [], [] => some ([.slice (some ⟨0, 0, none⟩) 0 0], H)
        | es, _ => match sizeOf? P e with
          | some (_ + 1) => match absAll (absD P n) (es.map fun d => (e, d)) H with
            | some (cs, H1) => some ([.slice (some ⟨H1.n, 0, some es.length⟩) es.length 0], H1.push (roRow e cs))
            | none => none
          | _ => none
      | _ => none
    | some (.struct fs) => match x.2 with
      | .agg ps => absAll (absD P n) (List.zipWith (fun (f : Field) d => (f.type, d)) fs.toList ps) H
      | _ => none
    | some (.array _ e) => match x.2 with
      | .agg ps => absAll (absD P n) (ps.map fun d => (e, d)) H
      | _ => none
    | _ => none

/-- Memory before and behind what came in. -/
structure Ent (P : Program) (W : World) (σ : Pl) (H : AHeap) (σ' : Pl) (H' : AHeap) : Prop where
  rel : Rel P σ' H' W
  ext : Ext σ σ'
  ro : ∀ F g pl, σ' F g = some pl → isRo H' F
  get : ∀ F, F < H.n → H'.get F = H.get F
  n : H.n ≤ H'.n

theorem Ent.refl {P : Program} {W : World} {σ : Pl} {H : AHeap} (h : Rel P σ H W) (hro : ∀ F g pl, σ F g = some pl → isRo H F) : Ent P W σ H σ H := ⟨h, Ext.refl σ, hro, fun _ _ => rfl, Nat.le_refl _⟩

theorem Ent.trans {P : Program} {W : World} {σ σ1 σ2 : Pl} {H H1 H2 : AHeap} (h : Ent P W σ H σ1 H1) (k : Ent P W σ1 H1 σ2 H2) : Ent P W σ H σ2 H2 :=
  ⟨k.rel, h.ext.trans k.ext, k.ro, fun F hF => (k.get F (Nat.lt_of_lt_of_le hF h.n)).trans (h.get F hF), Nat.le_trans h.n k.n⟩

theorem isRo_push {H : AHeap} {F : Nat} (o : AObj) (h : isRo H F) : isRo (H.push o) F := by
  obtain ⟨ty, cells, gen, hg⟩ := h
  exact ⟨ty, cells, gen, by rw [AHeap.get_push, if_neg (by have := AHeap.get_lt hg; omega)]; exact hg⟩

/-- One row more. -/
theorem Ent.push {P : Program} {W : World} {σ : Pl} {H : AHeap} (h : Rel P σ H W) (hro : ∀ F g pl, σ F g = some pl → isRo H F) {ty : TypeId} {vs : List Value} {b off sz : Nat} {cs : Array Value} {ty' : TypeId} {fr : Nat × Nat}
    (hb : W.heap[b]? = some (.cells cs ty' fr)) (hv : ∀ (i : Nat) (v : Value), vs[i]? = some v → ∃ c, cs[off + i]? = some c ∧ VR σ v c) :
    Ent P W σ H (upd σ H.n 0 ⟨b, off, 0, sz, P.cellsOf ty⟩) (H.push (roRow ty vs)) := by
  have hs : ∀ g, σ H.n g = none := by
    intro g
    cases hg : σ H.n g with
    | none => rfl
    | some pl' => have := h.dom hg; omega
  have hnew : (H.push (roRow ty vs)).get H.n = some (roRow ty vs) := by rw [AHeap.get_push, if_pos rfl]
  have hext := upd_ext (pl := ⟨b, off, 0, sz, P.cellsOf ty⟩) (hs 0)
  have hronew : isRo (H.push (roRow ty vs)) H.n := ⟨ty, vs.map fun v => (v, 0), 0, hnew⟩
  have hro' : ∀ F g pl, upd σ H.n 0 ⟨b, off, 0, sz, P.cellsOf ty⟩ F g = some pl → isRo (H.push (roRow ty vs)) F := by
    intro F g pl hp
    rcases upd_inv hp with ⟨e, _, _⟩ | hp
    · subst e; exact hronew
    · exact isRo_push _ (hro F g pl hp)
  refine ⟨⟨?_, ?_, ?_, ?_⟩, hext, hro', fun F hF => by rw [AHeap.get_push, if_neg (by omega)], by simp⟩
  · intro F g pl hp
    rcases upd_inv hp with ⟨e, _, _⟩ | hp
    · subst e; simp
    · have := h.dom hp; simp; omega
  · intro F g pl o hp ho
    rcases upd_inv hp with ⟨e, e2, e3⟩ | hp
    · subst e; subst e2; subst e3
      rw [hnew] at ho; cases ho
      refine ⟨Nat.le_refl _, fun i v k hk => by rw [(zeroed_get hk).2]; exact Nat.le_refl _, rfl, cs, ty', fr, hb, (by intro h; cases h), ?_⟩
      intro i v k _ hk _
      obtain ⟨c, h1, h2⟩ := hv i v (zeroed_get hk).1
      exact ⟨off + i, c, by simp; omega, h1, h2.ext hext⟩
    · rw [AHeap.get_push, if_neg (by have := h.dom hp; omega)] at ho
      exact (h.obj hp ho).mono hext rfl
  · intro F g pl F' g' pl' hp hp' _
    exact .inr ⟨hro' F g pl hp, hro' F' g' pl' hp'⟩
  · intro F g pl hp
    rcases upd_inv hp with ⟨_, _, e⟩ | hp
    · subst e; exact (Array.getElem?_eq_some_iff.1 hb).1
    · exact h.old hp

section
variable {X : Type} {enc : TypeId × Value → X} {P : Program} {W : World} {held : Bool}

inductive Parts (enc : TypeId × Value → X) (P : Program) (W : World) (held : Bool) : List (TypeId × DataW X) → List (List Value) → Prop
  | nil : Parts enc P W held [] []
  | cons {x : TypeId × DataW X} {c : List Value} {l : List (TypeId × DataW X)} {cs : List (List Value)} {fuel : Nat} {ps : List MemPlace} : x.1 < P.types.size →
      DataW.trod enc P W 0 (fun _ => true) held fuel x.1 c = some (x.2, ps) → Parts enc P W held l cs → Parts enc P W held (x :: l) (c :: cs)

theorem rowFine_at (hl : laidOutB P = true) {t : TypeId} (ht : t < P.types.size) (hk : kindOk (P.underlying t) = true) : (match P.underlying t with
  | some (.struct fs) => fs.toList.all (fun f => isVar P f.type) && P.cellsOf t == (fs.toList.map fun f => P.cellsOf f.type).sum &&
      (List.range fs.toList.length).all fun j => match fs.toList[j]? with | some f => f.offset == ((fs.toList.take j).map fun f => P.cellsOf f.type).sum | none => true
  | some (.array n e) => isVar P e && P.cellsOf t == n * P.cellsOf e
  | some (.pointer e) => isVar P e && P.cellsOf t == 1
  | some (.slice e) => isVar P e && P.cellsOf t == 1
  | _ => P.cellsOf t == 1) = true := by
  unfold laidOutB at hl
  simp only [Bool.and_eq_true, List.all_eq_true, List.mem_range] at hl
  have h := hl.1.1 t ht
  unfold rowFine at h
  have hv : isVar P t = true := by unfold isVar; simp [ht, hk]
  rw [hv] at h
  simp only [Bool.not_true, Bool.false_or] at h
  exact h

theorem isVar_lt {t : TypeId} (h : isVar P t = true) : t < P.types.size := by
  unfold isVar at h
  simp only [Bool.and_eq_true, decide_eq_true_eq] at h
  exact h.1

theorem cells_flat (f : Nat → Option Value) (s : Nat) : ∀ (parts : List (List Value)) (i0 : Nat), (∀ (i : Nat) (p : List Value), parts[i]? = some p → p.length = s ∧ ∀ r, r < s → f ((i0 + i) * s + r) = p[r]?) →
    parts.flatten.length = parts.length * s ∧ ∀ k, k < parts.length * s → parts.flatten[k]? = f (i0 * s + k)
  | [], i0, _ => by simp
  | p :: r, i0, h => by
    obtain ⟨h1, h2⟩ := h 0 p (by simp)
    obtain ⟨h3, h4⟩ := cells_flat f s r (i0 + 1) fun i q hq => by
      have := h (i + 1) q (by simpa using hq)
      rw [show i0 + 1 + i = i0 + (i + 1) by omega]; exact this
    refine ⟨by simp only [List.flatten_cons, List.length_append, h1, h3, List.length_cons, Nat.succ_mul]; omega, fun k hk => ?_⟩
    rw [List.flatten_cons]
    by_cases hlt : k < s
    · rw [List.getElem?_append_left (by omega)]
      have := h2 k hlt
      rw [Nat.add_zero] at this
      exact this.symm
    · rw [List.getElem?_append_right (by omega), h1, h4 (k - s) (by simp only [List.length_cons, Nat.succ_mul] at hk; omega)]
      congr 1
      rw [Nat.succ_mul]; omega

theorem cut_fields : ∀ (fs : List Field) (cs : List Value) (off : Nat), cs.length = off + (fs.map fun f => P.cellsOf f.type).sum → (∀ (j : Nat) (f : Field), fs[j]? = some f → f.offset = off + ((fs.take j).map fun f => P.cellsOf f.type).sum) →
    (fs.map fun f => (cs.drop f.offset).take (P.cellsOf f.type)).flatten = cs.drop off
  | [], cs, off, h, _ => by simp at h; simp [List.drop_eq_nil_of_le (Nat.le_of_eq h)]
  | f :: r, cs, off, h, ho => by
    have h0 := ho 0 f (by simp)
    simp at h0
    have ih := cut_fields r cs (off + P.cellsOf f.type) (by simp at h; omega) fun j g hg => by
      have := ho (j + 1) g (by simpa using hg)
      simp only [List.take_succ_cons, List.map_cons, List.sum_cons] at this
      omega
    rw [List.map_cons, List.flatten_cons, ih, h0, ← List.drop_drop, List.take_append_drop]

theorem cut_array (s : Nat) : ∀ (m : Nat) (cs : List Value) (i0 : Nat), cs.length = (i0 + m) * s → ((List.range' i0 m).map fun i => (cs.drop (i * s)).take s).flatten = cs.drop (i0 * s)
  | 0, cs, i0, h => by simp at h; simp [List.drop_eq_nil_of_le (Nat.le_of_eq h)]
  | m + 1, cs, i0, h => by
    have ih := cut_array s m cs (i0 + 1) (by rw [h]; congr 1; omega)
    rw [List.range'_succ, List.map_cons, List.flatten_cons, ih, Nat.succ_mul, ← List.drop_drop, List.take_append_drop]

theorem Parts.of_map {α : Type} {f : α → TypeId × DataW X} {g : α → List Value} : ∀ {l : List α}, (∀ x ∈ l, (f x).1 < P.types.size ∧ ∃ fuel ps, DataW.trod enc P W 0 (fun _ => true) held fuel (f x).1 (g x) = some ((f x).2, ps)) → Parts enc P W held (l.map f) (l.map g)
  | [], _ => .nil
  | x :: r, h => by
    obtain ⟨h1, fuel, ps, h2⟩ := h x (by simp)
    exact .cons h1 h2 (Parts.of_map fun y hy => h y (by simp [hy]))

theorem absAll_sound {n : Nat} (ih : ∀ (x : TypeId × DataW X) (H : AHeap) (vs : List Value) (H' : AHeap), absD P n x H = some (vs, H') → x.1 < P.types.size → ∀ (fuel : Nat) (cs : List Value) (ps : List MemPlace),
      DataW.trod enc P W 0 (fun _ => true) held fuel x.1 cs = some (x.2, ps) → ∀ σ, Rel P σ H W → (∀ F g pl, σ F g = some pl → isRo H F) → ∃ σ', Ent P W σ H σ' H' ∧ VRs σ' vs cs) :
    ∀ {l : List (TypeId × DataW X)} {parts : List (List Value)}, Parts enc P W held l parts → ∀ (H : AHeap) (vs : List Value) (H' : AHeap), absAll (absD P n) l H = some (vs, H') → ∀ σ, Rel P σ H W → (∀ F g pl, σ F g = some pl → isRo H F) →
      ∃ σ', Ent P W σ H σ' H' ∧ VRs σ' vs parts.flatten
  | _, _, .nil, H, vs, H', h, σ, hr, hro => by
    simp only [absAll, Option.some.injEq, Prod.mk.injEq] at h
    obtain ⟨rfl, rfl⟩ := h
    exact ⟨σ, Ent.refl hr hro, .nil⟩
  | _, _, .cons ht hd hrest, H, vs, H', h, σ, hr, hro => by
    simp only [absAll] at h
    split at h
    · rename_i cs H1 h1
      split at h
      · rename_i ds H2 h2
        simp only [Option.some.injEq, Prod.mk.injEq] at h
        obtain ⟨rfl, rfl⟩ := h
        obtain ⟨σ1, e1, v1⟩ := ih _ H cs H1 h1 ht _ _ _ hd σ hr hro
        obtain ⟨σ2, e2, v2⟩ := absAll_sound ih hrest H1 ds H2 h2 σ1 e1.rel e1.ro
        exact ⟨σ2, e1.trans e2, by rw [List.flatten_cons]; exact (v1.ext e2.ext).append v2⟩
      · simp at h
    · simp at h

theorem add_block (a : Addr) (n : Nat) : (a.add n).block = a.block := by unfold Addr.add; split <;> rfl
theorem add_off (a : Addr) (n : Nat) : (a.add n).off = a.off + n := by
  unfold Addr.add; split
  · rename_i h; subst h; rfl
  · rfl
theorem add_add (a : Addr) (n m : Nat) : (a.add n).add m = a.add (n + m) := by
  unfold Addr.add
  by_cases hn : n = 0
  · subst hn; simp
  · by_cases hm : m = 0
    · subst hm; simp [hn]
    · simp [hn, hm, Nat.add_assoc]
theorem add_spot {a : Addr} {n : Nat} (h : (a.add 0).spot = none) : (a.add n).spot = none := by
  unfold Addr.add at h ⊢; split
  · simpa using h
  · rfl

theorem cell_block {w : World} {a : Addr} {c : Value} (h : w.cell? a = some c) : a.spot = none ∧ ∃ cs ty fr, w.heap[a.block]? = some (.cells cs ty fr) ∧ cs[a.off]? = some c := by
  unfold World.cell? at h
  split at h
  · rename_i cs ty fr hb
    split at h
    · simp at h
    · rename_i hs
      exact ⟨by simpa using hs, cs, ty, fr, hb, h⟩
  · simp at h

theorem absD_sound (hl : laidOutB P = true) : ∀ (n : Nat) (x : TypeId × DataW X) (H : AHeap) (vs : List Value) (H' : AHeap), absD P n x H = some (vs, H') → x.1 < P.types.size → ∀ (fuel : Nat) (cs : List Value) (ps : List MemPlace),
      DataW.trod enc P W 0 (fun _ => true) held fuel x.1 cs = some (x.2, ps) → ∀ σ, Rel P σ H W → (∀ F g pl, σ F g = some pl → isRo H F) → ∃ σ', Ent P W σ H σ' H' ∧ VRs σ' vs cs := by
  intro n
  induction n with
  | zero => intro x H vs H' h; simp [absD] at h
  | succ n ih =>
    rintro ⟨t, d⟩ H vs H' h ht fuel cs ps hd σ hr hro
    simp only at ht hd
    simp only [absD] at h
    cases hu : P.underlying t with
    | none => simp [hu] at h
    | some ud =>
      have hfine := rowFine_at hl ht
      rw [hu] at hfine
      cases ud <;> simp only [hu] at h <;> try (simp at h; done)
      case bool =>
        obtain ⟨b, rfl, hx⟩ := DataW.trod_bool hu hd
        simp only [Prod.mk.injEq] at hx
        obtain ⟨rfl, rfl⟩ := hx
        simp only [Option.some.injEq, Prod.mk.injEq] at h
        obtain ⟨rfl, rfl⟩ := h
        exact ⟨σ, Ent.refl hr hro, .cons (.same _ rfl) .nil⟩
      case int k =>
        obtain ⟨m, rfl, hx, _⟩ := DataW.trod_int hu hd
        simp only [Prod.mk.injEq] at hx
        obtain ⟨rfl, rfl⟩ := hx
        simp only [Option.some.injEq, Prod.mk.injEq] at h
        obtain ⟨rfl, rfl⟩ := h
        exact ⟨σ, Ent.refl hr hro, .cons (.same _ rfl) .nil⟩
      case string =>
        obtain ⟨s, rfl, hx, _⟩ := DataW.trod_string hu hd
        simp only [Prod.mk.injEq] at hx
        obtain ⟨rfl, rfl⟩ := hx
        simp only [Option.some.injEq, Prod.mk.injEq] at h
        obtain ⟨rfl, rfl⟩ := h
        refine ⟨σ, Ent.refl hr hro, .cons ?_ .nil⟩
        rw [str_eq_of (s := s) rfl]
        exact .same _ rfl
      case pointer e =>
        have hfine := hfine rfl
        simp only [Bool.and_eq_true] at hfine
        rcases DataW.trod_pointer hu hd with ⟨rfl, hx⟩ | ⟨a, cs', y, m, rfl, rfl, hx, hc, hy⟩
        · simp only [Prod.mk.injEq] at hx
          obtain ⟨rfl, rfl⟩ := hx
          simp only [Option.some.injEq, Prod.mk.injEq] at h
          obtain ⟨rfl, rfl⟩ := h
          exact ⟨σ, Ent.refl hr hro, .cons (.same _ rfl) .nil⟩
        · simp only [Prod.mk.injEq] at hx
          obtain ⟨rfl, rfl⟩ := hx
          simp only at h
          split at h
          · rename_i s hs
            split at h
            · rename_i cs1 H1 h1
              simp only [Option.some.injEq, Prod.mk.injEq] at h
              obtain ⟨rfl, rfl⟩ := h
              obtain ⟨σ1, e1, v1⟩ := ih (e, y.1) H cs1 H1 h1 (isVar_lt hfine.1) m cs' y.2 hy σ hr hro
              obtain ⟨_, hlen, hcell⟩ := World.cells?_some hc
              have hsz : P.cellsOf e = s + 1 := sizeOf?_cells hs
              have h0 := hcell 0 (by omega)
              obtain ⟨c0, hc0⟩ : ∃ c0, cs'[0]? = some c0 := ⟨cs'[0]'(by omega), by simp⟩
              rw [hc0] at h0
              obtain ⟨hsp, cs2, ty', fr, hb, _⟩ := cell_block h0
              obtain ⟨ab, ao, asp⟩ := a
              rw [add_block] at hb
              have hsp : asp = none := hsp
              subst hsp
              have hpush := Ent.push (ty := e) (vs := cs1) (off := ao) (sz := 0) e1.rel e1.ro hb fun i v hv => by
                obtain ⟨c, k1, k2⟩ := v1.get hv
                refine ⟨c, ?_, k2⟩
                have hi : i < P.cellsOf e := by have := (List.getElem?_eq_some_iff.1 k1).1; omega
                have := hcell i hi
                rw [k1] at this
                obtain ⟨_, cs3, _, _, hb3, hc3⟩ := cell_block this
                rw [add_block, hb] at hb3; cases hb3
                rw [add_off] at hc3
                exact hc3
              exact ⟨_, e1.trans hpush, .cons (.ptr (pl := ⟨ab, ao, 0, 0, P.cellsOf e⟩) (upd_same _ _ _ _) (Nat.le_refl _) (by simp)) .nil⟩
            · simp at h
          · simp at h
      case slice e =>
        have hfine := hfine rfl
        simp only [Bool.and_eq_true] at hfine
        rcases DataW.trod_slice hu hd with ⟨rfl, hx⟩ | ⟨a, len, cap, elems, rest, m, rfl, rfl, hx, _, hlc, _, hel, helem, hsp, _⟩
        · simp only [Prod.mk.injEq] at hx
          obtain ⟨rfl, rfl⟩ := hx
          simp only [Option.some.injEq, Prod.mk.injEq] at h
          obtain ⟨rfl, rfl⟩ := h
          exact ⟨σ, Ent.refl hr hro, .cons (.same _ rfl) .nil⟩
        · simp only [Prod.mk.injEq] at hx
          obtain ⟨rfl, rfl⟩ := hx
          obtain ⟨hrl, hrest⟩ := hsp rfl
          simp only at h
          split at h
          · rename_i he hr2
            have e0 : elems = [] := by simpa using he
            have r0 : rest = [] := by simpa using hr2
            subst e0; subst r0
            simp at hel hrl
            subst hel
            have : cap = 0 := by omega
            subst this
            simp only [Option.some.injEq, Prod.mk.injEq] at h
            obtain ⟨rfl, rfl⟩ := h
            exact ⟨σ, Ent.refl hr hro, .cons (.bare a) .nil⟩
          · rename_i hne
            split at h
            · rename_i s hs
              split at h
              · rename_i cs1 H1 h1
                simp only [Option.some.injEq, Prod.mk.injEq] at h
                obtain ⟨rfl, rfl⟩ := h
                have hsz : P.cellsOf e = s + 1 := sizeOf?_cells hs
                -- the elements' cells
                let f : Nat → Option Value := fun j => W.cell? (a.add j)
                have hpart : ∀ i y, elems[i]? = some y → ∃ p, W.cells? 0 (a.add (i * P.cellsOf e)) (P.cellsOf e) = some p ∧ DataW.trod enc P W 0 (fun _ => true) held m e p = some y := by
                  intro i y hy
                  have hi : i < len := by have := (List.getElem?_eq_some_iff.1 hy).1; omega
                  have := helem i hi
                  rw [hy] at this
                  simp only [Option.bind_eq_some_iff] at this
                  exact this
                have hparts : ∃ parts : List (List Value), parts.length = elems.length ∧ Parts enc P W held ((elems.map (·.1)).map fun d => (e, d)) parts ∧
                    ∀ (i : Nat) (p : List Value), parts[i]? = some p → p.length = P.cellsOf e ∧ ∀ r, r < P.cellsOf e → f (i * P.cellsOf e + r) = p[r]? := by
                  have key : ∀ (es : List (DataW X × List MemPlace)) (i0 : Nat), (∀ i y, es[i]? = some y → ∃ p, W.cells? 0 (a.add ((i0 + i) * P.cellsOf e)) (P.cellsOf e) = some p ∧ DataW.trod enc P W 0 (fun _ => true) held m e p = some y) →
                      ∃ parts : List (List Value), parts.length = es.length ∧ Parts enc P W held ((es.map (·.1)).map fun d => (e, d)) parts ∧
                        ∀ (i : Nat) (p : List Value), parts[i]? = some p → p.length = P.cellsOf e ∧ ∀ r, r < P.cellsOf e → f ((i0 + i) * P.cellsOf e + r) = p[r]? := by
                    intro es
                    induction es with
                    | nil => intro i0 _; exact ⟨[], rfl, .nil, by simp⟩
                    | cons y r ihr =>
                      intro i0 hy
                      obtain ⟨p, p1, p2⟩ := hy 0 y (by simp)
                      obtain ⟨parts, q1, q2, q3⟩ := ihr (i0 + 1) fun i z hz => by
                        have := hy (i + 1) z (by simpa using hz)
                        rw [show i0 + 1 + i = i0 + (i + 1) by omega]; exact this
                      refine ⟨p :: parts, by simp [q1], ?_, ?_⟩
                      · simp only [List.map_cons]
                        exact .cons (isVar_lt hfine.1) (fuel := m) (ps := y.2) p2 q2
                      · intro i q hq
                        cases i with
                        | zero =>
                          simp at hq
                          subst hq
                          obtain ⟨_, l1, l2⟩ := World.cells?_some p1
                          refine ⟨l1, fun r hr => ?_⟩
                          have := l2 r hr
                          rw [← this, add_add]
                        | succ i =>
                          have := q3 i q (by simpa using hq)
                          rw [show i0 + (i + 1) = i0 + 1 + i by omega]; exact this
                  obtain ⟨parts, k1, k2, k3⟩ := key elems 0 (by simpa using hpart)
                  exact ⟨parts, k1, k2, by simpa using k3⟩
                obtain ⟨parts, l1, l2, l3⟩ := hparts
                obtain ⟨σ1, e1, v1⟩ := absAll_sound ih l2 H cs1 H1 h1 σ hr hro
                obtain ⟨fl1, fl2⟩ := cells_flat f (P.cellsOf e) parts 0 (by simpa using l3)
                -- the block
                have hblk : a.spot = none ∧ ∃ cs2 ty' fr, W.heap[a.block]? = some (.cells cs2 ty' fr) := by
                  have one : ∀ (j : Nat) (p : List Value), W.cells? 0 (a.add j) (P.cellsOf e) = some p → (a.add j).spot = none ∧ ∃ cs2 ty' fr, W.heap[a.block]? = some (.cells cs2 ty' fr) := by
                    intro j p hp
                    obtain ⟨_, k1, k2⟩ := World.cells?_some hp
                    have h0 := k2 0 (by omega)
                    obtain ⟨c0, hc0⟩ : ∃ c0, p[0]? = some c0 := ⟨p[0]'(by omega), by simp⟩
                    rw [hc0] at h0
                    obtain ⟨m1, cs2, ty', fr, m2, _⟩ := cell_block h0
                    rw [add_block, add_block] at m2
                    exact ⟨m1, cs2, ty', fr, m2⟩
                  cases hee : elems with
                  | cons y r =>
                    obtain ⟨p, p1, _⟩ := hpart 0 y (by simp [hee])
                    have := one _ p p1
                    rw [Nat.zero_mul] at this
                    exact this
                  | nil =>
                    cases hrr : rest with
                    | nil => exact absurd (by simp [hrr]) (hne (by simp [hee]))
                    | cons y r =>
                      have := hrest 0 (by rw [hrr] at hrl; simp at hrl; omega)
                      rw [hrr] at this
                      simp only [List.getElem?_cons_zero, Option.bind_eq_some_iff] at this
                      obtain ⟨p, p1, _⟩ := this
                      have := one _ p p1
                      rw [show len = 0 by rw [← hel, hee]; rfl, Nat.zero_mul] at this
                      exact this
                obtain ⟨hspot, cs2, ty', fr, hb⟩ := hblk
                obtain ⟨ab, ao, asp⟩ := a
                simp only at hspot hb
                subst hspot
                have hpush := Ent.push (ty := e) (vs := cs1) (off := ao) (sz := ao + cap * P.cellsOf e) e1.rel e1.ro hb fun i v hv => by
                  obtain ⟨c, k1, k2⟩ := v1.get hv
                  refine ⟨c, ?_, k2⟩
                  have hi : i < parts.length * P.cellsOf e := by have := (List.getElem?_eq_some_iff.1 k1).1; omega
                  have := fl2 i hi
                  rw [k1] at this
                  simp only [Nat.zero_mul, Nat.zero_add] at this
                  obtain ⟨_, cs3, _, _, hb3, hc3⟩ := cell_block this.symm
                  rw [add_block, hb] at hb3; cases hb3
                  rw [add_off] at hc3
                  exact hc3
                refine ⟨_, e1.trans hpush, .cons ?_ .nil⟩
                simp only [List.length_map, hel]
                exact .slice (pl := ⟨ab, ao, 0, ao + cap * P.cellsOf e, P.cellsOf e⟩) (upd_same _ _ _ _) (Nat.le_refl _) (Nat.le_refl _) hlc (.inr ⟨by simp, Nat.le_refl _⟩)
              · simp at h
            · simp at h
      case struct fs =>
        have hfine := hfine rfl
        simp only [Bool.and_eq_true, List.all_eq_true, beq_iff_eq, List.mem_range] at hfine
        obtain ⟨xs, m, rfl, hx, hlen, hxl, hget⟩ := DataW.trod_struct hu hd
        simp only [Prod.mk.injEq] at hx
        obtain ⟨rfl, rfl⟩ := hx
        simp only at h
        have hcut := cut_fields (P := P) fs.toList cs 0 (by rw [hlen, hfine.1.2]; simp) fun j f hf => by
          have := hfine.2 j (List.getElem?_eq_some_iff.1 hf).1
          rw [hf] at this
          simpa using this
        rw [List.drop_zero] at hcut
        have hp : Parts enc P W held (List.zipWith (fun (f : Field) d => (f.type, d)) fs.toList (xs.map (·.1))) (fs.toList.map fun f => (cs.drop f.offset).take (P.cellsOf f.type)) := by
          have key : ∀ (fl : List Field) (xl : List (DataW X × List MemPlace)), xl.length = fl.length → (∀ f ∈ fl, isVar P f.type = true) → (∀ (i : Nat) (f : Field), fl[i]? = some f → DataW.trod enc P W 0 (fun _ => true) held m f.type ((cs.drop f.offset).take (P.cellsOf f.type)) = xl[i]?) →
              Parts enc P W held (List.zipWith (fun (f : Field) d => (f.type, d)) fl (xl.map (·.1))) (fl.map fun f => (cs.drop f.offset).take (P.cellsOf f.type)) := by
            intro fl
            induction fl with
            | nil => intro xl h1 _ _; simp at h1; subst h1; exact .nil
            | cons f r ihr =>
              intro xl h1 h2 h3
              cases xl with
              | nil => simp at h1
              | cons y yr =>
                have h0 := h3 0 f (by simp)
                simp only [List.getElem?_cons_zero] at h0
                simp only [List.map_cons, List.zipWith_cons_cons]
                exact .cons (isVar_lt (h2 f (by simp))) (fuel := m) (ps := y.2) h0 (ihr yr (by simpa using h1) (fun g hg => h2 g (by simp [hg])) fun i g hg => by
                  have := h3 (i + 1) g (by simpa using hg)
                  simpa using this)
          exact key fs.toList xs (by simpa using hxl) hfine.1.1 fun i f hf => hget i f (by rw [← Array.getElem?_toList]; exact hf)
        obtain ⟨σ1, e1, v1⟩ := absAll_sound ih hp H vs H' h σ hr hro
        rw [hcut] at v1
        exact ⟨σ1, e1, v1⟩
      case array m e =>
        have hfine := hfine rfl
        simp only [Bool.and_eq_true, beq_iff_eq] at hfine
        obtain ⟨xs, q, rfl, hx, hlen, hxl, hget⟩ := DataW.trod_array hu hd
        simp only [Prod.mk.injEq] at hx
        obtain ⟨rfl, rfl⟩ := hx
        simp only at h
        have hcut := cut_array (P.cellsOf e) m cs 0 (by rw [hlen, hfine.2]; simp)
        rw [Nat.zero_mul, List.drop_zero, ← List.range_eq_range'] at hcut
        have hp : Parts enc P W held ((xs.map (·.1)).map fun d => (e, d)) ((List.range m).map fun i => (cs.drop (i * P.cellsOf e)).take (P.cellsOf e)) := by
          have : (xs.map (·.1)).map (fun d => (e, d)) = (List.range m).map fun i => (e, ((xs[i]?).map (·.1)).getD .nil) := by
            apply List.ext_getElem?
            intro i
            rw [List.getElem?_map, List.getElem?_map, List.getElem?_map]
            by_cases hi : i < m
            · rw [List.getElem?_range hi]
              have : i < xs.length := by omega
              simp [List.getElem?_eq_getElem this]
            · rw [List.getElem?_eq_none (by omega), List.getElem?_eq_none (by simp; omega)]; rfl
          rw [this]
          refine Parts.of_map fun i hi => ⟨isVar_lt hfine.1, ?_⟩
          have hi : i < m := by simpa using hi
          have := hget i hi
          have hlt : i < xs.length := by omega
          rw [List.getElem?_eq_getElem hlt] at this
          refine ⟨q, (xs[i]).2, ?_⟩
          simp only [List.getElem?_eq_getElem hlt, Option.map_some, Option.getD_some]
          exact this
        obtain ⟨σ1, e1, v1⟩ := absAll_sound ih hp H vs H' h σ hr hro
        rw [hcut] at v1
        exact ⟨σ1, e1, v1⟩

end

end Go.AE
