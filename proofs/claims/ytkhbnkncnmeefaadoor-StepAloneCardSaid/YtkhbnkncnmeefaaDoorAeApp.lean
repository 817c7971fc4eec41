/-
  AE: append.
-/
import Derived.Test.YtkhbnkncnmeefaaDoorAeOps8
import Derived.Laws.Append
namespace Go.AE

/-- What is appended, in a world. -/
inductive ASrc (P : Program) (w : World) (inf : TypeInfo) (elem xt : TypeId) : Value → Nat → List Value → Prop
  | sl {e : TypeId} {a : Option Addr} {c n : Nat} {cs : List Value} : P.underlying xt = some (.slice e) →
      (∀ w' : World, w'.heap = w.heap → (Builtin.firstCells inf.size n (.slice a n c)).run P w' = .ok ⟨cs⟩ w') → ASrc P w inf elem xt (.slice a n c) n cs
  | st {s : ByteArray} {cs : List Value} : P.underlying xt = some .string →
      (∀ w' : World, (Builtin.firstCells inf.size s.size (.string s)).run P w' = .ok ⟨cs⟩ w') → ASrc P w inf elem xt (.string s) s.size cs
  | zs {j k : IntKind} {n : Int} {z : Value} : P.underlying xt = some (.int j) → 0 ≤ n → n ≤ 1099511627776 → n.toNat * inf.bytes ≤ 17592186044416 → zeroOf P elem = some z → z.cells.toList.length = inf.size →
      ASrc P w inf elem xt (.int k n) n.toNat (zeros z.cells.toList n.toNat)

theorem cell_heap {w w' : World} (e : w'.heap = w.heap) (a : Addr) : w'.cell? a = w.cell? a := by
  unfold World.cell?; rw [e]

theorem acellsOf_slice {σ : Pl} {P : Program} {H : AHeap} {w : World} (h : Rel P σ H w) {size n g : Nat} {a : Option Addr} {cx : Value} {m : Nat} {vs : List Value} (hm : m ≤ n)
    (hx : VR σ (.slice a n g) cx) (ha : acellsOf H size m (.slice a n g) = some vs) :
    ∃ ca c cvs, cx = .slice ca n c ∧ VRs σ vs cvs ∧ ∀ w' : World, w'.heap = w.heap → ∀ l k, (Builtin.firstCells size m (.slice ca l k)).run P w' = .ok ⟨cvs⟩ w' := by
  cases a with
  | none =>
    obtain ⟨rfl, rfl, rfl⟩ := hx.nils_inv
    obtain rfl : m = 0 := by omega
    simp only [acellsOf, Option.some.injEq] at ha
    subst ha
    exact ⟨none, 0, [], rfl, .nil, fun w' _ l k => run_firstCells_none w' size 0 l k⟩
  | some ad =>
    obtain ⟨F, o, sp⟩ := ad
    cases sp with
    | none =>
      obtain ⟨⟨b, rfl⟩, _, _, rfl, rfl⟩ := hx.bare_inv
      obtain rfl : m = 0 := by omega
      simp only [acellsOf, Option.some.injEq] at ha
      subst ha
      exact ⟨some b, 0, [], rfl, .nil, fun w' _ l k => run_firstCells_some w' size 0 b l k [] (by simp) (by intro _ _ h'; simp at h')⟩
    | some room =>
      obtain ⟨pl, co, cap, rfl, hp, hlo, h1, h2, h3⟩ := hx.slice_inv
      simp only [acellsOf] at ha
      split at ha
      · rename_i ty cells gen ro hF
        by_cases h0 : m = 0
        · subst h0
          have := (rdAt_get ha).1
          simp at this
          subst this
          exact ⟨some ⟨pl.b, co, none⟩, cap, [], rfl, .nil, fun w' _ l k => run_firstCells_some w' size 0 _ l k [] (by simp) (by intro _ _ h'; simp at h')⟩
        · have h3 := h3.resolve_left (by omega)
          obtain ⟨cvs, k1, k2, k3⟩ := h.read hp hF hlo h3.1 ha
          refine ⟨some ⟨pl.b, co, none⟩, cap, cvs, rfl, k1, fun w' e l k => run_firstCells_some w' size m _ l k cvs k2 ?_⟩
          intro j v hj
          rw [cell_heap e]; exact k3 j v hj
      · simp at ha

theorem sim_appSrc {σ : Pl} {P : Program} {H : AHeap} {w : World} (h : Rel P σ H w) {inf : TypeInfo} {elem xt : TypeId} {x cx z : Value} {n : Nat} {vs : List Value} (hz : zeroOf P elem = some z)
    (hzl : z.cells.toList.length = inf.size) (hx : VR σ x cx) (ha : appSrc P H inf z.cells.toList xt x = some (n, vs)) : ∃ cvs, ASrc P w inf elem xt cx n cvs ∧ VRs σ vs cvs := by
  unfold appSrc at ha
  split at ha
  · rename_i j k m hu
    cases hx.int_inv
    split at ha
    · rename_i e1 e2
      have e1 := of_decide_eq_true e1
      have e2 := Nat.le_of_ble_eq_true e2
      cases ha
      exact ⟨_, .zs hu e1.1 e1.2 e2 hz hzl, VRs_zeros (zeroOf_run hz).1 _⟩
    · simp at ha
  · rename_i e a m g hu
    split at ha
    · rename_i us hc
      cases ha
      obtain ⟨ca, c, cvs, rfl, h1, h2⟩ := acellsOf_slice h (Nat.le_refl _) hx hc
      exact ⟨cvs, .sl hu fun w' e => h2 w' e _ _, h1⟩
    · simp at ha
  · rename_i s hu
    split at ha
    · cases ha
      cases hx.string_inv
      refine ⟨_, .st hu fun w' => ?_, VRs.map (f := fun b : UInt8 => .int .u8 b.toNat) (g := fun b : UInt8 => .int .u8 b.toNat) fun b _ => .same _ rfl⟩
      have : (s.extract 0 s.size) = s := by
        apply ByteArray.ext
        apply Array.toList_inj.1
        rw [toList_extract]
        rw [show s.size = s.data.toList.length from rfl, List.drop_zero, Nat.sub_zero, List.take_length]
      show (Sem.pure _ : Sem (Array Value)).run P w' = _
      rw [this]
      show Result.ok _ w' = _
      congr 1
      apply Array.toList_inj.1
      simp
    · simp at ha
  · simp at ha

section run
variable {P : Program} {w : World} {ts : Array TypeId} {st xt ty elem : TypeId} {inf : TypeInfo} {x : Value} {n : Nat} {cs : List Value}

theorem zs_facts {m : Int} {bytes : Nat} (h0 : 0 ≤ m) (h1 : m ≤ 1099511627776) (h2 : m.toNat * bytes ≤ 17592186044416) :
    IntKind.i64.wrap m = m ∧ ¬ m < 0 ∧ ¬ (281474976710656 < m * bytes) := by
  refine ⟨wrap_small h0 (by omega), by omega, ?_⟩
  obtain ⟨a, rfl⟩ : ∃ a : Nat, m = a := ⟨m.toNat, by omega⟩
  rw [Int.toNat_natCast] at h2
  rw [← Int.natCast_mul]
  generalize a * bytes = q at *
  omega

theorem run_asInt' {k : IntKind} {m : Int} (w : World) : (asInt (.int k m)).run P w = .ok m w := by simp [asInt, asIntOf]

theorem run_append_room (h0 : ts[0]? = some st) (h1 : ts[1]? = some xt) (hu : P.underlying st = some (.slice elem)) (hi : P.info? elem = some inf) (hs : ASrc P w inf elem xt x n cs)
    {base : Option Addr} {sLen sCap : Nat} (hroom : sLen + n ≤ sCap) {w' : World} (hw : (match base with | some a => storeCells (a.add (sLen * inf.size)) cs | none => Pure.pure () : Sem Unit).run P w = .ok () w') :
    (Builtin.append_ ts ty #[.slice base sLen sCap, x]).run P w = .ok (.slice base (sLen + n) sCap) w' := by
  cases hs with
  | sl hk hc =>
    have hc := hc w rfl
    cases base with
    | none => simp at hw; subst hw; simp [Builtin.append_, h0, h1, run_underlying hu, run_underlying hk, run_sizeOf hi, Builtin.lenOf, hroom, hc]
    | some a => simp at hw; simp [Builtin.append_, h0, h1, run_underlying hu, run_underlying hk, run_sizeOf hi, Builtin.lenOf, hroom, hc, hw]
  | st hk hc =>
    have hc := hc w
    cases base with
    | none => simp at hw; subst hw; simp [Builtin.append_, h0, h1, run_underlying hu, run_underlying hk, run_sizeOf hi, Builtin.lenOf, hroom, hc]
    | some a => simp at hw; simp [Builtin.append_, h0, h1, run_underlying hu, run_underlying hk, run_sizeOf hi, Builtin.lenOf, hroom, hc, hw]
  | zs hk a b c hz hzl =>
    rename_i j k m z
    obtain ⟨e1, e2, e3⟩ := zs_facts a b c
    have hz0 : ∀ w, (zeroValue elem).run P w = .ok z w := run_zeroValue hz
    by_cases h00 : m.toNat * inf.size = 0
    · have hnil : zeros z.cells.toList m.toNat = [] := by
        apply List.length_eq_zero_iff.1
        rw [zeros_length, hzl, h00]
      rw [hnil] at hw
      cases base with
      | none => simp at hw; subst hw; simp [Builtin.append_, h0, h1, run_underlying hu, run_underlying hk, run_sizeOf hi, run_asInt', typeInfo, hi, e1, e2, e3, hroom, h00]
      | some a => simp at hw; simp [Builtin.append_, h0, h1, run_underlying hu, run_underlying hk, run_sizeOf hi, run_asInt', typeInfo, hi, e1, e2, e3, hroom, h00, hw]
    · have hzc : Builtin.zeroCells z.cells m.toNat = ⟨zeros z.cells.toList m.toNat⟩ := by
        apply Array.toList_inj.1
        rw [← range_zeros]; rfl
      cases base with
      | none => simp at hw; subst hw; simp [Builtin.append_, h0, h1, run_underlying hu, run_underlying hk, run_sizeOf hi, run_asInt', typeInfo, hi, e1, e2, e3, hroom, hz0]
      | some a => simp at hw; simp [Builtin.append_, h0, h1, run_underlying hu, run_underlying hk, run_sizeOf hi, run_asInt', typeInfo, hi, e1, e2, e3, hroom, h00, hw, hz0, hzc]

theorem run_append_grow (h0 : ts[0]? = some st) (h1 : ts[1]? = some xt) (hu : P.underlying st = some (.slice elem)) (hi : P.info? elem = some inf) (hs : ASrc P w inf elem xt x n cs) {z : Value} (hz : zeroOf P elem = some z)
    (hzl : z.cells.toList.length = inf.size)
    {base : Option Addr} {sLen sCap : Nat} {old : List Value} (hroom : sCap < sLen + n) (hb : (sLen + n) * inf.bytes ≤ 17592186044416) (hpos : 0 < inf.bytes)
    (hold : ∀ w' : World, w'.heap = w.heap → (Builtin.firstCells inf.size sLen (.slice base sLen sCap)).run P w' = .ok ⟨old⟩ w') :
    ∃ (cap : Nat) (rest : Array Value), sLen + n ≤ cap ∧ rest.size = (cap - (sLen + n)) * inf.size ∧
    (Builtin.append_ ts ty #[.slice base sLen sCap, x]).run P w = .ok (.slice (some ⟨w.heap.size, 0, none⟩) (sLen + n) cap) (w.drew.alloc (.cells ((⟨old⟩ : Array Value) ++ ⟨cs⟩ ++ rest) elem)) := by
  have hn : ¬ (sLen + n ≤ sCap) := by omega
  have hle : sLen + n ≤ (sLen + n) * inf.bytes := Nat.le_mul_of_pos_right _ hpos
  have h63 : ¬ (9223372036854775807 < ((sLen : Int) + (n : Int))) := by omega
  have h48 : ¬ (281474976710656 < Builtin.nextslicecap (sLen + n) sCap * inf.bytes) := by
    have := growslice_fits (need := sLen + n) (old := sCap) (bytes := inf.bytes) hroom (by omega); omega
  have hq : (Question.appendCap (sLen + n) sCap elem).forced = false := rfl
  have hz0 : ∀ w, (zeroValue elem).run P w = .ok z w := run_zeroValue hz
  have hold' := hold w.drew rfl
  have hzs : z.cells.size = inf.size := by rw [← hzl]; simp
  have hzc : ∀ k, Builtin.zeroCells z.cells k = ⟨zeros z.cells.toList k⟩ := fun k => by
    apply Array.toList_inj.1
    rw [← range_zeros]; rfl
  refine ⟨(Question.appendCap (sLen + n) sCap elem).cut (w.tape w.drawn (.appendCap (sLen + n) sCap elem)), ⟨zeros z.cells.toList ((Question.appendCap (sLen + n) sCap elem).cut (w.tape w.drawn (.appendCap (sLen + n) sCap elem)) - (sLen + n))⟩, ?_, ?_, ?_⟩
  · simp [Question.cut]
  · simp [zeros_length, hzs]
  · cases hs with
    | sl hk hc =>
      have hc := hc w.drew rfl
      simp [Builtin.append_, h0, h1, run_underlying hu, run_underlying hk, run_sizeOf hi, typeInfo, hi, Builtin.lenOf, hn, h63, h48, hq, hc, hold', hz0, hzc, Go.newRow]
    | st hk hc =>
      have hc := hc w.drew
      simp [Builtin.append_, h0, h1, run_underlying hu, run_underlying hk, run_sizeOf hi, typeInfo, hi, Builtin.lenOf, hn, h63, h48, hq, hc, hold', hz0, hzc, Go.newRow]
    | zs hk a b c hz' hzl' =>
      rename_i j k m z'
      rw [hz] at hz'; cases hz'
      obtain ⟨e1, e2, e3⟩ := zs_facts a b c
      have e4 : ¬ (9223372036854775807 < (sLen : Int) + max m 0) := by omega
      by_cases h00 : m.toNat * inf.size = 0
      · have hnil : zeros z.cells.toList m.toNat = [] := by
          apply List.length_eq_zero_iff.1
          rw [zeros_length, hzl, h00]
        rw [hnil]
        simp [Builtin.append_, h0, h1, run_underlying hu, run_underlying hk, run_sizeOf hi, run_asInt', typeInfo, hi, e1, e2, e3, e4, hn, h48, hq, h00, hold', hz0, hzc, Go.newRow]
      · simp [Builtin.append_, h0, h1, run_underlying hu, run_underlying hk, run_sizeOf hi, run_asInt', typeInfo, hi, e1, e2, e3, e4, hn, h48, hq, h00, hold', hz0, hzc, Go.newRow]
end run

/-- A row, as it is behind an append beyond the known room. -/
theorem grown_get {cells : List (Value × Nat)} {vs : List Value} {q m i : Nat} {v : Value} {k : Nat} (hq : q ≤ cells.length) (h : (cells.take q ++ vs.map fun v => (v, m))[i]? = some (v, k)) :
    (i < q ∧ cells[i]? = some (v, k)) ∨ (q ≤ i ∧ vs[i - q]? = some v ∧ k = m) := by
  rw [List.getElem?_append] at h
  have hl : (cells.take q).length = q := by rw [List.length_take]; omega
  rw [hl] at h
  split at h
  · rename_i hlt
    rw [List.getElem?_take, if_pos hlt] at h
    exact .inl ⟨hlt, h⟩
  · rename_i hge
    rw [List.getElem?_map] at h
    cases hx : vs[i - q]? with
    | none => simp [hx] at h
    | some x => simp [hx] at h; exact .inr ⟨by omega, by rw [h.1], h.2.symm⟩

theorem rdAt_len {cells : List (Value × Nat)} {i g n : Nat} {vs : List Value} (h : rdAt cells i g n = some vs) (hn : 0 < n) : i + n ≤ cells.length := by
  obtain ⟨hl, hg⟩ := rdAt_get h
  have hk : n - 1 < vs.length := by omega
  obtain ⟨q, h1, _⟩ := hg (n - 1) vs[n - 1] (List.getElem?_eq_getElem hk)
  have := (List.getElem?_eq_some_iff.1 h1).1
  omega

theorem VRs.oneCell {σ : Pl} {vs cvs : List Value} (hv : VRs σ vs cvs) (e3 : vs.all cellable = true) : ∀ v ∈ cvs, v.oneCell' = true := by
  intro c hc'
  have hlen := hv.length
  obtain ⟨k, hk⟩ := List.mem_iff_getElem?.1 hc'
  have hk' : k < vs.length := by rw [← hlen]; exact (List.getElem?_eq_some_iff.1 hk).1
  obtain ⟨c', hc2, hc3⟩ := hv.get (List.getElem?_eq_getElem hk')
  rw [hk] at hc2; cases hc2
  exact hc3.cellable (by rw [List.all_eq_true] at e3; exact e3 _ (List.getElem_mem hk'))

/-- Beyond the known room, but there is room: the same row, a new generation. -/
theorem sim_grow_same {P : Program} {σ : Pl} {H : AHeap} {w : World} (h : Rel P σ H w) {F g o co q : Nat} {pl : Place} {vs cvs : List Value} {ty : TypeId} {cells : List (Value × Nat)} {gen : Nat}
    (hp : σ F g = some pl) (hF : H.get F = some (.row ty cells gen false)) (hlo : pl.lo ≤ o) (ho : (co : Int) = o + pl.d) (hq : o ≤ q) (hql : q ≤ cells.length)
    (hver : ∀ (i : Nat) (v : Value) (k : Nat), o ≤ i → i < q → cells[i]? = some (v, k) → k ≤ g)
    (hv : VRs σ vs cvs) (hcell : vs.all cellable = true) (hfit : co + (q - o) + cvs.length ≤ pl.sz) :
    ∃ w', (storeCells ⟨pl.b, co + (q - o), none⟩ cvs).run P w = .ok () w' ∧ Step P σ H w (upd σ F (gen + 1) ⟨pl.b, pl.d, o, pl.sz, pl.s⟩) (H.set F (.row ty (cells.take q ++ vs.map fun v => (v, gen + 1)) (gen + 1) false)) w' := by
  obtain ⟨hle, hgens, hsc, cs, ty', fr, hb, hro, hc⟩ := h.obj hp hF
  obtain ⟨hty, hsz, hfr⟩ := hro rfl
  subst hty
  have hlen := hv.length
  have hnone : σ F (gen + 1) = none := by
    cases hg : σ F (gen + 1) with
    | none => rfl
    | some pl' => obtain ⟨e, _⟩ := h.obj hg hF; omega
  have hext := upd_ext (pl := ⟨pl.b, pl.d, o, pl.sz, pl.s⟩) hnone
  have hsame : ∀ {g' pl'}, σ F g' = some pl' → pl'.b = pl.b → pl'.d = pl.d := by
    intro g' pl' hp' hbb
    rcases h.inj hp' hp hbb with ⟨_, e⟩ | ⟨⟨_, _, _, e⟩, _⟩
    · exact e
    · rw [hF] at e; cases e
  obtain ⟨w', cs', r1, r2, r3, r4, r5, r6, r7, r8, r9⟩ := run_storeCells_row (P := P) pl.b (co + (q - o)) ty' fr cvs 0 w cs hb (by omega) hfr (hv.oneCell hcell)
  refine ⟨w', r1, ?_⟩
  refine Step.change h hF (by rintro _ _ _ ⟨⟩) hext ?_ (by omega) ?_ ?_ ?_ ⟨g, pl, hp⟩ ?_ r7 r8 r9
  · intro F' g' pl' hp'
    rcases upd_inv hp' with ⟨e1, e2, e3⟩ | hp'
    · exact .inr ⟨e1, .inr ⟨g, pl, hp, by rw [e3]⟩⟩
    · exact .inl hp'
  · intro b _ hn
    exact r6 b (fun e => hn g pl hp e.symm)
  · intro g1 pl1 g2 pl2 a b c
    rcases upd_inv a with ⟨_, _, e1⟩ | a <;> rcases upd_inv b with ⟨_, _, e2⟩ | b
    · rw [e1, e2]
    · rw [e1] at c ⊢; exact (hsame b c.symm).symm
    · rw [e2] at c ⊢; exact hsame a c
    · rcases h.inj a b c with ⟨_, e⟩ | ⟨⟨_, _, _, e⟩, _⟩
      · exact e
      · rw [hF] at e; cases e
  · intro g' pl' hp'
    have kg : ∀ (i : Nat) (v : Value) (k : Nat), (cells.take q ++ vs.map fun v => (v, gen + 1))[i]? = some (v, k) → k ≤ gen + 1 := by
      intro i v k hk
      rcases grown_get hql hk with ⟨_, hk⟩ | ⟨_, _, e⟩
      · have := hgens i v k hk; omega
      · omega
    rcases upd_inv hp' with ⟨_, e2, e3⟩ | hp'
    · subst e2; subst e3
      refine ⟨Nat.le_refl _, kg, hsc, cs', ty', fr, r2, fun _ => ⟨rfl, by rw [r3]; exact hsz, by rw [r3]; exact hfr⟩, ?_⟩
      intro i v k hi hk _
      rcases grown_get hql hk with ⟨hlt, hk⟩ | ⟨hge, hk, _⟩
      · obtain ⟨j, c, q1, q2, q3⟩ := hc i v k (Nat.le_trans hlo hi) hk (hver i v k hi hlt hk)
        refine ⟨j, c, q1, ?_, q3.ext hext⟩
        rw [r4, if_neg (by omega)]
        exact q2
      · obtain ⟨c, hc1, hc2⟩ := hv.get hk
        refine ⟨co + (i - o), c, by show ((co + (i - o) : Nat) : Int) = i + pl.d; omega, ?_, hc2.ext hext⟩
        have hlt : i - q < cvs.length := (List.getElem?_eq_some_iff.1 hc1).1
        rw [r4, if_pos (by omega), show co + (i - o) - (co + (q - o) + 0) = i - q by omega]
        exact hc1
    · obtain ⟨k1, _, ksc, cs2, ty2, fr2, k2, k4, k5⟩ := h.obj hp' hF
      by_cases hbb : pl'.b = pl.b
      · have hd := hsame hp' hbb
        rw [hbb, hb] at k2; cases k2
        refine ⟨by omega, kg, ksc, cs', ty', fr, by rw [hbb]; exact r2, fun _ => ⟨rfl, by rw [r3]; exact (k4 rfl).2.1, by rw [r3]; exact hfr⟩, ?_⟩
        intro i v k hi hk hkg
        rcases grown_get hql hk with ⟨hlt, hk⟩ | ⟨_, _, e⟩
        · obtain ⟨j, c, q1, q2, q3⟩ := k5 i v k hi hk hkg
          refine ⟨j, c, q1, ?_, q3.ext hext⟩
          rw [r4, if_neg (by omega)]
          exact q2
        · omega
      · refine ⟨by omega, kg, ksc, cs2, ty2, fr2, by rw [r6 _ hbb]; exact k2, k4, ?_⟩
        intro i v k hi hk hkg
        rcases grown_get hql hk with ⟨hlt, hk⟩ | ⟨_, _, e⟩
        · obtain ⟨j, c, q1, q2, q3⟩ := k5 i v k hi hk hkg
          exact ⟨j, c, q1, q2, q3.ext hext⟩
        · omega
  · intro g' pl' r hp' hr
    obtain ⟨_, _, _, cs2, ty2, fr2, k2, _⟩ := h.obj hp' hF
    rw [k2] at hr; cases hr

/-- Beyond the known room, and there is none: a new row, a new generation. -/
theorem sim_grow_new {P : Program} {σ : Pl} {H : AHeap} {w : World} (h : Rel P σ H w) {F g o q : Nat} {pl : Place} {vs cvs : List Value} {ty : TypeId} {cells : List (Value × Nat)} {gen : Nat}
    (hp : σ F g = some pl) (hF : H.get F = some (.row ty cells gen false)) (hq : o ≤ q) (hql : q ≤ cells.length) {us cus : List Value} (hus : rdAt cells o g (q - o) = some us) (hu : VRs σ us cus)
    (hv : VRs σ vs cvs) (rest : Array Value) :
    Step P σ H w (upd σ F (gen + 1) ⟨w.heap.size, -(o : Int), o, ((⟨cus⟩ : Array Value) ++ ⟨cvs⟩ ++ rest).size, P.cellsOf ty⟩) (H.set F (.row ty (cells.take q ++ vs.map fun v => (v, gen + 1)) (gen + 1) false))
      (w.alloc (.cells ((⟨cus⟩ : Array Value) ++ ⟨cvs⟩ ++ rest) ty)) := by
  obtain ⟨hle, hgens, hsc, cs, ty', fr, hb, hro, hc⟩ := h.obj hp hF
  have hulen := hu.length
  obtain ⟨hul, hug⟩ := rdAt_get hus
  have hnone : σ F (gen + 1) = none := by
    cases hg : σ F (gen + 1) with
    | none => rfl
    | some pl' => obtain ⟨e, _⟩ := h.obj hg hF; omega
  have hext := upd_ext (pl := ⟨w.heap.size, -(o : Int), o, ((⟨cus⟩ : Array Value) ++ ⟨cvs⟩ ++ rest).size, P.cellsOf ty⟩) hnone
  refine Step.change h hF (by rintro _ _ _ ⟨⟩) hext ?_ (by simp) ?_ ?_ ?_ ⟨g, pl, hp⟩ ?_ rfl rfl rfl
  · intro F' g' pl' hp'
    rcases upd_inv hp' with ⟨e1, e2, e3⟩ | hp'
    · exact .inr ⟨e1, .inl (by rw [e3]; simp)⟩
    · exact .inl hp'
  · intro b hb' _
    exact heap_alloc_old w _ b hb'
  · intro g1 pl1 g2 pl2 a b c
    rcases upd_inv a with ⟨_, _, e1⟩ | a <;> rcases upd_inv b with ⟨_, _, e2⟩ | b
    · rw [e1, e2]
    · rw [e1] at c; have := h.old b; simp at c; omega
    · rw [e2] at c; have := h.old a; simp at c; omega
    · rcases h.inj a b c with ⟨_, e⟩ | ⟨⟨_, _, _, e⟩, _⟩
      · exact e
      · rw [hF] at e; cases e
  · intro g' pl' hp'
    have kg : ∀ (i : Nat) (v : Value) (k : Nat), (cells.take q ++ vs.map fun v => (v, gen + 1))[i]? = some (v, k) → k ≤ gen + 1 := by
      intro i v k hk
      rcases grown_get hql hk with ⟨_, hk⟩ | ⟨_, _, e⟩
      · have := hgens i v k hk; omega
      · omega
    rcases upd_inv hp' with ⟨_, e2, e3⟩ | hp'
    · subst e2; subst e3
      refine ⟨Nat.le_refl _, kg, rfl, _, ty, (0, 0), heap_alloc_new w _, fun _ => ⟨rfl, rfl, by intro off _; simp⟩, ?_⟩
      intro i v k hi hk _
      refine ⟨i - o, ?_⟩
      rcases grown_get hql hk with ⟨hlt, hk⟩ | ⟨hge, hk, _⟩
      · have hi' : i - o < us.length := by simp at hi; omega
        obtain ⟨qq, g1, _⟩ := hug (i - o) us[i - o] (List.getElem?_eq_getElem hi')
        simp at hi
        rw [show o + (i - o) = i by omega, hk] at g1
        cases g1
        obtain ⟨c, hc1, hc2⟩ := hu.get (List.getElem?_eq_getElem hi')
        refine ⟨c, by show ((i - o : Nat) : Int) = i + -(o : Int); omega, ?_, hc2.ext hext⟩
        have : i - o < cus.length := by omega
        rw [Array.getElem?_append_left (by simp; omega), Array.getElem?_append_left (by simpa using this)]
        simpa using hc1
      · simp at hi
        obtain ⟨c, hc1, hc2⟩ := hv.get hk
        refine ⟨c, by show ((i - o : Nat) : Int) = i + -(o : Int); omega, ?_, hc2.ext hext⟩
        have hlt : i - q < cvs.length := (List.getElem?_eq_some_iff.1 hc1).1
        rw [Array.getElem?_append_left (by simp; omega), Array.getElem?_append_right (by simp; omega)]
        simp only [List.size_toArray]
        rw [show i - o - cus.length = i - q by omega]
        simpa using hc1
    · obtain ⟨k1, _, ksc, cs2, ty2, fr2, k2, k4, k5⟩ := h.obj hp' hF
      refine ⟨by omega, kg, ksc, cs2, ty2, fr2, by rw [heap_alloc_old w _ _ (h.old hp')]; exact k2, k4, ?_⟩
      intro i v k hi hk hkg
      rcases grown_get hql hk with ⟨hlt, hk⟩ | ⟨_, _, e⟩
      · obtain ⟨j, c, q1, q2, q3⟩ := k5 i v k hi hk hkg
        exact ⟨j, c, q1, q2, q3.ext hext⟩
      · omega
  · intro g' pl' r hp' hr
    obtain ⟨_, _, _, cs2, ty2, fr2, k2, _⟩ := h.obj hp' hF
    rw [k2] at hr; cases hr

end Go.AE
