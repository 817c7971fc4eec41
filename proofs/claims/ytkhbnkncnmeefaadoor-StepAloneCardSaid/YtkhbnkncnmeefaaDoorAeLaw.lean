/-
  AE: from a law's input to its answer: the listed variables and the arguments come in as rows that are only read; so the call leaves them as they were.
-/
import Derived.Test.YtkhbnkncnmeefaaDoorAeEntry
import Derived.ProofKit
import Derived.MakeChecks
import Derived.LaidLaws
namespace Go.AE
open Go.RowKit Go.ChangeShapes Go.WideShapes

theorem Rel.empty (P : Program) (W : World) : Rel P (fun _ _ => none) AHeap.empty W :=
  ⟨by simp, by simp, by simp, by simp⟩

/-! ### Listed variables -/
def absLaid (P : Program) (N : Nat) : List (String × DataW Unit) → AHeap → Option (AHeap × List (Nat × Nat))
  | [], H => some (H, [])
  | x :: r, H => match P.globalNamed x.1 with
    | some g => match (P.globals[g]?).map (·.type) with
      | some t => match absD P N (t, x.2) H with
        | some (vs, H1) => match absLaid P N r (H1.push (roRow t vs)) with
          | some (H2, pos) => some (H2, (g, H1.n) :: pos)
          | none => none
        | none => none
      | none => none
    | none => none

theorem absLaid_sound {P : Program} {W : World} (hl : laidOutB P = true) {N : Nat} : ∀ {laid : List (String × DataW Unit)} {ps : List MemPlace}, DataW.LaidVars P W laid ps → ∀ {H H' : AHeap} {pos : List (Nat × Nat)}, absLaid P N laid H = some (H', pos) →
    ∀ {σ : Pl}, Rel P σ H W → (∀ F g pl, σ F g = some pl → isRo H F) → ∃ σ', Ent P W σ H σ' H' ∧ ∀ x ∈ pos, ∃ pl, σ' x.2 0 = some pl ∧ pl.b = x.1 ∧ pl.d = 0 ∧ pl.lo = 0
  | [], ps, _, H, H', pos, h, σ, hr, hro => by
    simp only [absLaid, Option.some.injEq, Prod.mk.injEq] at h
    obtain ⟨rfl, rfl⟩ := h
    exact ⟨σ, Ent.refl hr hro, by simp⟩
  | (n, d) :: r, ps, hv, H, H', pos, h, σ, hr, hro => by
    obtain ⟨g, t, cs, fuel, p, q, h1, h2, h3, h4, h5, _⟩ := hv
    simp only [absLaid, h1, h2] at h
    split at h
    · rename_i vs H1 ha
      split at h
      · rename_i H2 pos2 hb
        simp only [Option.some.injEq, Prod.mk.injEq] at h
        obtain ⟨rfl, rfl⟩ := h
        have hlt : t < P.types.size := by
          unfold laidOutB at hl
          simp only [Bool.and_eq_true] at hl
          have := hl.1.2
          simp only [Option.map_eq_some_iff] at h2
          obtain ⟨gl, g1, g2⟩ := h2
          rw [Array.all_eq_true_iff_forall_mem] at this
          have := this gl (Array.mem_of_getElem? g1)
          rw [← g2]; simpa using this
        obtain ⟨σ1, e1, v1⟩ := absD_sound (enc := fun _ => ()) hl N (t, d) H vs H1 ha hlt fuel cs.toList p h4 σ hr hro
        have hblk : ∃ ty fr, W.heap[g]? = some (.cells cs ty fr) := by
          simp only [World.var?, h1, Option.bind_some] at h3
          split at h3
          · rename_i c t' fr hg
            cases h3
            exact ⟨t', fr, hg⟩
          · simp at h3
        obtain ⟨ty, fr, hg⟩ := hblk
        have e2 := Ent.push (ty := t) (vs := vs) (off := 0) (sz := 0) e1.rel e1.ro hg fun i v hv => by
          obtain ⟨c, k1, k2⟩ := v1.get hv
          exact ⟨c, by rw [Nat.zero_add, ← Array.getElem?_toList]; exact k1, k2⟩
        obtain ⟨σ2, e3, k⟩ := absLaid_sound hl h5 hb e2.rel e2.ro
        refine ⟨σ2, (e1.trans e2).trans e3, fun x hx => ?_⟩
        rcases List.mem_cons.1 hx with rfl | hx
        · exact ⟨_, e3.ext _ _ _ (upd_same _ _ _ _), rfl, rfl, rfl⟩
        · exact k x hx
      · simp at h
    · simp at h

theorem glob_of_pos {C : Cfg} {σ : Pl} {pos : List (Nat × Nat)} (h : ∀ x ∈ pos, ∃ pl, σ x.2 0 = some pl ∧ pl.b = x.1 ∧ pl.d = 0 ∧ pl.lo = 0) (hgl : pos = C.gl.zipIdx) : GlobR C σ := by
  intro g i hi
  have key : ∀ (l : List Nat) (k : Nat), idx g l k = some i → (g, i) ∈ l.zipIdx k := by
    intro l
    induction l with
    | nil => intro k h; simp [idx] at h
    | cons x r ih =>
      intro k h
      simp only [idx] at h
      split at h
      · rename_i e
        have e := Nat.eq_of_beq_eq_true e
        simp only [Option.some.injEq] at h
        subst e; subst h
        simp
      · rw [List.zipIdx_cons]
        exact List.mem_cons_of_mem _ (ih (k + 1) h)
  have := key C.gl 0 hi
  rw [← hgl] at this
  exact h (g, i) this

/-! ### Behind the call -/
theorem below_of_step {P : Program} {σ σ' : Pl} {H H' : AHeap} {W W' : World} (hro : ∀ F g pl, σ F g = some pl → isRo H F) (s : Step P σ H W σ' H' W') : Below W.heap.size W W' :=
  ⟨s.os, s.tape, s.output, s.size, fun _ hk => s.blk hk fun F g pl hp _ => hro F g pl hp⟩

theorem trodAll_stays {X : Type} {enc : TypeId × Value → X} {P : Program} {W W' : World} (hl : laidOutB P = true) (hb : Below W.heap.size W W') : ∀ {ts : List TypeId} {vs : List Value} {ds : List (DataW X)} {ps : List MemPlace},
    (∀ t ∈ ts, P.readableRec t = true ∧ t < P.types.size) → DataW.TrodAll enc P W 0 (fun _ => true) true ts vs ds ps → (∀ x ∈ ps, x.block < W.heap.size) → ∀ sp : Nat → Bool, (∀ x ∈ ps, sp x.block = true) → DataW.TrodAll enc P W' 0 sp true ts vs ds ps
  | [], [], [], ps, _, h, _, _, _ => h
  | t :: ts, v :: vs, d :: ds, ps, ht, h, hlt, sp, hsp => by
    obtain ⟨p, q, h1, h2, rfl⟩ := h
    obtain ⟨r1, r2⟩ := ht t (by simp)
    exact ⟨p, q, WideElems.Trod_stays hl r1 r2 h1 (fun x hx => hb.same (hlt x (by simp [hx]))) (fun x hx => hsp x (by simp [hx])),
      trodAll_stays hl hb (fun t' ht' => ht t' (by simp [ht'])) h2 (fun x hx => hlt x (by simp [hx])) sp (fun x hx => hsp x (by simp [hx])), rfl⟩
  | [], [], _ :: _, _, _, h, _, _, _ => h.elim
  | [], _ :: _, _, _, _, h, _, _, _ => h.elim
  | _ :: _, [], _, _, _, h, _, _, _ => h.elim
  | _ :: _, _ :: _, [], _, _, h, _, _, _ => h.elim

/-- A law that has answered true: its post. -/
theorem law_post {X : Type} {enc : TypeId × Value → X} {P : Program} {f : Func} {s : ChangeSpec} {apart fresh handsOn again : Bool} {W W' : World} {args : Array Value} {ds gs : List (DataW X)} {before : List MemPlace}
    (hl : laidOutB P = true) {tb : TypeId} (hres : f.resultTypes = #[tb]) (htb : P.underlying tb = some .bool) (hts : ∀ t ∈ f.params.toList, P.readableRec t = true ∧ t < P.types.size) (hvars : s.vars = [])
    (hW : DataW.Whole enc P f.params.toList s.vars apart W args.toList ds gs before) (hfn : s.fn X ds = { results := [.lit (.bool true)], args := ds }) (hb : Below W.heap.size W W') :
    s.post enc P f apart fresh handsOn again W args (.bool true) W' := by
  have hlt := hW.lt
  obtain ⟨p, q, h1, h2, rfl, h4, h5⟩ := id hW
  have hv : gs = [] ∧ q = [] := by
    rw [hvars] at h2
    cases gs with
    | nil => exact ⟨rfl, h2⟩
    | cons g r => exact h2.elim
  obtain ⟨rfl, rfl⟩ := hv
  have e : s.fn X (ds ++ []) = { results := [.lit (.bool true)], args := ds } := by rw [List.append_nil]; exact hfn
  have hold : ∀ x ∈ p ++ [], (fun b => decide (b < W.heap.size)) x.block = true := fun x hx => by simpa using hlt x hx
  have hargs : ∀ sp : Nat → Bool, (∀ x ∈ p ++ [], sp x.block = true) → DataW.TrodAll enc P W' 0 sp true f.params.toList args.toList ds p := fun sp hsp =>
    trodAll_stays hl hb hts h1 (fun x hx => hlt x (by simp [hx])) sp fun x hx => hsp x (by simp [hx])
  have hresT : ∀ (b : Nat) (sp : Nat → Bool) (hd : Bool), DataW.TrodAll enc P W' b sp hd f.resultTypes.toList ((Value.bool true).resultList f.resultTypes.size) [.lit (.bool true)] [] := by
    intro b sp hd
    rw [hres]
    exact trodAll_mk1 (shut_bool htb true)
  have hfz : ∀ x ∈ p ++ [], ∀ b off, x = MemPlace.cell b off → W'.frozen? ⟨b, off, none⟩ = W.frozen? ⟨b, off, none⟩ := by
    rintro x hx b off rfl
    exact hb.frozen (hlt _ hx)
  refine ⟨ds, [], p ++ [], [], p, [], hW, by rw [e]; exact hresT _ _ _, by rw [e]; exact hargs _ hold, by rw [e, hvars]; rfl, World.keptBut_mono (fun _ f => f.elim) (hb.frame (fun _ => False)), fun _ => ⟨?_, [.lit (.bool true)] ++ ds, [], ([] ++ p) ++ [], ⟨[] ++ p, [], ?_, by rw [hvars]; rfl, rfl, ?_, ?_⟩, ?_⟩⟩
  · exact ok_one hres rfl (okWide_bool_mk htb true)
  · exact trodAll_append (hargs _ (fun _ _ => rfl)) (hresT _ _ _)
  · intro b off hp
    rw [hfz _ (by simpa using hp) b off rfl]
    exact h4 b off (by simpa using hp)
  · intro ha
    have := h5 ha
    simpa using this
  · intro x hx _
    simpa using hx

end Go.AE
