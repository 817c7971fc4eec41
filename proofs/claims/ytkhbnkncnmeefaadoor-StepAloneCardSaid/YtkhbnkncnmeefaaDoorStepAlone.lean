/-
  StepAlone, for every input: the call returns true, and each argument reads behind it as it read before; the listed variable is as the program's text lays it (the tied card).
  Conditions: none beyond the given row's own cells.
  How: the call is run by an abstract evaluator (the texts ..Ae..) whose one run stands for every run of the model.
-/
import Derived.Test.YtkhbnkncnmeefaaDoorRows
import Derived.Test.YtkhbnkncnmeefaaDoorTie
import Derived.Test.YtkhbnkncnmeefaaDoorCards
import Derived.Test.YtkhbnkncnmeefaaDoorAeDeq
import Derived.KernelRfl
import Derived.ProofKit
import Derived.LaidMore
import Derived.OpenShut
import Derived.Stop.Joined
import Derived.SevenTiedAt
namespace Go.Proofs.YtkhbnkncnmeefaaDoor
open Go Go.AE
open Go.ChangeShapes Go.WideShapes Go.ChangeAt Go.WideMaps Go.WideElems Go.RowKit
set_option maxRecDepth 1000000
noncomputable def litV : Lit → Value
  | .string l => str l
  | .int k n => .int k n
  | .bool b => .bool b
  | _ => junk
noncomputable def flatD : Nat → DataW Unit → List Value
  | 0, _ => []
  | n + 1, .agg l => l.flatMap (flatD n)
  | _ + 1, .lit l => [litV l]
  | _, _ => [junk]
noncomputable def H0 : AHeap := AHeap.empty.push (roRow 103 (flatD 5 Rows.laid_marline_ins_ops))
noncomputable def C : Cfg := plainCfg Tryd.prog [0]
theorem laidAbs : absLaid Tryd.prog 8 [("marline/ins.ops", Rows.laid_marline_ins_ops)] AHeap.empty = some (H0, [(0, 0)]) := by kernel_rfl
theorem evalLaw (n a b : Int) : (call C 300 (.func 3) [.int .i64 n, .agg ⟨[.int .i64 a, .int .i64 b, junk]⟩] H0).map (·.1) = some (.bool true) := by kernel_rfl
theorem namesF : namesFine Tryd.prog = true := by kernel_rfl
theorem mixed : Tryd.prog.follows .mixedOrders = true := by kernel_rfl
theorem laidOut : laidOutB Tryd.prog = true := by kernel_rfl

theorem own : ownKnob Tryd.prog.godebug = none := by kernel_rfl
theorem door_met (os : Os) (args : Array Value) : laidMetH Tryd.prog Rows.stepAloneRow.laid ((World.doorLaid Tryd.prog 2000 os).forCall (fun _ _ => 0) ⟨#[], args, []⟩).memory :=
  laidMetH_of_parts3 (fuel := 8) (laidMet_of_run' 8 (by kernel_rfl) (by kernel_rfl)) (by kernel_rfl) (by kernel_rfl)

/-- A value of three cells is an aggregate of these. -/
theorem agg_of_cells {v : Value} (h : v.cells.toList.length = 3) : v = .agg ⟨v.cells.toList⟩ := by
  cases v <;> first | rfl | (simp [Value.cells] at h; done)

theorem lifted (os : Os) (started : os.Started) (H : Type) (enc : TypeId × Value → H) :
    ReturnsInHanded {} Tryd.checked os 3 .any (fun w args => (Rows.stepAloneSpec.pre enc Tryd.prog Tryd.f3 [] false w args ∧ laidMetH Tryd.prog Rows.stepAloneRow.laid w) ∧ sizedMet enc Tryd.prog Tryd.f3 (OpenSpec.ofChange Rows.stepAloneSpec) false w args)
      (Rows.stepAloneSpec.post enc Tryd.prog Tryd.f3 false true false false) := by
  refine returnsInHanded_of_change_and (C := Tryd.checked) (X := fun w _ => laidMetH Tryd.prog Rows.stepAloneRow.laid w) (fun _ _ _ hh h => h.of_heap hh) own started (by kernel_rfl) Tryd.func3
    (ChangeSpec.witness_shaped (enc := enc) (C := Tryd.checked) (os := os) (X := fun w _ => laidMetH Tryd.prog Rows.stepAloneRow.laid w) false (World.doorLaid Tryd.prog 2000 os) #[.int .i64 0, .agg #[.int .i64 0, .int .i64 0, .slice none 0 0]] 8 rfl
      (World.shaped_of_RefB (by kernel_rfl) (by kernel_rfl)) (by kernel_rfl) (by kernel_rfl) (by kernel_rfl) (door_met os _)) ?_
  intro W base args ds gs before hval0 hW _ _ hL _
  have hW0 : DataW.Whole enc Tryd.prog Tryd.f3.params.toList Rows.stepAloneSpec.vars false W args.toList ds gs before := hW
  obtain ⟨p, q, hA0, hV, rfl, hfz, hnd⟩ := id hW0
  have hA : DataW.TrodAll enc Tryd.prog W 0 (fun _ => true) true Tryd.f3.params.toList args.toList ds p := hA0
  rw [Tryd.params3] at hA
  obtain ⟨v0, v1, d0, d1, p0, p1, rfl, rfl, rfl, ⟨n0, h0⟩, ⟨n1, h1⟩⟩ := trodAll_two hA
  -- the number
  have u3 : Tryd.prog.underlying 3 = some (.int .i64) := by kernel_rfl
  have hval : ∀ (j : Nat) t v, Tryd.f3.params[j]? = some t → (#[v0, v1] : Array Value)[j]? = some v → Value.okWide Tryd.prog W .any base t v := hval0
  obtain ⟨n, rfl, rfl, rfl, _⟩ := open_int u3 (hval 0 3 v0 rfl rfl) ⟨n0, h0⟩
  -- the value
  obtain ⟨fs, u24, hf0, hf1⟩ : ∃ fs, Tryd.prog.underlying 24 = some (.struct fs) ∧ (∃ f, fs[0]? = some f ∧ f.type = 3 ∧ f.offset = 0) ∧ ∃ f, fs[1]? = some f ∧ f.type = 3 ∧ f.offset = 1 := ⟨_, Tryd.underlying24, ⟨_, rfl, rfl, rfl⟩, ⟨_, rfl, rfl, rfl⟩⟩
  obtain ⟨xs, m, _, _, hlen, _, hget⟩ := DataW.trod_struct u24 h1
  have hc24 : Tryd.prog.cellsOf 24 = 3 := by kernel_rfl
  have hc3 : Tryd.prog.cellsOf 3 = 1 := by kernel_rfl
  rw [hc24] at hlen
  have hcells : ∃ a b x, v1.cells.toList = [.int .i64 a, .int .i64 b, x] := by
    obtain ⟨f, g1, g2, g3⟩ := hf0
    obtain ⟨f', g1', g2', g3'⟩ := hf1
    have k0 := hget 0 f g1
    have k1 := hget 1 f' g1'
    rw [g2, g3, hc3] at k0
    rw [g2', g3', hc3] at k1
    have hx : ∀ i, i < 2 → ∃ y, xs[i]? = some y := by
      intro i hi
      have : i < xs.length := by
        have h2 : 2 ≤ fs.size := by have := (Array.getElem?_eq_some_iff.1 g1').1; omega
        omega
      exact ⟨xs[i], List.getElem?_eq_getElem this⟩
    obtain ⟨y0, hy0⟩ := hx 0 (by omega)
    obtain ⟨y1, hy1⟩ := hx 1 (by omega)
    rw [hy0] at k0
    rw [hy1] at k1
    obtain ⟨a, ha, _⟩ := DataW.trod_int u3 k0
    obtain ⟨b, hb, _⟩ := DataW.trod_int u3 k1
    match hcs : v1.cells.toList, hlen with
    | [x, y, z], _ =>
      rw [hcs] at ha hb
      simp at ha hb
      exact ⟨a, b, z, by rw [ha, hb]⟩
  obtain ⟨a, b, x, hcs⟩ := hcells
  have e1 := agg_of_cells hlen
  rw [hcs] at e1
  subst e1
  -- memory
  have hL' : laidMet Tryd.prog Rows.stepAloneRow.laid W := by
    have hL'' : laidMetH Tryd.prog Rows.stepAloneRow.laid W := hL
    rw [MakeChecks.laidMetH_plain _ _ _ (by kernel_rfl)] at hL''
    exact hL''
  obtain ⟨ps, hlv, _, _⟩ := hL'
  obtain ⟨σ, hE, hpos⟩ := absLaid_sound laidOut hlv laidAbs (Rel.empty Tryd.prog W) (by intro F g pl h; cases h)
  have hg : GlobR C σ := glob_of_pos hpos rfl
  obtain ⟨H', hcall⟩ : ∃ H', call C 300 (.func 3) [.int .i64 n, .agg ⟨[.int .i64 a, .int .i64 b, junk]⟩] H0 = some (.bool true, H') := by
    have := evalLaw n a b
    rw [Option.map_eq_some_iff] at this
    obtain ⟨r, h1, h2⟩ := this
    exact ⟨r.2, by rw [h1, ← h2]⟩
  have hcok : COk C := plainCfg_ok namesF mixed
  have hsound := calls_sound hcok (n := 299) (f := 3) (fn := Tryd.f3) Tryd.func3 rfl hcall hg hE.rel
    (cargs := #[.int .i64 n, .agg ⟨[.int .i64 a, .int .i64 b, x]⟩]) (.cons (.same _ rfl) (.cons (.agg (.cons (.same _ rfl) (.cons (.same _ rfl) (.cons (.junk x) .nil)))) .nil))
  refine hsound.mono fun e W' he => ?_
  obtain ⟨c, σ', rfl, hstep, hv⟩ := he
  have hv := hv.bool_inv
  subst hv
  have hb := below_of_step hE.ro hstep
  have hts : ∀ t ∈ Tryd.f3.params.toList, Tryd.prog.readableRec t = true ∧ t < Tryd.prog.types.size := by
    rw [Tryd.params3]
    intro t ht
    have hm : t = 3 ∨ t = 24 := by simpa using ht
    rcases hm with rfl | rfl
    · exact ⟨by kernel_rfl, of_decide_eq_true (by kernel_rfl)⟩
    · exact ⟨by kernel_rfl, of_decide_eq_true (by kernel_rfl)⟩
  exact ⟨_, rfl, law_post laidOut (tb := 4) (by kernel_rfl) (by kernel_rfl) hts rfl hW0 rfl hb⟩

theorem stepAlone_holds : Rows.StepAloneSaid :=
  OpenClaim.holds_of_wide 3 Tryd.f3 rfl rfl rfl rfl rfl rfl rfl ⟨rfl, rfl, rfl, rfl, rfl⟩ rfl rfl rfl rfl rfl (by kernel_rfl) Tryd.func3 (by kernel_rfl)
    (of_decide_eq_true (by kernel_rfl)) (by unfold Func.isWrapper; first | (rw [if_pos (by decide +kernel)]; kernel_rfl) | (rw [if_neg (by decide +kernel)]; exact ⟨rfl, rfl⟩))
    (fun os started H enc _ => lifted os started H enc)

theorem stepAlone_card : Rows.StepAloneCardSaid :=
  Claim7.holds_tied_plain_at .later [] [.data] true (true, "3f8ab900104185a6a56e172de1b9cb01348ab269412e44a19811317ad7a2cf91") false
    stepAlone_holds (fun _ h => by cases h) (by kernel_rfl) (fun _ h => by cases h) stepAlone_row_tie rfl ⟨rfl, rfl⟩ (by kernel_rfl) rfl
    (fun f fn hf hfn => by
      obtain rfl : f = 3 := Option.some.inj ((show Tryd.prog.funcNamed "marline/marlinelaw37.StepAlone" = some 3 by kernel_rfl).symm.trans hf) |>.symm
      obtain rfl : fn = Tryd.f3 := (Option.some.inj (Tryd.func3.symm.trans hfn)).symm
      exact ⟨by kernel_rfl, fun j t ht => by
        rw [Tryd.params3] at ht
        have hm : t ∈ [3, 24] := by simpa using Array.mem_of_getElem? ht
        have hall : ([3, 24].all fun u => !Tryd.prog.wantsStandIn u) = true := by kernel_rfl
        exact (show Tryd.prog.wantsStandIn t = false by simpa using List.all_eq_true.1 hall t hm)⟩)
    (by kernel_rfl)
end Go.Proofs.YtkhbnkncnmeefaaDoor
