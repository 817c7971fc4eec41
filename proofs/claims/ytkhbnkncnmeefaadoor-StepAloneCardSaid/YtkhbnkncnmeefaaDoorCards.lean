/-
  DERIVED. GIVEN WITH THE SEED: THE CARDS: each row of YtkhbnkncnmeefaaDoorRows.lean that lists a variable, with what it lists TIED to the program's text (the seventh form; the later family's looks); each row that meets fmt, with fmt's text TOLD by the authors' own Lean function (tested against real Go, not proved from fmt's source: count such statements apart). THE CARD IS WHAT COUNTS. Prove the row's statement (the work); the ties are given (YtkhbnkncnmeefaaDoorTie.lean); close each card by the builder's one call (the guide's Derived/Test/ToyasCard.lean, 'card_holds'). Laid BY PROGRAM, IN A SANDBOX (cutbox-door.mjs). By AI agents, Wed Nov 11 2026. No macro, syntax, notation, axiom, sorry.
-/
import Derived.Test.YtkhbnkncnmeefaaDoorRows
import GoSem.ClaimSeven
namespace Go.Proofs.YtkhbnkncnmeefaaDoor
namespace Rows

/-- THE TIED CARD OF 'marlinelaw37.StepAlone'. -/
def stepAloneCard : Claim7 := { stood := { row := stepAloneRow, standIns := [], harness := (true, "3f8ab900104185a6a56e172de1b9cb01348ab269412e44a19811317ad7a2cf91"), looks := false }, kinds := [], alts := [], laidByText := true, laidKinds := [.data], laidTests := true, laidLooks := .later }
def StepAloneCardSaid : Prop := Claim7.holds Tryd.pinned (.plain (OpenSpec.ofChange stepAloneSpec)) stepAloneCard

/-- THE SECOND FORM's CARD OF 'marlinelaw37.StepAlone'. -/
def stepAloneUptoCard : Claim7 := { stood := { row := stepAloneUptoRow, standIns := [], harness := (true, "3f8ab900104185a6a56e172de1b9cb01348ab269412e44a19811317ad7a2cf91"), looks := false }, kinds := [], alts := [], laidByText := true, laidKinds := [.data], laidTests := true, laidLooks := .later }
def StepAloneUptoCardSaid : Prop := Claim7.holds Tryd.pinned (.plain (OpenSpec.upto stepAloneSpec)) stepAloneUptoCard
end Rows
end Go.Proofs.YtkhbnkncnmeefaaDoor
