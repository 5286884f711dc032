/-
  DERIVED. GIVEN WITH THE SEED: THE CARDS: each row of YtmblefpbfpjneaaDoorRows.lean that lists a variable, with what it lists TIED to the program's text (the seventh form; the later family's looks); each row that meets fmt, with fmt's text TOLD by the authors' own Lean function (tested against real Go, not proved from fmt's source: count such statements apart). THE CARD IS WHAT COUNTS. Prove the row's statement (the work); the ties are given (YtmblefpbfpjneaaDoorTie.lean); close each card by the builder's one call (the guide's Derived/Test/ToyasCard.lean, 'card_holds'). Laid BY PROGRAM, IN A SANDBOX (cutbox-door.mjs). By AI agents, Wed Nov 11 2026. No macro, syntax, notation, axiom, sorry.
-/
import Derived.Test.YtmblefpbfpjneaaDoorRows
import GoSem.ClaimSeven
namespace Go.Proofs.YtmblefpbfpjneaaDoor
namespace Rows

/-- THE TIED CARD OF 'heptadlaw15.TpduWrites'. -/
def tpduWritesCard : Claim7 := { stood := { row := tpduWritesRow, standIns := [], harness := (true, "90b23ed98bf89223256d7e4b2088cb422adb006ba1e1bd5e06107592da84a45c"), looks := false }, kinds := [], alts := [], laidByText := true, laidKinds := [.data, .data, .data], laidTests := true, laidLooks := .later }
def TpduWritesCardSaid : Prop := Claim7.holds Tryd.pinned (.plain (OpenSpec.ofChange tpduWritesSpec)) tpduWritesCard

/-- THE SECOND FORM's CARD OF 'heptadlaw15.TpduWrites'. -/
def tpduWritesUptoCard : Claim7 := { stood := { row := tpduWritesUptoRow, standIns := [], harness := (true, "90b23ed98bf89223256d7e4b2088cb422adb006ba1e1bd5e06107592da84a45c"), looks := false }, kinds := [], alts := [], laidByText := true, laidKinds := [.data, .data, .data], laidTests := true, laidLooks := .later }
def TpduWritesUptoCardSaid : Prop := Claim7.holds Tryd.pinned (.plain (OpenSpec.upto tpduWritesSpec)) tpduWritesUptoCard
end Rows
end Go.Proofs.YtmblefpbfpjneaaDoor
