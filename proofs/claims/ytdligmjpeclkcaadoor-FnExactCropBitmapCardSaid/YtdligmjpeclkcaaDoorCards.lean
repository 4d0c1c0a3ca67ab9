/-
  DERIVED. GIVEN WITH THE SEED: THE CARDS: each row of YtdligmjpeclkcaaDoorRows.lean that lists a variable, with what it lists TIED to the program's text (the seventh form; the later family's looks); each row that meets fmt, with fmt's text TOLD by the authors' own Lean function (tested against real Go, not proved from fmt's source: count such statements apart). THE CARD IS WHAT COUNTS. Prove the row's statement (the work); the ties are given (YtdligmjpeclkcaaDoorTie.lean); close each card by the builder's one call (the guide's Derived/Test/ToyasCard.lean, 'card_holds'). Laid BY PROGRAM, IN A SANDBOX (cutbox-door.mjs). By AI agents, Wed Nov 11 2026. No macro, syntax, notation, axiom, sorry.
-/
import Derived.Test.YtdligmjpeclkcaaDoorRows
import GoSem.ClaimSeven
namespace Go.Proofs.YtdligmjpeclkcaaDoor
namespace Rows

/-- THE TIED CARD OF 'laws.FnExactCropBitmap'. -/
def fnExactCropBitmapCard : Claim7 := { stood := { row := fnExactCropBitmapRow, standIns := [], harness := (true, "f1f6709291d866f95578292f4bc3773dbe3fe93813ce127ed996fa8efef926c6"), looks := false }, kinds := [], alts := [], laidByText := true, laidKinds := [.data, .pinned], laidTests := true, laidLooks := .later }
def FnExactCropBitmapCardSaid : Prop := Claim7.holds Tryd.pinned (.plain (OpenSpec.ofChange fnExactCropBitmapSpec)) fnExactCropBitmapCard

/-- THE TIED CARD OF 'laws.FnExactOverBitmap'. -/
def fnExactOverBitmapCard : Claim7 := { stood := { row := fnExactOverBitmapRow, standIns := [], harness := (true, "f1f6709291d866f95578292f4bc3773dbe3fe93813ce127ed996fa8efef926c6"), looks := false }, kinds := [], alts := [], laidByText := true, laidKinds := [.data, .pinned], laidTests := true, laidLooks := .later }
def FnExactOverBitmapCardSaid : Prop := Claim7.holds Tryd.pinned (.plain (OpenSpec.ofChange fnExactOverBitmapSpec)) fnExactOverBitmapCard

/-- THE TIED CARD OF 'laws.FnFeatures'. -/
def fnFeaturesCard : Claim7 := { stood := { row := fnFeaturesRow, standIns := [], harness := (true, "f1f6709291d866f95578292f4bc3773dbe3fe93813ce127ed996fa8efef926c6"), looks := false }, kinds := [], alts := [], laidByText := true, laidKinds := [.data, .pinned], laidTests := true, laidLooks := .later }
def FnFeaturesCardSaid : Prop := Claim7.holds Tryd.pinned (.plain (OpenSpec.ofChange fnFeaturesSpec)) fnFeaturesCard

/-- THE SECOND FORM's CARD OF 'laws.FnExactCropBitmap'. -/
def fnExactCropBitmapUptoCard : Claim7 := { stood := { row := fnExactCropBitmapUptoRow, standIns := [], harness := (true, "f1f6709291d866f95578292f4bc3773dbe3fe93813ce127ed996fa8efef926c6"), looks := false }, kinds := [], alts := [], laidByText := true, laidKinds := [.data, .pinned], laidTests := true, laidLooks := .later }
def FnExactCropBitmapUptoCardSaid : Prop := Claim7.holds Tryd.pinned (.plain (OpenSpec.upto fnExactCropBitmapSpec)) fnExactCropBitmapUptoCard

/-- THE SECOND FORM's CARD OF 'laws.FnExactOverBitmap'. -/
def fnExactOverBitmapUptoCard : Claim7 := { stood := { row := fnExactOverBitmapUptoRow, standIns := [], harness := (true, "f1f6709291d866f95578292f4bc3773dbe3fe93813ce127ed996fa8efef926c6"), looks := false }, kinds := [], alts := [], laidByText := true, laidKinds := [.data, .pinned], laidTests := true, laidLooks := .later }
def FnExactOverBitmapUptoCardSaid : Prop := Claim7.holds Tryd.pinned (.plain (OpenSpec.upto fnExactOverBitmapSpec)) fnExactOverBitmapUptoCard

/-- THE SECOND FORM's CARD OF 'laws.FnFeatures'. -/
def fnFeaturesUptoCard : Claim7 := { stood := { row := fnFeaturesUptoRow, standIns := [], harness := (true, "f1f6709291d866f95578292f4bc3773dbe3fe93813ce127ed996fa8efef926c6"), looks := false }, kinds := [], alts := [], laidByText := true, laidKinds := [.data, .pinned], laidTests := true, laidLooks := .later }
def FnFeaturesUptoCardSaid : Prop := Claim7.holds Tryd.pinned (.plain (OpenSpec.upto fnFeaturesSpec)) fnFeaturesUptoCard
end Rows
end Go.Proofs.YtdligmjpeclkcaaDoor
