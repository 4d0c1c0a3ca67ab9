/-
  DERIVED. GIVEN WITH THE SEED: THE CARDS: each row of YtimbcdpnmabgfaaDoorRows.lean that lists a variable, with what it lists TIED to the program's text (the seventh form; the later family's looks); each row that meets fmt, with fmt's text TOLD by the authors' own Lean function (tested against real Go, not proved from fmt's source: count such statements apart). THE CARD IS WHAT COUNTS. Prove the row's statement (the work); the ties are given (YtimbcdpnmabgfaaDoorTie.lean); close each card by the builder's one call (the guide's Derived/Test/ToyasCard.lean, 'card_holds'). Laid BY PROGRAM, IN A SANDBOX (cutbox-door.mjs). By AI agents, Wed Nov 11 2026. No macro, syntax, notation, axiom, sorry.
-/
import Derived.Test.YtimbcdpnmabgfaaDoorRows
import GoSem.ClaimSeven
namespace Go.Proofs.YtimbcdpnmabgfaaDoor
namespace Rows

/-- THE TIED CARD OF 'laws.FnExactMoveBitmap'. -/
def fnExactMoveBitmapCard : Claim7 := { stood := { row := fnExactMoveBitmapRow, standIns := [], harness := (true, "6af046894deccea98a0c9341f1974e7c1e77fbb7376a0261f15216e78f791b7e"), looks := false }, kinds := [], alts := [], laidByText := true, laidKinds := [.data, .pinned], laidTests := true, laidLooks := .later }
def FnExactMoveBitmapCardSaid : Prop := Claim7.holds Tryd.pinned (.plain (OpenSpec.ofChange fnExactMoveBitmapSpec)) fnExactMoveBitmapCard

/-- THE TIED CARD OF 'laws.FnExactCommonInk'. -/
def fnExactCommonInkCard : Claim7 := { stood := { row := fnExactCommonInkRow, standIns := [], harness := (true, "6af046894deccea98a0c9341f1974e7c1e77fbb7376a0261f15216e78f791b7e"), looks := false }, kinds := [], alts := [], laidByText := true, laidKinds := [.data, .pinned], laidTests := true, laidLooks := .later }
def FnExactCommonInkCardSaid : Prop := Claim7.holds Tryd.pinned (.plain (OpenSpec.ofChange fnExactCommonInkSpec)) fnExactCommonInkCard

/-- THE TIED CARD OF 'laws.FnExactCompareProof'. -/
def fnExactCompareProofCard : Claim7 := { stood := { row := fnExactCompareProofRow, standIns := [], harness := (true, "6af046894deccea98a0c9341f1974e7c1e77fbb7376a0261f15216e78f791b7e"), looks := false }, kinds := [], alts := [], laidByText := true, laidKinds := [.data, .pinned], laidTests := true, laidLooks := .later }
def FnExactCompareProofCardSaid : Prop := Claim7.holds Tryd.pinned (.plain (OpenSpec.ofChange fnExactCompareProofSpec)) fnExactCompareProofCard

/-- THE SECOND FORM's CARD OF 'laws.FnExactMoveBitmap'. -/
def fnExactMoveBitmapUptoCard : Claim7 := { stood := { row := fnExactMoveBitmapUptoRow, standIns := [], harness := (true, "6af046894deccea98a0c9341f1974e7c1e77fbb7376a0261f15216e78f791b7e"), looks := false }, kinds := [], alts := [], laidByText := true, laidKinds := [.data, .pinned], laidTests := true, laidLooks := .later }
def FnExactMoveBitmapUptoCardSaid : Prop := Claim7.holds Tryd.pinned (.plain (OpenSpec.upto fnExactMoveBitmapSpec)) fnExactMoveBitmapUptoCard

/-- THE SECOND FORM's CARD OF 'laws.FnExactCommonInk'. -/
def fnExactCommonInkUptoCard : Claim7 := { stood := { row := fnExactCommonInkUptoRow, standIns := [], harness := (true, "6af046894deccea98a0c9341f1974e7c1e77fbb7376a0261f15216e78f791b7e"), looks := false }, kinds := [], alts := [], laidByText := true, laidKinds := [.data, .pinned], laidTests := true, laidLooks := .later }
def FnExactCommonInkUptoCardSaid : Prop := Claim7.holds Tryd.pinned (.plain (OpenSpec.upto fnExactCommonInkSpec)) fnExactCommonInkUptoCard

/-- THE SECOND FORM's CARD OF 'laws.FnExactCompareProof'. -/
def fnExactCompareProofUptoCard : Claim7 := { stood := { row := fnExactCompareProofUptoRow, standIns := [], harness := (true, "6af046894deccea98a0c9341f1974e7c1e77fbb7376a0261f15216e78f791b7e"), looks := false }, kinds := [], alts := [], laidByText := true, laidKinds := [.data, .pinned], laidTests := true, laidLooks := .later }
def FnExactCompareProofUptoCardSaid : Prop := Claim7.holds Tryd.pinned (.plain (OpenSpec.upto fnExactCompareProofSpec)) fnExactCompareProofUptoCard
end Rows
end Go.Proofs.YtimbcdpnmabgfaaDoor
