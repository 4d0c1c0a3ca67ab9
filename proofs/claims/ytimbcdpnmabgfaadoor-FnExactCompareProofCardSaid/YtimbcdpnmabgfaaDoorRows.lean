/-
  NARROWER THAN 'FOR EVERY INPUT', by the rows' own cells (each row's printed sentence says how): FnExactMoveBitmap: laid · FnExactCommonInk: laid · FnExactCompareProof: laid.
  DERIVED. THE GIVEN ROWS OF THIS SEAT. 3 by the template 'for every input the law returns true; each argument reads behind the call as it read before'; 0 by the template 'total and deterministic' (their statements: YtimbcdpnmabgfaaDoorTotals.lean).
  GIVEN WITH THE SEED: the statements are not yours to turn. If you find one false, say at which input.
  Laid BY PROGRAM, IN A SANDBOX (cutbox-rows.mjs): the forced cells as the released guide's own fill.sh prints them over the translation 7f0f60ed808f1c1a… (all of the seat's roots in one cut). By AI agents, Wed Nov 11 2026. No macro, syntax, notation, axiom, sorry.
-/
import Derived.Test.YtimbcdpnmabgfaaDoorChecked
import GoSem.PinnedTables
import GoSem.Claim
import GoSem.ClaimJoined
import GoSem.ClaimMapViews
import Derived.JoinedTies
import Derived.KernelRfl
namespace Go.Proofs.YtimbcdpnmabgfaaDoor
/- THE CELL 'sum', in the pinned program and in every row, IS THE sha256 OF THE DUMP (.gsa) THAT YtimbcdpnmabgfaaDoorProg.lean LOADS. Nothing in Lean hashes anything: it is a label: what it is worth is what the hold of that sum in a sandbox is worth. -/
noncomputable def Tryd.pinned : Pinned := { name := "ytimbcdpnmabgfaadoor", sum := "7f0f60ed808f1c1aac984399721676726dd758afb904841ef95a0c29fc6615bc", checked := Tryd.checked }
namespace Rows
def none {H : Type} : Left H := { results := [], args := [] }

/- WHAT THE LISTED PACKAGE-LEVEL VARIABLES READ AS WHEN THE CALL BEGINS. Each datum BY PROGRAM (the guide's laid-datum.mjs) off the statement by which the dump's own 'gosem.cut.vars' lays the variable. In a bare row this is a premise. The card (YtimbcdpnmabgfaaDoorCards.lean) ties it to the program's text. -/
def laid_unicode_utf8_acceptRanges {H : Type} : DataW H := .agg [.agg [.lit (.int .u8 128), .lit (.int .u8 191)], .agg [.lit (.int .u8 160), .lit (.int .u8 191)], .agg [.lit (.int .u8 128), .lit (.int .u8 159)], .agg [.lit (.int .u8 144), .lit (.int .u8 191)], .agg [.lit (.int .u8 128), .lit (.int .u8 143)], .agg [.lit (.int .u8 0), .lit (.int .u8 0)], .agg [.lit (.int .u8 0), .lit (.int .u8 0)], .agg [.lit (.int .u8 0), .lit (.int .u8 0)], .agg [.lit (.int .u8 0), .lit (.int .u8 0)], .agg [.lit (.int .u8 0), .lit (.int .u8 0)], .agg [.lit (.int .u8 0), .lit (.int .u8 0)], .agg [.lit (.int .u8 0), .lit (.int .u8 0)], .agg [.lit (.int .u8 0), .lit (.int .u8 0)], .agg [.lit (.int .u8 0), .lit (.int .u8 0)], .agg [.lit (.int .u8 0), .lit (.int .u8 0)], .agg [.lit (.int .u8 0), .lit (.int .u8 0)]]
/-- One of Go's own tables, pinned by name: the form's constant. -/
def laid_unicode_utf8_first : DataW Unit := Go.Pinned.utf8First

/-- 'laws.FnExactMoveBitmap': WHATEVER THE INPUT: true; the input reads as it did. -/
def fnExactMoveBitmapSpec : ChangeSpec := { name := "fnExactMoveBitmap", fn := fun _ => fun
  | [d1, d2, d3] => { results := [.lit (.bool true)], args := [d1, d2, d3] }
  | _ => none }
def fnExactMoveBitmapRow : OpenClaim := { program := "ytimbcdpnmabgfaadoor", sum := "7f0f60ed808f1c1aac984399721676726dd758afb904841ef95a0c29fc6615bc", func := "loop.example/g00883/laws.FnExactMoveBitmap", spec := "fnExactMoveBitmap", inPlace := ["internal/bytealg.IndexByteString", "internal/bytealg.IndexString"], unfollowed := true, recurses := true, named := ["unicode/utf8.first", "unicode/utf8.acceptRanges", "internal/bytealg.MaxLen"], apart := false, laid := [("unicode/utf8.acceptRanges", laid_unicode_utf8_acceptRanges), ("unicode/utf8.first", laid_unicode_utf8_first)] }
def FnExactMoveBitmapSaid : Prop := fnExactMoveBitmapRow.holds Tryd.pinned (OpenSpec.ofChange fnExactMoveBitmapSpec)

/-- ITS FALSE NEIGHBOUR: 'it returns false'. Refute it at one input. -/
def fnExactMoveBitmapWrong : ChangeSpec := { name := "fnExactMoveBitmap", fn := fun _ => fun
  | [d1, d2, d3] => { results := [.lit (.bool false)], args := [d1, d2, d3] }
  | _ => none }
def FnExactMoveBitmapWrongFalsely : Prop := fnExactMoveBitmapRow.holds Tryd.pinned (OpenSpec.ofChange fnExactMoveBitmapWrong)

/-- 'laws.FnExactCommonInk': WHATEVER THE INPUT: true; the input reads as it did. -/
def fnExactCommonInkSpec : ChangeSpec := { name := "fnExactCommonInk", fn := fun _ => fun
  | [d1, d2] => { results := [.lit (.bool true)], args := [d1, d2] }
  | _ => none }
def fnExactCommonInkRow : OpenClaim := { program := "ytimbcdpnmabgfaadoor", sum := "7f0f60ed808f1c1aac984399721676726dd758afb904841ef95a0c29fc6615bc", func := "loop.example/g00883/laws.FnExactCommonInk", spec := "fnExactCommonInk", inPlace := ["internal/bytealg.IndexByteString", "internal/bytealg.IndexString"], unfollowed := true, recurses := true, named := ["unicode/utf8.first", "unicode/utf8.acceptRanges", "internal/bytealg.MaxLen"], apart := false, laid := [("unicode/utf8.acceptRanges", laid_unicode_utf8_acceptRanges), ("unicode/utf8.first", laid_unicode_utf8_first)] }
def FnExactCommonInkSaid : Prop := fnExactCommonInkRow.holds Tryd.pinned (OpenSpec.ofChange fnExactCommonInkSpec)

/-- ITS FALSE NEIGHBOUR: 'it returns false'. Refute it at one input. -/
def fnExactCommonInkWrong : ChangeSpec := { name := "fnExactCommonInk", fn := fun _ => fun
  | [d1, d2] => { results := [.lit (.bool false)], args := [d1, d2] }
  | _ => none }
def FnExactCommonInkWrongFalsely : Prop := fnExactCommonInkRow.holds Tryd.pinned (OpenSpec.ofChange fnExactCommonInkWrong)

/-- 'laws.FnExactCompareProof': WHATEVER THE INPUT: true; the input reads as it did. -/
def fnExactCompareProofSpec : ChangeSpec := { name := "fnExactCompareProof", fn := fun _ => fun
  | [d1, d2] => { results := [.lit (.bool true)], args := [d1, d2] }
  | _ => none }
def fnExactCompareProofRow : OpenClaim := { program := "ytimbcdpnmabgfaadoor", sum := "7f0f60ed808f1c1aac984399721676726dd758afb904841ef95a0c29fc6615bc", func := "loop.example/g00883/laws.FnExactCompareProof", spec := "fnExactCompareProof", inPlace := ["internal/bytealg.IndexByteString", "internal/bytealg.IndexString", "internal/abi.NoEscape"], unfollowed := true, recurses := true, named := ["unicode/utf8.first", "unicode/utf8.acceptRanges", "internal/bytealg.MaxLen"], apart := false, laid := [("unicode/utf8.acceptRanges", laid_unicode_utf8_acceptRanges), ("unicode/utf8.first", laid_unicode_utf8_first)] }
def FnExactCompareProofSaid : Prop := fnExactCompareProofRow.holds Tryd.pinned (OpenSpec.ofChange fnExactCompareProofSpec)

/-- ITS FALSE NEIGHBOUR: 'it returns false'. Refute it at one input. -/
def fnExactCompareProofWrong : ChangeSpec := { name := "fnExactCompareProof", fn := fun _ => fun
  | [d1, d2] => { results := [.lit (.bool false)], args := [d1, d2] }
  | _ => none }
def FnExactCompareProofWrongFalsely : Prop := fnExactCompareProofRow.holds Tryd.pinned (OpenSpec.ofChange fnExactCompareProofWrong)

/- THE SECOND FORM. 'bulk': how many values and letters a reading holds, each counted each time it is reached (what is shared counts as often as it is met; a slice's spare places count too). A statement '..UptoSaid' is the law's where the arguments, and the package variables that the reading takes, are together of bulk at most 1048576: NARROWER than '..Said'. Prove '..Said' where nothing that the law and all that it calls make is longer than what came in: it says more and counts as full. Else prove '..UptoSaid'. A law counts once. -/
mutual
def uptoBulk {H : Type} : DataW H → Nat
  | .lit (.string bytes) => bytes.length + 1
  | .lit _ => 1
  | .nil => 1
  | .ptr d => uptoBulk d + 1
  | .slice elems spare => uptoBulkAll elems + uptoBulkAll spare + 1
  | .agg parts => uptoBulkAll parts + 1
  | .iface _ d => uptoBulk d + 1
  | .map entries => uptoBulkEntries entries + 1
  | .held _ => 1
def uptoBulkAll {H : Type} : List (DataW H) → Nat
  | [] => 0
  | d :: r => uptoBulk d + uptoBulkAll r
def uptoBulkEntries {H : Type} : List (Lit × DataW H) → Nat
  | [] => 0
  | x :: r => uptoBulkEntry x + uptoBulkEntries r
def uptoBulkEntry {H : Type} : Lit × DataW H → Nat
  | (.string bytes, d) => bytes.length + uptoBulk d + 1
  | (_, d) => uptoBulk d + 1
 end
def uptoSmall : (H : Type) → List (DataW H) → Bool := fun _ ds => decide (uptoBulkAll ds ≤ 1048576)
def OpenSpec.upto (s : _root_.Go.ChangeSpec) : _root_.Go.OpenSpec := { _root_.Go.OpenSpec.ofChange s with cond := some uptoSmall }

/-- 'laws.FnExactMoveBitmap', WHERE WHAT IT READS IS OF BULK AT MOST 1048576: true; the input reads as it did. -/
def fnExactMoveBitmapUptoRow : OpenClaim := { program := "ytimbcdpnmabgfaadoor", sum := "7f0f60ed808f1c1aac984399721676726dd758afb904841ef95a0c29fc6615bc", func := "loop.example/g00883/laws.FnExactMoveBitmap", spec := "fnExactMoveBitmap", inPlace := ["internal/bytealg.IndexByteString", "internal/bytealg.IndexString"], unfollowed := true, recurses := true, named := ["unicode/utf8.first", "unicode/utf8.acceptRanges", "internal/bytealg.MaxLen"], apart := false, laid := [("unicode/utf8.acceptRanges", laid_unicode_utf8_acceptRanges), ("unicode/utf8.first", laid_unicode_utf8_first)], narrowed := true }
def FnExactMoveBitmapUptoSaid : Prop := fnExactMoveBitmapUptoRow.holds Tryd.pinned (OpenSpec.upto fnExactMoveBitmapSpec)

/-- 'laws.FnExactCommonInk', WHERE WHAT IT READS IS OF BULK AT MOST 1048576: true; the input reads as it did. -/
def fnExactCommonInkUptoRow : OpenClaim := { program := "ytimbcdpnmabgfaadoor", sum := "7f0f60ed808f1c1aac984399721676726dd758afb904841ef95a0c29fc6615bc", func := "loop.example/g00883/laws.FnExactCommonInk", spec := "fnExactCommonInk", inPlace := ["internal/bytealg.IndexByteString", "internal/bytealg.IndexString"], unfollowed := true, recurses := true, named := ["unicode/utf8.first", "unicode/utf8.acceptRanges", "internal/bytealg.MaxLen"], apart := false, laid := [("unicode/utf8.acceptRanges", laid_unicode_utf8_acceptRanges), ("unicode/utf8.first", laid_unicode_utf8_first)], narrowed := true }
def FnExactCommonInkUptoSaid : Prop := fnExactCommonInkUptoRow.holds Tryd.pinned (OpenSpec.upto fnExactCommonInkSpec)

/-- 'laws.FnExactCompareProof', WHERE WHAT IT READS IS OF BULK AT MOST 1048576: true; the input reads as it did. -/
def fnExactCompareProofUptoRow : OpenClaim := { program := "ytimbcdpnmabgfaadoor", sum := "7f0f60ed808f1c1aac984399721676726dd758afb904841ef95a0c29fc6615bc", func := "loop.example/g00883/laws.FnExactCompareProof", spec := "fnExactCompareProof", inPlace := ["internal/bytealg.IndexByteString", "internal/bytealg.IndexString", "internal/abi.NoEscape"], unfollowed := true, recurses := true, named := ["unicode/utf8.first", "unicode/utf8.acceptRanges", "internal/bytealg.MaxLen"], apart := false, laid := [("unicode/utf8.acceptRanges", laid_unicode_utf8_acceptRanges), ("unicode/utf8.first", laid_unicode_utf8_first)], narrowed := true }
def FnExactCompareProofUptoSaid : Prop := fnExactCompareProofUptoRow.holds Tryd.pinned (OpenSpec.upto fnExactCompareProofSpec)

end Rows
end Go.Proofs.YtimbcdpnmabgfaaDoor
