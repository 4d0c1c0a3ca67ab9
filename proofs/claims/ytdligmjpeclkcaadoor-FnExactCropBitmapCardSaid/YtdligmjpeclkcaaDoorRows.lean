/-
  NARROWER THAN 'FOR EVERY INPUT', by the rows' own cells (each row's printed sentence says how): FnExactCropBitmap: laid · FnExactOverBitmap: laid · FnFeatures: laid.
  DERIVED. THE GIVEN ROWS OF THIS SEAT. 3 by the template 'for every input the law returns true; each argument reads behind the call as it read before'; 0 by the template 'total and deterministic' (their statements: YtdligmjpeclkcaaDoorTotals.lean).
  GIVEN WITH THE SEED: the statements are not yours to turn. If you find one false, say at which input.
  Laid BY PROGRAM, IN A SANDBOX (cutbox-rows.mjs): the forced cells as the released guide's own fill.sh prints them over the translation 041e447a5ceb9136… (all of the seat's roots in one cut). By AI agents, Wed Nov 11 2026. No macro, syntax, notation, axiom, sorry.
-/
import Derived.Test.YtdligmjpeclkcaaDoorChecked
import GoSem.PinnedTables
import GoSem.Claim
import GoSem.ClaimJoined
import GoSem.ClaimMapViews
import Derived.JoinedTies
import Derived.KernelRfl
namespace Go.Proofs.YtdligmjpeclkcaaDoor
/- THE CELL 'sum', in the pinned program and in every row, IS THE sha256 OF THE DUMP (.gsa) THAT YtdligmjpeclkcaaDoorProg.lean LOADS. Nothing in Lean hashes anything: it is a label: what it is worth is what the hold of that sum in a sandbox is worth. -/
noncomputable def Tryd.pinned : Pinned := { name := "ytdligmjpeclkcaadoor", sum := "041e447a5ceb9136d75fdbf6716c5f646e8d223e6b59895e4917346673b2770e", checked := Tryd.checked }
namespace Rows
def none {H : Type} : Left H := { results := [], args := [] }

/- WHAT THE LISTED PACKAGE-LEVEL VARIABLES READ AS WHEN THE CALL BEGINS. Each datum BY PROGRAM (the guide's laid-datum.mjs) off the statement by which the dump's own 'gosem.cut.vars' lays the variable. In a bare row this is a premise. The card (YtdligmjpeclkcaaDoorCards.lean) ties it to the program's text. -/
def laid_unicode_utf8_acceptRanges {H : Type} : DataW H := .agg [.agg [.lit (.int .u8 128), .lit (.int .u8 191)], .agg [.lit (.int .u8 160), .lit (.int .u8 191)], .agg [.lit (.int .u8 128), .lit (.int .u8 159)], .agg [.lit (.int .u8 144), .lit (.int .u8 191)], .agg [.lit (.int .u8 128), .lit (.int .u8 143)], .agg [.lit (.int .u8 0), .lit (.int .u8 0)], .agg [.lit (.int .u8 0), .lit (.int .u8 0)], .agg [.lit (.int .u8 0), .lit (.int .u8 0)], .agg [.lit (.int .u8 0), .lit (.int .u8 0)], .agg [.lit (.int .u8 0), .lit (.int .u8 0)], .agg [.lit (.int .u8 0), .lit (.int .u8 0)], .agg [.lit (.int .u8 0), .lit (.int .u8 0)], .agg [.lit (.int .u8 0), .lit (.int .u8 0)], .agg [.lit (.int .u8 0), .lit (.int .u8 0)], .agg [.lit (.int .u8 0), .lit (.int .u8 0)], .agg [.lit (.int .u8 0), .lit (.int .u8 0)]]
/-- One of Go's own tables, pinned by name: the form's constant. -/
def laid_unicode_utf8_first : DataW Unit := Go.Pinned.utf8First

/-- 'laws.FnExactCropBitmap': WHATEVER THE INPUT: true; the input reads as it did. -/
def fnExactCropBitmapSpec : ChangeSpec := { name := "fnExactCropBitmap", fn := fun _ => fun
  | [d] => { results := [.lit (.bool true)], args := [d] }
  | _ => none }
def fnExactCropBitmapRow : OpenClaim := { program := "ytdligmjpeclkcaadoor", sum := "041e447a5ceb9136d75fdbf6716c5f646e8d223e6b59895e4917346673b2770e", func := "loop.example/g00883/laws.FnExactCropBitmap", spec := "fnExactCropBitmap", inPlace := ["internal/bytealg.IndexByteString", "internal/bytealg.IndexString"], unfollowed := true, recurses := true, named := ["unicode/utf8.first", "unicode/utf8.acceptRanges", "internal/bytealg.MaxLen"], apart := false, laid := [("unicode/utf8.acceptRanges", laid_unicode_utf8_acceptRanges), ("unicode/utf8.first", laid_unicode_utf8_first)] }
def FnExactCropBitmapSaid : Prop := fnExactCropBitmapRow.holds Tryd.pinned (OpenSpec.ofChange fnExactCropBitmapSpec)

/-- ITS FALSE NEIGHBOUR: 'it returns false'. Refute it at one input. -/
def fnExactCropBitmapWrong : ChangeSpec := { name := "fnExactCropBitmap", fn := fun _ => fun
  | [d] => { results := [.lit (.bool false)], args := [d] }
  | _ => none }
def FnExactCropBitmapWrongFalsely : Prop := fnExactCropBitmapRow.holds Tryd.pinned (OpenSpec.ofChange fnExactCropBitmapWrong)

/-- 'laws.FnExactOverBitmap': WHATEVER THE INPUT: true; the input reads as it did. -/
def fnExactOverBitmapSpec : ChangeSpec := { name := "fnExactOverBitmap", fn := fun _ => fun
  | [d1, d2] => { results := [.lit (.bool true)], args := [d1, d2] }
  | _ => none }
def fnExactOverBitmapRow : OpenClaim := { program := "ytdligmjpeclkcaadoor", sum := "041e447a5ceb9136d75fdbf6716c5f646e8d223e6b59895e4917346673b2770e", func := "loop.example/g00883/laws.FnExactOverBitmap", spec := "fnExactOverBitmap", inPlace := ["internal/bytealg.IndexByteString", "internal/bytealg.IndexString"], unfollowed := true, recurses := true, named := ["unicode/utf8.first", "unicode/utf8.acceptRanges", "internal/bytealg.MaxLen"], apart := false, laid := [("unicode/utf8.acceptRanges", laid_unicode_utf8_acceptRanges), ("unicode/utf8.first", laid_unicode_utf8_first)] }
def FnExactOverBitmapSaid : Prop := fnExactOverBitmapRow.holds Tryd.pinned (OpenSpec.ofChange fnExactOverBitmapSpec)

/-- ITS FALSE NEIGHBOUR: 'it returns false'. Refute it at one input. -/
def fnExactOverBitmapWrong : ChangeSpec := { name := "fnExactOverBitmap", fn := fun _ => fun
  | [d1, d2] => { results := [.lit (.bool false)], args := [d1, d2] }
  | _ => none }
def FnExactOverBitmapWrongFalsely : Prop := fnExactOverBitmapRow.holds Tryd.pinned (OpenSpec.ofChange fnExactOverBitmapWrong)

/-- 'laws.FnFeatures': WHATEVER THE INPUT: true; the input reads as it did. -/
def fnFeaturesSpec : ChangeSpec := { name := "fnFeatures", fn := fun _ => fun
  | [d] => { results := [.lit (.bool true)], args := [d] }
  | _ => none }
def fnFeaturesRow : OpenClaim := { program := "ytdligmjpeclkcaadoor", sum := "041e447a5ceb9136d75fdbf6716c5f646e8d223e6b59895e4917346673b2770e", func := "loop.example/g00883/laws.FnFeatures", spec := "fnFeatures", inPlace := ["internal/abi.NoEscape", "internal/bytealg.MakeNoZero", "internal/bytealg.CountString", "internal/bytealg.IndexByteString", "internal/bytealg.IndexString"], unfollowed := true, recurses := true, named := ["unicode/utf8.first", "unicode/utf8.acceptRanges", "internal/bytealg.MaxLen"], apart := false, laid := [("unicode/utf8.acceptRanges", laid_unicode_utf8_acceptRanges), ("unicode/utf8.first", laid_unicode_utf8_first)] }
def FnFeaturesSaid : Prop := fnFeaturesRow.holds Tryd.pinned (OpenSpec.ofChange fnFeaturesSpec)

/-- ITS FALSE NEIGHBOUR: 'it returns false'. Refute it at one input. -/
def fnFeaturesWrong : ChangeSpec := { name := "fnFeatures", fn := fun _ => fun
  | [d] => { results := [.lit (.bool false)], args := [d] }
  | _ => none }
def FnFeaturesWrongFalsely : Prop := fnFeaturesRow.holds Tryd.pinned (OpenSpec.ofChange fnFeaturesWrong)

/- THE SECOND FORM. 'bulk': how many values and letters a reading holds, each counted each time it is reached (what is shared counts as often as it is met; a slice's spare places count too). A statement '..UptoSaid' is the law's where the arguments, and the package variables that the reading takes, are together of bulk at most 1048576: NARROWER than '..Said'. Prove '..Said' where nothing that the law and all that it calls make is longer than what came in: it says more and counts as full. Else prove '..UptoSaid'. A law counts once. -/
mutual
def uptoBulk {H : Type} : DataW H → Nat
  | .lit (.string bytes) => bytes.length + 1
  | .lit _ => 1
  | .nil => 1
  | .ptr d => uptoBulk d + 1
  | .slice elems spare => uptoBulkAll elems + uptoBulkAll spare + 1
  | .agg parts => uptoBulkAll parts + 1
  | .iface _ d => uptoBulk d + 1
  | .map entries => uptoBulkEntries entries + 1
  | .held _ => 1
def uptoBulkAll {H : Type} : List (DataW H) → Nat
  | [] => 0
  | d :: r => uptoBulk d + uptoBulkAll r
def uptoBulkEntries {H : Type} : List (Lit × DataW H) → Nat
  | [] => 0
  | x :: r => uptoBulkEntry x + uptoBulkEntries r
def uptoBulkEntry {H : Type} : Lit × DataW H → Nat
  | (.string bytes, d) => bytes.length + uptoBulk d + 1
  | (_, d) => uptoBulk d + 1
 end
def uptoSmall : (H : Type) → List (DataW H) → Bool := fun _ ds => decide (uptoBulkAll ds ≤ 1048576)
def OpenSpec.upto (s : _root_.Go.ChangeSpec) : _root_.Go.OpenSpec := { _root_.Go.OpenSpec.ofChange s with cond := some uptoSmall }

/-- 'laws.FnExactCropBitmap', WHERE WHAT IT READS IS OF BULK AT MOST 1048576: true; the input reads as it did. -/
def fnExactCropBitmapUptoRow : OpenClaim := { program := "ytdligmjpeclkcaadoor", sum := "041e447a5ceb9136d75fdbf6716c5f646e8d223e6b59895e4917346673b2770e", func := "loop.example/g00883/laws.FnExactCropBitmap", spec := "fnExactCropBitmap", inPlace := ["internal/bytealg.IndexByteString", "internal/bytealg.IndexString"], unfollowed := true, recurses := true, named := ["unicode/utf8.first", "unicode/utf8.acceptRanges", "internal/bytealg.MaxLen"], apart := false, laid := [("unicode/utf8.acceptRanges", laid_unicode_utf8_acceptRanges), ("unicode/utf8.first", laid_unicode_utf8_first)], narrowed := true }
def FnExactCropBitmapUptoSaid : Prop := fnExactCropBitmapUptoRow.holds Tryd.pinned (OpenSpec.upto fnExactCropBitmapSpec)

/-- 'laws.FnExactOverBitmap', WHERE WHAT IT READS IS OF BULK AT MOST 1048576: true; the input reads as it did. -/
def fnExactOverBitmapUptoRow : OpenClaim := { program := "ytdligmjpeclkcaadoor", sum := "041e447a5ceb9136d75fdbf6716c5f646e8d223e6b59895e4917346673b2770e", func := "loop.example/g00883/laws.FnExactOverBitmap", spec := "fnExactOverBitmap", inPlace := ["internal/bytealg.IndexByteString", "internal/bytealg.IndexString"], unfollowed := true, recurses := true, named := ["unicode/utf8.first", "unicode/utf8.acceptRanges", "internal/bytealg.MaxLen"], apart := false, laid := [("unicode/utf8.acceptRanges", laid_unicode_utf8_acceptRanges), ("unicode/utf8.first", laid_unicode_utf8_first)], narrowed := true }
def FnExactOverBitmapUptoSaid : Prop := fnExactOverBitmapUptoRow.holds Tryd.pinned (OpenSpec.upto fnExactOverBitmapSpec)

/-- 'laws.FnFeatures', WHERE WHAT IT READS IS OF BULK AT MOST 1048576: true; the input reads as it did. -/
def fnFeaturesUptoRow : OpenClaim := { program := "ytdligmjpeclkcaadoor", sum := "041e447a5ceb9136d75fdbf6716c5f646e8d223e6b59895e4917346673b2770e", func := "loop.example/g00883/laws.FnFeatures", spec := "fnFeatures", inPlace := ["internal/abi.NoEscape", "internal/bytealg.MakeNoZero", "internal/bytealg.CountString", "internal/bytealg.IndexByteString", "internal/bytealg.IndexString"], unfollowed := true, recurses := true, named := ["unicode/utf8.first", "unicode/utf8.acceptRanges", "internal/bytealg.MaxLen"], apart := false, laid := [("unicode/utf8.acceptRanges", laid_unicode_utf8_acceptRanges), ("unicode/utf8.first", laid_unicode_utf8_first)], narrowed := true }
def FnFeaturesUptoSaid : Prop := fnFeaturesUptoRow.holds Tryd.pinned (OpenSpec.upto fnFeaturesSpec)

end Rows
end Go.Proofs.YtdligmjpeclkcaaDoor
