/-
  No cell of these rows narrows 'for every input' (looked for: loops, veiled, ifaces, maps, wideKeys, modest, calm, conditions, laid).
  DERIVED. THE GIVEN ROWS OF THIS SEAT. 3 by the template 'for every input the law returns true; each argument reads behind the call as it read before'; 0 by the template 'total and deterministic' (their statements: YtfpgkeaphioikaaTotals.lean).
  GIVEN WITH THE SEED: the statements are not yours to turn. If you find one false, say at which input.
  Laid BY PROGRAM, IN A SANDBOX (cutbox-rows.mjs): the forced cells as the released guide's own fill.sh prints them over the translation d4cac5fd7d620f7a… (all of the seat's roots in one cut). By AI agents, Wed Nov 11 2026. No macro, syntax, notation, axiom, sorry.
-/
import Derived.Test.YtfpgkeaphioikaaChecked
import GoSem.Claim
import GoSem.ClaimJoined
import GoSem.ClaimMapViews
import Derived.JoinedTies
import Derived.KernelRfl
namespace Go.Proofs.Ytfpgkeaphioikaa
/- THE CELL 'sum', in the pinned program and in every row, IS THE sha256 OF THE DUMP (.gsa) THAT YtfpgkeaphioikaaProg.lean LOADS. Nothing in Lean hashes anything: it is a label: what it is worth is what the hold of that sum in a sandbox is worth. -/
noncomputable def Try.pinned : Pinned := { name := "ytfpgkeaphioikaa", sum := "d4cac5fd7d620f7a5629db29eb907e20f4578bb5b425f881ecf68f1f8481845b", checked := Try.checked }
namespace Rows
def none {H : Type} : Left H := { results := [], args := [] }

/-- 'laws.FnExactBenchWords': WHATEVER THE INPUT: true; the input reads as it did. -/
def fnExactBenchWordsSpec : ChangeSpec := { name := "fnExactBenchWords", fn := fun _ => fun
  | [] => { results := [.lit (.bool true)], args := [] }
  | _ => none }
def fnExactBenchWordsRow : OpenClaim := { program := "ytfpgkeaphioikaa", sum := "d4cac5fd7d620f7a5629db29eb907e20f4578bb5b425f881ecf68f1f8481845b", func := "loop.example/g00883/laws.FnExactBenchWords", spec := "fnExactBenchWords", apart := false }
def FnExactBenchWordsSaid : Prop := fnExactBenchWordsRow.holds Try.pinned (OpenSpec.ofChange fnExactBenchWordsSpec)

/-- ITS FALSE NEIGHBOUR: 'it returns false'. Refute it at one input. -/
def fnExactBenchWordsWrong : ChangeSpec := { name := "fnExactBenchWords", fn := fun _ => fun
  | [] => { results := [.lit (.bool false)], args := [] }
  | _ => none }
def FnExactBenchWordsWrongFalsely : Prop := fnExactBenchWordsRow.holds Try.pinned (OpenSpec.ofChange fnExactBenchWordsWrong)

/-- 'laws.FnTraced': WHATEVER THE INPUT: true; the input reads as it did. -/
def fnTracedSpec : ChangeSpec := { name := "fnTraced", fn := fun _ => fun
  | [d1, d2] => { results := [.lit (.bool true)], args := [d1, d2] }
  | _ => none }
def fnTracedRow : OpenClaim := { program := "ytfpgkeaphioikaa", sum := "d4cac5fd7d620f7a5629db29eb907e20f4578bb5b425f881ecf68f1f8481845b", func := "loop.example/g00883/laws.FnTraced", spec := "fnTraced", unfollowed := true, recurses := true, apart := false }
def FnTracedSaid : Prop := fnTracedRow.holds Try.pinned (OpenSpec.ofChange fnTracedSpec)

/-- ITS FALSE NEIGHBOUR: 'it returns false'. Refute it at one input. -/
def fnTracedWrong : ChangeSpec := { name := "fnTraced", fn := fun _ => fun
  | [d1, d2] => { results := [.lit (.bool false)], args := [d1, d2] }
  | _ => none }
def FnTracedWrongFalsely : Prop := fnTracedRow.holds Try.pinned (OpenSpec.ofChange fnTracedWrong)

/-- 'laws.FnExactDecodeOutline': WHATEVER THE INPUT: true; the input reads as it did. -/
def fnExactDecodeOutlineSpec : ChangeSpec := { name := "fnExactDecodeOutline", fn := fun _ => fun
  | [d] => { results := [.lit (.bool true)], args := [d] }
  | _ => none }
def fnExactDecodeOutlineRow : OpenClaim := { program := "ytfpgkeaphioikaa", sum := "d4cac5fd7d620f7a5629db29eb907e20f4578bb5b425f881ecf68f1f8481845b", func := "loop.example/g00883/laws.FnExactDecodeOutline", spec := "fnExactDecodeOutline", inPlace := ["internal/abi.NoEscape"], unfollowed := true, recurses := true, apart := false }
def FnExactDecodeOutlineSaid : Prop := fnExactDecodeOutlineRow.holds Try.pinned (OpenSpec.ofChange fnExactDecodeOutlineSpec)

/-- ITS FALSE NEIGHBOUR: 'it returns false'. Refute it at one input. -/
def fnExactDecodeOutlineWrong : ChangeSpec := { name := "fnExactDecodeOutline", fn := fun _ => fun
  | [d] => { results := [.lit (.bool false)], args := [d] }
  | _ => none }
def FnExactDecodeOutlineWrongFalsely : Prop := fnExactDecodeOutlineRow.holds Try.pinned (OpenSpec.ofChange fnExactDecodeOutlineWrong)

/- THE SECOND FORM. 'bulk': how many values and letters a reading holds, each counted each time it is reached (what is shared counts as often as it is met; a slice's spare places count too). A statement '..UptoSaid' is the law's where the arguments, and the package variables that the reading takes, are together of bulk at most 1048576: NARROWER than '..Said'. Prove '..Said' where nothing that the law and all that it calls make is longer than what came in: it says more and counts as full. Else prove '..UptoSaid'. A law counts once. -/
mutual
def uptoBulk {H : Type} : DataW H → Nat
  | .lit (.string bytes) => bytes.length + 1
  | .lit _ => 1
  | .nil => 1
  | .ptr d => uptoBulk d + 1
  | .slice elems spare => uptoBulkAll elems + uptoBulkAll spare + 1
  | .agg parts => uptoBulkAll parts + 1
  | .iface _ d => uptoBulk d + 1
  | .map entries => uptoBulkEntries entries + 1
  | .held _ => 1
def uptoBulkAll {H : Type} : List (DataW H) → Nat
  | [] => 0
  | d :: r => uptoBulk d + uptoBulkAll r
def uptoBulkEntries {H : Type} : List (Lit × DataW H) → Nat
  | [] => 0
  | x :: r => uptoBulkEntry x + uptoBulkEntries r
def uptoBulkEntry {H : Type} : Lit × DataW H → Nat
  | (.string bytes, d) => bytes.length + uptoBulk d + 1
  | (_, d) => uptoBulk d + 1
 end
def uptoSmall : (H : Type) → List (DataW H) → Bool := fun _ ds => decide (uptoBulkAll ds ≤ 1048576)
def OpenSpec.upto (s : _root_.Go.ChangeSpec) : _root_.Go.OpenSpec := { _root_.Go.OpenSpec.ofChange s with cond := some uptoSmall }

/-- 'laws.FnExactBenchWords', WHERE WHAT IT READS IS OF BULK AT MOST 1048576: true; the input reads as it did. -/
def fnExactBenchWordsUptoRow : OpenClaim := { program := "ytfpgkeaphioikaa", sum := "d4cac5fd7d620f7a5629db29eb907e20f4578bb5b425f881ecf68f1f8481845b", func := "loop.example/g00883/laws.FnExactBenchWords", spec := "fnExactBenchWords", apart := false, narrowed := true }
def FnExactBenchWordsUptoSaid : Prop := fnExactBenchWordsUptoRow.holds Try.pinned (OpenSpec.upto fnExactBenchWordsSpec)

/-- 'laws.FnTraced', WHERE WHAT IT READS IS OF BULK AT MOST 1048576: true; the input reads as it did. -/
def fnTracedUptoRow : OpenClaim := { program := "ytfpgkeaphioikaa", sum := "d4cac5fd7d620f7a5629db29eb907e20f4578bb5b425f881ecf68f1f8481845b", func := "loop.example/g00883/laws.FnTraced", spec := "fnTraced", unfollowed := true, recurses := true, apart := false, narrowed := true }
def FnTracedUptoSaid : Prop := fnTracedUptoRow.holds Try.pinned (OpenSpec.upto fnTracedSpec)

/-- 'laws.FnExactDecodeOutline', WHERE WHAT IT READS IS OF BULK AT MOST 1048576: true; the input reads as it did. -/
def fnExactDecodeOutlineUptoRow : OpenClaim := { program := "ytfpgkeaphioikaa", sum := "d4cac5fd7d620f7a5629db29eb907e20f4578bb5b425f881ecf68f1f8481845b", func := "loop.example/g00883/laws.FnExactDecodeOutline", spec := "fnExactDecodeOutline", inPlace := ["internal/abi.NoEscape"], unfollowed := true, recurses := true, apart := false, narrowed := true }
def FnExactDecodeOutlineUptoSaid : Prop := fnExactDecodeOutlineUptoRow.holds Try.pinned (OpenSpec.upto fnExactDecodeOutlineSpec)

end Rows
end Go.Proofs.Ytfpgkeaphioikaa
