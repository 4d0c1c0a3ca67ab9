/- The law FnExactBenchWords answers true: the program's BenchWords and the reference's give the same words, in memory of their own. Conditions: none. -/
import Derived.Test.YtfpgkeaphioikaaPFnExactBenchWordsx1
namespace Go.Proofs.Ytfpgkeaphioikaa.Pure
open Go.RowKit Go.Proofs.Ytfpgkeaphioikaa.PFnExactBenchWords Go.Proofs.YtfpgkeaphioikaaW.PrintWords Go.Proofs.YtfpgkeaphioikaaW.PrintLast

/-- YOURS: ∃ k, laws_FnExactBenchWords.f k  = some true
What it reaches (each with k first where it has rounds; `.mono`: more rounds tell the same; `.l0`, ..: its loops, with `.mono_l`): spec_l35Words.f, spec_BenchWords.f, impl_BenchWords.f, laws_eqStringS.f, laws_markText.f, laws_markStringS.f, laws_heldStringS.f, laws_FnExactBenchWords.f -/
theorem FnExactBenchWords : laws_FnExactBenchWords.Pure := by
  exact ⟨20, by decide +kernel⟩

end Go.Proofs.Ytfpgkeaphioikaa.Pure
