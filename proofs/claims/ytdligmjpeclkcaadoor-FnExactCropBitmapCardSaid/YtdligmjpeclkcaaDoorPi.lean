/- Bitmaps in the laws: marks. Conditions: none. -/
import Derived.Test.YtdligmjpeclkcaaDoorPh
import Derived.Test.YtdligmjpeclkcaaDoorPg
namespace Go.V
open Go Go.RowKit

theorem ev_lmarkBitmap (a : SBitmap) (hl : a.Rows.length ≤ 1048576) (k : Int) (h0 : 0 ≤ k) (hk : k ≤ 549755813888) : Evt fun n => lmarkBitmap n a k = some (k + a.Rows.length, ⟨a.Left, a.Bottom, a.Width, marks k a.Rows.length⟩) :=
  (ev_lmarkStringS a.Rows k hl h0 hk).mono fun n h => by simp only [lmarkBitmap, h, Option.bind_some]
theorem ev_lheldBitmap (a : SBitmap) (c : Nat) (k : Int) (hl : c ≤ 1048576) (h0 : 0 ≤ k) (hk : k ≤ 549755813888) (hr : a.Rows = marks k c) : Evt fun n => lheldBitmap n a k = some (k + c) :=
  (ev_lheldStringS c k hl h0 hk).mono fun n h => by
    have : ¬ k + (c : Int) < 0 := by omega
    simp only [lheldBitmap, hr, h, Option.bind_some, this, decide_false, Bool.false_eq_true, if_false]
end Go.V
