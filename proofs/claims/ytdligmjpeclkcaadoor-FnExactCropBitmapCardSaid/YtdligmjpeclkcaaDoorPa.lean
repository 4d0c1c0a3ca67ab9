/- The bounds within which the arguments of a law lie. Conditions: none. -/
import Derived.Test.YtdligmjpeclkcaaDoorVh
import Derived.Test.YtdligmjpeclkcaaDoorGb
namespace Go.V
open Go
def okBitmap (x : SBitmap) : Prop := (okI .i64) x.Left ∧ ((okI .i64) x.Bottom ∧ ((okI .i64) x.Width ∧ ((okL okS) x.Rows ∧ (True))))
end Go.V
