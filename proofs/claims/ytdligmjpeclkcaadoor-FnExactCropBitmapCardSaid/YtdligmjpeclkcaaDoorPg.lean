/- Bitmaps in the laws: size, copy, equality. Conditions: none. -/
import Derived.Test.YtdligmjpeclkcaaDoorPc
namespace Go.V
open Go Go.RowKit

theorem ev_lszBitmap (a : SBitmap) (v : Int) (ha : okBitmap a) (h0 : 0 ≤ v) (h1 : v ≤ 1048576) : Evt fun n => lszBitmap n a v = some (if (a.Rows.length + szS a.Rows : Int) ≤ v then v - (a.Rows.length + szS a.Rows) else -1) := by
  refine (ev_lszStringS a.Rows v ha.2.2.2.1 h0 h1).mono fun n h => ?_
  simp only [lszBitmap, h, Option.bind_some]
  by_cases hc : (a.Rows.length + szS a.Rows : Int) ≤ v
  · rw [if_pos hc]
    have : ¬ v - (a.Rows.length + szS a.Rows : Int) < 0 := by omega
    simp only [this, decide_false, Bool.false_eq_true, if_false]
  · rw [if_neg hc]; rfl
theorem ev_ltoBitmap (a : SBitmap) (hl : a.Rows.length ≤ 1048576) : Evt fun n => ltoBitmap n a = some a :=
  (ev_ltoStringS a.Rows hl).mono fun n h => by simp only [ltoBitmap, h, Option.bind_some]
theorem ev_leqBitmap (a b : SBitmap) (hl : a.Rows.length ≤ 1048576) : Evt fun n => leqBitmap n a b = some (decide (a.Left = b.Left ∧ a.Bottom = b.Bottom ∧ a.Width = b.Width ∧ a.Rows = b.Rows)) := by
  refine (ev_leqStringS a.Rows b.Rows hl).mono fun n h => ?_
  unfold leqBitmap
  by_cases h1 : a.Left = b.Left
  · by_cases h2 : a.Bottom = b.Bottom
    · by_cases h3 : a.Width = b.Width
      · by_cases h4 : a.Rows = b.Rows
        · rw [h4] at h; simp [h1, h2, h3, h, h4]
        · simp [h1, h2, h3, h, h4]
      · simp [h1, h2, h3]
    · simp [h1, h2]
  · simp [h1]
theorem ev_leqBitmap_self (a : SBitmap) (hl : a.Rows.length ≤ 1048576) : Evt fun n => leqBitmap n a a = some true :=
  (ev_leqBitmap a a hl).mono fun n h => by rw [h]; simp
end Go.V
