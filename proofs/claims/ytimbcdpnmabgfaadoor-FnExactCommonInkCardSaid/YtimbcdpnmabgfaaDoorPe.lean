/- CommonInk: the law's function answers true, whatever the two bitmaps. Conditions: none. -/
import Derived.Test.YtimbcdpnmabgfaaDoorPd
namespace Go.V
open Go Go.RowKit

theorem ev_lszBitmap (a : SBitmap) (v : Int) (ha : okBitmap a) (h0 : 0 ≤ v) (h1 : v ≤ 1048576) : Evt fun n => lszBitmap n a v = some (if (a.Rows.length + szS a.Rows : Int) ≤ v then v - (a.Rows.length + szS a.Rows) else -1) := by
  refine (ev_lszStringS a.Rows v ha.2.2.2.1 h0 h1).mono fun n h => ?_
  simp only [lszBitmap, h, Option.bind_some]
  by_cases hc : (a.Rows.length + szS a.Rows : Int) ≤ v
  · rw [if_pos hc]
    have : ¬ v - (a.Rows.length + szS a.Rows : Int) < 0 := by omega
    simp only [this, decide_false, Bool.false_eq_true, if_false]
  · rw [if_neg hc]; rfl
theorem ev_ltoBitmap (a : SBitmap) (hl : a.Rows.length ≤ 1048576) : Evt fun n => ltoBitmap n a = some a :=
  (ev_ltoStringS a.Rows hl).mono fun n h => by simp only [ltoBitmap, h, Option.bind_some]
theorem ev_leqBitmap (a b : SBitmap) (hl : a.Rows.length ≤ 1048576) : Evt fun n => leqBitmap n a b = some (decide (a.Left = b.Left ∧ a.Bottom = b.Bottom ∧ a.Width = b.Width ∧ a.Rows = b.Rows)) := by
  refine (ev_leqStringS a.Rows b.Rows hl).mono fun n h => ?_
  unfold leqBitmap
  by_cases h1 : a.Left = b.Left
  · by_cases h2 : a.Bottom = b.Bottom
    · by_cases h3 : a.Width = b.Width
      · by_cases h4 : a.Rows = b.Rows
        · rw [h4] at h; simp [h1, h2, h3, h, h4]
        · simp [h1, h2, h3, h, h4]
      · simp [h1, h2, h3]
    · simp [h1, h2]
  · simp [h1]

theorem lFnExactCommonInk_true (a b : SBitmap) (ha : okBitmap a) (hb : okBitmap b) : ∃ n, lFnExactCommonInk n a b = some true := by
  refine Evt.ex ?_
  by_cases hsa : (a.Rows.length + szS a.Rows : Int) ≤ 1048576
  · have h1 := ev_lszBitmap a 1048576 ha (by omega) (by omega)
    rw [if_pos hsa] at h1
    have h2 := ev_lszBitmap b (1048576 - (a.Rows.length + szS a.Rows)) hb (by omega) (by omega)
    have d1 : ¬ (1048576 - (a.Rows.length + szS a.Rows : Int)) < 0 := by omega
    by_cases hsb : (b.Rows.length + szS b.Rows : Int) ≤ 1048576 - (a.Rows.length + szS a.Rows)
    · rw [if_pos hsb] at h2
      have d2 : ¬ (1048576 - (a.Rows.length + szS a.Rows : Int) - (b.Rows.length + szS b.Rows)) < 0 := by omega
      refine (h1.and (h2.and ((ev_ltoBitmap a (by omega)).and ((ev_ltoBitmap b (by omega)).and ((ev_sCommonInk ha hb).and ((ev_iCommonInk ha hb).and ((ev_leqBitmap a a (by omega)).and (ev_leqBitmap b b (by omega))))))))).mono fun n ⟨e1, e2, e3, e4, e5, e6, e7, e8⟩ => ?_
      simp only [lFnExactCommonInk, e1, e2, e3, e4, e5, e6, e7, e8, Option.bind_some, d1, d2, decide_false, Bool.false_eq_true, if_false, bne_self_eq_false, and_self, decide_true, Bool.not_true]
    · rw [if_neg hsb] at h2
      refine (h1.and h2).mono fun n ⟨e1, e2⟩ => ?_
      simp only [lFnExactCommonInk, e1, e2, Option.bind_some, d1, decide_false, Bool.false_eq_true, if_false]
      rfl
  · have h1 := ev_lszBitmap a 1048576 ha (by omega) (by omega)
    rw [if_neg hsa] at h1
    refine h1.mono fun n e1 => ?_
    simp only [lFnExactCommonInk, e1, Option.bind_some]
    rfl
end Go.V
