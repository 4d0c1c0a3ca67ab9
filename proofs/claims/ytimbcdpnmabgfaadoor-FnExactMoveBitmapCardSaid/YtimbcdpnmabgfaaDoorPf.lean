/- MoveBitmap: the law's function answers true, whatever the bitmap and the distances. Conditions: none. -/
import Derived.Test.YtimbcdpnmabgfaaDoorPe
namespace Go.V
open Go Go.RowKit

/-- The bitmap moved. -/
def mvTo (a : SBitmap) (x y : Int) : SBitmap := ⟨w64 (a.Left + x), w64 (a.Bottom + y), a.Width, a.Rows⟩
def mvOut (a : SBitmap) (x y : Int) : SBitmap × Int :=
  if bmB a = true then (if -2097152 ≤ x ∧ x ≤ 2097152 ∧ -2097152 ≤ y ∧ y ≤ 2097152 then (if bmB (mvTo a x y) = true then (mvTo a x y, 0) else (⟨0, 0, 0, []⟩, 2)) else (⟨0, 0, 0, []⟩, 2)) else (⟨0, 0, 0, []⟩, 1)
theorem ok_mvTo {a : SBitmap} (x y : Int) (ha : okBitmap a) : okBitmap (mvTo a x y) := by
  refine ⟨?_, ?_, ha.2.2.1, ha.2.2.2.1, trivial⟩ <;> exact okI_w64 _
theorem bm_rows {a : SBitmap} (h : bmB a = true) : a.Rows.length ≤ 128 := by
  simp only [bmB, Bool.and_eq_true, decide_eq_true_eq] at h
  exact h.2.2.2.2.2.2.1
theorem ev_sMoveBitmap (a : SBitmap) (x y : Int) (ha : okBitmap a) : Evt fun n => sMoveBitmap n a x y = some (mvOut a x y) := by
  refine ((ev_sl22Ok a ha).and (ev_sl22Ok (mvTo a x y) (ok_mvTo x y ha))).mono fun n ⟨h1, h2⟩ => ?_
  unfold sMoveBitmap mvOut
  cases hb : bmB a with
  | false => simp [h1, hb]
  | true =>
    have hr := bm_rows hb
    have h3 : (([] : List ByteArray).length + a.Rows.length) * 16 ≤ 140737488355328 := by simp; omega
    have h4 : sl22Ok n (SBitmap.mk (w64 (a.Left + x)) (w64 (a.Bottom + y)) a.Width (([] : List ByteArray) ++ a.Rows)) = some (bmB (mvTo a x y)) := h2
    simp only [h1, hb, Option.bind_some, Bool.not_true, Bool.false_eq_true, if_false, sl34Move, sl00In_eq, h3, if_true, h4]
    by_cases c1 : -2097152 ≤ x <;> by_cases c2 : x ≤ 2097152 <;> by_cases c3 : -2097152 ≤ y <;> by_cases c4 : y ≤ 2097152 <;> simp [c1, c2, c3, c4, mvTo]
    by_cases hh : bmB ⟨w64 (a.Left + x), w64 (a.Bottom + y), a.Width, a.Rows⟩ = true <;> simp [hh]
theorem ev_iMoveBitmap (a : SBitmap) (x y : Int) (ha : okBitmap a) : Evt fun n => iMoveBitmap n a x y = some (mvOut a x y) := by
  refine ((ev_iValidBitmap a ha).and (ev_iValidBitmap (mvTo a x y) (ok_mvTo x y ha))).mono fun n ⟨h1, h2⟩ => ?_
  unfold iMoveBitmap mvOut
  cases hb : bmB a with
  | false => simp [h1, hb]
  | true =>
    have hr := bm_rows hb
    have h3 : a.Rows.length * 16 ≤ 140737488355328 := by omega
    have h4 : iValidBitmap n (SBitmap.mk (w64 (a.Left + x)) (w64 (a.Bottom + y)) a.Width a.Rows) = some (bmB (mvTo a x y)) := h2
    have m1 : decide ((if y < x then y else x) < (-2097152)) = !(decide (-2097152 ≤ x) && decide (-2097152 ≤ y)) := by
      rw [Bool.eq_iff_iff]; simp; split <;> omega
    have m2 : decide ((if y > x then y else x) > 2097152) = !(decide (x ≤ 2097152) && decide (y ≤ 2097152)) := by
      rw [Bool.eq_iff_iff]; simp; split <;> omega
    simp only [h1, hb, Option.bind_some, Bool.not_true, Bool.false_eq_true, if_false, m1, m2, h3, if_true, h4]
    by_cases c1 : -2097152 ≤ x <;> by_cases c2 : x ≤ 2097152 <;> by_cases c3 : -2097152 ≤ y <;> by_cases c4 : y ≤ 2097152 <;> simp [c1, c2, c3, c4, mvTo]
    by_cases hh : bmB ⟨w64 (a.Left + x), w64 (a.Bottom + y), a.Width, a.Rows⟩ = true <;> simp [hh]
theorem mvOut_rows (a : SBitmap) (x y : Int) : (mvOut a x y).1.Rows.length ≤ 128 := by
  unfold mvOut
  split
  · rename_i h
    have := bm_rows h
    split
    · split
      · exact this
      · simp
    · simp
  · simp

theorem lFnExactMoveBitmap_true (a : SBitmap) (x y : Int) (ha : okBitmap a) (_ : okI .i64 x) (_ : okI .i64 y) : ∃ n, lFnExactMoveBitmap n a x y = some true := by
  refine Evt.ex ?_
  by_cases hsa : (a.Rows.length + szS a.Rows : Int) ≤ 1048576
  · have h1 := ev_lszBitmap a 1048576 ha (by omega) (by omega)
    rw [if_pos hsa] at h1
    have d1 : ¬ (1048576 - (a.Rows.length + szS a.Rows : Int)) < 0 := by omega
    have hr := mvOut_rows a x y
    have d2 : ¬ ((1 : Int) + (a.Rows.length : Int) < 0) := by omega
    have d3 : ¬ ((1 : Int) + ((mvOut a x y).1.Rows.length : Int) < 0) := by omega
    refine (h1.and ((ev_ltoBitmap a (by omega)).and ((ev_sMoveBitmap a x y ha).and ((ev_iMoveBitmap a x y ha).and ((ev_leqBitmap_self (mvOut a x y).1 (by omega)).and ((ev_leqBitmap_self a (by omega)).and ((ev_lmarkBitmap a (by omega) 1 (by omega) (by omega)).and ((ev_lmarkBitmap (mvOut a x y).1 (by omega) 1 (by omega) (by omega)).and
      (ev_lheldBitmap ⟨(mvOut a x y).1.Left, (mvOut a x y).1.Bottom, (mvOut a x y).1.Width, marks 1 (mvOut a x y).1.Rows.length⟩ (mvOut a x y).1.Rows.length 1 (by omega) (by omega) (by omega) rfl))))))))).mono fun n ⟨e1, e2, e3, e4, e5, e6, e7, e8, e9⟩ => ?_
    simp only [lFnExactMoveBitmap, e1, e2, e3, e4, e5, e6, e7, e8, e9, Option.bind_some, d1, d2, d3, decide_false, Bool.false_eq_true, if_false, bne_self_eq_false, Bool.not_true]
  · have h1 := ev_lszBitmap a 1048576 ha (by omega) (by omega)
    rw [if_neg hsa] at h1
    refine h1.mono fun n e1 => ?_
    simp only [lFnExactMoveBitmap, e1, Option.bind_some]
    rfl
end Go.V
