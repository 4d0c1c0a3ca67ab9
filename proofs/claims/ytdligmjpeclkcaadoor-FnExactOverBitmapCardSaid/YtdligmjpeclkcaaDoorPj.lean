/- OverBitmap: the law's function answers true, whatever the two bitmaps. Conditions: none. -/
import Derived.Test.YtdligmjpeclkcaaDoorPf
import Derived.Test.YtdligmjpeclkcaaDoorPi
namespace Go.V
open Go Go.RowKit

def ovS : ByteArray := ByteArray.mk #[46, 35, 35, 35]
/-- What both answer. -/
def ovOut (a b : SBitmap) : SBitmap × Int :=
  if (bmB a && bmB b) = true then (if (frB a b).width > 128 ∨ (frB a b).height > 128 then (⟨0, 0, 0, []⟩, 5) else (if (frB a b).height = 0 then (⟨0, 0, 0, []⟩, 0) else
    (⟨(frB a b).left, (frB a b).bottom, (frB a b).width, rowsD (sgn ovS a b) (frB a b).left (frB a b).bottom (frB a b).width.toNat (frB a b).height.toNat⟩, 0))) else (⟨0, 0, 0, []⟩, 1)
theorem ovOut_rows (a b : SBitmap) : (ovOut a b).1.Rows.length ≤ 128 := by
  unfold ovOut
  split
  · split
    · simp
    · split
      · simp
      · simp only [rowsD_length]; omega
  · simp

theorem ev_sOverBitmap {a b : SBitmap} (ha : okBitmap a) (hb : okBitmap b) : Evt fun n => sOverBitmap n a b = some (ovOut a b) := by
  unfold ovOut
  cases h1 : bmB a && bmB b with
  | false =>
    refine (sl34Two_ok ha hb).mono fun n h => ?_
    rw [h1] at h
    simp only [sOverBitmap, h, Option.bind_some, Bool.false_eq_true, if_false]
    rfl
  | true =>
    have h1' := h1
    rw [Bool.and_eq_true] at h1
    have ma := bm_of h1.1
    have mb := bm_of h1.2
    have fo := frB_ok ma mb
    have hf := sl34Frame_eq ma mb
    have two := sl34Two_ok ha hb
    rw [h1'] at two
    have e0 : ((0 : Int) != 0) = false := rfl
    by_cases hw : (frB a b).width > 128
    · refine two.mono fun n h => ?_
      simp only [sOverBitmap, sl34Over, h, Option.bind_some, hf, hw, decide_true, if_true, true_or, e0, Bool.false_eq_true, if_false]
    · by_cases hh : (frB a b).height > 128
      · refine two.mono fun n h => ?_
        simp only [sOverBitmap, sl34Over, h, Option.bind_some, hf, hw, hh, decide_true, decide_false, Bool.false_eq_true, if_false, if_true, or_true, e0]
      · by_cases hz : (frB a b).height = 0
        · rw [if_pos rfl, if_neg (not_or.2 ⟨hw, hh⟩), if_pos hz]
          refine two.mono fun n h => ?_
          have hz2 : ((frB a b).height == 0) = true := by rw [hz]; rfl
          simp only [sOverBitmap, sl34Over, h, Option.bind_some, hf, hw, hh, hz2, decide_false, Bool.false_eq_true, if_false, if_true, e0]
        · have i1 := ev_sl34Signs ma mb (f := frB a b) (s := ovS) ⟨by have := fo.l; omega, by have := fo.l; omega⟩ ⟨by have := fo.b; omega, by have := fo.b; omega⟩ fo.w fo.h rfl
          refine (two.and i1).mono fun n ⟨h, h2⟩ => ?_
          have h2' : sl34Signs n a b (frB a b) (ByteArray.mk #[46, 35, 35, 35]) = _ := h2
          have hz2 : ((frB a b).height == 0) = false := by simpa using hz
          simp only [sOverBitmap, sl34Over, h, Option.bind_some, hf, hw, hh, hz2, decide_false, Bool.false_eq_true, if_false, if_true, or_self, e0, hz, h2']

theorem pix_ov {a b : SBitmap} (ha : Bm a) (hb : Bm b) : PixO a b (sgn ovS a b) := fun n x y hx hy => by
  have p1 := ipixelAt_eq ha n x y hx hy
  have p2 := ipixelAt_eq hb n x y hx hy
  simp only [iOverBitmap_1, p1, p2, Option.bind_some, sgn, iinkByte]
  cases atB a x y <;> cases atB b x y <;> rfl

theorem ev_iOverBitmap {a b : SBitmap} (ha : okBitmap a) (hb : okBitmap b) : Evt fun n => iOverBitmap n a b = some (ovOut a b) := by
  unfold ovOut
  cases h1 : bmB a with
  | false =>
    refine (ev_iValidBitmap a ha).mono fun n h => ?_
    rw [h1] at h
    simp only [iOverBitmap, h, Option.bind_some, Bool.not_false, if_true, Bool.false_and, Bool.false_eq_true, if_false]
  | true =>
    cases h2 : bmB b with
    | false =>
      refine ((ev_iValidBitmap a ha).and (ev_iValidBitmap b hb)).mono fun n ⟨h3, h4⟩ => ?_
      rw [h1] at h3; rw [h2] at h4
      simp only [iOverBitmap, h3, h4, Option.bind_some, Bool.not_true, Bool.not_false, if_true, Bool.false_eq_true, if_false, Bool.and_false]
    | true =>
      have ma := bm_of h1
      have mb := bm_of h2
      have fo := frB_ok ma mb
      have fz := frB_zero ma mb
      obtain ⟨w1, w2, w3, w4, w5⟩ := frI_wh a b ma
      have hv := (ev_iValidBitmap a ha).and (ev_iValidBitmap b hb)
      rw [h1, h2] at hv
      have hf := iframeOf_eq ma mb
      by_cases hz : (frB a b).height = 0
      · have hz1 : (frB a b).width = 0 := fz.2 hz
        have n1 : ¬ (frB a b).width > 128 := by omega
        have n2 : ¬ (frB a b).height > 128 := by omega
        rw [if_pos (show (true && true) = true from rfl), if_neg (not_or.2 ⟨n1, n2⟩), if_pos hz]
        refine hv.mono fun n ⟨h3, h4⟩ => ?_
        have hz2 : ((frI a b).width == 0) = true := by rw [w1, hz1]; rfl
        simp only [iOverBitmap, h3, h4, Option.bind_some, Bool.not_true, Bool.false_eq_true, if_false, hf, hz2, if_true]
      · have hz1 : ¬ (frB a b).width = 0 := fun e => hz (fz.1 e)
        have hz2 : ((frB a b).width == 0) = false := by simpa using hz1
        by_cases hw : (frB a b).width > 128
        · refine hv.mono fun n ⟨h3, h4⟩ => ?_
          simp only [iOverBitmap, h3, h4, Option.bind_some, Bool.not_true, Bool.false_eq_true, if_false, hf, hz2, ifullFrame, w1, hw, decide_true, if_true, Bool.and_self, true_or]
        · by_cases hh : (frB a b).height > 128
          · refine hv.mono fun n ⟨h3, h4⟩ => ?_
            simp only [iOverBitmap, h3, h4, Option.bind_some, Bool.not_true, Bool.false_eq_true, if_false, hf, hz2, ifullFrame, w1, w2, hw, hh, decide_true, decide_false, if_true, Bool.and_self, or_true]
          · have fl := fo.l
            have fb := fo.b
            have i1 := ev_drawFrame_OverBitmap (f := frI a b) (pix_ov ma mb) (by omega) (by omega) (by rw [w1]; exact fo.w) (by rw [w2]; exact fo.h)
            refine (hv.and i1).mono fun n ⟨⟨h3, h4⟩, h5⟩ => ?_
            rw [(w3 hz).1, (w3 hz).2, w1, w2] at h5
            simp only [iOverBitmap, h3, h4, h5, Option.bind_some, Bool.not_true, Bool.false_eq_true, if_false, if_true, hf, hz2, ifullFrame, w1, w2, hw, hh, decide_false, Bool.and_self, or_self, hz, (w3 hz).1, (w3 hz).2]

theorem lFnExactOverBitmap_true (a b : SBitmap) (ha : okBitmap a) (hb : okBitmap b) : ∃ n, lFnExactOverBitmap n a b = some true := by
  refine Evt.ex ?_
  by_cases hsa : (a.Rows.length + szS a.Rows : Int) ≤ 1048576
  · have h1 := ev_lszBitmap a 1048576 ha (by omega) (by omega)
    rw [if_pos hsa] at h1
    have h2 := ev_lszBitmap b (1048576 - (a.Rows.length + szS a.Rows)) hb (by omega) (by omega)
    have d1 : ¬ (1048576 - (a.Rows.length + szS a.Rows : Int)) < 0 := by omega
    by_cases hsb : (b.Rows.length + szS b.Rows : Int) ≤ 1048576 - (a.Rows.length + szS a.Rows)
    · rw [if_pos hsb] at h2
      have d2 : ¬ (1048576 - (a.Rows.length + szS a.Rows : Int) - (b.Rows.length + szS b.Rows)) < 0 := by omega
      have hr := ovOut_rows a b
      have d3 : ¬ ((1 : Int) + a.Rows.length + (b.Rows.length : Int) < 0) := by omega
      have d4 : ¬ ((1 : Int) + ((ovOut a b).1.Rows.length : Int) < 0) := by omega
      refine (h1.and (h2.and ((ev_ltoBitmap a (by omega)).and ((ev_ltoBitmap b (by omega)).and ((ev_sOverBitmap ha hb).and ((ev_iOverBitmap ha hb).and ((ev_leqBitmap_self a (by omega)).and ((ev_leqBitmap_self b (by omega)).and ((ev_leqBitmap_self (ovOut a b).1 (by omega)).and
        ((ev_lmarkBitmap a (by omega) 1 (by omega) (by omega)).and ((ev_lmarkBitmap b (by omega) (1 + a.Rows.length) (by omega) (by omega)).and ((ev_lmarkBitmap (ovOut a b).1 (by omega) 1 (by omega) (by omega)).and
        (ev_lheldBitmap ⟨(ovOut a b).1.Left, (ovOut a b).1.Bottom, (ovOut a b).1.Width, marks 1 (ovOut a b).1.Rows.length⟩ (ovOut a b).1.Rows.length 1 (by omega) (by omega) (by omega) rfl))))))))))))).mono fun n ⟨e1, e2, e3, e4, e5, e6, e7, e8, e9, e10, e11, e12, e13⟩ => ?_
      simp only [lFnExactOverBitmap, e1, e2, e3, e4, e5, e6, e7, e8, e9, e10, e11, e12, e13, Option.bind_some, d1, d2, d3, d4, decide_false, Bool.false_eq_true, if_false, bne_self_eq_false, Bool.not_true]
    · rw [if_neg hsb] at h2
      refine (h1.and h2).mono fun n ⟨e1, e2⟩ => ?_
      simp only [lFnExactOverBitmap, e1, e2, Option.bind_some, d1, decide_false, Bool.false_eq_true, if_false]
      rfl
  · have h1 := ev_lszBitmap a 1048576 ha (by omega) (by omega)
    rw [if_neg hsa] at h1
    refine h1.mono fun n e1 => ?_
    simp only [lFnExactOverBitmap, e1, Option.bind_some]
    rfl
end Go.V
