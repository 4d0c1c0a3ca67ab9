/- CompareProof: the law's function answers true, whatever the two bitmaps. Conditions: none. -/
import Derived.Test.YtimbcdpnmabgfaaDoorPf
import Derived.Test.YtimbcdpnmabgfaaDoorPg
namespace Go.V
open Go Go.RowKit

/-- Rows with an end of line behind each. -/
def catN (rows : List ByteArray) (acc : ByteArray) : ByteArray := rows.foldl (fun s x => s ++ (x ++ ByteArray.mk #[10])) acc
theorem nl_size : (ByteArray.mk #[10]).size = 1 := rfl
section
variable {rows : List ByteArray} (hr : ∀ s ∈ rows, s.size ≤ 4194304) (hl : rows.length ≤ 4194304)
include hr hl
theorem ev_sCompareProof_L0 : ∀ (k i : Nat) (acc : ByteArray), i + k = rows.length → acc.size ≤ i * 4194305 → Evt fun n => sCompareProof_L0 n rows acc i = some (.go (catN (rows.drop i) acc))
  | 0, i, acc, hk, hs => Evt.succ <| Evt.of fun n => by
    have h2 : ¬ (i : Int) < rows.length := by omega
    simp only [sCompareProof_L0, h2, decide_false, Bool.false_eq_true, if_false, List.drop_of_length_le (show rows.length ≤ i by omega), catN, List.foldl_nil]
  | k + 1, i, acc, hk, hs => by
    have hi : i < rows.length := by omega
    have h2 : (i : Int) < rows.length := by omega
    have h3 := hr _ (List.getElem_mem hi)
    have e3 : w64 ((i : Int) + 1) = ((i + 1 : Nat) : Int) := by rw [w64_id] <;> omega
    have z1 : (rows[i] ++ ByteArray.mk #[10]).size = rows[i].size + 1 := by rw [ByteArray.size_append, nl_size]
    have z2 : (acc ++ (rows[i] ++ ByteArray.mk #[10])).size = acc.size + (rows[i].size + 1) := by rw [ByteArray.size_append, z1]
    refine Evt.succ ((ev_sCompareProof_L0 k (i + 1) (acc ++ (rows[i] ++ ByteArray.mk #[10])) (by omega) (by rw [z2]; omega)).mono fun n hn => ?_)
    have c1 : rows[i].size + (ByteArray.mk #[10]).size ≤ 9223372036854775807 := by rw [nl_size]; omega
    have c2 : acc.size + (rows[i] ++ ByteArray.mk #[10]).size ≤ 9223372036854775807 := by rw [z1]; omega
    rw [List.drop_eq_getElem_cons hi]
    simp only [sCompareProof_L0, h2, decide_true, if_true, getI_nat hi, Option.bind_some, if_pos c1, if_pos c2, e3, hn, catN, List.foldl_cons]
theorem ev_iCompareProof_L0 : ∀ (k i : Nat) (acc : ByteArray), i + k = rows.length → acc.size ≤ i * 4194305 → Evt fun n => iCompareProof_L0 n rows acc rows.length i = some (.go (catN (rows.drop i) acc))
  | 0, i, acc, hk, hs => Evt.succ <| Evt.of fun n => by
    have h2 : ¬ (i : Int) < rows.length := by omega
    simp only [iCompareProof_L0, h2, decide_false, Bool.false_eq_true, if_false, List.drop_of_length_le (show rows.length ≤ i by omega), catN, List.foldl_nil]
  | k + 1, i, acc, hk, hs => by
    have hi : i < rows.length := by omega
    have h2 : (i : Int) < rows.length := by omega
    have h3 := hr _ (List.getElem_mem hi)
    have e3 : w64 ((i : Int) + 1) = ((i + 1 : Nat) : Int) := by rw [w64_id] <;> omega
    have z1 : (rows[i] ++ ByteArray.mk #[10]).size = rows[i].size + 1 := by rw [ByteArray.size_append, nl_size]
    have z2 : (acc ++ (rows[i] ++ ByteArray.mk #[10])).size = acc.size + (rows[i].size + 1) := by rw [ByteArray.size_append, z1]
    refine Evt.succ ((ev_iCompareProof_L0 k (i + 1) (acc ++ (rows[i] ++ ByteArray.mk #[10])) (by omega) (by rw [z2]; omega)).mono fun n hn => ?_)
    have c1 : rows[i].size + (ByteArray.mk #[10]).size ≤ 9223372036854775807 := by rw [nl_size]; omega
    have c2 : acc.size + (rows[i] ++ ByteArray.mk #[10]).size ≤ 140737488355328 := by rw [z1]; omega
    rw [List.drop_eq_getElem_cons hi]
    simp only [iCompareProof_L0, h2, decide_true, if_true, getI_nat hi, Option.bind_some, if_pos c1, strings_Builder_WriteString, if_pos c2, e3, hn, catN, List.foldl_cons]
end

def cpS : ByteArray := ByteArray.mk #[46, 45, 43, 35]
/-- What both answer. -/
def cpOut (a b : SBitmap) : ByteArray × Int :=
  if (bmB a && bmB b) = true then (if (frB a b).width > 128 ∨ (frB a b).height > 128 then (ByteArray.mk #[], 5) else (catN (rowsD (sgn cpS a b) (frB a b).left (frB a b).bottom (frB a b).width.toNat (frB a b).height.toNat) (ByteArray.mk #[]), 0)) else (ByteArray.mk #[], 1)

theorem ev_sCompareProof {a b : SBitmap} (ha : okBitmap a) (hb : okBitmap b) : Evt fun n => sCompareProof n a b = some (cpOut a b) := by
  unfold cpOut
  cases h1 : bmB a && bmB b with
  | false =>
    refine (sl34Two_ok ha hb).mono fun n h => ?_
    rw [h1] at h
    simp only [sCompareProof, h, Option.bind_some, Bool.false_eq_true, if_false]
    rfl
  | true =>
    have h1' := h1
    rw [Bool.and_eq_true] at h1
    have ma := bm_of h1.1
    have mb := bm_of h1.2
    have fo := frB_ok ma mb
    have hf := sl34Frame_eq ma mb
    have two := sl34Two_ok ha hb
    rw [h1'] at two
    by_cases hw : (frB a b).width > 128
    · refine two.mono fun n h => ?_
      simp only [sCompareProof, h, Option.bind_some, hf, hw, decide_true, if_true, true_or]
      rfl
    · by_cases hh : (frB a b).height > 128
      · refine two.mono fun n h => ?_
        simp only [sCompareProof, h, Option.bind_some, hf, hw, hh, decide_true, decide_false, Bool.false_eq_true, if_false, if_true, or_true]
        rfl
      · have i1 := ev_sl34Signs ma mb (f := frB a b) (s := cpS) ⟨by have := fo.l; omega, by have := fo.l; omega⟩ ⟨by have := fo.b; omega, by have := fo.b; omega⟩ fo.w fo.h rfl
        have i2 := ev_sCompareProof_L0 (rows := rowsD (sgn cpS a b) (frB a b).left (frB a b).bottom (frB a b).width.toNat (frB a b).height.toNat) (fun s hs => by rw [rowsD_size hs]; omega) (by rw [rowsD_length]; omega) (frB a b).height.toNat 0 (ByteArray.mk #[]) (by rw [rowsD_length]; omega) (Nat.zero_le _)
        simp only [Int.natCast_zero, List.drop_zero] at i2
        refine (two.and (i1.and i2)).mono fun n ⟨h, h2, h3⟩ => ?_
        have h2' : sl34Signs n a b (frB a b) (ByteArray.mk #[46, 45, 43, 35]) = _ := h2
        simp only [sCompareProof, h, Option.bind_some, hf, hw, hh, decide_false, Bool.false_eq_true, if_false, h2', h3, or_self]
        rfl

theorem frI_wh (a b : SBitmap) (ha : Bm a) : (frI a b).width = (frB a b).width ∧ (frI a b).height = (frB a b).height ∧ ((frB a b).height ≠ 0 → (frI a b).left = (frB a b).left ∧ (frI a b).bottom = (frB a b).bottom) ∧ ((frI a b).left = 0 ∨ (frI a b).left = (frB a b).left) ∧ ((frI a b).bottom = 0 ∨ (frI a b).bottom = (frB a b).bottom) := by
  unfold frI
  by_cases h : a.Rows.length = 0 ∧ b.Rows.length = 0
  · have hz := ha.z.2 h.1
    have hB : frB a b = ⟨a.Left, a.Bottom, a.Width, a.Rows.length⟩ := by unfold frB; rw [if_pos h.2]
    rw [if_pos h, hB]
    refine ⟨hz.symm, by simp only [h.1]; rfl, fun hh => ?_, .inl rfl, .inl rfl⟩
    simp only [h.1] at hh
    exact absurd rfl hh
  · rw [if_neg h]
    exact ⟨rfl, rfl, fun _ => ⟨rfl, rfl⟩, .inr rfl, .inr rfl⟩
theorem pix_cp {a b : SBitmap} (ha : Bm a) (hb : Bm b) : Pix a b (sgn cpS a b) := fun n x y hx hy => by
  have p1 := ipixelAt_eq ha n x y hx hy
  have p2 := ipixelAt_eq hb n x y hx hy
  simp only [iCompareProof_1, p1, p2, Option.bind_some, sgn]
  cases atB a x y <;> cases atB b x y <;> rfl

theorem ev_iCompareProof {a b : SBitmap} (ha : okBitmap a) (hb : okBitmap b) : Evt fun n => iCompareProof n a b = some (cpOut a b) := by
  unfold cpOut
  cases h1 : bmB a with
  | false =>
    refine (ev_iValidBitmap a ha).mono fun n h => ?_
    rw [h1] at h
    simp only [iCompareProof, h, Option.bind_some, Bool.not_false, if_true, Bool.false_and, Bool.false_eq_true, if_false]
  | true =>
    cases h2 : bmB b with
    | false =>
      refine ((ev_iValidBitmap a ha).and (ev_iValidBitmap b hb)).mono fun n ⟨h3, h4⟩ => ?_
      rw [h1] at h3; rw [h2] at h4
      simp only [iCompareProof, h3, h4, Option.bind_some, Bool.not_true, Bool.not_false, if_true, Bool.false_eq_true, if_false, Bool.and_false]
    | true =>
      have ma := bm_of h1
      have mb := bm_of h2
      have fo := frB_ok ma mb
      obtain ⟨w1, w2, w3, w4, w5⟩ := frI_wh a b ma
      have hv := (ev_iValidBitmap a ha).and (ev_iValidBitmap b hb)
      rw [h1, h2] at hv
      have hf := iframeOf_eq ma mb
      by_cases hw : (frB a b).width > 128
      · refine hv.mono fun n ⟨h3, h4⟩ => ?_
        simp only [iCompareProof, h3, h4, Option.bind_some, Bool.not_true, Bool.false_eq_true, if_false, hf, ifullFrame, w1, hw, decide_true, if_true, Bool.and_self, true_or]
      · by_cases hh : (frB a b).height > 128
        · refine hv.mono fun n ⟨h3, h4⟩ => ?_
          simp only [iCompareProof, h3, h4, Option.bind_some, Bool.not_true, Bool.false_eq_true, if_false, hf, ifullFrame, w1, w2, hw, hh, decide_true, decide_false, if_true, Bool.and_self, or_true]
        · have fl := fo.l
          have fb := fo.b
          have i1 := ev_drawFrame_CompareProof (f := frI a b) (pix_cp ma mb) (by omega) (by omega) (by rw [w1]; exact fo.w) (by rw [w2]; exact fo.h)
          have er : rowsD (sgn cpS a b) (frI a b).left (frI a b).bottom (frI a b).width.toNat (frI a b).height.toNat = rowsD (sgn cpS a b) (frB a b).left (frB a b).bottom (frB a b).width.toNat (frB a b).height.toNat := by
            rw [w1, w2]
            by_cases h0 : (frB a b).height = 0
            · rw [h0]; rfl
            · rw [(w3 h0).1, (w3 h0).2]
          rw [er] at i1
          have i2 := ev_iCompareProof_L0 (rows := rowsD (sgn cpS a b) (frB a b).left (frB a b).bottom (frB a b).width.toNat (frB a b).height.toNat) (fun s hs => by rw [rowsD_size hs]; omega) (by rw [rowsD_length]; omega) (frB a b).height.toNat 0 (ByteArray.mk #[]) (by rw [rowsD_length]; omega) (Nat.zero_le _)
          simp only [Int.natCast_zero, List.drop_zero] at i2
          refine (hv.and (i1.and i2)).mono fun n ⟨⟨h3, h4⟩, h5, h6⟩ => ?_
          have h6' : iCompareProof_L0 n (rowsD (sgn cpS a b) (frB a b).left (frB a b).bottom (frB a b).width.toNat (frB a b).height.toNat) ByteArray.empty ((rowsD (sgn cpS a b) (frB a b).left (frB a b).bottom (frB a b).width.toNat (frB a b).height.toNat).length : Int) 0 = _ := h6
          simp only [iCompareProof, h3, h4, h5, h6', Option.bind_some, Bool.not_true, Bool.false_eq_true, if_false, if_true, hf, ifullFrame, w1, w2, hw, hh, decide_false, Bool.and_self, or_self, strings_Builder_String]

theorem lFnExactCompareProof_true (a b : SBitmap) (ha : okBitmap a) (hb : okBitmap b) : ∃ n, lFnExactCompareProof n a b = some true := by
  refine Evt.ex ?_
  by_cases hsa : (a.Rows.length + szS a.Rows : Int) ≤ 1048576
  · have h1 := ev_lszBitmap a 1048576 ha (by omega) (by omega)
    rw [if_pos hsa] at h1
    have h2 := ev_lszBitmap b (1048576 - (a.Rows.length + szS a.Rows)) hb (by omega) (by omega)
    have d1 : ¬ (1048576 - (a.Rows.length + szS a.Rows : Int)) < 0 := by omega
    by_cases hsb : (b.Rows.length + szS b.Rows : Int) ≤ 1048576 - (a.Rows.length + szS a.Rows)
    · rw [if_pos hsb] at h2
      have d2 : ¬ (1048576 - (a.Rows.length + szS a.Rows : Int) - (b.Rows.length + szS b.Rows)) < 0 := by omega
      refine (h1.and (h2.and ((ev_ltoBitmap a (by omega)).and ((ev_ltoBitmap b (by omega)).and ((ev_sCompareProof ha hb).and ((ev_iCompareProof ha hb).and ((ev_leqBitmap_self a (by omega)).and (ev_leqBitmap_self b (by omega))))))))).mono fun n ⟨e1, e2, e3, e4, e5, e6, e7, e8⟩ => ?_
      simp only [lFnExactCompareProof, e1, e2, e3, e4, e5, e6, e7, e8, Option.bind_some, d1, d2, decide_false, Bool.false_eq_true, if_false, bne_self_eq_false, sEq_iff, decide_true, Bool.not_true]
    · rw [if_neg hsb] at h2
      refine (h1.and h2).mono fun n ⟨e1, e2⟩ => ?_
      simp only [lFnExactCompareProof, e1, e2, Option.bind_some, d1, decide_false, Bool.false_eq_true, if_false]
      rfl
  · have h1 := ev_lszBitmap a 1048576 ha (by omega) (by omega)
    rw [if_neg hsa] at h1
    refine h1.mono fun n e1 => ?_
    simp only [lFnExactCompareProof, e1, Option.bind_some]
    rfl
end Go.V
