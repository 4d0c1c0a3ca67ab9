/- Drawing by the program: row by row with a function of the pixel's place. Conditions: none. -/
import Derived.Test.YtdligmjpeclkcaaDoorPe
namespace Go.V
open Go Go.RowKit
section
variable {b : SBitmap} {f : SPixelArea} {sg : Int → Int → Int}
/-- What the pixel function answers. -/
def PixR (b : SBitmap) (sg : Int → Int → Int) : Prop := ∀ n x y, -4611686018427387904 ≤ x ∧ x ≤ 4611686018427387904 → -4611686018427387904 ≤ y ∧ y ≤ 4611686018427387904 → iCropBitmap_1 n x y b = some (sg x y)
variable (hp : PixR b sg)
include hp
theorem ev_drawFrame_CropBitmap_L1 (hl : -4194304 ≤ f.left ∧ f.left ≤ 4194304) (w : Nat) (hw : w ≤ 4194304) (y : Int) (hy : -8388608 ≤ y ∧ y ≤ 8388608) (out : List ByteArray) :
    ∀ (k i : Nat) (l m : List Int), i + k = w → m.length = i → l.length = w → l.take i = m → Evt fun n => idrawFrame_iCropBitmap_1_L1 n f y b out l w i = some (.go (m ++ rowI (fun x => sg x y) (f.left + i) k))
  | 0, i, l, m, hk, hm, hlw, ht => Evt.succ <| Evt.of fun n => by
    have h2 : ¬ (i : Int) < w := by omega
    rw [List.take_of_length_le (by omega)] at ht
    subst ht
    simp only [idrawFrame_iCropBitmap_1_L1, h2, decide_false, Bool.false_eq_true, if_false, rowI, List.append_nil]
  | k + 1, i, l, m, hk, hm, hlw, ht => by
    have h2 : (i : Int) < w := by omega
    have e1 : w64 (f.left + i) = f.left + i := w64_id (by omega) (by omega)
    have e3 : w64 ((i : Int) + 1) = ((i + 1 : Nat) : Int) := by rw [w64_id] <;> omega
    have hi : i < l.length := by omega
    refine Evt.succ ((ev_drawFrame_CropBitmap_L1 hl w hw y hy out k (i + 1) (l.set i (sg (f.left + i) y)) (m ++ [sg (f.left + i) y]) (by omega) (by simp [hm]) (by simpa using hlw) ?_).mono fun n hn => ?_)
    · rw [List.take_succ_eq_append_getElem (by simpa using hi), List.take_set_of_le (by omega), ht]
      simp
    · rw [rowI, show f.left + (i : Int) + 1 = f.left + ((i + 1 : Nat) : Int) by omega]
      rw [List.append_assoc, List.singleton_append] at hn
      rw [← hn]
      simp only [idrawFrame_iCropBitmap_1_L1, h2, decide_true, if_true, e1, e3, hp n (f.left + i) y (by omega) (by omega), Option.bind_some, getI_nat hi, Int.toNat_natCast]
theorem ev_drawFrame_CropBitmap_L0 (hl : -4194304 ≤ f.left ∧ f.left ≤ 4194304) (hbt : -4194304 ≤ f.bottom ∧ f.bottom ≤ 4194304) (hw : 0 ≤ f.width ∧ f.width ≤ 4194304) :
    ∀ (k : Nat) (acc : List ByteArray), acc.length + k ≤ 4194304 → Evt fun n => idrawFrame_iCropBitmap_1_L0 n f b acc (f.bottom + k - 1) = some (.go (acc ++ rowsD sg f.left f.bottom f.width.toNat k))
  | 0, acc, h => Evt.succ <| Evt.of fun n => by
    have h2 : ¬ f.bottom + ((0 : Nat) : Int) - 1 ≥ f.bottom := by omega
    simp only [idrawFrame_iCropBitmap_1_L0, h2, decide_false, Bool.false_eq_true, if_false, rowsD, List.append_nil]
  | k + 1, acc, h => by
    have h2 : f.bottom + (k : Int) ≥ f.bottom := by omega
    have e1 : f.bottom + ((k + 1 : Nat) : Int) - 1 = f.bottom + (k : Int) := by omega
    have e2 : w64 (f.bottom + (k : Int) - 1) = f.bottom + (k : Int) - 1 := w64_id (by omega) (by omega)
    have i1 := ev_drawFrame_CropBitmap_L1 hp hl f.width.toNat (by omega) (f.bottom + k) (by omega) acc f.width.toNat 0 (List.replicate f.width.toNat 0) [] (by omega) rfl (by simp) (by simp)
    simp only [List.nil_append, Int.natCast_zero, Int.add_zero] at i1
    refine Evt.succ ((i1.and (ev_drawFrame_CropBitmap_L0 hl hbt hw k (acc ++ [strOf (rowI (fun x => sg x (f.bottom + k)) f.left f.width.toNat)]) (by simp; omega))).mono fun n ⟨h3, h4⟩ => ?_)
    have hc : ∀ z : ByteArray, (acc.length + [z].length) * 16 ≤ 140737488355328 := fun z => by simp only [List.length_cons, List.length_nil]; omega
    have hd : (0 : Int) ≤ f.width ∧ f.width ≤ f.width ∧ (1 : Int) * f.width ≤ 281474976710656 := by omega
    rw [List.append_assoc, List.singleton_append] at h4
    rw [rowsD, ← h4, e1]
    simp only [idrawFrame_iCropBitmap_1_L0, h2, decide_true, if_true, if_pos hd, List.length_replicate, h3, Option.bind_some, if_pos (hc _), e2]
theorem ev_drawFrame_CropBitmap (hl : -4194304 ≤ f.left ∧ f.left ≤ 4194304) (hbt : -4194304 ≤ f.bottom ∧ f.bottom ≤ 4194304) (hw : 0 ≤ f.width ∧ f.width ≤ 4194304) (hh : 0 ≤ f.height ∧ f.height ≤ 4194304) :
    Evt fun n => idrawFrame_iCropBitmap_1 n f b = some (rowsD sg f.left f.bottom f.width.toNat f.height.toNat) := by
  refine (ev_drawFrame_CropBitmap_L0 hp hl hbt hw f.height.toNat [] (by simp; omega)).mono fun n h => ?_
  have e1 : w64 (f.bottom + f.height) = f.bottom + f.height := w64_id (by omega) (by omega)
  have e2 : w64 (f.bottom + f.height - 1) = f.bottom + (f.height.toNat : Int) - 1 := by rw [w64_id] <;> omega
  simp only [idrawFrame_iCropBitmap_1, e1, e2, h, Option.bind_some, List.nil_append]
end
end Go.V
