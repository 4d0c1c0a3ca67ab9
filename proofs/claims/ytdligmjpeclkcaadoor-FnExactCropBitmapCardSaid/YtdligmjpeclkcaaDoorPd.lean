/- Pixels of valid bitmaps. Conditions: none. -/
import Derived.Test.YtdligmjpeclkcaaDoorPc
namespace Go.V
open Go Go.RowKit

/-- The k-th sign of the i-th row is black. -/
def bk (b : SBitmap) (i k : Nat) : Bool := (b.Rows[i]?).any fun s => s.data.toList[k]? == some 35
/-- The pixel at a place is black. -/
def atB (b : SBitmap) (x y : Int) : Bool :=
  decide (b.Left ≤ x) && (decide (x < b.Left + b.Width) && (decide (b.Bottom ≤ y) && (decide (y < b.Bottom + b.Rows.length) && bk b (b.Rows.length - 1 - (y - b.Bottom)).toNat (x - b.Left).toNat)))

structure Bm (b : SBitmap) : Prop where
  l1 : -1048576 ≤ b.Left
  l2 : b.Left ≤ 1048576
  b1 : -1048576 ≤ b.Bottom
  b2 : b.Bottom ≤ 1048576
  w1 : 0 ≤ b.Width
  w2 : b.Width ≤ 128
  h : b.Rows.length ≤ 128
  z : b.Width = 0 ↔ b.Rows.length = 0
  row : ∀ s ∈ b.Rows, (s.size : Int) = b.Width
  pix : ∀ s ∈ b.Rows, s.data.toList.all pixB = true
theorem bm_of {b : SBitmap} (h : bmB b = true) : Bm b := by
  simp only [bmB, Bool.and_eq_true, decide_eq_true_eq, beq_iff_eq, List.all_eq_true, rowB] at h
  obtain ⟨h1, h2, h3, h4, h5, h6, h7, h8, h9⟩ := h
  refine ⟨h1, h2, h3, h4, h5, h6, h7, ?_, fun s hs => (h9 s hs).2, fun s hs => ?_⟩
  · constructor
    · intro e; rw [e] at h8; simpa using h8
    · intro e; rw [e] at h8; simpa using h8
  · have := (h9 s hs).1
    rwa [List.all_eq_true]

theorem bk_at {b : SBitmap} {i k : Nat} (hi : i < b.Rows.length) (hk : k < b.Rows[i].size) : (byteAt b.Rows[i] (k : Int) == 35) = bk b i k := by
  have h := byte_at hk 35 (by decide)
  have h0 : ((35 : Nat) : Int) = 35 := rfl
  rw [h0] at h
  rw [h, bk, List.getElem?_eq_getElem hi]
  simp only [Option.any_some]
  rw [List.getElem?_eq_getElem (by simpa using hk)]
  by_cases e : b.Rows[i].data.toList[k]'(by simpa using hk) = 35
  · rw [e]; rfl
  · have : (UInt8.ofNat 35) = 35 := rfl
    rw [this, beq_eq_false_iff_ne.2 e]
    symm
    simp only [beq_eq_false_iff_ne, ne_eq, Option.some.injEq]
    exact e

section
variable {b : SBitmap} (hb : Bm b)
include hb

theorem Bm.size {i : Nat} (hi : i < b.Rows.length) : (b.Rows[i].size : Int) = b.Width := hb.row _ (List.getElem_mem hi)

theorem ipixelAt_eq (n : Nat) (x y : Int) (hx : -4611686018427387904 ≤ x ∧ x ≤ 4611686018427387904) (hy : -4611686018427387904 ≤ y ∧ y ≤ 4611686018427387904) : ipixelAt n b x y = some (atB b x y) := by
  obtain ⟨l1, l2, b1, b2, w1, w2, hh, -, -, -⟩ := id hb
  have e1 : w64 (x - b.Left) = x - b.Left := w64_id (by omega) (by omega)
  have e2 : w64 (y - b.Bottom) = y - b.Bottom := w64_id (by omega) (by omega)
  have e3 : w64 ((b.Rows.length : Int) - 1) = (b.Rows.length : Int) - 1 := w64_id (by omega) (by omega)
  unfold ipixelAt atB
  simp only [e1, e2, e3]
  by_cases h1 : b.Left ≤ x
  · by_cases h2 : x < b.Left + b.Width
    · by_cases h3 : b.Bottom ≤ y
      · by_cases h4 : y < b.Bottom + b.Rows.length
        · have e4 : w64 ((b.Rows.length : Int) - 1 - (y - b.Bottom)) = (b.Rows.length : Int) - 1 - (y - b.Bottom) := w64_id (by omega) (by omega)
          have hi : ((b.Rows.length : Int) - 1 - (y - b.Bottom)).toNat < b.Rows.length := by omega
          have g := getI_of (xs := b.Rows) (i := (b.Rows.length : Int) - 1 - (y - b.Bottom)) (k := ((b.Rows.length : Int) - 1 - (y - b.Bottom)).toNat) (by omega) hi
          have hs := hb.size hi
          have hk : (x - b.Left).toNat < b.Rows[((b.Rows.length : Int) - 1 - (y - b.Bottom)).toNat].size := by omega
          have e5 : x - b.Left = ((x - b.Left).toNat : Int) := by omega
          have e6 := bk_at hi hk
          rw [← e5] at e6
          have c1 : x - b.Left ≥ 0 := by omega
          have c2 : x - b.Left < b.Width := by omega
          have c3 : y - b.Bottom ≥ 0 := by omega
          have c4 : y - b.Bottom < b.Rows.length := by omega
          have c5 : (0 : Int) ≤ x - b.Left ∧ x - b.Left < (b.Rows[((b.Rows.length : Int) - 1 - (y - b.Bottom)).toNat].size : Int) := by omega
          simp only [c1, c2, c3, c4, decide_true, if_true, e4, g, Option.bind_some, c5.2, and_self, e6, h1, h2, h3, h4, Bool.true_and]
        · have c4 : ¬ y - b.Bottom < b.Rows.length := by omega
          simp only [c4, decide_false, Bool.false_eq_true, if_false, h4, Bool.false_and, Bool.and_false, ite_self]
      · have c3 : ¬ y - b.Bottom ≥ 0 := by omega
        simp only [c3, decide_false, Bool.false_eq_true, if_false, h3, Bool.false_and, Bool.and_false, ite_self]
    · have c2 : ¬ x - b.Left < b.Width := by omega
      simp only [c2, decide_false, Bool.false_eq_true, if_false, h2, Bool.false_and, Bool.and_false, ite_self]
  · have c1 : ¬ x - b.Left ≥ 0 := by omega
    simp only [c1, decide_false, Bool.false_eq_true, if_false, h1, Bool.false_and]

theorem sl22At_eq (n : Nat) (x y : Int) (hx : -4611686018427387904 ≤ x ∧ x ≤ 4611686018427387904) (hy : -4611686018427387904 ≤ y ∧ y ≤ 4611686018427387904) : sl22At n b x y = some (atB b x y) := by
  obtain ⟨l1, l2, b1, b2, w1, w2, hh, -, -, -⟩ := id hb
  have e1 : w64 (x - b.Left) = x - b.Left := w64_id (by omega) (by omega)
  have e2 : w64 (y - b.Bottom) = y - b.Bottom := w64_id (by omega) (by omega)
  have e3 : w64 ((b.Rows.length : Int) - 1) = (b.Rows.length : Int) - 1 := w64_id (by omega) (by omega)
  have e4 : w64 ((b.Rows.length : Int) - 1 - (y - b.Bottom)) = (b.Rows.length : Int) - 1 - (y - b.Bottom) := w64_id (by omega) (by omega)
  have e0 : w64 (b.Width - 1) = b.Width - 1 := w64_id (by omega) (by omega)
  unfold sl22At atB
  simp only [e1, e2, e3, e4, e0, sl00In_eq, Option.bind_some]
  by_cases h1 : b.Left ≤ x
  · by_cases h2 : x < b.Left + b.Width
    · by_cases h3 : b.Bottom ≤ y
      · by_cases h4 : y < b.Bottom + b.Rows.length
        · have hi : ((b.Rows.length : Int) - 1 - (y - b.Bottom)).toNat < b.Rows.length := by omega
          have g := getI_of (xs := b.Rows) (i := (b.Rows.length : Int) - 1 - (y - b.Bottom)) (k := ((b.Rows.length : Int) - 1 - (y - b.Bottom)).toNat) (by omega) hi
          have hs := hb.size hi
          have hk : (x - b.Left).toNat < b.Rows[((b.Rows.length : Int) - 1 - (y - b.Bottom)).toNat].size := by omega
          have e5 : x - b.Left = ((x - b.Left).toNat : Int) := by omega
          have e6 := bk_at hi hk
          rw [← e5] at e6
          have c1 : 0 ≤ (b.Rows.length : Int) - 1 - (y - b.Bottom) := by omega
          have c2 : (b.Rows.length : Int) - 1 - (y - b.Bottom) ≤ (b.Rows.length : Int) - 1 := by omega
          have c3 : 0 ≤ x - b.Left := by omega
          have c4 : x - b.Left ≤ b.Width - 1 := by omega
          have c5 : (0 : Int) ≤ x - b.Left ∧ x - b.Left < (b.Rows[((b.Rows.length : Int) - 1 - (y - b.Bottom)).toNat].size : Int) := by omega
          simp only [c1, c2, c3, c4, decide_true, Bool.and_self, if_true, g, Option.bind_some, c5.2, and_self, e6, h1, h2, h3, h4, Bool.true_and]
        · have c1 : ¬ 0 ≤ (b.Rows.length : Int) - 1 - (y - b.Bottom) := by omega
          simp only [c1, decide_false, Bool.false_and, Bool.false_eq_true, if_false, h4, Bool.and_false]
      · have c2 : ¬ (b.Rows.length : Int) - 1 - (y - b.Bottom) ≤ (b.Rows.length : Int) - 1 := by omega
        simp only [c2, decide_false, Bool.and_false, Bool.false_eq_true, if_false, h3, Bool.false_and]
    · have c4 : ¬ x - b.Left ≤ b.Width - 1 := by omega
      simp only [c4, decide_false, Bool.and_false, Bool.false_eq_true, if_false, h2, Bool.false_and, ite_self]
  · have c3 : ¬ 0 ≤ x - b.Left := by omega
    simp only [c3, decide_false, Bool.false_and, Bool.false_eq_true, if_false, h1, ite_self]
end

def one01 (b : Bool) : Int := if b then 1 else 0
theorem one01_le (b : Bool) : 0 ≤ one01 b ∧ one01 b ≤ 1 := by cases b <;> decide

end Go.V
