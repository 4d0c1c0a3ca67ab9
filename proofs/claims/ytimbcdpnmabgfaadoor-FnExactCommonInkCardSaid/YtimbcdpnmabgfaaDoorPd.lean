/- Pixels of valid bitmaps, and how many are black in two of them. Conditions: none. -/
import Derived.Test.YtimbcdpnmabgfaaDoorPc
namespace Go.V
open Go Go.RowKit

/-- The k-th sign of the i-th row is black. -/
def bk (b : SBitmap) (i k : Nat) : Bool := (b.Rows[i]?).any fun s => s.data.toList[k]? == some 35
/-- The pixel at a place is black. -/
def atB (b : SBitmap) (x y : Int) : Bool :=
  decide (b.Left ≤ x) && (decide (x < b.Left + b.Width) && (decide (b.Bottom ≤ y) && (decide (y < b.Bottom + b.Rows.length) && bk b (b.Rows.length - 1 - (y - b.Bottom)).toNat (x - b.Left).toNat)))

structure Bm (b : SBitmap) : Prop where
  l1 : -1048576 ≤ b.Left
  l2 : b.Left ≤ 1048576
  b1 : -1048576 ≤ b.Bottom
  b2 : b.Bottom ≤ 1048576
  w1 : 0 ≤ b.Width
  w2 : b.Width ≤ 128
  h : b.Rows.length ≤ 128
  z : b.Width = 0 ↔ b.Rows.length = 0
  row : ∀ s ∈ b.Rows, (s.size : Int) = b.Width
  pix : ∀ s ∈ b.Rows, s.data.toList.all pixB = true
theorem bm_of {b : SBitmap} (h : bmB b = true) : Bm b := by
  simp only [bmB, Bool.and_eq_true, decide_eq_true_eq, beq_iff_eq, List.all_eq_true, rowB] at h
  obtain ⟨h1, h2, h3, h4, h5, h6, h7, h8, h9⟩ := h
  refine ⟨h1, h2, h3, h4, h5, h6, h7, ?_, fun s hs => (h9 s hs).2, fun s hs => ?_⟩
  · constructor
    · intro e; rw [e] at h8; simpa using h8
    · intro e; rw [e] at h8; simpa using h8
  · have := (h9 s hs).1
    rwa [List.all_eq_true]

theorem bk_at {b : SBitmap} {i k : Nat} (hi : i < b.Rows.length) (hk : k < b.Rows[i].size) : (byteAt b.Rows[i] (k : Int) == 35) = bk b i k := by
  have h := byte_at hk 35 (by decide)
  have h0 : ((35 : Nat) : Int) = 35 := rfl
  rw [h0] at h
  rw [h, bk, List.getElem?_eq_getElem hi]
  simp only [Option.any_some]
  rw [List.getElem?_eq_getElem (by simpa using hk)]
  by_cases e : b.Rows[i].data.toList[k]'(by simpa using hk) = 35
  · rw [e]; rfl
  · have : (UInt8.ofNat 35) = 35 := rfl
    rw [this, beq_eq_false_iff_ne.2 e]
    symm
    simp only [beq_eq_false_iff_ne, ne_eq, Option.some.injEq]
    exact e

section
variable {b : SBitmap} (hb : Bm b)
include hb

theorem Bm.size {i : Nat} (hi : i < b.Rows.length) : (b.Rows[i].size : Int) = b.Width := hb.row _ (List.getElem_mem hi)

theorem ipixelAt_eq (n : Nat) (x y : Int) (hx : -4611686018427387904 ≤ x ∧ x ≤ 4611686018427387904) (hy : -4611686018427387904 ≤ y ∧ y ≤ 4611686018427387904) : ipixelAt n b x y = some (atB b x y) := by
  obtain ⟨l1, l2, b1, b2, w1, w2, hh, -, -, -⟩ := id hb
  have e1 : w64 (x - b.Left) = x - b.Left := w64_id (by omega) (by omega)
  have e2 : w64 (y - b.Bottom) = y - b.Bottom := w64_id (by omega) (by omega)
  have e3 : w64 ((b.Rows.length : Int) - 1) = (b.Rows.length : Int) - 1 := w64_id (by omega) (by omega)
  unfold ipixelAt atB
  simp only [e1, e2, e3]
  by_cases h1 : b.Left ≤ x
  · by_cases h2 : x < b.Left + b.Width
    · by_cases h3 : b.Bottom ≤ y
      · by_cases h4 : y < b.Bottom + b.Rows.length
        · have e4 : w64 ((b.Rows.length : Int) - 1 - (y - b.Bottom)) = (b.Rows.length : Int) - 1 - (y - b.Bottom) := w64_id (by omega) (by omega)
          have hi : ((b.Rows.length : Int) - 1 - (y - b.Bottom)).toNat < b.Rows.length := by omega
          have g := getI_of (xs := b.Rows) (i := (b.Rows.length : Int) - 1 - (y - b.Bottom)) (k := ((b.Rows.length : Int) - 1 - (y - b.Bottom)).toNat) (by omega) hi
          have hs := hb.size hi
          have hk : (x - b.Left).toNat < b.Rows[((b.Rows.length : Int) - 1 - (y - b.Bottom)).toNat].size := by omega
          have e5 : x - b.Left = ((x - b.Left).toNat : Int) := by omega
          have e6 := bk_at hi hk
          rw [← e5] at e6
          have c1 : x - b.Left ≥ 0 := by omega
          have c2 : x - b.Left < b.Width := by omega
          have c3 : y - b.Bottom ≥ 0 := by omega
          have c4 : y - b.Bottom < b.Rows.length := by omega
          have c5 : (0 : Int) ≤ x - b.Left ∧ x - b.Left < (b.Rows[((b.Rows.length : Int) - 1 - (y - b.Bottom)).toNat].size : Int) := by omega
          simp only [c1, c2, c3, c4, decide_true, if_true, e4, g, Option.bind_some, c5.2, and_self, e6, h1, h2, h3, h4, Bool.true_and]
        · have c4 : ¬ y - b.Bottom < b.Rows.length := by omega
          simp only [c4, decide_false, Bool.false_eq_true, if_false, h4, Bool.false_and, Bool.and_false, ite_self]
      · have c3 : ¬ y - b.Bottom ≥ 0 := by omega
        simp only [c3, decide_false, Bool.false_eq_true, if_false, h3, Bool.false_and, Bool.and_false, ite_self]
    · have c2 : ¬ x - b.Left < b.Width := by omega
      simp only [c2, decide_false, Bool.false_eq_true, if_false, h2, Bool.false_and, Bool.and_false, ite_self]
  · have c1 : ¬ x - b.Left ≥ 0 := by omega
    simp only [c1, decide_false, Bool.false_eq_true, if_false, h1, Bool.false_and]

theorem sl22At_eq (n : Nat) (x y : Int) (hx : -4611686018427387904 ≤ x ∧ x ≤ 4611686018427387904) (hy : -4611686018427387904 ≤ y ∧ y ≤ 4611686018427387904) : sl22At n b x y = some (atB b x y) := by
  obtain ⟨l1, l2, b1, b2, w1, w2, hh, -, -, -⟩ := id hb
  have e1 : w64 (x - b.Left) = x - b.Left := w64_id (by omega) (by omega)
  have e2 : w64 (y - b.Bottom) = y - b.Bottom := w64_id (by omega) (by omega)
  have e3 : w64 ((b.Rows.length : Int) - 1) = (b.Rows.length : Int) - 1 := w64_id (by omega) (by omega)
  have e4 : w64 ((b.Rows.length : Int) - 1 - (y - b.Bottom)) = (b.Rows.length : Int) - 1 - (y - b.Bottom) := w64_id (by omega) (by omega)
  have e0 : w64 (b.Width - 1) = b.Width - 1 := w64_id (by omega) (by omega)
  unfold sl22At atB
  simp only [e1, e2, e3, e4, e0, sl00In_eq, Option.bind_some]
  by_cases h1 : b.Left ≤ x
  · by_cases h2 : x < b.Left + b.Width
    · by_cases h3 : b.Bottom ≤ y
      · by_cases h4 : y < b.Bottom + b.Rows.length
        · have hi : ((b.Rows.length : Int) - 1 - (y - b.Bottom)).toNat < b.Rows.length := by omega
          have g := getI_of (xs := b.Rows) (i := (b.Rows.length : Int) - 1 - (y - b.Bottom)) (k := ((b.Rows.length : Int) - 1 - (y - b.Bottom)).toNat) (by omega) hi
          have hs := hb.size hi
          have hk : (x - b.Left).toNat < b.Rows[((b.Rows.length : Int) - 1 - (y - b.Bottom)).toNat].size := by omega
          have e5 : x - b.Left = ((x - b.Left).toNat : Int) := by omega
          have e6 := bk_at hi hk
          rw [← e5] at e6
          have c1 : 0 ≤ (b.Rows.length : Int) - 1 - (y - b.Bottom) := by omega
          have c2 : (b.Rows.length : Int) - 1 - (y - b.Bottom) ≤ (b.Rows.length : Int) - 1 := by omega
          have c3 : 0 ≤ x - b.Left := by omega
          have c4 : x - b.Left ≤ b.Width - 1 := by omega
          have c5 : (0 : Int) ≤ x - b.Left ∧ x - b.Left < (b.Rows[((b.Rows.length : Int) - 1 - (y - b.Bottom)).toNat].size : Int) := by omega
          simp only [c1, c2, c3, c4, decide_true, Bool.and_self, if_true, g, Option.bind_some, c5.2, and_self, e6, h1, h2, h3, h4, Bool.true_and]
        · have c1 : ¬ 0 ≤ (b.Rows.length : Int) - 1 - (y - b.Bottom) := by omega
          simp only [c1, decide_false, Bool.false_and, Bool.false_eq_true, if_false, h4, Bool.and_false]
      · have c2 : ¬ (b.Rows.length : Int) - 1 - (y - b.Bottom) ≤ (b.Rows.length : Int) - 1 := by omega
        simp only [c2, decide_false, Bool.and_false, Bool.false_eq_true, if_false, h3, Bool.false_and]
    · have c4 : ¬ x - b.Left ≤ b.Width - 1 := by omega
      simp only [c4, decide_false, Bool.and_false, Bool.false_eq_true, if_false, h2, Bool.false_and, ite_self]
  · have c3 : ¬ 0 ≤ x - b.Left := by omega
    simp only [c3, decide_false, Bool.false_and, Bool.false_eq_true, if_false, h1, ite_self]
end

def one01 (b : Bool) : Int := if b then 1 else 0
theorem one01_le (b : Bool) : 0 ≤ one01 b ∧ one01 b ≤ 1 := by cases b <;> decide

section
variable {a b : SBitmap} (ha : Bm a) (hb : Bm b)
include ha hb

theorem ev_icommonInk_L1 (y : Int) (hy : -4194304 ≤ y ∧ y ≤ 4194304) (r : SPixelArea) (hr : r.left = a.Left ∧ r.width = a.Width) : ∀ (k : Nat) (x acc : Int), x + k = a.Left + a.Width → a.Left ≤ x → 0 ≤ acc → acc + k ≤ 1048576 →
    Evt fun n => icommonInk_L1 n r a y b acc x = some (.go (acc + sumN (fun i => one01 (atB a (x + i) y && atB b (x + i) y)) k))
  | 0, x, acc, hk, hx, h0, h1 => Evt.succ <| Evt.of fun n => by
    obtain ⟨l1, l2, -, -, w1, w2, -, -, -, -⟩ := ha
    have e1 : w64 (r.left + r.width) = a.Left + a.Width := by rw [hr.1, hr.2]; exact w64_id (by omega) (by omega)
    have h2 : ¬ x < a.Left + a.Width := by omega
    simp only [icommonInk_L1, e1, h2, decide_false, Bool.false_eq_true, if_false, sumN, Int.add_zero]
  | k + 1, x, acc, hk, hx, h0, h1 => by
    obtain ⟨l1, l2, -, -, w1, w2, -, -, -, -⟩ := id ha
    have e1 : w64 (r.left + r.width) = a.Left + a.Width := by rw [hr.1, hr.2]; exact w64_id (by omega) (by omega)
    have h2 : x < a.Left + a.Width := by omega
    have hc := one01_le (atB a x y && atB b x y)
    · refine Evt.succ ((ev_icommonInk_L1 y hy r hr k (x + 1) (acc + one01 (atB a x y && atB b x y)) (by omega) (by omega) (by omega) (by omega)).mono fun n hn => ?_)
      have e2 : w64 (x + 1) = x + 1 := w64_id (by omega) (by omega)
      have e3 : w64 (acc + one01 (atB a x y && atB b x y)) = acc + one01 (atB a x y && atB b x y) := w64_id (by omega) (by omega)
      have p1 := ipixelAt_eq ha n x y (by omega) (by omega)
      have p2 := ipixelAt_eq hb n x y (by omega) (by omega)
      rw [sumN_first]
      have hs : (fun i : Nat => one01 (atB a (x + ((i + 1 : Nat) : Int)) y && atB b (x + ((i + 1 : Nat) : Int)) y)) = fun i : Nat => one01 (atB a (x + 1 + i) y && atB b (x + 1 + i) y) := by
        funext i; rw [show x + ((i + 1 : Nat) : Int) = x + 1 + i by omega]
      rw [hs]
      simp only [Int.natCast_zero, Int.add_zero]
      rw [← Int.add_assoc, ← hn]
      simp only [icommonInk_L1, e1, h2, decide_true, if_true, p1, Option.bind_some, e2]
      cases h3 : atB a x y with
      | true =>
        simp only [if_true, p2, Option.bind_some, Bool.true_and] at e3 ⊢
        rw [h3, Bool.true_and] at e3
        cases h4 : atB b x y with
        | true => rw [h4] at e3; simp only [itruth, if_true, Option.bind_some]; rw [show (1 : Int) = one01 true from rfl, e3]
        | false => rw [h4] at e3; simp only [itruth, Bool.false_eq_true, if_false, Option.bind_some]; rw [show (0 : Int) = one01 false from rfl, e3]
      | false =>
        rw [h3, Bool.false_and] at e3
        simp only [Bool.false_eq_true, if_false, itruth, Option.bind_some, Bool.false_and]
        rw [show (0 : Int) = one01 false from rfl, e3]

theorem ev_icommonInk_L0 (r : SPixelArea) (hr : r.left = a.Left ∧ r.width = a.Width ∧ r.bottom = a.Bottom ∧ r.height = a.Rows.length) : ∀ (k : Nat) (y acc : Int), y + k = a.Bottom + a.Rows.length → a.Bottom ≤ y → 0 ≤ acc → acc + 128 * k ≤ 1048576 →
    Evt fun n => icommonInk_L0 n r a b acc y = some (.go (acc + sumN (fun j => sumN (fun i => one01 (atB a (a.Left + i) (y + j) && atB b (a.Left + i) (y + j))) a.Width.toNat) k))
  | 0, y, acc, hk, hy, h0, h1 => Evt.succ <| Evt.of fun n => by
    obtain ⟨-, -, b1, b2, -, -, hh, -, -, -⟩ := id ha
    have e1 : w64 (r.bottom + r.height) = a.Bottom + a.Rows.length := by rw [hr.2.2.1, hr.2.2.2]; exact w64_id (by omega) (by omega)
    have h2 : ¬ y < a.Bottom + a.Rows.length := by omega
    simp only [icommonInk_L0, e1, h2, decide_false, Bool.false_eq_true, if_false, sumN, Int.add_zero]
  | k + 1, y, acc, hk, hy, h0, h1 => by
    obtain ⟨l1, l2, b1, b2, w1, w2, hh, -, -, -⟩ := id ha
    have e1 : w64 (r.bottom + r.height) = a.Bottom + a.Rows.length := by rw [hr.2.2.1, hr.2.2.2]; exact w64_id (by omega) (by omega)
    have h2 : y < a.Bottom + a.Rows.length := by omega
    have hs := sumN_le (f := fun i => one01 (atB a (a.Left + i) y && atB b (a.Left + i) y)) (c := 1) a.Width.toNat fun i _ => one01_le _
    have i1 := ev_icommonInk_L1 ha hb y (by omega) r ⟨hr.1, hr.2.1⟩ a.Width.toNat a.Left acc (by omega) (by omega) (by omega) (by omega)
    have i2 := ev_icommonInk_L0 r hr k (y + 1) (acc + sumN (fun i => one01 (atB a (a.Left + i) y && atB b (a.Left + i) y)) a.Width.toNat) (by omega) (by omega) (by omega) (by omega)
    refine Evt.succ ((i1.and i2).mono fun n ⟨hn1, hn2⟩ => ?_)
    have e2 : w64 (y + 1) = y + 1 := w64_id (by omega) (by omega)
    rw [sumN_first]
    have hs2 : (fun j : Nat => sumN (fun i => one01 (atB a (a.Left + i) (y + ((j + 1 : Nat) : Int)) && atB b (a.Left + i) (y + ((j + 1 : Nat) : Int)))) a.Width.toNat) = fun j : Nat => sumN (fun i => one01 (atB a (a.Left + i) (y + 1 + j) && atB b (a.Left + i) (y + 1 + j))) a.Width.toNat := by
      funext j; rw [show y + ((j + 1 : Nat) : Int) = y + 1 + j by omega]
    rw [hs2]
    simp only [Int.natCast_zero, Int.add_zero]
    rw [← Int.add_assoc, ← hn2]
    simp only [icommonInk_L0, e1, h2, decide_true, if_true, hr.1, hn1, Option.bind_some, e2]

/-- How many pixels are black in both. -/
def inkN (a b : SBitmap) : Int := sumN (fun j => sumN (fun i => one01 (atB a (a.Left + i) (a.Bottom + j) && atB b (a.Left + i) (a.Bottom + j))) a.Width.toNat) a.Rows.length
theorem ev_icommonInk : Evt fun n => icommonInk n a b = some (inkN a b) := by
  have hh := ha.h
  refine (ev_icommonInk_L0 ha hb (SPixelArea.mk a.Left a.Bottom a.Width a.Rows.length) ⟨rfl, rfl, rfl, rfl⟩ a.Rows.length a.Bottom 0 (by omega) (by omega) (by omega) (by omega)).mono fun n hn => ?_
  simp only [icommonInk, ibitmapFrame, Option.bind_some, hn, Int.zero_add, inkN]
end

/-! ### the reference's count -/
section
variable {a b : SBitmap} (ha : Bm a) (hb : Bm b)
theorem atB_bk (_ha : Bm a) {i k : Nat} (hi : i < a.Rows.length) (hk : (k : Int) < a.Width) : atB a (a.Left + k) (a.Bottom + (a.Rows.length - 1 - i : Nat)) = bk a i k := by
  unfold atB
  have c1 : a.Left ≤ a.Left + (k : Int) := by omega
  have c2 : a.Left + (k : Int) < a.Left + a.Width := by omega
  have c3 : a.Bottom ≤ a.Bottom + ((a.Rows.length - 1 - i : Nat) : Int) := by omega
  have c4 : a.Bottom + ((a.Rows.length - 1 - i : Nat) : Int) < a.Bottom + a.Rows.length := by omega
  have c5 : ((a.Rows.length : Int) - 1 - (a.Bottom + ((a.Rows.length - 1 - i : Nat) : Int) - a.Bottom)).toNat = i := by omega
  have c6 : (a.Left + (k : Int) - a.Left).toNat = k := by omega
  simp only [c1, c2, c3, c4, c5, c6, decide_true, Bool.true_and]

include ha in
theorem ev_sl22Ink_L1 (j : Nat) (hj : j < a.Rows.length) : ∀ (k i : Nat) (acc : Int), i + k = a.Rows[j].size → 0 ≤ acc → acc + k ≤ 1048576 → Evt fun n => sl22Ink_L1 n a j acc i = some (.go (acc + sumN (fun m => one01 (bk a j (i + m))) k))
  | 0, i, acc, hk, h0, h1 => Evt.succ <| Evt.of fun n => by
    have h2 : ¬ (i : Int) < a.Rows[j].size := by omega
    simp only [sl22Ink_L1, getI_nat hj, Option.bind_some, h2, decide_false, Bool.false_eq_true, if_false, sumN, Int.add_zero]
  | k + 1, i, acc, hk, h0, h1 => by
    have h2 : (i : Int) < a.Rows[j].size := by omega
    have h3 : (0 : Int) ≤ i ∧ (i : Int) < a.Rows[j].size := by omega
    have hc := one01_le (bk a j i)
    have hsz := ha.size hj
    have hw := ha.w2
    refine Evt.succ ((ev_sl22Ink_L1 j hj k (i + 1) (acc + one01 (bk a j i)) (by omega) (by omega) (by omega)).mono fun n hn => ?_)
    have e2 : w64 ((i : Int) + 1) = ((i + 1 : Nat) : Int) := by rw [w64_id] <;> omega
    have e3 : w64 (acc + 1) = acc + 1 := w64_id (by omega) (by omega)
    have e4 := bk_at hj (k := i) (by omega)
    rw [sumN_first, ← Int.add_assoc]
    have hs : (fun m => one01 (bk a j (i + (m + 1)))) = fun m => one01 (bk a j (i + 1 + m)) := by funext m; rw [show i + (m + 1) = i + 1 + m by omega]
    rw [hs]
    simp only [Nat.add_zero]
    rw [← hn]
    simp only [sl22Ink_L1, getI_nat hj, Option.bind_some, h2, decide_true, if_true, if_pos h3, e4, e2, e3]
    cases bk a j i <;> simp [one01]
include ha in
theorem ev_sl22Ink_L0 : ∀ (k j : Nat) (acc : Int), j + k = a.Rows.length → 0 ≤ acc → acc + 128 * k ≤ 1048576 → Evt fun n => sl22Ink_L0 n a acc j = some (.go (acc + sumN (fun m => sumN (fun i => one01 (bk a (j + m) i)) a.Width.toNat) k))
  | 0, j, acc, hk, h0, h1 => Evt.succ <| Evt.of fun n => by
    have h2 : ¬ (j : Int) < a.Rows.length := by omega
    simp only [sl22Ink_L0, h2, decide_false, Bool.false_eq_true, if_false, sumN, Int.add_zero]
  | k + 1, j, acc, hk, h0, h1 => by
    have hj : j < a.Rows.length := by omega
    have h2 : (j : Int) < a.Rows.length := by omega
    have hsz := ha.size hj
    have hw := ha.w2
    have hh := ha.h
    have hs := sumN_le (f := fun i => one01 (bk a j i)) (c := 1) a.Width.toNat fun i _ => one01_le _
    have i1 := ev_sl22Ink_L1 ha j hj a.Width.toNat 0 acc (by omega) (by omega) (by omega)
    simp only [Nat.zero_add, Int.natCast_zero] at i1
    have i2 := ev_sl22Ink_L0 k (j + 1) (acc + sumN (fun i => one01 (bk a j i)) a.Width.toNat) (by omega) (by omega) (by omega)
    refine Evt.succ ((i1.and i2).mono fun n ⟨hn1, hn2⟩ => ?_)
    have e2 : w64 ((j : Int) + 1) = ((j + 1 : Nat) : Int) := by rw [w64_id] <;> omega
    rw [sumN_first, ← Int.add_assoc]
    have hs2 : (fun m => sumN (fun i => one01 (bk a (j + (m + 1)) i)) a.Width.toNat) = fun m => sumN (fun i => one01 (bk a (j + 1 + m) i)) a.Width.toNat := by funext m; rw [show j + (m + 1) = j + 1 + m by omega]
    rw [hs2]
    simp only [Nat.add_zero]
    rw [← hn2]
    simp only [sl22Ink_L0, h2, decide_true, if_true, hn1, Option.bind_some, e2]
include ha in
theorem ev_sl22Ink : Evt fun n => sl22Ink n a = some (sumN (fun j => sumN (fun i => one01 (bk a j i)) a.Width.toNat) a.Rows.length) := by
  have hh := ha.h
  refine (ev_sl22Ink_L0 ha a.Rows.length 0 0 (by omega) (by omega) (by omega)).mono fun n hn => ?_
  simp only [Int.natCast_zero, Nat.zero_add, Int.zero_add] at hn
  simp only [sl22Ink, hn, Option.bind_some]

include ha hb in
theorem ev_sl22Only_L1 (j : Nat) (hj : j < a.Rows.length) : ∀ (k i : Nat) (acc : Int), (i + k : Int) = a.Width → 0 ≤ acc → acc + k ≤ 1048576 →
    Evt fun n => sl22Only_L1 n a j b acc i = some (.go (acc + sumN (fun m => one01 (bk a j (i + m) && !atB b (a.Left + (i + m : Nat)) (a.Bottom + (a.Rows.length - 1 - j : Nat)))) k))
  | 0, i, acc, hk, h0, h1 => Evt.succ <| Evt.of fun n => by
    have h2 : ¬ (i : Int) < a.Width := by omega
    simp only [sl22Only_L1, h2, decide_false, Bool.false_eq_true, if_false, sumN, Int.add_zero]
  | k + 1, i, acc, hk, h0, h1 => by
    obtain ⟨l1, l2, b1, b2, w1, w2, hh, -, -, -⟩ := id ha
    have h2 : (i : Int) < a.Width := by omega
    have hsz := ha.size hj
    have h3 : (0 : Int) ≤ i ∧ (i : Int) < a.Rows[j].size := by omega
    have hc := one01_le (bk a j i && !atB b (a.Left + (i : Nat)) (a.Bottom + (a.Rows.length - 1 - j : Nat)))
    refine Evt.succ ((ev_sl22Only_L1 j hj k (i + 1) (acc + one01 (bk a j i && !atB b (a.Left + (i : Nat)) (a.Bottom + (a.Rows.length - 1 - j : Nat)))) (by omega) (by omega) (by omega)).mono fun n hn => ?_)
    have e2 : w64 ((i : Int) + 1) = ((i + 1 : Nat) : Int) := by rw [w64_id] <;> omega
    have e3 : w64 (acc + 1) = acc + 1 := w64_id (by omega) (by omega)
    have e4 := bk_at hj (k := i) (by omega)
    have e5 : w64 (a.Left + (i : Int)) = a.Left + i := w64_id (by omega) (by omega)
    have e6 : w64 ((a.Rows.length : Int) - 1) = (a.Rows.length : Int) - 1 := w64_id (by omega) (by omega)
    have e7 : w64 ((a.Rows.length : Int) - 1 - j) = ((a.Rows.length - 1 - j : Nat) : Int) := by rw [w64_id] <;> omega
    have e8 : w64 (a.Bottom + ((a.Rows.length - 1 - j : Nat) : Int)) = a.Bottom + ((a.Rows.length - 1 - j : Nat) : Int) := w64_id (by omega) (by omega)
    have p := sl22At_eq hb n (a.Left + i) (a.Bottom + (a.Rows.length - 1 - j : Nat)) (by omega) (by omega)
    rw [sumN_first, ← Int.add_assoc]
    have hs : (fun m : Nat => one01 (bk a j (i + (m + 1)) && !atB b (a.Left + (i + (m + 1) : Nat)) (a.Bottom + (a.Rows.length - 1 - j : Nat)))) = fun m : Nat => one01 (bk a j (i + 1 + m) && !atB b (a.Left + (i + 1 + m : Nat)) (a.Bottom + (a.Rows.length - 1 - j : Nat))) := by funext m; rw [show i + (m + 1) = i + 1 + m by omega]
    rw [hs]
    simp only [Nat.add_zero]
    rw [← hn]
    simp only [sl22Only_L1, h2, decide_true, if_true, getI_nat hj, Option.bind_some, if_pos h3, e4, e2, e3, e5, e6, e7, e8, p]
    rcases Bool.eq_false_or_eq_true (bk a j i) with h4 | h4
    · simp only [h4, if_true, Bool.true_and]
      rcases Bool.eq_false_or_eq_true (atB b (a.Left + i) (a.Bottom + (a.Rows.length - 1 - j : Nat))) with h5 | h5
      · simp only [h5, Bool.not_true, Bool.false_eq_true, if_false, one01, Int.add_zero]
      · simp only [h5, Bool.not_false, if_true, one01]
    · simp only [h4, Bool.false_eq_true, if_false, Bool.false_and, one01, Int.add_zero]
include ha hb in
theorem ev_sl22Only_L0 : ∀ (k j : Nat) (acc : Int), j + k = a.Rows.length → 0 ≤ acc → acc + 128 * k ≤ 1048576 →
    Evt fun n => sl22Only_L0 n a b acc j = some (.go (acc + sumN (fun m => sumN (fun i => one01 (bk a (j + m) i && !atB b (a.Left + (i : Nat)) (a.Bottom + (a.Rows.length - 1 - (j + m) : Nat)))) a.Width.toNat) k))
  | 0, j, acc, hk, h0, h1 => Evt.succ <| Evt.of fun n => by
    have h2 : ¬ (j : Int) < a.Rows.length := by omega
    simp only [sl22Only_L0, h2, decide_false, Bool.false_eq_true, if_false, sumN, Int.add_zero]
  | k + 1, j, acc, hk, h0, h1 => by
    have hj : j < a.Rows.length := by omega
    have h2 : (j : Int) < a.Rows.length := by omega
    have hw := ha.w2
    have hw1 := ha.w1
    have hh := ha.h
    have hs := sumN_le (f := fun i => one01 (bk a j i && !atB b (a.Left + (i : Nat)) (a.Bottom + (a.Rows.length - 1 - j : Nat)))) (c := 1) a.Width.toNat fun i _ => one01_le _
    have i1 := ev_sl22Only_L1 ha hb j hj a.Width.toNat 0 acc (by omega) (by omega) (by omega)
    simp only [Nat.zero_add, Int.natCast_zero] at i1
    have i2 := ev_sl22Only_L0 k (j + 1) (acc + sumN (fun i => one01 (bk a j i && !atB b (a.Left + (i : Nat)) (a.Bottom + (a.Rows.length - 1 - j : Nat)))) a.Width.toNat) (by omega) (by omega) (by omega)
    refine Evt.succ ((i1.and i2).mono fun n ⟨hn1, hn2⟩ => ?_)
    have e2 : w64 ((j : Int) + 1) = ((j + 1 : Nat) : Int) := by rw [w64_id] <;> omega
    rw [sumN_first, ← Int.add_assoc]
    have hs2 : (fun m => sumN (fun i => one01 (bk a (j + (m + 1)) i && !atB b (a.Left + (i : Nat)) (a.Bottom + (a.Rows.length - 1 - (j + (m + 1)) : Nat)))) a.Width.toNat) = fun m => sumN (fun i => one01 (bk a (j + 1 + m) i && !atB b (a.Left + (i : Nat)) (a.Bottom + (a.Rows.length - 1 - (j + 1 + m) : Nat)))) a.Width.toNat := by funext m; rw [show j + (m + 1) = j + 1 + m by omega]
    rw [hs2]
    simp only [Nat.add_zero]
    rw [← hn2]
    simp only [sl22Only_L0, h2, decide_true, if_true, hn1, Option.bind_some, e2]
include ha hb in
theorem ev_sl22Only : Evt fun n => sl22Only n a b = some (sumN (fun j => sumN (fun i => one01 (bk a j i && !atB b (a.Left + (i : Nat)) (a.Bottom + (a.Rows.length - 1 - j : Nat)))) a.Width.toNat) a.Rows.length) := by
  have hh := ha.h
  refine (ev_sl22Only_L0 ha hb a.Rows.length 0 0 (by omega) (by omega) (by omega)).mono fun n hn => ?_
  simp only [Int.natCast_zero, Nat.zero_add, Int.zero_add] at hn
  simp only [sl22Only, hn, Option.bind_some]

include ha in
/-- Both counts are the same. -/
theorem ink_eq : sumN (fun j => sumN (fun i => one01 (bk a j i)) a.Width.toNat) a.Rows.length - sumN (fun j => sumN (fun i => one01 (bk a j i && !atB b (a.Left + (i : Nat)) (a.Bottom + (a.Rows.length - 1 - j : Nat)))) a.Width.toNat) a.Rows.length = inkN a b := by
  have hw := ha.w1
  rw [← sumN_sub]
  unfold inkN
  rw [← sumN_rev]
  refine sumN_congr fun j hj => ?_
  rw [← sumN_sub]
  refine sumN_congr fun i hi => ?_
  have e1 : a.Rows.length - 1 - (a.Rows.length - 1 - j) = j := by omega
  have h1 := atB_bk ha (i := a.Rows.length - 1 - j) (k := i) (by omega) (by omega)
  rw [e1] at h1
  rw [e1, ← h1]
  cases atB a (a.Left + i) (a.Bottom + j) <;> cases atB b (a.Left + i) (a.Bottom + j) <;> rfl
end

theorem sl34Two_ok {a b : SBitmap} (ha : okBitmap a) (hb : okBitmap b) : Evt fun n => sl34Two n a b = some (if bmB a && bmB b then 0 else 1) := by
  refine ((ev_sl22Ok a ha).and (ev_sl22Ok b hb)).mono fun n ⟨h1, h2⟩ => ?_
  simp only [sl34Two, h1, h2, Option.bind_some]
  cases bmB a <;> cases bmB b <;> rfl
theorem ev_sCommonInk {a b : SBitmap} (ha : okBitmap a) (hb : okBitmap b) : Evt fun n => sCommonInk n a b = some (if bmB a && bmB b then (inkN a b, 0) else (0, 1)) := by
  cases h1 : bmB a && bmB b with
  | false =>
    refine (sl34Two_ok ha hb).mono fun n h => ?_
    rw [h1] at h
    simp only [sCommonInk, h, Option.bind_some, Bool.false_eq_true, if_false]
    rfl
  | true =>
    rw [Bool.and_eq_true] at h1
    have ma := bm_of h1.1
    have mb := bm_of h1.2
    refine ((sl34Two_ok ha hb).and ((ev_sl22Ink ma).and (ev_sl22Only ma mb))).mono fun n ⟨h2, h3, h4⟩ => ?_
    rw [h1.1, h1.2] at h2
    have hh := ma.h
    have hw := ma.w2
    have hle := sumN_le (f := fun j => sumN (fun i => one01 (atB a (a.Left + i) (a.Bottom + j) && atB b (a.Left + i) (a.Bottom + j))) a.Width.toNat) (c := 128) a.Rows.length fun j _ => by
      have := sumN_le (f := fun i => one01 (atB a (a.Left + i) (a.Bottom + j) && atB b (a.Left + i) (a.Bottom + j))) (c := 1) a.Width.toNat fun i _ => one01_le _
      omega
    have e := ink_eq (b := b) ma
    have e2 : w64 (inkN a b) = inkN a b := w64_id (by unfold inkN; omega) (by unfold inkN; omega)
    simp only [sCommonInk, h2, h3, h4, Option.bind_some, Bool.and_self, if_true, e, e2]
    rfl
theorem ev_iCommonInk {a b : SBitmap} (ha : okBitmap a) (hb : okBitmap b) : Evt fun n => iCommonInk n a b = some (if bmB a && bmB b then (inkN a b, 0) else (0, 1)) := by
  cases h1 : bmB a with
  | false =>
    refine (ev_iValidBitmap a ha).mono fun n h => ?_
    rw [h1] at h
    simp only [iCommonInk, h, Option.bind_some, Bool.not_false, if_true, Bool.false_and, Bool.false_eq_true, if_false]
  | true =>
    cases h2 : bmB b with
    | false =>
      refine ((ev_iValidBitmap a ha).and (ev_iValidBitmap b hb)).mono fun n ⟨h3, h4⟩ => ?_
      rw [h1] at h3; rw [h2] at h4
      simp only [iCommonInk, h3, h4, Option.bind_some, Bool.not_true, Bool.not_false, if_true, Bool.false_eq_true, if_false, Bool.and_false]
    | true =>
      refine ((ev_iValidBitmap a ha).and ((ev_iValidBitmap b hb).and (ev_icommonInk (bm_of h1) (bm_of h2)))).mono fun n ⟨h3, h4, h5⟩ => ?_
      rw [h1] at h3; rw [h2] at h4
      simp only [iCommonInk, h3, h4, h5, Option.bind_some, Bool.not_true, if_true, Bool.false_eq_true, if_false, Bool.and_self]
end Go.V
