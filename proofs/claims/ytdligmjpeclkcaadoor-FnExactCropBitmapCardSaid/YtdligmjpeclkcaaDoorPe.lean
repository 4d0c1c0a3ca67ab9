/- Rows that are drawn sign by sign: what the reference's drawing computes; frames of two bitmaps. Conditions: none. -/
import Derived.Test.YtdligmjpeclkcaaDoorPd
namespace Go.V
open Go Go.RowKit

/-- Signs of a row, from place i on. -/
def rowI (sg : Int → Int) : Int → Nat → List Int
  | _, 0 => []
  | x, k + 1 => sg x :: rowI sg (x + 1) k
theorem rowI_length (sg : Int → Int) : ∀ (k : Nat) (x : Int), (rowI sg x k).length = k
  | 0, _ => rfl
  | k + 1, x => by rw [rowI, List.length_cons, rowI_length sg k]
/-- Rows from the k-th above b downwards. -/
def rowsD (sg : Int → Int → Int) (l b : Int) (w : Nat) : Nat → List ByteArray
  | 0 => []
  | k + 1 => strOf (rowI (fun x => sg x (b + k)) l w) :: rowsD sg l b w k
theorem rowsD_length (sg : Int → Int → Int) (l b : Int) (w : Nat) : ∀ k, (rowsD sg l b w k).length = k
  | 0 => rfl
  | k + 1 => by rw [rowsD, List.length_cons, rowsD_length sg l b w k]
theorem rowI_congr {f g : Int → Int} : ∀ (k : Nat) (x : Int), (∀ i : Nat, i < k → f (x + i) = g (x + i)) → rowI f x k = rowI g x k
  | 0, _, _ => rfl
  | k + 1, x, h => by
    rw [rowI, rowI, rowI_congr k (x + 1) fun i hi => ?_]
    · have := h 0 (by omega)
      simp only [Int.natCast_zero, Int.add_zero] at this
      rw [this]
    · have := h (i + 1) (by omega)
      rwa [show x + ((i + 1 : Nat) : Int) = x + 1 + i by omega] at this
theorem strOf_fold : ∀ (l : List Int) (s : ByteArray), (l.foldl (fun r n => r.push (UInt8.ofNat n.toNat)) s).size = s.size + l.length
  | [], s => rfl
  | n :: l, s => by rw [List.foldl_cons, strOf_fold l, ByteArray.size_push, List.length_cons]; omega
theorem strOf_size (l : List Int) : (strOf l).size = l.length := by rw [strOf, strOf_fold]; exact Nat.zero_add _
theorem rowsD_size {sg : Int → Int → Int} {l b : Int} {w : Nat} : ∀ {k : Nat} {s : ByteArray}, s ∈ rowsD sg l b w k → s.size = w
  | 0, s, h => by cases h
  | k + 1, s, h => by
    rw [rowsD] at h
    rcases List.mem_cons.1 h with rfl | h
    · rw [strOf_size, rowI_length]
    · exact rowsD_size h

/-- The sign for two bitmaps. -/
def sgn (s : ByteArray) (a b : SBitmap) (x y : Int) : Int := byteAt s (one01 (atB a x y) + 2 * one01 (atB b x y))

section
variable {a b : SBitmap} (ha : Bm a) (hb : Bm b) {f : SL34Box} {s : ByteArray}
include ha hb

theorem ev_sl34Signs_L1 (hl : -4194304 ≤ f.left ∧ f.left ≤ 4194304) (hbt : -4194304 ≤ f.bottom ∧ f.bottom ≤ 4194304) (hw : f.width ≤ 4194304) (hs : s.size = 4) (y : Int) (hy : 0 ≤ y ∧ y ≤ 4194304) (out : List ByteArray) :
    ∀ (k i : Nat) (acc : List Int), (i + k : Int) = f.width → acc.length = i → Evt fun n => sl34Signs_L1 n f a y b s out acc i = some (.go (acc ++ rowI (fun x => sgn s a b x (f.bottom + y)) (f.left + i) k))
  | 0, i, acc, hk, hac => Evt.succ <| Evt.of fun n => by
    have h2 : ¬ (i : Int) < f.width := by omega
    simp only [sl34Signs_L1, h2, decide_false, Bool.false_eq_true, if_false, rowI, List.append_nil]
  | k + 1, i, acc, hk, hac => by
    have h2 : (i : Int) < f.width := by omega
    have e1 : w64 (f.left + i) = f.left + i := w64_id (by omega) (by omega)
    have e2 : w64 (f.bottom + y) = f.bottom + y := w64_id (by omega) (by omega)
    have e3 : w64 ((i : Int) + 1) = ((i + 1 : Nat) : Int) := by rw [w64_id] <;> omega
    refine Evt.succ ((ev_sl34Signs_L1 hl hbt hw hs y hy out k (i + 1) (acc ++ [sgn s a b (f.left + i) (f.bottom + y)]) (by omega) (by simp [hac])).mono fun n hn => ?_)
    have p1 := sl22At_eq ha n (f.left + i) (f.bottom + y) (by omega) (by omega)
    have p2 := sl22At_eq hb n (f.left + i) (f.bottom + y) (by omega) (by omega)
    have hc : ∀ z : Int, (acc.length + [z].length) * 1 ≤ 140737488355328 := fun z => by simp only [List.length_cons, List.length_nil]; omega
    rw [rowI, show f.left + (i : Int) + 1 = f.left + ((i + 1 : Nat) : Int) by omega]
    rw [List.append_assoc, List.singleton_append] at hn
    rw [← hn]
    have q1 : w64 (0 + 1) = 1 := by decide
    have q2 : w64 (1 + 2) = 3 := by decide
    have q3 : w64 (0 + 2) = 2 := by decide
    simp only [sl34Signs_L1, h2, decide_true, if_true, e1, e2, p1, p2, e3, Option.bind_some, sl34Signs_P2, sl34Signs_P3, sgn]
    cases atB a (f.left + i) (f.bottom + y) <;> cases atB b (f.left + i) (f.bottom + y) <;> simp only [Bool.false_eq_true, if_false, if_true, one01, q1, q2, q3, hs, Option.bind_some] <;> rw [if_pos (by decide), if_pos (hc _)] <;> rfl
theorem ev_sl34Signs_L0 (hl : -4194304 ≤ f.left ∧ f.left ≤ 4194304) (hbt : -4194304 ≤ f.bottom ∧ f.bottom ≤ 4194304) (hw : 0 ≤ f.width ∧ f.width ≤ 4194304) (hs : s.size = 4) :
    ∀ (k : Nat) (acc : List ByteArray), acc.length + k ≤ 4194304 → Evt fun n => sl34Signs_L0 n f a b s acc ((k : Int) - 1) = some (.go (acc ++ rowsD (sgn s a b) f.left f.bottom f.width.toNat k))
  | 0, acc, h => Evt.succ <| Evt.of fun n => by
    have h2 : ¬ ((0 : Nat) : Int) - 1 ≥ 0 := by omega
    simp only [sl34Signs_L0, h2, decide_false, Bool.false_eq_true, if_false, rowsD, List.append_nil]
  | k + 1, acc, h => by
    have h2 : ((k + 1 : Nat) : Int) - 1 ≥ 0 := by omega
    have e1 : ((k + 1 : Nat) : Int) - 1 = (k : Int) := by omega
    have e2 : w64 ((k : Int) - 1) = (k : Int) - 1 := w64_id (by omega) (by omega)
    have i1 := ev_sl34Signs_L1 ha hb hl hbt hw.2 hs k (by omega) acc f.width.toNat 0 [] (by omega) rfl
    simp only [List.nil_append, Int.natCast_zero, Int.add_zero] at i1
    refine Evt.succ ((i1.and (ev_sl34Signs_L0 hl hbt hw hs k (acc ++ [strOf (rowI (fun x => sgn s a b x (f.bottom + k)) f.left f.width.toNat)]) (by simp; omega))).mono fun n ⟨h3, h4⟩ => ?_)
    have hc : ∀ z : ByteArray, (acc.length + [z].length) * 16 ≤ 140737488355328 := fun z => by simp only [List.length_cons, List.length_nil]; omega
    rw [List.append_assoc, List.singleton_append] at h4
    rw [rowsD, ← h4]
    rw [e1] at h2 ⊢
    simp only [sl34Signs_L0, h2, decide_true, if_true, h3, Option.bind_some, if_pos (hc _), e2]
theorem ev_sl34Signs (hl : -4194304 ≤ f.left ∧ f.left ≤ 4194304) (hbt : -4194304 ≤ f.bottom ∧ f.bottom ≤ 4194304) (hw : 0 ≤ f.width ∧ f.width ≤ 4194304) (hh : 0 ≤ f.height ∧ f.height ≤ 4194304) (hs : s.size = 4) :
    Evt fun n => sl34Signs n a b f s = some (rowsD (sgn s a b) f.left f.bottom f.width.toNat f.height.toNat) := by
  refine (ev_sl34Signs_L0 ha hb hl hbt hw hs f.height.toNat [] (by simp; omega)).mono fun n h => ?_
  have e1 : w64 (f.height - 1) = (f.height.toNat : Int) - 1 := by rw [w64_id] <;> omega
  simp only [sl34Signs, e1, h, Option.bind_some, List.nil_append]
end

def minI (x y : Int) : Int := if x < y then x else y
def maxI (x y : Int) : Int := if x > y then x else y
theorem min_eq (x y : Int) : (if y < x then y else x) = minI x y := by unfold minI; split <;> split <;> omega
theorem max_eq (x y : Int) : (if y > x then y else x) = maxI x y := by unfold maxI; split <;> split <;> omega
end Go.V
