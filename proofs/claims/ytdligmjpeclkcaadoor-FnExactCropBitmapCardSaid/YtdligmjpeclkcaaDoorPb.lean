/- What the laws' helpers on lists of strings compute: their size within a bound, a copy, equality. Conditions: none. -/
import Derived.Test.YtdligmjpeclkcaaDoorVh
import Derived.WideShapes4
import Derived.Test.YtdligmjpeclkcaaDoorGb
namespace Go.V
open Go Go.RowKit

theorem okI_w64 (x : Int) : okI .i64 (w64 x) := by rw [okI]; exact WideShapes.wf_wrap .i64 x
theorem okS_le {s : ByteArray} (h : okS s) : s.size ≤ 9223372036854775807 := Nat.le_trans h (by decide)
theorem okL_le {α : Type} {ok : α → Prop} {l : List α} (h : okL ok l) : l.length ≤ 9223372036854775807 := Nat.le_trans h.1 (by decide)
/-- How much a list of strings holds. -/
def szS : List ByteArray → Nat
  | [] => 0
  | s :: l => s.size + szS l
theorem szS_drop : ∀ (l : List ByteArray) (i : Nat) (h : i < l.length), szS (l.drop i) = l[i].size + szS (l.drop (i + 1)) := by
  intro l i h
  rw [List.drop_eq_getElem_cons h]; rfl
theorem szS_mem : ∀ {l : List ByteArray} {s : ByteArray}, s ∈ l → s.size ≤ szS l
  | x :: l, s, h => by
    rcases List.mem_cons.1 h with rfl | h
    · simp [szS]
    · have := szS_mem h; simp [szS]; omega

theorem ev_lszStringS_L0 (l : List ByteArray) (hl : l.length ≤ 1048576) (hok : ∀ s ∈ l, okS s) : ∀ (k i : Nat) (v : Int), i + k = l.length → 0 ≤ v → v ≤ 1048576 →
    Evt fun n => lszStringS_L0 n l v i = some (if (szS (l.drop i) : Int) ≤ v then .go (v - szS (l.drop i)) else .ret (-1))
  | 0, i, v, h, h0, h1 => Evt.succ <| Evt.of fun n => by
    have h2 : ¬ (i : Int) < l.length := by omega
    simp [lszStringS_L0, h2, List.drop_of_length_le (show l.length ≤ i by omega), szS, h0]
  | k + 1, i, v, h, h0, h1 => by
    have hi : i < l.length := by omega
    have hs := okS_le (hok _ (List.getElem_mem hi))
    have e1 : w64 (v - (l[i].size : Int)) = v - l[i].size := w64_id (by omega) (by omega)
    have e2 : w64 ((i : Int) + 1) = ((i + 1 : Nat) : Int) := by rw [w64_id] <;> omega
    have h2 : (i : Int) < l.length := by omega
    rw [szS_drop l i hi]
    by_cases hv : v - l[i].size < 0
    · refine Evt.succ <| Evt.of fun n => ?_
      have h3 : ¬ ((l[i].size + szS (l.drop (i + 1)) : Nat) : Int) ≤ v := by omega
      simp only [lszStringS_L0, h2, decide_true, if_true, getI_nat hi, Option.bind_some, e1, hv, if_neg h3]
    · refine Evt.succ ((ev_lszStringS_L0 l hl hok k (i + 1) (v - l[i].size) (by omega) (by omega) (by omega)).mono fun n hn => ?_)
      simp only [lszStringS_L0, h2, decide_true, if_true, getI_nat hi, Option.bind_some, e1, hv, decide_false, Bool.false_eq_true, if_false, e2, hn]
      congr 1
      by_cases h3 : (szS (l.drop (i + 1)) : Int) ≤ v - l[i].size
      · rw [if_pos h3, if_pos (by omega)]; congr 1; omega
      · rw [if_neg h3, if_neg (by omega)]

theorem ev_lszStringS (l : List ByteArray) (v : Int) (hok : okL okS l) (h0 : 0 ≤ v) (h1 : v ≤ 1048576) :
    Evt fun n => lszStringS n l v = some (if (l.length + szS l : Int) ≤ v then v - (l.length + szS l) else -1) := by
  have hm := okL_le hok
  have e1 : w64 (v - (l.length : Int)) = v - l.length := w64_id (by omega) (by omega)
  by_cases hv : v - (l.length : Int) < 0
  · refine Evt.of fun n => ?_
    simp only [lszStringS, e1, hv, decide_true, if_true]
    rw [if_neg (by omega)]
  · refine (ev_lszStringS_L0 l (by omega) hok.2 l.length 0 (v - l.length) (by omega) (by omega) (by omega)).mono fun n hn => ?_
    simp only [Int.natCast_zero, List.drop_zero] at hn
    simp only [lszStringS, e1, hv, decide_false, Bool.false_eq_true, if_false, hn, Option.bind_some]
    by_cases h3 : (szS l : Int) ≤ v - l.length
    · rw [if_pos h3, if_pos (by omega)]; simp only; congr 1; omega
    · rw [if_neg h3, if_neg (by omega)]

theorem ev_ltoStringS_L0 (l : List ByteArray) (hl : l.length ≤ 1048576) : ∀ (k i : Nat) (xs : List ByteArray), i + k = l.length → xs.length = l.length → xs.take i = l.take i → Evt fun n => ltoStringS_L0 n l xs i = some (.go l)
  | 0, i, xs, h, hx, ht => Evt.succ <| Evt.of fun n => by
    have h2 : ¬ (i : Int) < l.length := by omega
    rw [List.take_of_length_le (by omega), List.take_of_length_le (by omega)] at ht
    simp [ltoStringS_L0, h2, ht]
  | k + 1, i, xs, h, hx, ht => by
    have hi : i < l.length := by omega
    have e2 : w64 ((i : Int) + 1) = ((i + 1 : Nat) : Int) := by rw [w64_id] <;> omega
    have h2 : (i : Int) < l.length := by omega
    refine Evt.succ ((ev_ltoStringS_L0 l hl k (i + 1) (xs.set i l[i]) (by omega) (by simpa using hx) ?_).mono fun n hn => ?_)
    · rw [List.take_succ_eq_append_getElem (by simp; omega), List.take_succ_eq_append_getElem hi, List.take_set_of_le (by omega), ht]
      simp
    · simp only [ltoStringS_L0, h2, decide_true, if_true, getI_nat hi, Option.bind_some, getI_nat (xs := xs) (i := i) (by omega), Int.toNat_natCast, e2, hn]
theorem ev_ltoStringS (l : List ByteArray) (hl : l.length ≤ 1048576) : Evt fun n => ltoStringS n l = some l := by
  refine (ev_ltoStringS_L0 l hl l.length 0 (List.replicate l.length (ByteArray.mk #[])) (by omega) (by simp) (by simp)).mono fun n hn => ?_
  have h : (0 : Int) ≤ (l.length : Int) ∧ (l.length : Int) ≤ (l.length : Int) ∧ (16 : Int) * (l.length : Int) ≤ 281474976710656 := by omega
  simp only [Int.natCast_zero] at hn
  simp only [ltoStringS, if_pos h, Int.toNat_natCast, hn, Option.bind_some]

theorem ev_leqStringS_L0 (l m : List ByteArray) (hl : l.length ≤ 1048576) (hm : m.length = l.length) : ∀ (k i : Nat), i + k = l.length → Evt fun n => leqStringS_L0 n l m i = some (if l.drop i = m.drop i then .go () else .ret false)
  | 0, i, h => Evt.succ <| Evt.of fun n => by
    have h2 : ¬ (i : Int) < l.length := by omega
    simp [leqStringS_L0, h2, List.drop_of_length_le (show l.length ≤ i by omega), List.drop_of_length_le (show m.length ≤ i by omega)]
  | k + 1, i, h => by
    have hi : i < l.length := by omega
    have hi' : i < m.length := by omega
    have e2 : w64 ((i : Int) + 1) = ((i + 1 : Nat) : Int) := by rw [w64_id] <;> omega
    have h2 : (i : Int) < l.length := by omega
    rw [List.drop_eq_getElem_cons hi, List.drop_eq_getElem_cons hi']
    by_cases he : l[i] = m[i]
    · refine Evt.succ ((ev_leqStringS_L0 l m hl hm k (i + 1) (by omega)).mono fun n hn => ?_)
      simp only [leqStringS_L0, h2, decide_true, if_true, getI_nat hi, getI_nat hi', Option.bind_some, sEq_iff, he, Bool.not_true, Bool.false_eq_true, if_false, e2, hn, List.cons.injEq, true_and]
    · refine Evt.succ <| Evt.of fun n => ?_
      simp only [leqStringS_L0, h2, decide_true, if_true, getI_nat hi, getI_nat hi', Option.bind_some, sEq_iff, he, decide_false, Bool.not_false, List.cons.injEq, false_and, if_false]
theorem ev_leqStringS (l m : List ByteArray) (hl : l.length ≤ 1048576) : Evt fun n => leqStringS n l m = some (decide (l = m)) := by
  by_cases hm : l.length = m.length
  · refine (ev_leqStringS_L0 l m hl hm.symm l.length 0 (by omega)).mono fun n hn => ?_
    simp only [Int.natCast_zero, List.drop_zero] at hn
    simp only [leqStringS, hm, bne_self_eq_false, Bool.false_eq_true, if_false, hn]
    by_cases he : l = m
    · simp [he]
    · simp [he]
  · refine Evt.of fun n => ?_
    have h1 : ((l.length : Int) != (m.length : Int)) = true := by simp; omega
    simp only [leqStringS, h1, if_true]
    have : l ≠ m := fun e => hm (by rw [e])
    simp [this]
end Go.V
