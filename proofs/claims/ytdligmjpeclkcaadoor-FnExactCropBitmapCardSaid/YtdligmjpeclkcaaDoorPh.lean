/- What the laws' marks compute: texts of numbers, lists marked one by one, lists that still hold their marks. Conditions: none. -/
import Derived.Test.YtdligmjpeclkcaaDoorPb
namespace Go.V
open Go Go.RowKit

theorem tm10 {v : Int} (h : 0 ≤ v) : v.tdiv 10 = v / 10 := Int.tdiv_eq_ediv_of_nonneg h
theorem strOf_one (k : Int) : (strOf [k]).size = 1 := rfl
theorem ev_lmarkText_L0 : ∀ (c : Nat) (v : Int) (s : ByteArray), 0 ≤ v → v ≤ c → c ≤ 4611686018427387904 → s.size + v.toNat ≤ 4611686018427387904 →
    ∃ x, x.size ≤ s.size + v.toNat ∧ Evt fun n => lmarkText_L0 n v s = some (.go x)
  | 0, v, s, h0, h1, hc, h2 => by
    have : v = 0 := by omega
    subst this
    exact ⟨s, by omega, Evt.succ <| Evt.of fun n => by simp [lmarkText_L0]⟩
  | c + 1, v, s, h0, h1, hc, h2 => by
    by_cases hv : v > 0
    · have e1 : w64 (v.tdiv 10) = v / 10 := by rw [tm10 h0, w64_id] <;> omega
      have sz : ((strOf ([IntKind.u8.wrap (w64 (48 + (v.tmod 10)))])) ++ s).size = 1 + s.size := by rw [ByteArray.size_append, strOf_one]
      obtain ⟨x, hx, hn⟩ := ev_lmarkText_L0 c (v / 10) ((strOf ([IntKind.u8.wrap (w64 (48 + (v.tmod 10)))])) ++ s) (by omega) (by omega) (by omega) (by rw [sz]; omega)
      refine ⟨x, by rw [sz] at hx; omega, Evt.succ (hn.mono fun n e => ?_)⟩
      have h3 : (strOf ([IntKind.u8.wrap (w64 (48 + (v.tmod 10)))])).size + s.size ≤ 9223372036854775807 := by rw [strOf_one]; omega
      simp only [lmarkText_L0, hv, decide_true, if_true, h3, e1, e]
    · exact ⟨s, by omega, Evt.succ <| Evt.of fun n => by simp [lmarkText_L0, hv]⟩
theorem ev_lmarkText_ex (k : Int) (h : k ≤ 1099511627776) : ∃ x, Evt fun n => lmarkText n k = some x := by
  by_cases hk : k ≤ 0
  · exact ⟨ByteArray.mk #[109, 48], Evt.of fun n => by simp [lmarkText, hk]⟩
  · obtain ⟨x, hx, hn⟩ := ev_lmarkText_L0 k.toNat k (ByteArray.mk #[]) (by omega) (by omega) (by omega) (by have : (ByteArray.mk #[]).size = 0 := rfl; omega)
    refine ⟨ByteArray.mk #[109] ++ x, hn.mono fun n e => ?_⟩
    have h3 : (ByteArray.mk #[109]).size + x.size ≤ 9223372036854775807 := by
      have : (ByteArray.mk #[109]).size = 1 := rfl
      have : (ByteArray.mk #[]).size = 0 := rfl
      omega
    simp only [lmarkText, hk, decide_false, Bool.false_eq_true, if_false, e, Option.bind_some, if_pos h3]
open Classical in
/-- The text of a number. -/
noncomputable def mText (k : Int) : ByteArray := if h : ∃ x, Evt fun n => lmarkText n k = some x then h.choose else ByteArray.empty
theorem ev_lmarkText (k : Int) (h : k ≤ 1099511627776) : Evt fun n => lmarkText n k = some (mText k) := by
  have h1 := ev_lmarkText_ex k h
  unfold mText
  rw [dif_pos h1]
  exact h1.choose_spec
/-- c marks from k on. -/
noncomputable def marks (k : Int) : Nat → List ByteArray
  | 0 => []
  | c + 1 => mText k :: marks (k + 1) c
theorem marks_length : ∀ (c : Nat) (k : Int), (marks k c).length = c
  | 0, _ => rfl
  | c + 1, k => by rw [marks, List.length_cons, marks_length c]
theorem ev_lmarkStringS_L0 : ∀ (c : Nat) (l m : List ByteArray) (k : Int), l.length ≤ 1048576 → l.length = m.length + c → l.take m.length = m → 0 ≤ k → k + c ≤ 1099511627776 →
    Evt fun n => lmarkStringS_L0 n l k m.length = some (.go (m ++ marks k c, k + c))
  | 0, l, m, k, hl, h, ht, h0, hk => Evt.succ <| Evt.of fun n => by
    have h2 : ¬ (m.length : Int) < l.length := by omega
    rw [List.take_of_length_le (by omega)] at ht
    subst ht
    simp [lmarkStringS_L0, marks]
  | c + 1, l, m, k, hl, h, ht, h0, hk => by
    have hi : m.length < l.length := by omega
    have e2 : w64 ((m.length : Int) + 1) = ((m.length + 1 : Nat) : Int) := by rw [w64_id] <;> omega
    have e3 : w64 (k + 1) = k + 1 := by rw [w64_id] <;> omega
    have h2 : (m.length : Int) < l.length := by omega
    have hm : (m ++ [mText k]).length = m.length + 1 := by simp
    refine Evt.succ (((ev_lmarkText k (by omega)).and (ev_lmarkStringS_L0 c (l.set m.length (mText k)) (m ++ [mText k]) (k + 1) (by simpa using hl) (by simp; omega) ?_ (by omega) (by omega))).mono fun n ⟨h3, hn⟩ => ?_)
    · rw [hm, List.take_succ_eq_append_getElem (by simp; omega), List.take_set_of_le (by omega), ht]
      simp
    · rw [hm] at hn
      simp only [lmarkStringS_L0, h2, decide_true, if_true, h3, Option.bind_some, getI_nat hi, Int.toNat_natCast, e2, e3, hn, marks, List.append_assoc, List.cons_append, List.nil_append]
      congr 3
      omega
theorem ev_lmarkStringS (l : List ByteArray) (k : Int) (hl : l.length ≤ 1048576) (h0 : 0 ≤ k) (hk : k ≤ 549755813888) :
    Evt fun n => lmarkStringS n l k = some (k + l.length, marks k l.length) := by
  refine (ev_lmarkStringS_L0 l.length l [] k hl (by simp) (by simp) h0 (by omega)).mono fun n hn => ?_
  simp only [List.length_nil, Int.natCast_zero, List.nil_append] at hn
  simp only [lmarkStringS, hn, Option.bind_some]
theorem ev_lheldStringS_L0 (k0 : Int) (c0 : Nat) (hc : c0 ≤ 1048576) : ∀ (c : Nat) (k : Int) (i : Nat) (m : List ByteArray), m.length = i → i + c = c0 → 0 ≤ k → k + c ≤ 1099511627776 →
    Evt fun n => lheldStringS_L0 n (m ++ marks k c) k i = some (.go (k + c))
  | 0, k, i, m, hm, h, h0, hk => Evt.succ <| Evt.of fun n => by
    simp [lheldStringS_L0, marks, hm]
  | c + 1, k, i, m, hm, h, h0, hk => by
    have e2 : w64 ((i : Int) + 1) = ((i + 1 : Nat) : Int) := by rw [w64_id] <;> omega
    have e3 : w64 (k + 1) = k + 1 := by rw [w64_id] <;> omega
    have hi : i < (m ++ marks k (c + 1)).length := by rw [List.length_append, marks_length]; omega
    have h2 : (i : Int) < (m ++ marks k (c + 1)).length := by omega
    have hg : (m ++ marks k (c + 1))[i] = mText k := by
      subst hm
      simp [marks]
    refine Evt.succ (((ev_lmarkText k (by omega)).and (ev_lheldStringS_L0 k0 c0 hc c (k + 1) (i + 1) (m ++ [mText k]) (by simp [hm]) (by omega) (by omega) (by omega))).mono fun n ⟨h3, hn⟩ => ?_)
    simp only [lheldStringS_L0, h2, decide_true, if_true, getI_nat hi, hg, h3, Option.bind_some, sEq_iff, Bool.not_true, Bool.false_eq_true, if_false, e2, e3]
    rw [List.append_assoc] at hn
    rw [marks]
    refine hn.trans ?_
    congr 2
    omega
theorem ev_lheldStringS (c : Nat) (k : Int) (hl : c ≤ 1048576) (h0 : 0 ≤ k) (hk : k ≤ 549755813888) :
    Evt fun n => lheldStringS n (marks k c) k = some (k + c) := by
  refine (ev_lheldStringS_L0 k c hl c k 0 [] rfl (by omega) h0 (by omega)).mono fun n hn => ?_
  simp only [Int.natCast_zero, List.nil_append] at hn
  simp only [lheldStringS, hn, Option.bind_some]
end Go.V
