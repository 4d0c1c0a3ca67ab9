/- Valid bitmaps: what the reference's test and the program's test compute, and pixels. Conditions: none. -/
import Derived.Test.YtdligmjpeclkcaaDoorPb
import Derived.Test.YtdligmjpeclkcaaDoorPa
namespace Go.V
open Go Go.RowKit

def pixB (c : UInt8) : Bool := c == 35 || c == 46
/-- A row: its bytes are signs of pixels, its length is w. -/
def rowB (s : ByteArray) (w : Int) : Bool := s.data.toList.all pixB && ((s.size : Int) == w)
def bmB (b : SBitmap) : Bool :=
  decide (-1048576 ≤ b.Left) && (decide (b.Left ≤ 1048576) && (decide (-1048576 ≤ b.Bottom) && (decide (b.Bottom ≤ 1048576) && (decide (0 ≤ b.Width) && (decide (b.Width ≤ 128) && (decide (b.Rows.length ≤ 128) && (((b.Width == 0) == (b.Rows.length == 0)) && b.Rows.all (rowB · b.Width))))))))

theorem u8_eq (c : UInt8) (k : Nat) (hk : k < 256) : (((c.toNat : Nat) : Int) == (k : Int)) = (c == UInt8.ofNat k) := by
  have : (UInt8.ofNat k).toNat = k := by simp; omega
  by_cases h : c = UInt8.ofNat k
  · subst h; simp [this]
  · have h2 : c.toNat ≠ k := fun e => h (UInt8.toNat_inj.1 (by rw [e, this]))
    have h3 : ¬ ((c.toNat : Nat) : Int) = (k : Int) := by omega
    rw [beq_eq_false_iff_ne.2 h3, beq_eq_false_iff_ne.2 h]
theorem byte_at {s : ByteArray} {i : Nat} (h : i < s.size) (k : Nat) (hk : k < 256) : (byteAt s (i : Int) == (k : Int)) = ((s.data.toList[i]'(by simpa using h)) == UInt8.ofNat k) := by
  rw [byteAt_nat h, u8_eq _ k hk]

theorem ev_sl22Row_L0 (s : ByteArray) (w : Int) (hs : s.size ≤ 9223372036854775807) : ∀ (k i : Nat), i + k = s.size → Evt fun n => sl22Row_L0 n s w i = some (if (s.data.toList.drop i).all pixB then .go () else .ret false)
  | 0, i, h => Evt.succ <| Evt.of fun n => by
    have h2 : ¬ (i : Int) < s.size := by omega
    have h3 : s.data.toList.length ≤ i := by simp; omega
    simp [sl22Row_L0, h2, List.drop_of_length_le h3]
  | k + 1, i, h => by
    have hi : i < s.size := by omega
    have e2 : w64 ((i : Int) + 1) = ((i + 1 : Nat) : Int) := by rw [w64_id] <;> omega
    have h2 : (i : Int) < s.size := by omega
    have h0 : (0 : Int) ≤ (i : Int) := by omega
    have hd : s.data.toList.drop i = (s.data.toList[i]'(by simpa using hi)) :: s.data.toList.drop (i + 1) := List.drop_eq_getElem_cons (by simpa using hi)
    have b1 := byte_at hi 35 (by decide)
    have b2 := byte_at hi 46 (by decide)
    have c1 : (byteAt s (i : Int) != 35) = !(s.data.toList[i]'(by simpa using hi) == 35) := by rw [bne]; exact congrArg _ b1
    have c2 : (byteAt s (i : Int) != 46) = !(s.data.toList[i]'(by simpa using hi) == 46) := by rw [bne]; exact congrArg _ b2
    refine Evt.succ ((ev_sl22Row_L0 s w hs k (i + 1) (by omega)).mono fun n hn => ?_)
    rw [hd]
    simp only [sl22Row_L0, h2, h0, and_self, decide_true, if_true, c1, c2, e2, hn, List.all_cons, pixB]
    rcases Bool.eq_false_or_eq_true (s.data.toList[i]'(by simpa using hi) == 35) with h35 | h35 <;> rcases Bool.eq_false_or_eq_true (s.data.toList[i]'(by simpa using hi) == 46) with h46 | h46 <;> simp only [h35, h46, Bool.or_true, Bool.or_false, Bool.true_and, Bool.false_and, Bool.not_true, Bool.not_false, if_true, if_false, Bool.false_eq_true]
theorem ev_sl22Row (s : ByteArray) (w : Int) (hs : okS s) : Evt fun n => sl22Row n s w = some (rowB s w) := by
  refine (ev_sl22Row_L0 s w (okS_le hs) s.size 0 (by omega)).mono fun n hn => ?_
  simp only [Int.natCast_zero, List.drop_zero] at hn
  simp only [sl22Row, hn, Option.bind_some, rowB]
  cases s.data.toList.all pixB <;> simp

theorem ev_sl22Ok_L0 (b : SBitmap) (hl : b.Rows.length ≤ 128) (hok : ∀ s ∈ b.Rows, okS s) : ∀ (k i : Nat), i + k = b.Rows.length → Evt fun n => sl22Ok_L0 n b i = some (if (b.Rows.drop i).all (rowB · b.Width) then .go () else .ret false)
  | 0, i, h => Evt.succ <| Evt.of fun n => by
    have h2 : ¬ (i : Int) < b.Rows.length := by omega
    simp [sl22Ok_L0, h2, List.drop_of_length_le (show b.Rows.length ≤ i by omega)]
  | k + 1, i, h => by
    have hi : i < b.Rows.length := by omega
    have e2 : w64 ((i : Int) + 1) = ((i + 1 : Nat) : Int) := by rw [w64_id] <;> omega
    have h2 : (i : Int) < b.Rows.length := by omega
    rw [List.drop_eq_getElem_cons hi]
    refine Evt.succ (((ev_sl22Row b.Rows[i] b.Width (hok _ (List.getElem_mem hi))).and (ev_sl22Ok_L0 b hl hok k (i + 1) (by omega))).mono fun n ⟨h3, hn⟩ => ?_)
    simp only [sl22Ok_L0, h2, decide_true, if_true, getI_nat hi, Option.bind_some, h3, e2, hn, List.all_cons]
    rcases Bool.eq_false_or_eq_true (rowB b.Rows[i] b.Width) with hr | hr <;> simp [hr]

theorem sl00In_eq (n : Nat) (a b c : Int) : sl00In n a b c = some (decide (b ≤ a) && decide (a ≤ c)) := by
  unfold sl00In
  by_cases h : a ≥ b
  · have : b ≤ a := h
    simp [h]
  · have : ¬ b ≤ a := h
    simp [h]

theorem ev_sl22Ok (b : SBitmap) (hok : okBitmap b) : Evt fun n => sl22Ok n b = some (bmB b) := by
  obtain ⟨-, -, -, hr, -⟩ := hok
  by_cases hl : b.Rows.length ≤ 128
  · refine (ev_sl22Ok_L0 b hl hr.2 b.Rows.length 0 (by omega)).mono fun n hn => ?_
    simp only [Int.natCast_zero, List.drop_zero] at hn
    have h1 : ¬ ((b.Rows.length : Int) > 128) := by omega
    have h2 : ((b.Rows.length : Int) == 0) = (b.Rows.length == 0) := by
      by_cases h : b.Rows.length = 0
      · simp [h]
      · have : ¬ (b.Rows.length : Int) = 0 := by omega
        rw [beq_eq_false_iff_ne.2 this, beq_eq_false_iff_ne.2 h]
    simp only [sl22Ok, sl00In_eq, Option.bind_some, h1, decide_false, Bool.false_eq_true, if_false, hn, bmB, hl, decide_true, h2]
    cases decide (-1048576 ≤ b.Left) <;> cases decide (b.Left ≤ 1048576) <;> cases decide (-1048576 ≤ b.Bottom) <;> cases decide (b.Bottom ≤ 1048576) <;> cases decide (0 ≤ b.Width) <;> cases decide (b.Width ≤ 128) <;> cases (b.Width == 0) <;> cases (b.Rows.length == 0) <;> cases (b.Rows.all (rowB · b.Width)) <;> rfl
  · refine Evt.of fun n => ?_
    have h1 : ((b.Rows.length : Int) > 128) := by omega
    simp only [sl22Ok, sl00In_eq, Option.bind_some, h1, decide_true, if_true, bmB, hl, decide_false]
    cases decide (-1048576 ≤ b.Left) <;> cases decide (b.Left ≤ 1048576) <;> cases decide (-1048576 ≤ b.Bottom) <;> cases decide (b.Bottom ≤ 1048576) <;> cases decide (0 ≤ b.Width) <;> cases decide (b.Width ≤ 128) <;> rfl

theorem drop_nil {l : List UInt8} {p : UInt8 → Bool} : l.dropWhile p = [] ↔ l.all p = true := by
  induction l with
  | nil => simp
  | cons x l ih =>
    simp only [List.dropWhile_cons, List.all_cons, Bool.and_eq_true]
    by_cases h : p x = true
    · simp [h, ih]
    · simp [h]
theorem trim_empty (l : List UInt8) : Go.Lib.trimS l [35, 46] = [] ↔ l.all pixB = true := by
  have hp : (fun b => [35, 46].contains b) = pixB := by
    funext c
    simp only [List.contains_cons, List.contains_nil, Bool.or_false, pixB]
  unfold Go.Lib.trimS Go.Lib.trimLeftS Go.Lib.trimRightS
  rw [hp, drop_nil]
  constructor
  · intro h
    rw [List.all_reverse] at h
    have hd : (l.reverse.dropWhile pixB) = [] := by
      cases hh : l.reverse.dropWhile pixB with
      | nil => rfl
      | cons x xs =>
        have h1 : pixB x = false := by
          have := List.head?_dropWhile_not pixB l.reverse
          rw [hh] at this
          simpa using this
        rw [hh] at h
        simp [h1] at h
    have := drop_nil.1 hd
    rwa [List.all_reverse] at this
  · intro h
    have : l.reverse.dropWhile pixB = [] := drop_nil.2 (by rw [List.all_reverse]; exact h)
    rw [this]; rfl

theorem iValidBitmap_1_eq (n : Nat) (s : ByteArray) (b : SBitmap) (hs : okS s) : iValidBitmap_1 n s b = some (!rowB s b.Width) := by
  unfold iValidBitmap_1 strings_Trim trimF
  have h1 : s.size ≤ 9223372036854775807 := okS_le hs
  by_cases hw : (s.size : Int) = b.Width
  · have hx : sEq (⟨(Go.Lib.trimS s.data.toList [35, 46]).toArray⟩ : ByteArray) (ByteArray.mk #[]) = s.data.toList.all pixB := by
      rw [sEq_iff]
      by_cases h : s.data.toList.all pixB = true
      · rw [h, (trim_empty _).2 h]; rfl
      · have h2 := fun e => h ((trim_empty s.data.toList).1 e)
        have h3 : s.data.toList.all pixB = false := by simpa using h
        rw [h3]
        simp only [decide_eq_false_iff_not]
        intro e
        apply h2
        have := congrArg (fun b : ByteArray => b.data.toList) e
        simpa using this
    simp only [hw, bne_self_eq_false, Bool.false_eq_true, if_false, h1, true_and, if_true, Option.bind_some, hx, rowB, BEq.rfl, Bool.and_true]
  · have h2 : ((s.size : Int) != b.Width) = true := by simpa using hw
    have h3 : ((s.size : Int) == b.Width) = false := by simpa using hw
    simp only [h2, if_true, rowB, h3, Bool.and_false, Bool.not_false]
theorem ev_iIndex_L0 (l : List ByteArray) (b : SBitmap) (hl : l.length ≤ 128) (hok : ∀ s ∈ l, okS s) : ∀ (k i : Nat), i + k = l.length →
    Evt fun n => ∃ r, slices_IndexFunc_string_iValidBitmap_1_L0 n l b l.length i = some r ∧ ((r = .go () ∧ (l.drop i).all (rowB · b.Width) = true) ∨ ∃ j : Int, r = .ret j ∧ 0 ≤ j ∧ (l.drop i).all (rowB · b.Width) = false)
  | 0, i, h => Evt.succ <| Evt.of fun n => by
    have h2 : ¬ (i : Int) < l.length := by omega
    simp [slices_IndexFunc_string_iValidBitmap_1_L0, h2, List.drop_of_length_le (show l.length ≤ i by omega)]
  | k + 1, i, h => by
    have hi : i < l.length := by omega
    have e2 : w64 ((i : Int) + 1) = ((i + 1 : Nat) : Int) := by rw [w64_id] <;> omega
    have h2 : (i : Int) < l.length := by omega
    rw [List.drop_eq_getElem_cons hi]
    refine Evt.succ ((ev_iIndex_L0 l b hl hok k (i + 1) (by omega)).mono fun n hn => ?_)
    simp only [slices_IndexFunc_string_iValidBitmap_1_L0, h2, decide_true, if_true, getI_nat hi, Option.bind_some, iValidBitmap_1_eq n l[i] b (hok _ (List.getElem_mem hi)), e2, List.all_cons]
    cases hr : rowB l[i] b.Width with
    | true => simpa using hn
    | false => exact ⟨.ret i, by simp, .inr ⟨i, rfl, by omega, by simp⟩⟩
theorem ev_iValidBitmap (b : SBitmap) (hok : okBitmap b) : Evt fun n => iValidBitmap n b = some (bmB b) := by
  obtain ⟨-, -, -, hr, -⟩ := hok
  by_cases hl : b.Rows.length ≤ 128
  · refine (ev_iIndex_L0 b.Rows b hl hr.2 b.Rows.length 0 (by omega)).mono fun n hn => ?_
    simp only [Int.natCast_zero, List.drop_zero] at hn
    have hc : slices_ContainsFunc_string_iValidBitmap_1 n b.Rows b = some (!b.Rows.all (rowB · b.Width)) := by
      unfold slices_ContainsFunc_string_iValidBitmap_1 slices_IndexFunc_string_iValidBitmap_1
      obtain ⟨r, h1, ⟨rfl, h2⟩ | ⟨j, rfl, h0, h2⟩⟩ := hn
      · simp [h1, h2]
      · have : j ≥ 0 := h0
        simp [h1, h2, this]
    have h1 : ¬ ((b.Rows.length : Int) > 128) := by omega
    have h2 : ((b.Rows.length : Int) == 0) = (b.Rows.length == 0) := by
      by_cases h : b.Rows.length = 0
      · simp [h]
      · have : ¬ (b.Rows.length : Int) = 0 := by omega
        rw [beq_eq_false_iff_ne.2 this, beq_eq_false_iff_ne.2 h]
    have m1 : decide ((if b.Bottom > b.Left then b.Bottom else b.Left) > 1048576) = !(decide (b.Left ≤ 1048576) && decide (b.Bottom ≤ 1048576)) := by
      rw [Bool.eq_iff_iff]; simp; split <;> omega
    have m2 : decide ((if b.Bottom < b.Left then b.Bottom else b.Left) < (-1048576)) = !(decide (-1048576 ≤ b.Left) && decide (-1048576 ≤ b.Bottom)) := by
      rw [Bool.eq_iff_iff]; simp; split <;> omega
    have m3 : decide (b.Width < 0) = !decide (0 ≤ b.Width) := by rw [Bool.eq_iff_iff]; simp
    have m4 : decide (b.Width > 128) = !decide (b.Width ≤ 128) := by rw [Bool.eq_iff_iff]; simp
    simp only [iValidBitmap, m1, m2, m3, m4, h1, decide_false, Bool.false_eq_true, if_false, hc, Option.bind_some, bmB, hl, decide_true, h2]
    cases decide (-1048576 ≤ b.Left) <;> cases decide (b.Left ≤ 1048576) <;> cases decide (-1048576 ≤ b.Bottom) <;> cases decide (b.Bottom ≤ 1048576) <;> cases decide (0 ≤ b.Width) <;> cases decide (b.Width ≤ 128) <;> cases (b.Width == 0) <;> cases (b.Rows.length == 0) <;> cases (b.Rows.all (rowB · b.Width)) <;> rfl
  · refine Evt.of fun n => ?_
    have h1 : ((b.Rows.length : Int) > 128) := by omega
    have hb : bmB b = false := by
      simp only [bmB, hl, decide_false, Bool.false_and, Bool.and_false]
    rw [hb]
    simp only [iValidBitmap, h1, decide_true, if_true]
    simp
end Go.V
