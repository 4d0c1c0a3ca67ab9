/- CropBitmap: the law's function answers true, whatever the bitmap. Conditions: none. -/
import Derived.Test.YtdligmjpeclkcaaDoorPf
import Derived.Test.YtdligmjpeclkcaaDoorPi
namespace Go.V
open Go Go.RowKit

/-- The black pixels of a row, and of all rows. -/
def rowP (b : SBitmap) (y : Int) : Int → Nat → List SPt
  | _, 0 => []
  | x, k + 1 => if atB b x y = true then ⟨x, y⟩ :: rowP b y (x + 1) k else rowP b y (x + 1) k
def allP (b : SBitmap) (l : Int) (w : Nat) : Int → Nat → List SPt
  | _, 0 => []
  | y, k + 1 => rowP b y l w ++ allP b l w (y + 1) k
theorem rowP_len (b : SBitmap) (y : Int) : ∀ (k : Nat) (x : Int), (rowP b y x k).length ≤ k
  | 0, _ => by simp [rowP]
  | k + 1, x => by
    have := rowP_len b y k (x + 1)
    rw [rowP]; split <;> simp <;> omega
theorem allP_len (b : SBitmap) (l : Int) (w : Nat) : ∀ (k : Nat) (y : Int), (allP b l w y k).length ≤ w * k
  | 0, _ => by simp [allP]
  | k + 1, y => by
    have h1 := rowP_len b y w l
    have h2 := allP_len b l w k (y + 1)
    rw [allP, List.length_append, Nat.mul_succ]; omega
theorem rowP_in (b : SBitmap) (y : Int) : ∀ (k : Nat) (x : Int), ∀ p ∈ rowP b y x k, x ≤ p.X ∧ p.X < x + k ∧ p.Y = y
  | 0, _, p, h => by simp [rowP] at h
  | k + 1, x, p, h => by
    rw [rowP] at h
    split at h
    · rcases List.mem_cons.1 h with rfl | h
      · exact ⟨Int.le_refl _, by show x < x + _; omega, rfl⟩
      · have := rowP_in b y k (x + 1) p h; omega
    · have := rowP_in b y k (x + 1) p h; omega
theorem allP_in (b : SBitmap) (l : Int) (w : Nat) : ∀ (k : Nat) (y : Int), ∀ p ∈ allP b l w y k, l ≤ p.X ∧ p.X < l + w ∧ y ≤ p.Y ∧ p.Y < y + k
  | 0, _, p, h => by simp [allP] at h
  | k + 1, y, p, h => by
    rw [allP] at h
    rcases List.mem_append.1 h with h | h
    · have := rowP_in b y w l p h; omega
    · have := allP_in b l w k (y + 1) p h; omega

def st4 (s : Int × Int × Int × Int) (p : SPt) : Int × Int × Int × Int := (minI s.1 p.X, minI s.2.1 p.Y, maxI s.2.2.1 (p.X + 1), maxI s.2.2.2 (p.Y + 1))
def st4b (s : Int × Int × Int × Int) (p : SPt) : Int × Int × Int × Int := (minI s.1 p.X, minI s.2.1 p.Y, maxI s.2.2.1 p.X, maxI s.2.2.2 p.Y)
def up4 (s : Int × Int × Int × Int) : Int × Int × Int × Int := (s.1, s.2.1, s.2.2.1 + 1, s.2.2.2 + 1)
theorem fold_up : ∀ (ps : List SPt) (s : Int × Int × Int × Int), ps.foldl st4 (up4 s) = up4 (ps.foldl st4b s)
  | [], _ => rfl
  | p :: ps, s => by
    have h : st4 (up4 s) p = up4 (st4b s p) := by
      have e : ∀ x y : Int, maxI (x + 1) (y + 1) = maxI x y + 1 := fun x y => by unfold maxI; split <;> split <;> omega
      simp only [st4, st4b, up4, e]
    rw [List.foldl_cons, List.foldl_cons, h, fold_up ps]
/-- The state lies within bounds. -/
def In4 (l r b t : Int) (s : Int × Int × Int × Int) : Prop := l ≤ s.1 ∧ s.1 ≤ s.2.2.1 ∧ s.2.2.1 < r ∧ b ≤ s.2.1 ∧ s.2.1 ≤ s.2.2.2 ∧ s.2.2.2 < t
theorem fold_in {l r b t : Int} : ∀ (ps : List SPt) (s : Int × Int × Int × Int), (∀ p ∈ ps, l ≤ p.X ∧ p.X < r ∧ b ≤ p.Y ∧ p.Y < t) → In4 l r b t s → In4 l r b t (ps.foldl st4b s)
  | [], _, _, h => h
  | p :: ps, s, hp, h => by
    rw [List.foldl_cons]
    refine fold_in ps _ (fun q hq => hp q (.tail _ hq)) ?_
    have := hp p (.head _)
    obtain ⟨h1, h2, h3, h4, h5, h6⟩ := h
    unfold In4 st4b minI maxI
    simp only
    refine ⟨?_, ?_, ?_, ?_, ?_, ?_⟩ <;> split <;> (try split) <;> omega

section
variable {b : SBitmap} (hb : Bm b)
include hb
theorem ev_sl34Crop_L1 (f : SL34Box) (hf : f = ⟨b.Left, b.Bottom, b.Width, b.Rows.length⟩) (y : Int) (hy : -4194304 ≤ y ∧ y ≤ 4194304) (rs : List ByteArray) : ∀ (k : Nat) (x : Int) (s : Int × Int × Int × Int), x + k = b.Left + b.Width → b.Left ≤ x →
    Evt fun n => sl34Crop_L1 n f b y rs s.1 s.2.1 s.2.2.1 s.2.2.2 x = some (.go ((rowP b y x k).foldl st4 s))
  | 0, x, s, hk, hx => Evt.succ <| Evt.of fun n => by
    obtain ⟨l1, l2, -, -, w1, w2, -, -, -, -⟩ := hb
    have e1 : w64 (f.left + f.width) = b.Left + b.Width := by rw [hf]; exact w64_id (by simp only; omega) (by simp only; omega)
    have h2 : ¬ x < b.Left + b.Width := by omega
    simp only [sl34Crop_L1, e1, h2, decide_false, Bool.false_eq_true, if_false, rowP, List.foldl_nil]
  | k + 1, x, s, hk, hx => by
    obtain ⟨l1, l2, -, -, w1, w2, -, -, -, -⟩ := id hb
    have e1 : w64 (f.left + f.width) = b.Left + b.Width := by rw [hf]; exact w64_id (by simp only; omega) (by simp only; omega)
    have h2 : x < b.Left + b.Width := by omega
    have e2 : w64 (x + 1) = x + 1 := w64_id (by omega) (by omega)
    have e3 : w64 (y + 1) = y + 1 := w64_id (by omega) (by omega)
    have mn : ∀ n x y, sl00Min n x y = some (minI x y) := fun n x y => by unfold sl00Min minI; by_cases h : x < y <;> simp [h]
    have mx : ∀ n x y, sl00Max n x y = some (maxI x y) := fun n x y => by unfold sl00Max maxI; by_cases h : x > y <;> simp [h]
    rw [rowP]
    by_cases hc : atB b x y = true
    · refine Evt.succ ((ev_sl34Crop_L1 f hf y hy rs k (x + 1) (st4 s ⟨x, y⟩) (by omega) (by omega)).mono fun n hn => ?_)
      have p := sl22At_eq hb n x y (by omega) (by omega)
      rw [if_pos hc, List.foldl_cons, ← hn]
      simp only [sl34Crop_L1, e1, h2, decide_true, if_true, p, Option.bind_some, hc, mn, mx, e2, e3, st4]
    · refine Evt.succ ((ev_sl34Crop_L1 f hf y hy rs k (x + 1) s (by omega) (by omega)).mono fun n hn => ?_)
      have p := sl22At_eq hb n x y (by omega) (by omega)
      rw [if_neg hc, ← hn]
      simp only [sl34Crop_L1, e1, h2, decide_true, if_true, p, Option.bind_some, hc, Bool.false_eq_true, if_false, e2]
theorem ev_sl34Crop_L0 (f : SL34Box) (hf : f = ⟨b.Left, b.Bottom, b.Width, b.Rows.length⟩) (rs : List ByteArray) : ∀ (k : Nat) (y : Int) (s : Int × Int × Int × Int), y + k = b.Bottom + b.Rows.length → b.Bottom ≤ y →
    Evt fun n => sl34Crop_L0 n f b rs s.1 s.2.1 s.2.2.1 s.2.2.2 y = some (.go (rs, (allP b b.Left b.Width.toNat y k).foldl st4 s))
  | 0, y, s, hk, hx => Evt.succ <| Evt.of fun n => by
    obtain ⟨-, -, b1, b2, -, -, hh, -, -, -⟩ := hb
    have e1 : w64 (f.bottom + f.height) = b.Bottom + b.Rows.length := by rw [hf]; exact w64_id (by simp only; omega) (by simp only; omega)
    have h2 : ¬ y < b.Bottom + b.Rows.length := by omega
    simp only [sl34Crop_L0, e1, h2, decide_false, Bool.false_eq_true, if_false, allP, List.foldl_nil]
  | k + 1, y, s, hk, hx => by
    obtain ⟨l1, l2, b1, b2, w1, w2, hh, -, -, -⟩ := id hb
    have e1 : w64 (f.bottom + f.height) = b.Bottom + b.Rows.length := by rw [hf]; exact w64_id (by simp only; omega) (by simp only; omega)
    have h2 : y < b.Bottom + b.Rows.length := by omega
    have e2 : w64 (y + 1) = y + 1 := w64_id (by omega) (by omega)
    have fl : f.left = b.Left := by rw [hf]
    refine Evt.succ (((ev_sl34Crop_L1 hb f hf y (by omega) rs b.Width.toNat b.Left s (by omega) (by omega)).and (ev_sl34Crop_L0 f hf rs k (y + 1) ((rowP b y b.Left b.Width.toNat).foldl st4 s) (by omega) (by omega))).mono fun n ⟨h3, h4⟩ => ?_)
    rw [allP, List.foldl_append, ← h4]
    simp only [sl34Crop_L0, e1, h2, decide_true, if_true, fl, h3, Option.bind_some, e2]
theorem ev_iCropBitmap_L1 (f : SPixelArea) (hf : f = ⟨b.Left, b.Bottom, b.Width, b.Rows.length⟩) (y : Int) (hy : -4194304 ≤ y ∧ y ≤ 4194304) (rs : List ByteArray) : ∀ (k : Nat) (x : Int) (acc : List SPt), x + k = b.Left + b.Width → b.Left ≤ x → acc.length + k ≤ 1048576 →
    Evt fun n => iCropBitmap_L1 n f b y rs acc x = some (.go (acc ++ rowP b y x k))
  | 0, x, s, hk, hx, ha => Evt.succ <| Evt.of fun n => by
    obtain ⟨l1, l2, -, -, w1, w2, -, -, -, -⟩ := hb
    have e1 : w64 (f.left + f.width) = b.Left + b.Width := by rw [hf]; exact w64_id (by simp only; omega) (by simp only; omega)
    have h2 : ¬ x < b.Left + b.Width := by omega
    simp only [iCropBitmap_L1, e1, h2, decide_false, Bool.false_eq_true, if_false, rowP, List.append_nil]
  | k + 1, x, acc, hk, hx, ha => by
    obtain ⟨l1, l2, -, -, w1, w2, -, -, -, -⟩ := id hb
    have e1 : w64 (f.left + f.width) = b.Left + b.Width := by rw [hf]; exact w64_id (by simp only; omega) (by simp only; omega)
    have h2 : x < b.Left + b.Width := by omega
    have e2 : w64 (x + 1) = x + 1 := w64_id (by omega) (by omega)
    rw [rowP]
    by_cases hc : atB b x y = true
    · refine Evt.succ ((ev_iCropBitmap_L1 f hf y hy rs k (x + 1) (acc ++ [⟨x, y⟩]) (by omega) (by omega) (by simp; omega)).mono fun n hn => ?_)
      have p := ipixelAt_eq hb n x y (by omega) (by omega)
      have hl : (acc.length + ([(SPt.mk x y)]).length) * 16 ≤ 140737488355328 := by simp only [List.length_cons, List.length_nil]; omega
      rw [List.append_assoc, List.singleton_append] at hn
      rw [if_pos hc, ← hn]
      simp only [iCropBitmap_L1, e1, h2, decide_true, if_true, p, Option.bind_some, hc, if_pos hl, e2]
    · refine Evt.succ ((ev_iCropBitmap_L1 f hf y hy rs k (x + 1) acc (by omega) (by omega) (by omega)).mono fun n hn => ?_)
      have p := ipixelAt_eq hb n x y (by omega) (by omega)
      rw [if_neg hc, ← hn]
      simp only [iCropBitmap_L1, e1, h2, decide_true, if_true, p, Option.bind_some, hc, Bool.false_eq_true, if_false, e2]
theorem ev_iCropBitmap_L0 (f : SPixelArea) (hf : f = ⟨b.Left, b.Bottom, b.Width, b.Rows.length⟩) (q : Bool) (rs : List ByteArray) : ∀ (k : Nat) (y : Int) (acc : List SPt), y + k = b.Bottom + b.Rows.length → b.Bottom ≤ y → acc.length + 128 * k ≤ 1048000 →
    Evt fun n => iCropBitmap_L0 n f b q rs acc y = some (.go (rs, acc ++ allP b b.Left b.Width.toNat y k))
  | 0, y, s, hk, hx, ha => Evt.succ <| Evt.of fun n => by
    obtain ⟨-, -, b1, b2, -, -, hh, -, -, -⟩ := hb
    have e1 : w64 (f.bottom + f.height) = b.Bottom + b.Rows.length := by rw [hf]; exact w64_id (by simp only; omega) (by simp only; omega)
    have h2 : ¬ y < b.Bottom + b.Rows.length := by omega
    simp only [iCropBitmap_L0, e1, h2, decide_false, Bool.false_eq_true, if_false, allP, List.append_nil]
  | k + 1, y, acc, hk, hx, ha => by
    obtain ⟨l1, l2, b1, b2, w1, w2, hh, -, -, -⟩ := id hb
    have e1 : w64 (f.bottom + f.height) = b.Bottom + b.Rows.length := by rw [hf]; exact w64_id (by simp only; omega) (by simp only; omega)
    have h2 : y < b.Bottom + b.Rows.length := by omega
    have e2 : w64 (y + 1) = y + 1 := w64_id (by omega) (by omega)
    have fl : f.left = b.Left := by rw [hf]
    have hr := rowP_len b y b.Width.toNat b.Left
    refine Evt.succ (((ev_iCropBitmap_L1 hb f hf y (by omega) rs b.Width.toNat b.Left acc (by omega) (by omega) (by omega)).and (ev_iCropBitmap_L0 f hf q rs k (y + 1) (acc ++ rowP b y b.Left b.Width.toNat) (by omega) (by omega) (by simp; omega))).mono fun n ⟨h3, h4⟩ => ?_)
    rw [allP, ← List.append_assoc, ← h4]
    simp only [iCropBitmap_L0, e1, h2, decide_true, if_true, fl, h3, Option.bind_some, e2]
end

theorem ev_iboundsOf_L0 (l : List SPt) (hl : l.length ≤ 1048576) : ∀ (k i : Nat) (s : Int × Int × Int × Int), i + k = l.length → Evt fun n => iboundsOf_L0 n s.1 s.2.1 s.2.2.1 s.2.2.2 l l.length i = some (.go ((l.drop i).foldl st4b s))
  | 0, i, s, hk => Evt.succ <| Evt.of fun n => by
    have h2 : ¬ (i : Int) < l.length := by omega
    simp only [iboundsOf_L0, h2, decide_false, Bool.false_eq_true, if_false, List.drop_of_length_le (show l.length ≤ i by omega), List.foldl_nil]
  | k + 1, i, s, hk => by
    have hi : i < l.length := by omega
    have h2 : (i : Int) < l.length := by omega
    have e3 : w64 ((i : Int) + 1) = ((i + 1 : Nat) : Int) := by rw [w64_id] <;> omega
    refine Evt.succ ((ev_iboundsOf_L0 l hl k (i + 1) (st4b s l[i]) (by omega)).mono fun n hn => ?_)
    rw [List.drop_eq_getElem_cons hi, List.foldl_cons, ← hn]
    simp only [iboundsOf_L0, h2, decide_true, if_true, getI_nat hi, Option.bind_some, e3, st4b, min_eq, max_eq]
theorem ev_iboundsOf (p : SPt) (ps : List SPt) (hl : ps.length ≤ 1048570) : Evt fun n => iboundsOf n (p :: ps) = some (⟨(ps.foldl st4b (p.X, p.Y, p.X, p.Y)).1, (ps.foldl st4b (p.X, p.Y, p.X, p.Y)).2.1⟩, ⟨(ps.foldl st4b (p.X, p.Y, p.X, p.Y)).2.2.1, (ps.foldl st4b (p.X, p.Y, p.X, p.Y)).2.2.2⟩) := by
  have i1 := ev_iboundsOf_L0 ps (by omega) ps.length 0 (p.X, p.Y, p.X, p.Y) (by omega)
  simp only [Int.natCast_zero, List.drop_zero] at i1
  refine i1.mono fun n h => ?_
  have hg : getI (p :: ps) 0 = some p := rfl
  have hc : cutL (p :: ps) 1 (((p :: ps).length : Nat) : Int) = ps := by simp [cutL]
  have hd : (0 : Int) ≤ 1 ∧ 1 ≤ ((p :: ps).length : Int) ∧ ((p :: ps).length : Int) ≤ ((p :: ps).length : Int) := by simp only [List.length_cons]; omega
  simp only [iboundsOf, hg, Option.bind_some, if_pos hd, hc, h]

def crS : ByteArray := ByteArray.mk #[46, 46, 46, 35]
def crBox (b : SBitmap) (s : Int × Int × Int × Int) : SBitmap := ⟨s.1, s.2.1, s.2.2.1 - s.1 + 1, rowsD (sgn crS b b) s.1 s.2.1 (s.2.2.1 - s.1 + 1).toNat (s.2.2.2 - s.2.1 + 1).toNat⟩
/-- What both answer. -/
def crOf (b : SBitmap) : List SPt → SBitmap
  | [] => ⟨0, 0, 0, []⟩
  | p :: ps => crBox b (ps.foldl st4b (p.X, p.Y, p.X, p.Y))
def crOut (b : SBitmap) : SBitmap × Int := if bmB b = true then (crOf b (allP b b.Left b.Width.toNat b.Bottom b.Rows.length), 0) else (⟨0, 0, 0, []⟩, 1)
theorem cr_in {b : SBitmap} (hb : Bm b) {p : SPt} {ps : List SPt} (h : allP b b.Left b.Width.toNat b.Bottom b.Rows.length = p :: ps) : In4 b.Left (b.Left + b.Width) b.Bottom (b.Bottom + b.Rows.length) (ps.foldl st4b (p.X, p.Y, p.X, p.Y)) ∧ p.X < b.Left + b.Width ∧ p.Y < b.Bottom + b.Rows.length ∧ b.Left ≤ p.X ∧ b.Bottom ≤ p.Y := by
  have w1 := hb.w1
  have key : ∀ q ∈ p :: ps, b.Left ≤ q.X ∧ q.X < b.Left + b.Width ∧ b.Bottom ≤ q.Y ∧ q.Y < b.Bottom + b.Rows.length := fun q hq => by
    have := allP_in b b.Left b.Width.toNat b.Rows.length b.Bottom q (by rw [h]; exact hq)
    omega
  have hp := key p (.head _)
  refine ⟨fold_in ps _ (fun q hq => key q (.tail _ hq)) ?_, by omega, by omega, by omega, by omega⟩
  unfold In4; simp only; omega
theorem crOut_rows (b : SBitmap) : (crOut b).1.Rows.length ≤ 128 := by
  unfold crOut
  split
  · rename_i h
    have hb := bm_of h
    have hh := hb.h
    cases hl : allP b b.Left b.Width.toNat b.Bottom b.Rows.length with
    | nil => simp [crOf]
    | cons p ps =>
      obtain ⟨⟨h1, h2, h3, h4, h5, h6⟩, -⟩ := cr_in hb hl
      simp only [crOf, crBox, rowsD_length]
      omega
  · simp

theorem ev_sCropBitmap {b : SBitmap} (ho : okBitmap b) : Evt fun n => sCropBitmap n b = some (crOut b) := by
  unfold crOut
  cases h1 : bmB b with
  | false =>
    refine (ev_sl22Ok b ho).mono fun n h => ?_
    rw [h1] at h
    simp only [sCropBitmap, h, Option.bind_some, Bool.not_false, if_true, Bool.false_eq_true, if_false]
  | true =>
    have hb := bm_of h1
    obtain ⟨l1, l2, b1, b2, w1, w2, hh, -, -, -⟩ := id hb
    have hv := ev_sl22Ok b ho
    rw [h1] at hv
    have e1 : w64 (b.Left + b.Width) = b.Left + b.Width := w64_id (by omega) (by omega)
    have e2 : w64 (b.Bottom + b.Rows.length) = b.Bottom + b.Rows.length := w64_id (by omega) (by omega)
    have i1 := ev_sl34Crop_L0 hb ⟨b.Left, b.Bottom, b.Width, b.Rows.length⟩ rfl [] b.Rows.length b.Bottom (b.Left + b.Width, b.Bottom + b.Rows.length, b.Left, b.Bottom) (by omega) (by omega)
    cases hl : allP b b.Left b.Width.toNat b.Bottom b.Rows.length with
    | nil =>
      rw [hl] at i1
      refine (hv.and i1).mono fun n ⟨h, h2⟩ => ?_
      have c1 : b.Left ≤ b.Left + b.Width := by omega
      simp only [List.foldl_nil] at h2
      simp only [sCropBitmap, h, Option.bind_some, Bool.not_true, Bool.false_eq_true, if_false, sl34Crop, sl34Of, e1, e2, h2, c1, decide_true, if_true, crOf]
    | cons p ps =>
      obtain ⟨⟨h1', h2', h3', h4', h5', h6'⟩, q1, q2, q3, q4⟩ := cr_in hb hl
      rw [hl, List.foldl_cons] at i1
      have hs : st4 (b.Left + b.Width, b.Bottom + b.Rows.length, b.Left, b.Bottom) p = up4 (p.X, p.Y, p.X, p.Y) := by
        unfold st4 up4 minI maxI
        simp only
        rw [if_neg (by omega), if_neg (by omega), if_neg (by omega), if_neg (by omega)]
      rw [hs, fold_up] at i1
      simp only [crOf]
      generalize ps.foldl st4b (p.X, p.Y, p.X, p.Y) = s at *
      have e3 : w64 (s.2.2.1 + 1 - s.1) = s.2.2.1 - s.1 + 1 := by rw [w64_id] <;> omega
      have e4 : w64 (s.2.2.2 + 1 - s.2.1) = s.2.2.2 - s.2.1 + 1 := by rw [w64_id] <;> omega
      have i2 := ev_sl34Signs hb hb (f := ⟨s.1, s.2.1, s.2.2.1 - s.1 + 1, s.2.2.2 - s.2.1 + 1⟩) (s := crS) (by simp only; omega) (by simp only; omega) (by simp only; omega) (by simp only; omega) rfl
      refine (hv.and (i1.and i2)).mono fun n ⟨h, h2, h3⟩ => ?_
      have c1 : ¬ s.2.2.1 + 1 ≤ s.1 := by omega
      have h3'' : sl34Signs n b b ⟨s.1, s.2.1, s.2.2.1 - s.1 + 1, s.2.2.2 - s.2.1 + 1⟩ (ByteArray.mk #[46, 46, 46, 35]) = _ := h3
      simp only [up4] at h2
      simp only [sCropBitmap, h, Option.bind_some, Bool.not_true, Bool.false_eq_true, if_false, sl34Crop, sl34Of, e1, e2, h2, c1, decide_false, e3, e4, h3'', if_true, crBox]

theorem pix_cr {b : SBitmap} (hb : Bm b) : PixR b (sgn crS b b) := fun n x y hx hy => by
  have p1 := ipixelAt_eq hb n x y hx hy
  simp only [iCropBitmap_1, p1, Option.bind_some, sgn, iinkByte]
  cases atB b x y <;> rfl

theorem ev_iCropBitmap {b : SBitmap} (ho : okBitmap b) : Evt fun n => iCropBitmap n b = some (crOut b) := by
  unfold crOut
  cases h1 : bmB b with
  | false =>
    refine (ev_iValidBitmap b ho).mono fun n h => ?_
    rw [h1] at h
    simp only [iCropBitmap, h, Option.bind_some, Bool.not_false, if_true, Bool.false_eq_true, if_false]
  | true =>
    have hb := bm_of h1
    obtain ⟨l1, l2, b1, b2, w1, w2, hh, -, -, -⟩ := id hb
    have hv := ev_iValidBitmap b ho
    rw [h1] at hv
    have hlen := allP_len b b.Left b.Width.toNat b.Rows.length b.Bottom
    have hlen2 : b.Width.toNat * b.Rows.length ≤ 128 * 128 := Nat.mul_le_mul (by omega) hh
    have i1 := ev_iCropBitmap_L0 hb ⟨b.Left, b.Bottom, b.Width, b.Rows.length⟩ rfl true [] b.Rows.length b.Bottom [] (by omega) (by omega) (by simp; omega)
    rw [List.nil_append] at i1
    cases hl : allP b b.Left b.Width.toNat b.Bottom b.Rows.length with
    | nil =>
      rw [hl] at i1
      refine (hv.and i1).mono fun n ⟨h, h2⟩ => ?_
      have c0 : (((([] : List SPt).length : Nat) : Int) == 0) = true := rfl
      simp only [iCropBitmap, ibitmapFrame, h, Option.bind_some, Bool.not_true, Bool.false_eq_true, if_false, h2, c0, if_true, crOf]
    | cons p ps =>
      obtain ⟨⟨h1', h2', h3', h4', h5', h6'⟩, q1, q2, q3, q4⟩ := cr_in hb hl
      rw [hl] at i1 hlen
      simp only [List.length_cons] at hlen
      have i3 := ev_iboundsOf p ps (by omega)
      simp only [crOf]
      generalize ps.foldl st4b (p.X, p.Y, p.X, p.Y) = s at *
      have e3 : w64 (s.2.2.1 - s.1) = s.2.2.1 - s.1 := by rw [w64_id] <;> omega
      have e4 : w64 (s.2.2.2 - s.2.1) = s.2.2.2 - s.2.1 := by rw [w64_id] <;> omega
      have e5 : w64 (s.2.2.1 - s.1 + 1) = s.2.2.1 - s.1 + 1 := by rw [w64_id] <;> omega
      have e6 : w64 (s.2.2.2 - s.2.1 + 1) = s.2.2.2 - s.2.1 + 1 := by rw [w64_id] <;> omega
      have i2 := ev_drawFrame_CropBitmap (f := ⟨s.1, s.2.1, s.2.2.1 - s.1 + 1, s.2.2.2 - s.2.1 + 1⟩) (pix_cr hb) (by simp only; omega) (by simp only; omega) (by simp only; omega) (by simp only; omega)
      refine (hv.and (i1.and (i3.and i2))).mono fun n ⟨h, h2, h3, h4⟩ => ?_
      have c0 : ((((p :: ps).length : Nat) : Int) == 0) = false := by
        rw [beq_eq_false_iff_ne]; simp only [List.length_cons]; omega
      simp only [iCropBitmap, ibitmapFrame, h, Option.bind_some, Bool.not_true, Bool.false_eq_true, if_false, h2, c0, h3, e3, e4, e5, e6, h4, if_true, crBox]

theorem lFnExactCropBitmap_true (b : SBitmap) (ho : okBitmap b) : ∃ n, lFnExactCropBitmap n b = some true := by
  refine Evt.ex ?_
  by_cases hsa : (b.Rows.length + szS b.Rows : Int) ≤ 1048576
  · have h1 := ev_lszBitmap b 1048576 ho (by omega) (by omega)
    rw [if_pos hsa] at h1
    have d1 : ¬ (1048576 - (b.Rows.length + szS b.Rows : Int)) < 0 := by omega
    have hr := crOut_rows b
    have d2 : ¬ ((1 : Int) + (b.Rows.length : Int) < 0) := by omega
    have d3 : ¬ ((1 : Int) + ((crOut b).1.Rows.length : Int) < 0) := by omega
    refine (h1.and ((ev_ltoBitmap b (by omega)).and ((ev_sCropBitmap ho).and ((ev_iCropBitmap ho).and ((ev_leqBitmap_self (crOut b).1 (by omega)).and ((ev_leqBitmap_self b (by omega)).and ((ev_lmarkBitmap b (by omega) 1 (by omega) (by omega)).and ((ev_lmarkBitmap (crOut b).1 (by omega) 1 (by omega) (by omega)).and
      (ev_lheldBitmap ⟨(crOut b).1.Left, (crOut b).1.Bottom, (crOut b).1.Width, marks 1 (crOut b).1.Rows.length⟩ (crOut b).1.Rows.length 1 (by omega) (by omega) (by omega) rfl))))))))).mono fun n ⟨e1, e2, e3, e4, e5, e6, e7, e8, e9⟩ => ?_
    simp only [lFnExactCropBitmap, e1, e2, e3, e4, e5, e6, e7, e8, e9, Option.bind_some, d1, d2, d3, decide_false, Bool.false_eq_true, if_false, bne_self_eq_false, Bool.not_true]
  · have h1 := ev_lszBitmap b 1048576 ho (by omega) (by omega)
    rw [if_neg hsa] at h1
    refine h1.mono fun n e1 => ?_
    simp only [lFnExactCropBitmap, e1, Option.bind_some]
    rfl
end Go.V
