/- The typed functions and their contracts. Conditions: none. -/
import Derived.Test.YtdligmjpeclkcaaDoorVh
import Derived.Test.YtdligmjpeclkcaaDoorProg
import Derived.Test.YtdligmjpeclkcaaDoorS
import Derived.Shelf.Strings.SlTrimAscii
set_option maxRecDepth 100000
set_option linter.unusedVariables false
set_option maxHeartbeats 1000000
namespace Go.V
open Go Go.RowKit Go.Proofs
def cLStr (m : Bool) (x : List ByteArray) : List T := [.sl m 1 (x.map (cS m))]

structure SBitmap where
  Left : Int
  Bottom : Int
  Width : Int
  Rows : List ByteArray

def cBitmap (m : Bool) (x : SBitmap) : List T := [.sc (.int .i64 x.Left), .sc (.int .i64 x.Bottom), .sc (.int .i64 x.Width), .sl m 1 (x.Rows.map (cS m))]

-- lszStringS: loop.example/g00883/laws.szStringS
def lszStringS_L0 : Nat → (List ByteArray) → Int → Int → Option (Out (Int) (Int))
  | 0, _, _, _ => none
  | n + 1, a0, v1, v5 => (if (decide (v5 < (a0.length : Int))) = true then ((getI a0 v5).bind fun x => (if (decide ((w64 (v1 - (x.size : Int))) < 0)) = true then some (.ret (-1)) else lszStringS_L0 n a0 (w64 (v1 - (x.size : Int))) (w64 (v5 + 1)))) else some (.go v1))

theorem lszStringS_L0_ok {G0 : Nat → Own} {w0 : World} {Q : Exit → St → Prop} {a0 : List ByteArray} {out : (Out (Int) (Int))}
    (hQ : match out with | .go q1 => ∀ st, FN st [(1, pI .i64 q1)] → Q (.exit 0) st | .brk _ _ => True | .ret r => ∀ st, Fits st [(4, .val false (((cI .i64) true r).map .t))] → Q .ret st)
    {n : Nat} {v1 : Int} {v5 : Int} (h : lszStringS_L0 n a0 v1 v5 = some out) :
    ∀ st, FN st [(0, .val false [.t (.sl false 1 (a0.map (cS false)))]), (1, pI .i64 v1), (5, pI .i64 v5)] → W ⟨Tryd.prog, 28, [], G0, w0⟩ (.loop (bodyAt Tryd.f23 [1, 1, 1, 0, 1, 0, 0])) st Q := by
  intro st hst
  refine W_loop (fun n st => ∃ v1 v5, lszStringS_L0 n a0 v1 v5 = some out ∧ FN st [(0, .val false [.t (.sl false 1 (a0.map (cS false)))]), (1, pI .i64 v1), (5, pI .i64 v5)]) ?_ (n := n) ⟨v1, v5, h, hst⟩
  clear h hst st n v1 v5
  rintro n st ⟨v1, v5, h, hst⟩
  refine W_fn hst rfl ?_
  cases n with
  | zero => cases h
  | succ n =>
    rw [lszStringS_L0] at h
    refine W_seq ?_
    refine W_seq ?_
    refine W_text ?_
    refine dq (ps := [(12, pI .i64 v5)]) rfl rfl rfl ?_
    refine dq (ps := [(13, .val false [.t (.sl false 1 (a0.map (cS false)))])]) rfl rfl rfl ?_
    refine dLen (t := 22) (n := (a0.length : Int)) rfl (ltF rfl) rfl rfl (lenE rfl (List.length_map ..)) rfl ?_
    refine dq (ps := [(15, pB (decide (v5 < (a0.length : Int))))]) rfl rfl rfl ?_
    refine DL_nil ?_
    refine W_split ⟨ltF rfl, rfl⟩ (fun hb => ?_) (fun hb => ?_)
    · replace h := ite_yes hb h
      refine W_skip ?_
      refine W_seq ?_
      refine W_block ?_
      refine W_seq ?_
      refine W_text ?_
      refine dq (ps := [(18, pI .i64 v1)]) rfl rfl rfl ?_
      refine dq (ps := [(19, .val false [.t (.sl false 1 (a0.map (cS false)))])]) rfl rfl rfl ?_
      refine dq (ps := [(20, pI .i64 v5)]) rfl rfl rfl ?_
      obtain ⟨x, hx, h⟩ := bind_some h
      refine dIxA rfl rfl rfl rfl rfl (getI_map (cS false) hx) rfl ?_
      refine dq (ps := [(22, pS x)]) rfl rfl rfl ?_
      refine dLen (t := 9) (n := (x.size : Int)) rfl (ltF rfl) rfl rfl rfl rfl ?_
      refine dq (ps := [(24, pI .i64 (w64 (v1 - (x.size : Int))))]) rfl rfl rfl ?_
      refine dq (ps := [(1, pI .i64 (w64 (v1 - (x.size : Int))))]) rfl rfl rfl ?_
      refine DL_nil ?_
      refine W_fn (l := [(0, .val false [.t (.sl false 1 (a0.map (cS false)))]), (1, pI .i64 (w64 (v1 - (x.size : Int)))), (5, pI .i64 v5)]) (nC rfl (nC rfl (nC rfl nN))) rfl ?_
      refine W_seq ?_
      refine W_text ?_
      refine dq (ps := [(25, pI .i64 (w64 (v1 - (x.size : Int))))]) rfl rfl rfl ?_
      refine dq (ps := [(26, pB (decide ((w64 (v1 - (x.size : Int))) < 0)))]) rfl rfl rfl ?_
      refine DL_nil ?_
      refine W_split ⟨ltF rfl, rfl⟩ (fun hb => ?_) (fun hb => ?_)
      · replace h := ite_yes hb h
        refine W_seq ?_
        refine W_text ?_
        refine dq (ps := [(4, pI .i64 (-1))]) rfl rfl rfl ?_
        refine DL_nil ?_
        refine W_ret ?_
        cases h
        exact hQ _ (fC rfl rfl fN)
      · replace h := ite_no hb h
        refine W_skip ?_
        refine W_text ?_
        refine dq (ps := [(16, pI .i64 v5)]) rfl rfl rfl ?_
        refine dq (ps := [(17, pI .i64 (w64 (v5 + 1)))]) rfl rfl rfl ?_
        refine dq (ps := [(5, pI .i64 (w64 (v5 + 1)))]) rfl rfl rfl ?_
        refine DL_nil ?_
        exact ⟨n, Nat.lt_succ_self n, _, _,  h, (nC rfl (nC rfl (nC rfl nN)))⟩
    · replace h := ite_no hb h
      refine W_exit ?_
      cases h
      exact hQ _ (nC rfl nN)

def lszStringS (n : Nat) (a0 : List ByteArray) (a1 : Int) : Option (Int) :=
  (if (decide ((w64 (a1 - (a0.length : Int))) < 0)) = true then some (-1) else ((lszStringS_L0 n a0 (w64 (a1 - (a0.length : Int))) 0).bind fun o => (match o with | .go q1_1 => some q1_1 | .brk _ _ => none | .ret r => some r)))

theorem vc_lszStringS (n : Nat) (a0 : List ByteArray) (a1 : Int) (r : Int) (h : lszStringS n a0 a1 = some r) : VC Tryd.prog 23 [.sh false (cLStr false a0), .sh false ((cI .i64) false a1)] [(false, (cI .i64) true r)] [] := by
  refine VC_of 28 Tryd.func23 rfl rfl rfl fun G0 w0 pv => ?_
  unfold lszStringS at h
  refine W_seq ?_
  refine W_text ?_
  refine dq (ps := [(4, pI .i64 0)]) rfl rfl rfl ?_
  refine DL_nil ?_
  refine W_seq ?_
  refine W_text ?_
  refine dq (ps := [(6, pI .i64 a1)]) rfl rfl rfl ?_
  refine dq (ps := [(7, .val false [.t (.sl false 1 (a0.map (cS false)))])]) rfl rfl rfl ?_
  refine dLen (t := 22) (n := (a0.length : Int)) rfl (ltF rfl) rfl rfl (lenE rfl (List.length_map ..)) rfl ?_
  refine dq (ps := [(9, pI .i64 (w64 (a1 - (a0.length : Int))))]) rfl rfl rfl ?_
  refine dq (ps := [(1, pI .i64 (w64 (a1 - (a0.length : Int))))]) rfl rfl rfl ?_
  refine DL_nil ?_
  refine W_seq ?_
  refine W_seq ?_
  refine W_text ?_
  refine dq (ps := [(10, pI .i64 (w64 (a1 - (a0.length : Int))))]) rfl rfl rfl ?_
  refine dq (ps := [(11, pB (decide ((w64 (a1 - (a0.length : Int))) < 0)))]) rfl rfl rfl ?_
  refine DL_nil ?_
  refine W_split ⟨ltF rfl, rfl⟩ (fun hb => ?_) (fun hb => ?_)
  · replace h := ite_yes hb h
    refine W_seq ?_
    refine W_text ?_
    refine dq (ps := [(4, pI .i64 (-1))]) rfl rfl rfl ?_
    refine DL_nil ?_
    refine W_ret ?_
    cases h
    exact ⟨.inr rfl, leaves_of [.tmp 4] rfl (by decide) (.tmp (ltF rfl) rfl .nil)⟩
  · replace h := ite_no hb h
    refine W_skip ?_
    refine W_seq ?_
    refine W_seq ?_
    refine W_text ?_
    refine dq (ps := [(5, pI .i64 0)]) rfl rfl rfl ?_
    refine DL_nil ?_
    refine W_block ?_
    obtain ⟨o, ho, h⟩ := bind_some h
    refine lszStringS_L0_ok ?_ ho _ (nC rfl (nC rfl (nC rfl nN)))
    rcases o with q1_1 | ⟨j, p⟩ | r
    · skip
      dsimp only at h ⊢
      intro st hst
      refine W_fn hst rfl ?_
      refine W_seq ?_
      refine W_text ?_
      refine dq (ps := [(27, pI .i64 q1_1)]) rfl rfl rfl ?_
      refine dq (ps := [(4, pI .i64 q1_1)]) rfl rfl rfl ?_
      refine DL_nil ?_
      refine W_ret ?_
      cases h
      exact ⟨.inr rfl, leaves_of [.tmp 4] rfl (by decide) (.tmp (ltF rfl) rfl .nil)⟩
    · exact trivial
    · dsimp only at h ⊢
      intro st hst
      cases h
      exact ⟨.inr rfl, leaves_of [.tmp 4] rfl (by decide) (.tmp (ltF rfl) (hst.at (s := 4) rfl rfl) .nil)⟩

-- lszBitmap: loop.example/g00883/laws.szBitmap
def lszBitmap (n : Nat) (a0 : SBitmap) (a1 : Int) : Option (Int) :=
  ((lszStringS n a0.Rows a1).bind fun r => (if (decide (r < 0)) = true then some (-1) else some r))

theorem vc_lszBitmap (n : Nat) (a0 : SBitmap) (a1 : Int) (r : Int) (h : lszBitmap n a0 a1 = some r) : VC Tryd.prog 6 [.sh true (cBitmap false a0), .sh false ((cI .i64) false a1)] [(false, (cI .i64) true r)] [] := by
  refine VC_of 12 Tryd.func6 rfl rfl rfl fun G0 w0 pv => ?_
  unfold lszBitmap at h
  refine W_seq ?_
  refine W_text ?_
  refine dBox (ts := (cBitmap false a0)) rfl rfl rfl rfl rfl ?_
  refine dq (ps := [(4, pI .i64 0)]) rfl rfl rfl ?_
  refine DL_nil ?_
  refine W_seq ?_
  refine W_text ?_
  refine dFaB rfl rfl (ltF rfl) rfl rfl rfl rfl rfl rfl ?_
  refine dq (ps := [(6, .val false [.t (.sl false 1 (a0.Rows.map (cS false)))])]) rfl rfl rfl ?_
  refine dq (ps := [(7, pI .i64 a1)]) rfl rfl rfl ?_
  obtain ⟨r, hr, h⟩ := bind_some h
  refine dCall (gn := 23) (fn := Tryd.f23) (cp := []) (lt := []) [6, 7] (vc_lszStringS n a0.Rows a1 _ hr) Tryd.func23 rfl rfl rfl rfl (.inl rfl) (.inl rfl) (fun st2 h2 => ⟨rfl, args_of0 (.cons (aF (ltF rfl) ((congrArg Slot.sv (h2 6 (by decide))).trans rfl) rfl) (.cons (aF (ltF rfl) ((congrArg Slot.sv (h2 7 (by decide))).trans rfl) rfl) .nil))⟩) rfl ?_
  refine dq (ps := [(1, pI .i64 r)]) rfl rfl rfl ?_
  refine DL_nil ?_
  refine W_seq ?_
  refine W_seq ?_
  refine W_text ?_
  refine dq (ps := [(9, pI .i64 r)]) rfl rfl rfl ?_
  refine dq (ps := [(10, pB (decide (r < 0)))]) rfl rfl rfl ?_
  refine DL_nil ?_
  refine W_split ⟨ltF rfl, rfl⟩ (fun hb => ?_) (fun hb => ?_)
  · replace h := ite_yes hb h
    refine W_seq ?_
    refine W_text ?_
    refine dq (ps := [(4, pI .i64 (-1))]) rfl rfl rfl ?_
    refine DL_nil ?_
    refine W_ret ?_
    cases h
    exact ⟨.inr rfl, leaves_of [.tmp 4] rfl (by decide) (.tmp (ltF rfl) rfl .nil)⟩
  · replace h := ite_no hb h
    refine W_skip ?_
    refine W_seq ?_
    refine W_text ?_
    refine dq (ps := [(11, pI .i64 r)]) rfl rfl rfl ?_
    refine dq (ps := [(4, pI .i64 r)]) rfl rfl rfl ?_
    refine DL_nil ?_
    refine W_ret ?_
    cases h
    exact ⟨.inr rfl, leaves_of [.tmp 4] rfl (by decide) (.tmp (ltF rfl) rfl .nil)⟩

-- ltoStringS: loop.example/g00883/laws.toStringS
def ltoStringS_L0 : Nat → (List ByteArray) → (List ByteArray) → Int → Option (Out (List ByteArray) (List ByteArray))
  | 0, _, _, _ => none
  | n + 1, a0, v3, v4 => (if (decide (v4 < (a0.length : Int))) = true then ((getI a0 v4).bind fun x => ((getI v3 v4).bind fun x_1 => ltoStringS_L0 n a0 (v3.set v4.toNat x) (w64 (v4 + 1)))) else some (.go v3))

theorem ltoStringS_L0_ok {G0 : Nat → Own} {w0 : World} {Q : Exit → St → Prop} {a0 : List ByteArray} {out : (Out (List ByteArray) (List ByteArray))}
    (hQ : match out with | .go q3 => ∀ st, FN st [(3, .val false [.t (.sl true 1 (q3.map (cS true)))])] → Q (.exit 0) st | .brk _ _ => True | .ret r => ∀ st, Fits st [(2, .val false ((cLStr true r).map .t))] → Q .ret st)
    {n : Nat} {v3 : List ByteArray} {v4 : Int} (h : ltoStringS_L0 n a0 v3 v4 = some out) :
    ∀ st, FN st [(0, .val false [.t (.sl false 1 (a0.map (cS false)))]), (3, .val false [.t (.sl true 1 (v3.map (cS true)))]), (4, pI .i64 v4)] → W ⟨Tryd.prog, 22, [], G0, w0⟩ (.loop (bodyAt Tryd.f26 [1, 1, 0, 1, 0, 0])) st Q := by
  intro st hst
  refine W_loop (fun n st => ∃ v3 v4, ltoStringS_L0 n a0 v3 v4 = some out ∧ FN st [(0, .val false [.t (.sl false 1 (a0.map (cS false)))]), (3, .val false [.t (.sl true 1 (v3.map (cS true)))]), (4, pI .i64 v4)]) ?_ (n := n) ⟨v3, v4, h, hst⟩
  clear h hst st n v3 v4
  rintro n st ⟨v3, v4, h, hst⟩
  refine W_fn hst rfl ?_
  cases n with
  | zero => cases h
  | succ n =>
    rw [ltoStringS_L0] at h
    refine W_seq ?_
    refine W_seq ?_
    refine W_text ?_
    refine dq (ps := [(8, pI .i64 v4)]) rfl rfl rfl ?_
    refine dq (ps := [(9, .val false [.t (.sl false 1 (a0.map (cS false)))])]) rfl rfl rfl ?_
    refine dLen (t := 22) (n := (a0.length : Int)) rfl (ltF rfl) rfl rfl (lenE rfl (List.length_map ..)) rfl ?_
    refine dq (ps := [(11, pB (decide (v4 < (a0.length : Int))))]) rfl rfl rfl ?_
    refine DL_nil ?_
    refine W_split ⟨ltF rfl, rfl⟩ (fun hb => ?_) (fun hb => ?_)
    · replace h := ite_yes hb h
      refine W_skip ?_
      refine W_seq ?_
      refine W_block ?_
      refine W_text ?_
      refine dq (ps := [(14, .val false [.ref 3 0 [(0, 0)]])]) rfl rfl rfl ?_
      refine dq (ps := [(15, pI .i64 v4)]) rfl rfl rfl ?_
      refine dq (ps := [(16, .val false [.t (.sl false 1 (a0.map (cS false)))])]) rfl rfl rfl ?_
      refine dq (ps := [(17, pI .i64 v4)]) rfl rfl rfl ?_
      obtain ⟨x, hx, h⟩ := bind_some h
      refine dIxA rfl rfl rfl rfl rfl (getI_map (cS false) hx) rfl ?_
      refine dq (ps := [(19, pS x)]) rfl rfl rfl ?_
      obtain ⟨x_1, hx_1, h⟩ := bind_some h
      refine dIxO (v := 0) rfl rfl (ltF rfl) rfl rfl rfl (getI_lt (cS true) hx_1) rfl rfl rfl rfl rfl ?_
      refine dStO (ag := false) (ts := [.sc (.string x)]) (sv := .val false [.t (.sl true 1 ((v3.set v4.toNat x).map (cS true)))]) [20, 3, 19] rfl (ltF rfl) (by decide) (by decide) rfl rfl rfl (getI_row (cS true) hx_1) rfl rfl rfl (fun st2 h2 => ⟨ltF rfl, (congrArg Slot.sv (h2 19 (by decide))).trans rfl⟩) (fun st2 h => by rw [List.map_set]; unfold St.setAt; rw [h]; rfl) rfl ?_
      refine DL_nil ?_
      refine W_fn (l := [(0, .val false [.t (.sl false 1 (a0.map (cS false)))]), (3, .val false [.t (.sl true 1 ((v3.set v4.toNat x).map (cS true)))]), (4, pI .i64 v4)]) (nC rfl (nC rfl (nC rfl nN))) rfl ?_
      refine W_text ?_
      refine dq (ps := [(12, pI .i64 v4)]) rfl rfl rfl ?_
      refine dq (ps := [(13, pI .i64 (w64 (v4 + 1)))]) rfl rfl rfl ?_
      refine dq (ps := [(4, pI .i64 (w64 (v4 + 1)))]) rfl rfl rfl ?_
      refine DL_nil ?_
      exact ⟨n, Nat.lt_succ_self n, _, _,  h, (nC rfl (nC rfl (nC rfl nN)))⟩
    · replace h := ite_no hb h
      refine W_exit ?_
      cases h
      exact hQ _ (nC rfl nN)

def ltoStringS (n : Nat) (a0 : List ByteArray) : Option (List ByteArray) :=
  (if (0 : Int) ≤ (a0.length : Int) ∧ (a0.length : Int) ≤ (a0.length : Int) ∧ (16 : Int) * (a0.length : Int) ≤ 281474976710656 then ((ltoStringS_L0 n a0 (List.replicate (a0.length : Int).toNat (ByteArray.mk #[])) 0).bind fun o => (match o with | .go q3_1 => some q3_1 | .brk _ _ => none | .ret r => some r)) else none)

theorem vc_ltoStringS (n : Nat) (a0 : List ByteArray) (r : List ByteArray) (h : ltoStringS n a0 = some r) : VC Tryd.prog 26 [.sh false (cLStr false a0)] [(false, cLStr true r)] [] := by
  refine VC_of 22 Tryd.func26 rfl rfl rfl fun G0 w0 pv => ?_
  unfold ltoStringS at h
  refine W_seq ?_
  refine W_text ?_
  refine dNil (m := true) (sz := 1) rfl rfl rfl ?_
  refine DL_nil ?_
  refine W_seq ?_
  refine W_text ?_
  refine dq (ps := [(5, .val false [.t (.sl false 1 (a0.map (cS false)))])]) rfl rfl rfl ?_
  refine dLen (t := 22) (n := (a0.length : Int)) rfl (ltF rfl) rfl rfl (lenE rfl (List.length_map ..)) rfl ?_
  obtain ⟨hp, h⟩ := ite_some h
  refine dMake (zs := [.sc (.string (ByteArray.mk #[]))]) (els := ((List.replicate (a0.length : Int).toNat (ByteArray.mk #[])).map (cS true))) rfl rfl rfl (zeros_of _ rfl ⟨z1 rfl, trivial⟩) rfl rfl rfl rfl hp rfl (rep_map (cS true) (ByteArray.mk #[]) _) rfl ?_
  refine dq (ps := [(7, .dead), (3, .val false [.t (.sl true 1 ((List.replicate (a0.length : Int).toNat (ByteArray.mk #[])).map (cS true)))])]) rfl rfl rfl ?_
  refine DL_nil ?_
  refine W_seq ?_
  refine W_seq ?_
  refine W_text ?_
  refine dq (ps := [(4, pI .i64 0)]) rfl rfl rfl ?_
  refine DL_nil ?_
  refine W_block ?_
  obtain ⟨o, ho, h⟩ := bind_some h
  refine ltoStringS_L0_ok ?_ ho _ (nC rfl (nC rfl (nC rfl nN)))
  rcases o with q3_1 | ⟨j, p⟩ | r
  · skip
    dsimp only at h ⊢
    intro st hst
    refine W_fn hst rfl ?_
    refine W_seq ?_
    refine W_text ?_
    refine dTkM (sv := .val false [.t (.sl true 1 (q3_1.map (cS true)))]) rfl rfl rfl (ltF rfl) rfl rfl rfl ?_
    refine dq (ps := [(21, .dead), (2, .val false [.t (.sl true 1 (q3_1.map (cS true)))])]) rfl rfl rfl ?_
    refine DL_nil ?_
    refine W_ret ?_
    cases h
    exact ⟨.inr rfl, leaves_of [.tmp 2] rfl (by decide) (.tmp (ltF rfl) rfl .nil)⟩
  · exact trivial
  · dsimp only at h ⊢
    intro st hst
    cases h
    exact ⟨.inr rfl, leaves_of [.tmp 2] rfl (by decide) (.tmp (ltF rfl) (hst.at (s := 2) rfl rfl) .nil)⟩

-- ltoBitmap: loop.example/g00883/laws.toBitmap
def ltoBitmap (n : Nat) (a0 : SBitmap) : Option (SBitmap) :=
  ((ltoStringS n a0.Rows).bind fun r => some (SBitmap.mk a0.Left a0.Bottom a0.Width r))

theorem vc_ltoBitmap (n : Nat) (a0 : SBitmap) (r : SBitmap) (h : ltoBitmap n a0 = some r) : VC Tryd.prog 8 [.sh true (cBitmap false a0)] [(true, cBitmap true r)] [] := by
  refine VC_of 18 Tryd.func8 rfl rfl rfl fun G0 w0 pv => ?_
  unfold ltoBitmap at h
  refine W_seq ?_
  refine W_text ?_
  refine dBox (ts := (cBitmap false a0)) rfl rfl rfl rfl rfl ?_
  refine dAlloc (zs := [.sc (.int .i64 0), .sc (.int .i64 0), .sc (.int .i64 0), .sl true 1 (([] : List ByteArray).map (cS true))]) rfl rfl (zeros_of _ rfl ⟨z1 rfl, z1 rfl, z1 rfl, z2, trivial⟩) rfl ?_
  refine DL_nil ?_
  refine W_seq ?_
  refine W_text ?_
  refine dAlloc (zs := [.sc (.int .i64 0), .sc (.int .i64 0), .sc (.int .i64 0), .sl true 1 (([] : List ByteArray).map (cS true))]) rfl rfl (zeros_of _ rfl ⟨z1 rfl, z1 rfl, z1 rfl, z2, trivial⟩) rfl ?_
  refine DL_nil ?_
  refine W_seq ?_
  refine W_text ?_
  refine dFaB rfl rfl (ltF rfl) rfl rfl rfl rfl rfl rfl ?_
  refine dq (ps := [(5, pI .i64 a0.Left)]) rfl rfl rfl ?_
  refine dFaB rfl rfl (ltF rfl) rfl rfl rfl rfl rfl rfl ?_
  refine dSt (v := 1) (ag := false) (ts := [.sc (.int .i64 a0.Left)]) (cs' := [.sc (.int .i64 a0.Left), .sc (.int .i64 0), .sc (.int .i64 0), .sl true 1 (([] : List ByteArray).map (cS true))]) [] [6, 3, 5] rfl (ltF rfl) (by decide) (by decide) rfl rfl rfl rfl rfl (by decide) rfl rfl (fun st2 h2 => .free (⟨ltF rfl, (congrArg Slot.sv (h2 5 (by decide))).trans rfl⟩) rfl) rfl ?_
  refine DL_nil ?_
  refine W_seq ?_
  refine W_text ?_
  refine dFaB rfl rfl (ltF rfl) rfl rfl rfl rfl rfl rfl ?_
  refine dq (ps := [(8, pI .i64 a0.Bottom)]) rfl rfl rfl ?_
  refine dFaB rfl rfl (ltF rfl) rfl rfl rfl rfl rfl rfl ?_
  refine dSt (v := 2) (ag := false) (ts := [.sc (.int .i64 a0.Bottom)]) (cs' := [.sc (.int .i64 a0.Left), .sc (.int .i64 a0.Bottom), .sc (.int .i64 0), .sl true 1 (([] : List ByteArray).map (cS true))]) [] [9, 3, 8] rfl (ltF rfl) (by decide) (by decide) rfl rfl rfl rfl rfl (by decide) rfl rfl (fun st2 h2 => .free (⟨ltF rfl, (congrArg Slot.sv (h2 8 (by decide))).trans rfl⟩) rfl) rfl ?_
  refine DL_nil ?_
  refine W_seq ?_
  refine W_text ?_
  refine dFaB rfl rfl (ltF rfl) rfl rfl rfl rfl rfl rfl ?_
  refine dq (ps := [(11, pI .i64 a0.Width)]) rfl rfl rfl ?_
  refine dFaB rfl rfl (ltF rfl) rfl rfl rfl rfl rfl rfl ?_
  refine dSt (v := 3) (ag := false) (ts := [.sc (.int .i64 a0.Width)]) (cs' := [.sc (.int .i64 a0.Left), .sc (.int .i64 a0.Bottom), .sc (.int .i64 a0.Width), .sl true 1 (([] : List ByteArray).map (cS true))]) [] [12, 3, 11] rfl (ltF rfl) (by decide) (by decide) rfl rfl rfl rfl rfl (by decide) rfl rfl (fun st2 h2 => .free (⟨ltF rfl, (congrArg Slot.sv (h2 11 (by decide))).trans rfl⟩) rfl) rfl ?_
  refine DL_nil ?_
  refine W_seq ?_
  refine W_text ?_
  refine dFaB rfl rfl (ltF rfl) rfl rfl rfl rfl rfl rfl ?_
  refine dq (ps := [(14, .val false [.t (.sl false 1 (a0.Rows.map (cS false)))])]) rfl rfl rfl ?_
  obtain ⟨r, hr, h⟩ := bind_some h
  refine dCall (gn := 26) (fn := Tryd.f26) (cp := []) (lt := []) [14] (vc_ltoStringS n a0.Rows _ hr) Tryd.func26 rfl rfl rfl rfl (.inl rfl) (.inl rfl) (fun st2 h2 => ⟨rfl, args_of0 (.cons (aF (ltF rfl) ((congrArg Slot.sv (h2 14 (by decide))).trans rfl) rfl) .nil)⟩) rfl ?_
  refine dFaB rfl rfl (ltF rfl) rfl rfl rfl rfl rfl rfl ?_
  refine dSt (v := 4) (ag := false) (ts := [.sl true 1 (r.map (cS true))]) (cs' := [.sc (.int .i64 a0.Left), .sc (.int .i64 a0.Bottom), .sc (.int .i64 a0.Width), .sl true 1 (r.map (cS true))]) [(15, 3)] [16, 3, 15] rfl (ltF rfl) (by decide) (by decide) rfl rfl rfl rfl rfl (by decide) rfl rfl (fun st2 h2 => .own (ltF rfl) ((congrArg Slot.sv (h2 15 (by decide))).trans rfl) rfl) rfl ?_
  refine DL_nil ?_
  refine W_seq ?_
  refine W_text ?_
  refine dLdT (ag := true) (ts := [.sc (.int .i64 a0.Left), .sc (.int .i64 a0.Bottom), .sc (.int .i64 a0.Width), .sl true 1 (r.map (cS true))]) rfl rfl rfl (ltF rfl) rfl rfl rfl rfl rfl rfl rfl rfl ?_
  refine dStB (ag := true) (ts := [.sc (.int .i64 a0.Left), .sc (.int .i64 a0.Bottom), .sc (.int .i64 a0.Width), .sl true 1 (r.map (cS true))]) (cs' := [.sc (.int .i64 a0.Left), .sc (.int .i64 a0.Bottom), .sc (.int .i64 a0.Width), .sl true 1 (r.map (cS true))]) [(17, 0)] [2, 17] rfl (ltF rfl) (by decide) rfl rfl rfl (by decide) rfl rfl (fun st2 h2 => .own (ltF rfl) ((congrArg Slot.sv (h2 17 (by decide))).trans rfl) rfl) rfl ?_
  refine DL_nil ?_
  refine W_ret ?_
  cases h
  exact ⟨.inr rfl, leaves_of [.cell 2 26] rfl (by decide) (.cell (ltF rfl) rfl rfl rfl rfl .nil)⟩

-- sl00In: loop.example/g00883/spec.l00In
def sl00In (n : Nat) (a0 : Int) (a1 : Int) (a2 : Int) : Option (Bool) :=
  (if (decide (a0 ≥ a1)) = true then some (decide (a0 ≤ a2)) else some false)

theorem vc_sl00In (n : Nat) (a0 : Int) (a1 : Int) (a2 : Int) (r : Bool) (h : sl00In n a0 a1 a2 = some r) : VC Tryd.prog 55 [.sh false ((cI .i64) false a0), .sh false ((cI .i64) false a1), .sh false ((cI .i64) false a2)] [(false, cB true r)] [] := by
  refine VC_of 15 Tryd.func55 rfl rfl rfl fun G0 w0 pv => ?_
  unfold sl00In at h
  refine W_seq ?_
  refine W_text ?_
  refine dq (ps := [(6, pB false)]) rfl rfl rfl ?_
  refine DL_nil ?_
  refine W_seq ?_
  refine W_text ?_
  refine dq (ps := [(7, pI .i64 a0)]) rfl rfl rfl ?_
  refine dq (ps := [(8, pI .i64 a1)]) rfl rfl rfl ?_
  refine dq (ps := [(9, pB (decide (a0 ≥ a1)))]) rfl rfl rfl ?_
  refine dq (ps := [(10, pB (decide (a0 ≥ a1)))]) rfl rfl rfl ?_
  refine dS 10 rfl (fun hb => ?_) (fun hb => ?_)
  · replace h := ite_yes hb h
    refine dq (ps := [(11, pI .i64 a0)]) rfl rfl rfl ?_
    refine dq (ps := [(12, pI .i64 a2)]) rfl rfl rfl ?_
    refine dq (ps := [(13, pB (decide (a0 ≤ a2)))]) rfl rfl rfl ?_
    refine dq (ps := [(14, pB (decide (a0 ≤ a2)))]) rfl rfl rfl ?_
    refine dq (ps := [(6, pB (decide (a0 ≤ a2)))]) rfl rfl rfl ?_
    refine DL_nil ?_
    refine W_fn (l := [(6, pB (decide (a0 ≤ a2)))]) (nC rfl nN) rfl ?_
    refine W_ret ?_
    cases h
    exact ⟨.inr rfl, leaves_of [.tmp 6] rfl (by decide) (.tmp (ltF rfl) rfl .nil)⟩
  · replace h := ite_no hb h
    refine dU rfl rfl rfl rfl ?_
    refine dU rfl rfl rfl rfl ?_
    refine dU rfl rfl rfl rfl ?_
    refine dq (ps := [(14, pB false)]) rfl rfl rfl ?_
    refine dq (ps := [(6, pB false)]) rfl rfl rfl ?_
    refine DL_nil ?_
    refine W_fn (l := [(6, pB false)]) (nC rfl nN) rfl ?_
    refine W_ret ?_
    cases h
    exact ⟨.inr rfl, leaves_of [.tmp 6] rfl (by decide) (.tmp (ltF rfl) rfl .nil)⟩

-- sl22Row: loop.example/g00883/spec.l22Row
def sl22Row_L0 : Nat → ByteArray → Int → Int → Option (Out (Unit) (Bool))
  | 0, _, _, _ => none
  | n + 1, a0, a1, v5 => (if (decide (v5 < (a0.size : Int))) = true then (if (0 : Int) ≤ v5 ∧ v5 < (a0.size : Int) then (if ((byteAt a0 v5) != 35) = true then (if (0 : Int) ≤ v5 ∧ v5 < (a0.size : Int) then (if ((byteAt a0 v5) != 46) = true then some (.ret false) else sl22Row_L0 n a0 a1 (w64 (v5 + 1))) else none) else sl22Row_L0 n a0 a1 (w64 (v5 + 1))) else none) else some (.go ()))

theorem sl22Row_L0_ok {G0 : Nat → Own} {w0 : World} {Q : Exit → St → Prop} {a0 : ByteArray} {a1 : Int} {out : (Out (Unit) (Bool))}
    (hQ : match out with | .go _ => ∀ st, FN st [(0, pS a0), (1, pI .i64 a1)] → Q (.exit 0) st | .brk _ _ => True | .ret r => ∀ st, Fits st [(4, .val false ((cB true r).map .t))] → Q .ret st)
    {n : Nat} {v5 : Int} (h : sl22Row_L0 n a0 a1 v5 = some out) :
    ∀ st, FN st [(0, pS a0), (1, pI .i64 a1), (5, pI .i64 v5)] → W ⟨Tryd.prog, 26, [], G0, w0⟩ (.loop (bodyAt Tryd.f56 [1, 0, 1, 0, 0])) st Q := by
  intro st hst
  refine W_loop (fun n st => ∃ v5, sl22Row_L0 n a0 a1 v5 = some out ∧ FN st [(0, pS a0), (1, pI .i64 a1), (5, pI .i64 v5)]) ?_ (n := n) ⟨v5, h, hst⟩
  clear h hst st n v5
  rintro n st ⟨v5, h, hst⟩
  refine W_fn hst rfl ?_
  cases n with
  | zero => cases h
  | succ n =>
    rw [sl22Row_L0] at h
    refine W_seq ?_
    refine W_seq ?_
    refine W_text ?_
    refine dq (ps := [(6, pI .i64 v5)]) rfl rfl rfl ?_
    refine dq (ps := [(7, pS a0)]) rfl rfl rfl ?_
    refine dLen (t := 9) (n := (a0.size : Int)) rfl (ltF rfl) rfl rfl rfl rfl ?_
    refine dq (ps := [(9, pB (decide (v5 < (a0.size : Int))))]) rfl rfl rfl ?_
    refine DL_nil ?_
    refine W_split ⟨ltF rfl, rfl⟩ (fun hb => ?_) (fun hb => ?_)
    · replace h := ite_yes hb h
      refine W_skip ?_
      refine W_seq ?_
      refine W_block ?_
      refine W_seq ?_
      refine W_text ?_
      refine dq (ps := [(12, pS a0)]) rfl rfl rfl ?_
      refine dq (ps := [(13, pI .i64 v5)]) rfl rfl rfl ?_
      obtain ⟨hp, h⟩ := ite_some h
      refine dIdx rfl rfl rfl rfl rfl hp rfl ?_
      refine dq (ps := [(15, pB ((byteAt a0 v5) != 35))]) rfl rfl rfl ?_
      refine dq (ps := [(16, pB ((byteAt a0 v5) != 35))]) rfl rfl rfl ?_
      refine dS 16 rfl (fun hb => ?_) (fun hb => ?_)
      · replace h := ite_yes hb h
        refine dq (ps := [(17, pS a0)]) rfl rfl rfl ?_
        refine dq (ps := [(18, pI .i64 v5)]) rfl rfl rfl ?_
        obtain ⟨hp, h⟩ := ite_some h
        refine dIdx rfl rfl rfl rfl rfl hp rfl ?_
        refine dq (ps := [(20, pB ((byteAt a0 v5) != 46))]) rfl rfl rfl ?_
        refine dq (ps := [(21, pB ((byteAt a0 v5) != 46))]) rfl rfl rfl ?_
        refine DL_nil ?_
        refine W_fn (l := [(0, pS a0), (1, pI .i64 a1), (5, pI .i64 v5), (17, pS a0), (18, pI .i64 v5), (19, pI .u8 (byteAt a0 v5)), (20, pB ((byteAt a0 v5) != 46)), (21, pB ((byteAt a0 v5) != 46))]) (nC rfl (nC rfl (nC rfl (nC rfl (nC rfl (nC rfl (nC rfl (nC rfl nN)))))))) rfl ?_
        refine W_split ⟨ltF rfl, rfl⟩ (fun hb => ?_) (fun hb => ?_)
        · replace h := ite_yes hb h
          refine W_seq ?_
          refine W_text ?_
          refine dq (ps := [(4, pB false)]) rfl rfl rfl ?_
          refine DL_nil ?_
          refine W_ret ?_
          cases h
          exact hQ _ (fC rfl rfl fN)
        · replace h := ite_no hb h
          refine W_skip ?_
          refine W_text ?_
          refine dq (ps := [(10, pI .i64 v5)]) rfl rfl rfl ?_
          refine dq (ps := [(11, pI .i64 (w64 (v5 + 1)))]) rfl rfl rfl ?_
          refine dq (ps := [(5, pI .i64 (w64 (v5 + 1)))]) rfl rfl rfl ?_
          refine DL_nil ?_
          exact ⟨n, Nat.lt_succ_self n, _,  h, (nC rfl (nC rfl (nC rfl nN)))⟩
      · replace h := ite_no hb h
        refine dU rfl rfl rfl rfl ?_
        refine dU rfl rfl rfl rfl ?_
        refine dU rfl rfl rfl rfl ?_
        refine dU rfl rfl rfl rfl ?_
        refine dq (ps := [(21, pB false)]) rfl rfl rfl ?_
        refine DL_nil ?_
        refine W_fn (l := [(0, pS a0), (1, pI .i64 a1), (5, pI .i64 v5), (17, .tup []), (18, .tup []), (19, .tup []), (20, .tup []), (21, pB false)]) (nC rfl (nC rfl (nC rfl (nC rfl (nC rfl (nC rfl (nC rfl (nC rfl nN)))))))) rfl ?_
        refine W_no ⟨ltF rfl, rfl⟩ ?_
        refine W_skip ?_
        refine W_text ?_
        refine dq (ps := [(10, pI .i64 v5)]) rfl rfl rfl ?_
        refine dq (ps := [(11, pI .i64 (w64 (v5 + 1)))]) rfl rfl rfl ?_
        refine dq (ps := [(5, pI .i64 (w64 (v5 + 1)))]) rfl rfl rfl ?_
        refine DL_nil ?_
        exact ⟨n, Nat.lt_succ_self n, _,  h, (nC rfl (nC rfl (nC rfl nN)))⟩
    · replace h := ite_no hb h
      refine W_exit ?_
      cases h
      exact hQ _ (nC rfl (nC rfl nN))

def sl22Row (n : Nat) (a0 : ByteArray) (a1 : Int) : Option (Bool) :=
  ((sl22Row_L0 n a0 a1 0).bind fun o => (match o with | .go _ => some ((a0.size : Int) == a1) | .brk _ _ => none | .ret r => some r))

theorem vc_sl22Row (n : Nat) (a0 : ByteArray) (a1 : Int) (r : Bool) (h : sl22Row n a0 a1 = some r) : VC Tryd.prog 56 [.sh false (cS false a0), .sh false ((cI .i64) false a1)] [(false, cB true r)] [] := by
  refine VC_of 26 Tryd.func56 rfl rfl rfl fun G0 w0 pv => ?_
  unfold sl22Row at h
  refine W_seq ?_
  refine W_text ?_
  refine dq (ps := [(4, pB false)]) rfl rfl rfl ?_
  refine DL_nil ?_
  refine W_seq ?_
  refine W_seq ?_
  refine W_text ?_
  refine dq (ps := [(5, pI .i64 0)]) rfl rfl rfl ?_
  refine DL_nil ?_
  refine W_block ?_
  obtain ⟨o, ho, h⟩ := bind_some h
  refine sl22Row_L0_ok ?_ ho _ (nC rfl (nC rfl (nC rfl nN)))
  rcases o with p | ⟨j, p⟩ | r
  · skip
    dsimp only at h ⊢
    intro st hst
    refine W_fn hst rfl ?_
    refine W_seq ?_
    refine W_text ?_
    refine dq (ps := [(22, pS a0)]) rfl rfl rfl ?_
    refine dLen (t := 9) (n := (a0.size : Int)) rfl (ltF rfl) rfl rfl rfl rfl ?_
    refine dq (ps := [(24, pI .i64 a1)]) rfl rfl rfl ?_
    refine dq (ps := [(25, pB ((a0.size : Int) == a1))]) rfl rfl rfl ?_
    refine dq (ps := [(4, pB ((a0.size : Int) == a1))]) rfl rfl rfl ?_
    refine DL_nil ?_
    refine W_ret ?_
    cases h
    exact ⟨.inr rfl, leaves_of [.tmp 4] rfl (by decide) (.tmp (ltF rfl) rfl .nil)⟩
  · exact trivial
  · dsimp only at h ⊢
    intro st hst
    cases h
    exact ⟨.inr rfl, leaves_of [.tmp 4] rfl (by decide) (.tmp (ltF rfl) (hst.at (s := 4) rfl rfl) .nil)⟩

-- sl22Ok: loop.example/g00883/spec.l22Ok
def sl22Ok_L0 : Nat → SBitmap → Int → Option (Out (Unit) (Bool))
  | 0, _, _ => none
  | n + 1, a0, v3 => (if (decide (v3 < (a0.Rows.length : Int))) = true then ((getI a0.Rows v3).bind fun x => ((sl22Row n x a0.Width).bind fun r_3 => (if (!r_3) = true then some (.ret false) else sl22Ok_L0 n a0 (w64 (v3 + 1))))) else some (.go ()))

theorem sl22Ok_L0_ok {G0 : Nat → Own} {w0 : World} {Q : Exit → St → Prop} {a0 : SBitmap} {out : (Out (Unit) (Bool))}
    (hQ : match out with | .go _ => ∀ st, FN st [] → Q (.exit 0) st | .brk _ _ => True | .ret r => ∀ st, Fits st [(2, .val false ((cB true r).map .t))] → Q .ret st)
    {n : Nat} {v3 : Int} (h : sl22Ok_L0 n a0 v3 = some out) :
    ∀ st, FN st [(0, .val false [.t (.ptr (cBitmap false a0))]), (3, pI .i64 v3)] → W ⟨Tryd.prog, 70, [], G0, w0⟩ (.loop (bodyAt Tryd.f24 [1, 1, 0, 1, 0, 0])) st Q := by
  intro st hst
  refine W_loop (fun n st => ∃ v3, sl22Ok_L0 n a0 v3 = some out ∧ FN st [(0, .val false [.t (.ptr (cBitmap false a0))]), (3, pI .i64 v3)]) ?_ (n := n) ⟨v3, h, hst⟩
  clear h hst st n v3
  rintro n st ⟨v3, h, hst⟩
  refine W_fn hst rfl ?_
  cases n with
  | zero => cases h
  | succ n =>
    rw [sl22Ok_L0] at h
    refine W_seq ?_
    refine W_seq ?_
    refine W_text ?_
    refine dq (ps := [(48, pI .i64 v3)]) rfl rfl rfl ?_
    refine dq (ps := [(49, .val false [.t (.ptr (cBitmap false a0))])]) rfl rfl rfl ?_
    refine dq (ps := [(50, .val false [.t (.ptr (cBitmap false a0))])]) rfl rfl rfl ?_
    refine dq (ps := [(51, .val false [.t (.ptr [.sl false 1 (a0.Rows.map (cS false))])])]) rfl rfl rfl ?_
    refine dq (ps := [(52, .val false [.t (.sl false 1 (a0.Rows.map (cS false)))])]) rfl rfl rfl ?_
    refine dLen (t := 22) (n := (a0.Rows.length : Int)) rfl (ltF rfl) rfl rfl (lenE rfl (List.length_map ..)) rfl ?_
    refine dq (ps := [(54, pB (decide (v3 < (a0.Rows.length : Int))))]) rfl rfl rfl ?_
    refine DL_nil ?_
    refine W_fn (l := [(0, .val false [.t (.ptr (cBitmap false a0))]), (3, pI .i64 v3), (54, pB (decide (v3 < (a0.Rows.length : Int))))]) (nC rfl (nC rfl (nC rfl nN))) rfl ?_
    refine W_split ⟨ltF rfl, rfl⟩ (fun hb => ?_) (fun hb => ?_)
    · replace h := ite_yes hb h
      refine W_skip ?_
      refine W_seq ?_
      refine W_block ?_
      refine W_seq ?_
      refine W_drawn rfl ?_
      refine dq (R' := [0]) (ps := [(57, .val false [.t (.ptr (cBitmap false a0))])]) rfl rfl rfl ?_
      refine dq (R' := [57]) (ps := [(58, .val false [.t (.ptr (cBitmap false a0))])]) rfl rfl rfl ?_
      refine dq (R' := [58]) (ps := [(59, .val false [.t (.ptr [.sl false 1 (a0.Rows.map (cS false))])])]) rfl rfl rfl ?_
      refine dq (R' := [59]) (ps := [(60, .val false [.t (.sl false 1 (a0.Rows.map (cS false)))])]) rfl rfl rfl ?_
      refine dq (R' := [3]) (ps := [(61, pI .i64 v3)]) rfl rfl rfl ?_
      obtain ⟨x, hx, h⟩ := bind_some h
      refine dIxA (R' := [60, 61]) rfl rfl rfl rfl rfl (getI_map (cS false) hx) rfl ?_
      refine dq (R' := [62]) (ps := [(63, pS x)]) rfl rfl rfl ?_
      refine dq (R' := [0]) (ps := [(64, .val false [.t (.ptr (cBitmap false a0))])]) rfl rfl rfl ?_
      refine dq (R' := [64]) (ps := [(65, .val false [.t (.ptr (cBitmap false a0))])]) rfl rfl rfl ?_
      refine dq (R' := [65]) (ps := [(66, .val false [.t (.ptr [.sc (.int .i64 a0.Width), .sl false 1 (a0.Rows.map (cS false))])])]) rfl rfl rfl ?_
      refine dq (R' := [66]) (ps := [(67, pI .i64 a0.Width)]) rfl rfl rfl ?_
      obtain ⟨r_3, hr_3, h⟩ := bind_some h
      refine dCall (gn := 56) (fn := Tryd.f56) (cp := []) (lt := []) [63, 67] (vc_sl22Row n x a0.Width _ hr_3) Tryd.func56 rfl rfl rfl rfl (.inl rfl) (.inl rfl) (fun st2 h2 => ⟨rfl, args_of0 (.cons (aF (ltF rfl) ((congrArg Slot.sv (h2 63 (by decide))).trans rfl) rfl) (.cons (aF (ltF rfl) ((congrArg Slot.sv (h2 67 (by decide))).trans rfl) rfl) .nil))⟩) rfl ?_
      refine dq (R' := [68]) (ps := [(69, pB (!r_3))]) rfl rfl rfl ?_
      refine DL_nil ⟨[([0], [57]), ([57], [58]), ([58], [59]), ([59], [60]), ([3], [61]), ([60, 61], [62]), ([62], [63]), ([0], [64]), ([64], [65]), ([65], [66]), ([66], [67]), ([63, 67], [68]), ([68], [69])], rfl, by decide +kernel, ?_⟩
      refine W_fn (l := [(0, .val false [.t (.ptr (cBitmap false a0))]), (3, pI .i64 v3), (69, pB (!r_3))]) (nC rfl (nC rfl (nC rfl nN))) rfl ?_
      refine W_split ⟨ltF rfl, rfl⟩ (fun hb => ?_) (fun hb => ?_)
      · replace h := ite_yes hb h
        refine W_seq ?_
        refine W_text ?_
        refine dq (ps := [(2, pB false)]) rfl rfl rfl ?_
        refine DL_nil ?_
        refine W_ret ?_
        cases h
        exact hQ _ (fC rfl rfl fN)
      · replace h := ite_no hb h
        refine W_skip ?_
        refine W_text ?_
        refine dq (ps := [(55, pI .i64 v3)]) rfl rfl rfl ?_
        refine dq (ps := [(56, pI .i64 (w64 (v3 + 1)))]) rfl rfl rfl ?_
        refine dq (ps := [(3, pI .i64 (w64 (v3 + 1)))]) rfl rfl rfl ?_
        refine DL_nil ?_
        exact ⟨n, Nat.lt_succ_self n, _,  h, (nC rfl (nC rfl nN))⟩
    · replace h := ite_no hb h
      refine W_exit ?_
      cases h
      exact hQ _ nN

def sl22Ok (n : Nat) (a0 : SBitmap) : Option (Bool) :=
  ((sl00In n a0.Left (-1048576) 1048576).bind fun r => (if (!r) = true then some false else ((sl00In n a0.Bottom (-1048576) 1048576).bind fun r_1 => (if (!r_1) = true then some false else ((sl00In n a0.Width 0 128).bind fun r_2 => (if (!r_2) = true then some false else (if (decide ((a0.Rows.length : Int) > 128)) = true then some false else (if ((a0.Width == 0) != ((a0.Rows.length : Int) == 0)) = true then some false else ((sl22Ok_L0 n a0 0).bind fun o => (match o with | .go _ => some true | .brk _ _ => none | .ret r => some r))))))))))

theorem vc_sl22Ok (n : Nat) (a0 : SBitmap) (r : Bool) (h : sl22Ok n a0 = some r) : VC Tryd.prog 24 [.sh false [.ptr (cBitmap false a0)]] [(false, cB true r)] [] := by
  refine VC_of 70 Tryd.func24 rfl rfl rfl fun G0 w0 pv => ?_
  unfold sl22Ok at h
  refine W_seq ?_
  refine W_text ?_
  refine dq (ps := [(2, pB false)]) rfl rfl rfl ?_
  refine DL_nil ?_
  refine W_seq ?_
  refine W_seq ?_
  refine W_drawn rfl ?_
  refine dq (R' := [0]) (ps := [(4, .val false [.t (.ptr (cBitmap false a0))])]) rfl rfl rfl ?_
  refine dq (R' := [4]) (ps := [(5, .val false [.t (.ptr (cBitmap false a0))])]) rfl rfl rfl ?_
  refine dq (R' := [5]) (ps := [(6, .val false [.t (.ptr (cBitmap false a0))])]) rfl rfl rfl ?_
  refine dq (R' := [6]) (ps := [(7, pI .i64 a0.Left)]) rfl rfl rfl ?_
  obtain ⟨r, hr, h⟩ := bind_some h
  refine dCall (gn := 55) (fn := Tryd.f55) (cp := []) (lt := []) [7] (vc_sl00In n a0.Left (-1048576) 1048576 _ hr) Tryd.func55 rfl rfl rfl rfl (.inl rfl) (.inl rfl) (fun st2 h2 => ⟨rfl, args_of0 (.cons (aF (ltF rfl) ((congrArg Slot.sv (h2 7 (by decide))).trans rfl) rfl) (.cons (aC rfl) (.cons (aC rfl) .nil)))⟩) rfl ?_
  refine dq (R' := [8]) (ps := [(9, pB (!r))]) rfl rfl rfl ?_
  refine dq (R' := [9]) (ps := [(10, pB (!r))]) rfl rfl rfl ?_
  refine dS 10 rfl (fun hb => ?_) (fun hb => ?_)
  · replace h := ite_yes hb h
    refine dU rfl rfl rfl rfl ?_
    refine dU rfl rfl rfl rfl ?_
    refine dU rfl rfl rfl rfl ?_
    refine dU rfl rfl rfl rfl ?_
    refine dU rfl rfl rfl rfl ?_
    refine dU rfl rfl rfl rfl ?_
    refine dq (R' := [10, 16]) (ps := [(17, pB true)]) rfl rfl rfl ?_
    refine dq (R' := [17]) (ps := [(18, pB true)]) rfl rfl rfl ?_
    refine dU rfl rfl rfl rfl ?_
    refine dU rfl rfl rfl rfl ?_
    refine dU rfl rfl rfl rfl ?_
    refine dU rfl rfl rfl rfl ?_
    refine dU rfl rfl rfl rfl ?_
    refine dU rfl rfl rfl rfl ?_
    refine dq (R' := [18, 24]) (ps := [(25, pB true)]) rfl rfl rfl ?_
    refine dq (R' := [25]) (ps := [(26, pB true)]) rfl rfl rfl ?_
    refine dU rfl rfl rfl rfl ?_
    refine dU rfl rfl rfl rfl ?_
    refine dU rfl rfl rfl rfl ?_
    refine dU rfl rfl rfl rfl ?_
    refine dU rfl rfl rfl rfl ?_
    refine dU rfl rfl rfl rfl ?_
    refine dq (R' := [26, 32]) (ps := [(33, pB true)]) rfl rfl rfl ?_
    refine dq (R' := [33]) (ps := [(34, pB true)]) rfl rfl rfl ?_
    refine dU rfl rfl rfl rfl ?_
    refine dU rfl rfl rfl rfl ?_
    refine dU rfl rfl rfl rfl ?_
    refine dU rfl rfl rfl rfl ?_
    refine dU rfl rfl rfl rfl ?_
    refine dU rfl rfl rfl rfl ?_
    refine dU rfl rfl rfl rfl ?_
    refine dU rfl rfl rfl rfl ?_
    refine dU rfl rfl rfl rfl ?_
    refine dU rfl rfl rfl rfl ?_
    refine dU rfl rfl rfl rfl ?_
    refine dU rfl rfl rfl rfl ?_
    refine dq (R' := [34, 46]) (ps := [(47, pB true)]) rfl rfl rfl ?_
    refine DL_nil ⟨[([0], [4]), ([4], [5]), ([5], [6]), ([6], [7]), ([7], [8]), ([8], [9]), ([9], [10]), ([10], [11]), ([10], [12]), ([10], [13]), ([10], [14]), ([10], [15]), ([10], [16]), ([10, 16], [17]), ([17], [18]), ([18], [19]), ([18], [20]), ([18], [21]), ([18], [22]), ([18], [23]), ([18], [24]), ([18, 24], [25]), ([25], [26]), ([26], [27]), ([26], [28]), ([26], [29]), ([26], [30]), ([26], [31]), ([26], [32]), ([26, 32], [33]), ([33], [34]), ([34], [35]), ([34], [36]), ([34], [37]), ([34], [38]), ([34], [39]), ([34], [40]), ([34], [41]), ([34], [42]), ([34], [43]), ([34], [44]), ([34], [45]), ([34], [46]), ([34, 46], [47])], rfl, by decide +kernel, ?_⟩
    refine W_fn (l := [(0, .val false [.t (.ptr (cBitmap false a0))]), (47, pB true)]) (nC rfl (nC rfl nN)) rfl ?_
    refine W_yes ⟨ltF rfl, rfl⟩ ?_
    refine W_seq ?_
    refine W_text ?_
    refine dq (ps := [(2, pB false)]) rfl rfl rfl ?_
    refine DL_nil ?_
    refine W_ret ?_
    cases h
    exact ⟨.inr rfl, leaves_of [.tmp 2] rfl (by decide) (.tmp (ltF rfl) rfl .nil)⟩
  · replace h := ite_no hb h
    refine dq (ps := [(11, .val false [.t (.ptr (cBitmap false a0))])]) rfl rfl rfl ?_
    refine dq (ps := [(12, .val false [.t (.ptr (cBitmap false a0))])]) rfl rfl rfl ?_
    refine dq (ps := [(13, .val false [.t (.ptr [.sc (.int .i64 a0.Bottom), .sc (.int .i64 a0.Width), .sl false 1 (a0.Rows.map (cS false))])])]) rfl rfl rfl ?_
    refine dq (ps := [(14, pI .i64 a0.Bottom)]) rfl rfl rfl ?_
    obtain ⟨r_1, hr_1, h⟩ := bind_some h
    refine dCall (gn := 55) (fn := Tryd.f55) (cp := []) (lt := []) [14] (vc_sl00In n a0.Bottom (-1048576) 1048576 _ hr_1) Tryd.func55 rfl rfl rfl rfl (.inl rfl) (.inl rfl) (fun st2 h2 => ⟨rfl, args_of0 (.cons (aF (ltF rfl) ((congrArg Slot.sv (h2 14 (by decide))).trans rfl) rfl) (.cons (aC rfl) (.cons (aC rfl) .nil)))⟩) rfl ?_
    refine dq (ps := [(16, pB (!r_1))]) rfl rfl rfl ?_
    refine dq (ps := [(17, pB (!r_1))]) rfl rfl rfl ?_
    refine dq (ps := [(18, pB (!r_1))]) rfl rfl rfl ?_
    refine dS 18 rfl (fun hb => ?_) (fun hb => ?_)
    · replace h := ite_yes hb h
      refine dU rfl rfl rfl rfl ?_
      refine dU rfl rfl rfl rfl ?_
      refine dU rfl rfl rfl rfl ?_
      refine dU rfl rfl rfl rfl ?_
      refine dU rfl rfl rfl rfl ?_
      refine dU rfl rfl rfl rfl ?_
      refine dq (ps := [(25, pB true)]) rfl rfl rfl ?_
      refine dq (ps := [(26, pB true)]) rfl rfl rfl ?_
      refine dU rfl rfl rfl rfl ?_
      refine dU rfl rfl rfl rfl ?_
      refine dU rfl rfl rfl rfl ?_
      refine dU rfl rfl rfl rfl ?_
      refine dU rfl rfl rfl rfl ?_
      refine dU rfl rfl rfl rfl ?_
      refine dq (ps := [(33, pB true)]) rfl rfl rfl ?_
      refine dq (ps := [(34, pB true)]) rfl rfl rfl ?_
      refine dU rfl rfl rfl rfl ?_
      refine dU rfl rfl rfl rfl ?_
      refine dU rfl rfl rfl rfl ?_
      refine dU rfl rfl rfl rfl ?_
      refine dU rfl rfl rfl rfl ?_
      refine dU rfl rfl rfl rfl ?_
      refine dU rfl rfl rfl rfl ?_
      refine dU rfl rfl rfl rfl ?_
      refine dU rfl rfl rfl rfl ?_
      refine dU rfl rfl rfl rfl ?_
      refine dU rfl rfl rfl rfl ?_
      refine dU rfl rfl rfl rfl ?_
      refine dq (ps := [(47, pB true)]) rfl rfl rfl ?_
      refine DL_nil ⟨[([0], [4]), ([4], [5]), ([5], [6]), ([6], [7]), ([7], [8]), ([8], [9]), ([9], [10]), ([10, 0], [11]), ([10, 11], [12]), ([10, 12], [13]), ([10, 13], [14]), ([10, 14], [15]), ([10, 15], [16]), ([10, 16], [17]), ([17], [18]), ([18], [19]), ([18], [20]), ([18], [21]), ([18], [22]), ([18], [23]), ([18], [24]), ([18, 24], [25]), ([25], [26]), ([26], [27]), ([26], [28]), ([26], [29]), ([26], [30]), ([26], [31]), ([26], [32]), ([26, 32], [33]), ([33], [34]), ([34], [35]), ([34], [36]), ([34], [37]), ([34], [38]), ([34], [39]), ([34], [40]), ([34], [41]), ([34], [42]), ([34], [43]), ([34], [44]), ([34], [45]), ([34], [46]), ([34, 46], [47])], rfl, by decide +kernel, ?_⟩
      refine W_fn (l := [(0, .val false [.t (.ptr (cBitmap false a0))]), (47, pB true)]) (nC rfl (nC rfl nN)) rfl ?_
      refine W_yes ⟨ltF rfl, rfl⟩ ?_
      refine W_seq ?_
      refine W_text ?_
      refine dq (ps := [(2, pB false)]) rfl rfl rfl ?_
      refine DL_nil ?_
      refine W_ret ?_
      cases h
      exact ⟨.inr rfl, leaves_of [.tmp 2] rfl (by decide) (.tmp (ltF rfl) rfl .nil)⟩
    · replace h := ite_no hb h
      refine dq (ps := [(19, .val false [.t (.ptr (cBitmap false a0))])]) rfl rfl rfl ?_
      refine dq (ps := [(20, .val false [.t (.ptr (cBitmap false a0))])]) rfl rfl rfl ?_
      refine dq (ps := [(21, .val false [.t (.ptr [.sc (.int .i64 a0.Width), .sl false 1 (a0.Rows.map (cS false))])])]) rfl rfl rfl ?_
      refine dq (ps := [(22, pI .i64 a0.Width)]) rfl rfl rfl ?_
      obtain ⟨r_2, hr_2, h⟩ := bind_some h
      refine dCall (gn := 55) (fn := Tryd.f55) (cp := []) (lt := []) [22] (vc_sl00In n a0.Width 0 128 _ hr_2) Tryd.func55 rfl rfl rfl rfl (.inl rfl) (.inl rfl) (fun st2 h2 => ⟨rfl, args_of0 (.cons (aF (ltF rfl) ((congrArg Slot.sv (h2 22 (by decide))).trans rfl) rfl) (.cons (aC rfl) (.cons (aC rfl) .nil)))⟩) rfl ?_
      refine dq (ps := [(24, pB (!r_2))]) rfl rfl rfl ?_
      refine dq (ps := [(25, pB (!r_2))]) rfl rfl rfl ?_
      refine dq (ps := [(26, pB (!r_2))]) rfl rfl rfl ?_
      refine dS 26 rfl (fun hb => ?_) (fun hb => ?_)
      · replace h := ite_yes hb h
        refine dU rfl rfl rfl rfl ?_
        refine dU rfl rfl rfl rfl ?_
        refine dU rfl rfl rfl rfl ?_
        refine dU rfl rfl rfl rfl ?_
        refine dU rfl rfl rfl rfl ?_
        refine dU rfl rfl rfl rfl ?_
        refine dq (ps := [(33, pB true)]) rfl rfl rfl ?_
        refine dq (ps := [(34, pB true)]) rfl rfl rfl ?_
        refine dU rfl rfl rfl rfl ?_
        refine dU rfl rfl rfl rfl ?_
        refine dU rfl rfl rfl rfl ?_
        refine dU rfl rfl rfl rfl ?_
        refine dU rfl rfl rfl rfl ?_
        refine dU rfl rfl rfl rfl ?_
        refine dU rfl rfl rfl rfl ?_
        refine dU rfl rfl rfl rfl ?_
        refine dU rfl rfl rfl rfl ?_
        refine dU rfl rfl rfl rfl ?_
        refine dU rfl rfl rfl rfl ?_
        refine dU rfl rfl rfl rfl ?_
        refine dq (ps := [(47, pB true)]) rfl rfl rfl ?_
        refine DL_nil ⟨[([0], [4]), ([4], [5]), ([5], [6]), ([6], [7]), ([7], [8]), ([8], [9]), ([9], [10]), ([10, 0], [11]), ([10, 11], [12]), ([10, 12], [13]), ([10, 13], [14]), ([10, 14], [15]), ([10, 15], [16]), ([10, 16], [17]), ([17], [18]), ([18, 0], [19]), ([18, 19], [20]), ([18, 20], [21]), ([18, 21], [22]), ([18, 22], [23]), ([18, 23], [24]), ([18, 24], [25]), ([25], [26]), ([26], [27]), ([26], [28]), ([26], [29]), ([26], [30]), ([26], [31]), ([26], [32]), ([26, 32], [33]), ([33], [34]), ([34], [35]), ([34], [36]), ([34], [37]), ([34], [38]), ([34], [39]), ([34], [40]), ([34], [41]), ([34], [42]), ([34], [43]), ([34], [44]), ([34], [45]), ([34], [46]), ([34, 46], [47])], rfl, by decide +kernel, ?_⟩
        refine W_fn (l := [(0, .val false [.t (.ptr (cBitmap false a0))]), (47, pB true)]) (nC rfl (nC rfl nN)) rfl ?_
        refine W_yes ⟨ltF rfl, rfl⟩ ?_
        refine W_seq ?_
        refine W_text ?_
        refine dq (ps := [(2, pB false)]) rfl rfl rfl ?_
        refine DL_nil ?_
        refine W_ret ?_
        cases h
        exact ⟨.inr rfl, leaves_of [.tmp 2] rfl (by decide) (.tmp (ltF rfl) rfl .nil)⟩
      · replace h := ite_no hb h
        refine dq (ps := [(27, .val false [.t (.ptr (cBitmap false a0))])]) rfl rfl rfl ?_
        refine dq (ps := [(28, .val false [.t (.ptr (cBitmap false a0))])]) rfl rfl rfl ?_
        refine dq (ps := [(29, .val false [.t (.ptr [.sl false 1 (a0.Rows.map (cS false))])])]) rfl rfl rfl ?_
        refine dq (ps := [(30, .val false [.t (.sl false 1 (a0.Rows.map (cS false)))])]) rfl rfl rfl ?_
        refine dLen (t := 22) (n := (a0.Rows.length : Int)) rfl (ltF rfl) rfl rfl (lenE rfl (List.length_map ..)) rfl ?_
        refine dq (ps := [(32, pB (decide ((a0.Rows.length : Int) > 128)))]) rfl rfl rfl ?_
        refine dq (ps := [(33, pB (decide ((a0.Rows.length : Int) > 128)))]) rfl rfl rfl ?_
        refine dq (ps := [(34, pB (decide ((a0.Rows.length : Int) > 128)))]) rfl rfl rfl ?_
        refine dS 34 rfl (fun hb => ?_) (fun hb => ?_)
        · replace h := ite_yes hb h
          refine dU rfl rfl rfl rfl ?_
          refine dU rfl rfl rfl rfl ?_
          refine dU rfl rfl rfl rfl ?_
          refine dU rfl rfl rfl rfl ?_
          refine dU rfl rfl rfl rfl ?_
          refine dU rfl rfl rfl rfl ?_
          refine dU rfl rfl rfl rfl ?_
          refine dU rfl rfl rfl rfl ?_
          refine dU rfl rfl rfl rfl ?_
          refine dU rfl rfl rfl rfl ?_
          refine dU rfl rfl rfl rfl ?_
          refine dU rfl rfl rfl rfl ?_
          refine dq (ps := [(47, pB true)]) rfl rfl rfl ?_
          refine DL_nil ⟨[([0], [4]), ([4], [5]), ([5], [6]), ([6], [7]), ([7], [8]), ([8], [9]), ([9], [10]), ([10, 0], [11]), ([10, 11], [12]), ([10, 12], [13]), ([10, 13], [14]), ([10, 14], [15]), ([10, 15], [16]), ([10, 16], [17]), ([17], [18]), ([18, 0], [19]), ([18, 19], [20]), ([18, 20], [21]), ([18, 21], [22]), ([18, 22], [23]), ([18, 23], [24]), ([18, 24], [25]), ([25], [26]), ([26, 0], [27]), ([26, 27], [28]), ([26, 28], [29]), ([26, 29], [30]), ([26, 30], [31]), ([26, 31], [32]), ([26, 32], [33]), ([33], [34]), ([34], [35]), ([34], [36]), ([34], [37]), ([34], [38]), ([34], [39]), ([34], [40]), ([34], [41]), ([34], [42]), ([34], [43]), ([34], [44]), ([34], [45]), ([34], [46]), ([34, 46], [47])], rfl, by decide +kernel, ?_⟩
          refine W_fn (l := [(0, .val false [.t (.ptr (cBitmap false a0))]), (47, pB true)]) (nC rfl (nC rfl nN)) rfl ?_
          refine W_yes ⟨ltF rfl, rfl⟩ ?_
          refine W_seq ?_
          refine W_text ?_
          refine dq (ps := [(2, pB false)]) rfl rfl rfl ?_
          refine DL_nil ?_
          refine W_ret ?_
          cases h
          exact ⟨.inr rfl, leaves_of [.tmp 2] rfl (by decide) (.tmp (ltF rfl) rfl .nil)⟩
        · replace h := ite_no hb h
          refine dq (ps := [(35, .val false [.t (.ptr (cBitmap false a0))])]) rfl rfl rfl ?_
          refine dq (ps := [(36, .val false [.t (.ptr (cBitmap false a0))])]) rfl rfl rfl ?_
          refine dq (ps := [(37, .val false [.t (.ptr [.sc (.int .i64 a0.Width), .sl false 1 (a0.Rows.map (cS false))])])]) rfl rfl rfl ?_
          refine dq (ps := [(38, pI .i64 a0.Width)]) rfl rfl rfl ?_
          refine dq (ps := [(39, pB (a0.Width == 0))]) rfl rfl rfl ?_
          refine dq (ps := [(40, .val false [.t (.ptr (cBitmap false a0))])]) rfl rfl rfl ?_
          refine dq (ps := [(41, .val false [.t (.ptr (cBitmap false a0))])]) rfl rfl rfl ?_
          refine dq (ps := [(42, .val false [.t (.ptr [.sl false 1 (a0.Rows.map (cS false))])])]) rfl rfl rfl ?_
          refine dq (ps := [(43, .val false [.t (.sl false 1 (a0.Rows.map (cS false)))])]) rfl rfl rfl ?_
          refine dLen (t := 22) (n := (a0.Rows.length : Int)) rfl (ltF rfl) rfl rfl (lenE rfl (List.length_map ..)) rfl ?_
          refine dq (ps := [(45, pB ((a0.Rows.length : Int) == 0))]) rfl rfl rfl ?_
          refine dx (ps := [(46, pB ((a0.Width == 0) != ((a0.Rows.length : Int) == 0)))]) rfl rfl rfl ?_
          refine dq (ps := [(47, pB ((a0.Width == 0) != ((a0.Rows.length : Int) == 0)))]) rfl rfl rfl ?_
          refine DL_nil ⟨[([0], [4]), ([4], [5]), ([5], [6]), ([6], [7]), ([7], [8]), ([8], [9]), ([9], [10]), ([10, 0], [11]), ([10, 11], [12]), ([10, 12], [13]), ([10, 13], [14]), ([10, 14], [15]), ([10, 15], [16]), ([10, 16], [17]), ([17], [18]), ([18, 0], [19]), ([18, 19], [20]), ([18, 20], [21]), ([18, 21], [22]), ([18, 22], [23]), ([18, 23], [24]), ([18, 24], [25]), ([25], [26]), ([26, 0], [27]), ([26, 27], [28]), ([26, 28], [29]), ([26, 29], [30]), ([26, 30], [31]), ([26, 31], [32]), ([26, 32], [33]), ([33], [34]), ([34, 0], [35]), ([34, 35], [36]), ([34, 36], [37]), ([34, 37], [38]), ([34, 38], [39]), ([34, 0], [40]), ([34, 40], [41]), ([34, 41], [42]), ([34, 42], [43]), ([34, 43], [44]), ([34, 44], [45]), ([34, 39, 45], [46]), ([34, 46], [47])], rfl, by decide +kernel, ?_⟩
          refine W_fn (l := [(0, .val false [.t (.ptr (cBitmap false a0))]), (47, pB ((a0.Width == 0) != ((a0.Rows.length : Int) == 0)))]) (nC rfl (nC rfl nN)) rfl ?_
          refine W_split ⟨ltF rfl, rfl⟩ (fun hb => ?_) (fun hb => ?_)
          · replace h := ite_yes hb h
            refine W_seq ?_
            refine W_text ?_
            refine dq (ps := [(2, pB false)]) rfl rfl rfl ?_
            refine DL_nil ?_
            refine W_ret ?_
            cases h
            exact ⟨.inr rfl, leaves_of [.tmp 2] rfl (by decide) (.tmp (ltF rfl) rfl .nil)⟩
          · replace h := ite_no hb h
            refine W_skip ?_
            refine W_seq ?_
            refine W_seq ?_
            refine W_text ?_
            refine dq (ps := [(3, pI .i64 0)]) rfl rfl rfl ?_
            refine DL_nil ?_
            refine W_block ?_
            obtain ⟨o, ho, h⟩ := bind_some h
            refine sl22Ok_L0_ok ?_ ho _ (nC rfl (nC rfl nN))
            rcases o with p | ⟨j, p⟩ | r
            · skip
              dsimp only at h ⊢
              intro st hst
              refine W_fn hst rfl ?_
              refine W_seq ?_
              refine W_text ?_
              refine dq (ps := [(2, pB true)]) rfl rfl rfl ?_
              refine DL_nil ?_
              refine W_ret ?_
              cases h
              exact ⟨.inr rfl, leaves_of [.tmp 2] rfl (by decide) (.tmp (ltF rfl) rfl .nil)⟩
            · exact trivial
            · dsimp only at h ⊢
              intro st hst
              cases h
              exact ⟨.inr rfl, leaves_of [.tmp 2] rfl (by decide) (.tmp (ltF rfl) (hst.at (s := 2) rfl rfl) .nil)⟩

structure SL34Box where
  left : Int
  bottom : Int
  width : Int
  height : Int

def cL34Box (m : Bool) (x : SL34Box) : List T := [.sc (.int .i64 x.left), .sc (.int .i64 x.bottom), .sc (.int .i64 x.width), .sc (.int .i64 x.height)]

-- sl34Of: loop.example/g00883/spec.l34Of
def sl34Of (n : Nat) (a0 : SBitmap) : Option (SL34Box) :=
  some (SL34Box.mk a0.Left a0.Bottom a0.Width (a0.Rows.length : Int))

theorem vc_sl34Of (n : Nat) (a0 : SBitmap) (r : SL34Box) (h : sl34Of n a0 = some r) : VC Tryd.prog 57 [.sh false [.ptr (cBitmap false a0)]] [(true, cL34Box true r)] [] := by
  refine VC_of 21 Tryd.func57 rfl rfl rfl fun G0 w0 pv => ?_
  unfold sl34Of at h
  refine W_seq ?_
  refine W_text ?_
  refine dAlloc (R' := []) (zs := [.sc (.int .i64 0), .sc (.int .i64 0), .sc (.int .i64 0), .sc (.int .i64 0)]) rfl rfl (zeros_of _ rfl ⟨z1 rfl, z1 rfl, z1 rfl, z1 rfl, trivial⟩) rfl ?_
  refine DL_nil ?_
  refine W_seq ?_
  refine W_drawn rfl ?_
  refine dq (R' := [0]) (ps := [(3, .val false [.t (.ptr (cBitmap false a0))])]) rfl rfl rfl ?_
  refine dq (R' := [3]) (ps := [(4, .val false [.t (.ptr (cBitmap false a0))])]) rfl rfl rfl ?_
  refine dq (R' := [4]) (ps := [(5, .val false [.t (.ptr (cBitmap false a0))])]) rfl rfl rfl ?_
  refine dq (R' := [5]) (ps := [(6, pI .i64 a0.Left)]) rfl rfl rfl ?_
  refine dq (R' := [0]) (ps := [(7, .val false [.t (.ptr (cBitmap false a0))])]) rfl rfl rfl ?_
  refine dq (R' := [7]) (ps := [(8, .val false [.t (.ptr (cBitmap false a0))])]) rfl rfl rfl ?_
  refine dq (R' := [8]) (ps := [(9, .val false [.t (.ptr [.sc (.int .i64 a0.Bottom), .sc (.int .i64 a0.Width), .sl false 1 (a0.Rows.map (cS false))])])]) rfl rfl rfl ?_
  refine dq (R' := [9]) (ps := [(10, pI .i64 a0.Bottom)]) rfl rfl rfl ?_
  refine dq (R' := [0]) (ps := [(11, .val false [.t (.ptr (cBitmap false a0))])]) rfl rfl rfl ?_
  refine dq (R' := [11]) (ps := [(12, .val false [.t (.ptr (cBitmap false a0))])]) rfl rfl rfl ?_
  refine dq (R' := [12]) (ps := [(13, .val false [.t (.ptr [.sc (.int .i64 a0.Width), .sl false 1 (a0.Rows.map (cS false))])])]) rfl rfl rfl ?_
  refine dq (R' := [13]) (ps := [(14, pI .i64 a0.Width)]) rfl rfl rfl ?_
  refine dq (R' := [0]) (ps := [(15, .val false [.t (.ptr (cBitmap false a0))])]) rfl rfl rfl ?_
  refine dq (R' := [15]) (ps := [(16, .val false [.t (.ptr (cBitmap false a0))])]) rfl rfl rfl ?_
  refine dq (R' := [16]) (ps := [(17, .val false [.t (.ptr [.sl false 1 (a0.Rows.map (cS false))])])]) rfl rfl rfl ?_
  refine dq (R' := [17]) (ps := [(18, .val false [.t (.sl false 1 (a0.Rows.map (cS false)))])]) rfl rfl rfl ?_
  refine dLen (R' := [18]) (t := 22) (n := (a0.Rows.length : Int)) rfl (ltF rfl) rfl rfl (lenE rfl (List.length_map ..)) rfl ?_
  refine dBuild (R' := [6, 10, 14, 19]) (pls := [(0, 1), (1, 1), (2, 1), (3, 1)]) (zs := [.sc (.int .i64 0), .sc (.int .i64 0), .sc (.int .i64 0), .sc (.int .i64 0)]) (ts := [.sc (.int .i64 a0.Left), .sc (.int .i64 a0.Bottom), .sc (.int .i64 a0.Width), .sc (.int .i64 (a0.Rows.length : Int))]) (qs := [(0, [.sc (.int .i64 a0.Left)]), (1, [.sc (.int .i64 a0.Bottom)]), (2, [.sc (.int .i64 a0.Width)]), (3, [.sc (.int .i64 (a0.Rows.length : Int))])]) [] [6, 10, 14, 19] rfl rfl rfl (zeros_of _ rfl ⟨z1 rfl, z1 rfl, z1 rfl, z1 rfl, trivial⟩) (by decide) rfl (fun st2 h2 => (.cons rfl (.free (⟨ltF rfl, (congrArg Slot.sv (h2 6 (by decide))).trans rfl⟩) rfl) rfl (.cons rfl (.free (⟨ltF rfl, (congrArg Slot.sv (h2 10 (by decide))).trans rfl⟩) rfl) rfl (.cons rfl (.free (⟨ltF rfl, (congrArg Slot.sv (h2 14 (by decide))).trans rfl⟩) rfl) rfl (.cons rfl (.free (⟨ltF rfl, (congrArg Slot.sv (h2 19 (by decide))).trans rfl⟩) rfl) rfl .nil))))) rfl ?_
  refine dStB (R' := [2, 20]) (ag := true) (ts := [.sc (.int .i64 a0.Left), .sc (.int .i64 a0.Bottom), .sc (.int .i64 a0.Width), .sc (.int .i64 (a0.Rows.length : Int))]) (cs' := [.sc (.int .i64 a0.Left), .sc (.int .i64 a0.Bottom), .sc (.int .i64 a0.Width), .sc (.int .i64 (a0.Rows.length : Int))]) [] [2, 20] rfl (ltF rfl) (by decide) rfl rfl rfl (by decide) rfl rfl (fun st2 h2 => .free (⟨ltF rfl, (congrArg Slot.sv (h2 20 (by decide))).trans rfl⟩) rfl) rfl ?_
  refine DL_nil ⟨[([0], [3]), ([3], [4]), ([4], [5]), ([5], [6]), ([0], [7]), ([7], [8]), ([8], [9]), ([9], [10]), ([0], [11]), ([11], [12]), ([12], [13]), ([13], [14]), ([0], [15]), ([15], [16]), ([16], [17]), ([17], [18]), ([18], [19]), ([6, 10, 14, 19], [20]), ([2, 20], [2])], rfl, by decide +kernel, ?_⟩
  refine W_fn (l := [(2, .box [.sc (.int .i64 a0.Left), .sc (.int .i64 a0.Bottom), .sc (.int .i64 a0.Width), .sc (.int .i64 (a0.Rows.length : Int))])]) (nC rfl nN) rfl ?_
  refine W_ret ?_
  cases h
  exact ⟨.inr rfl, leaves_of [.cell 2 96] rfl (by decide) (.cell (ltF rfl) rfl rfl rfl rfl .nil)⟩

-- sl22At: loop.example/g00883/spec.l22At
def sl22At (n : Nat) (a0 : SBitmap) (a1 : Int) (a2 : Int) : Option (Bool) :=
  ((sl00In n (w64 ((w64 ((a0.Rows.length : Int) - 1)) - (w64 (a2 - a0.Bottom)))) 0 (w64 ((a0.Rows.length : Int) - 1))).bind fun r => (if (r) = true then ((sl00In n (w64 (a1 - a0.Left)) 0 (w64 (a0.Width - 1))).bind fun r_1 => (if (r_1) = true then ((getI a0.Rows (w64 ((w64 ((a0.Rows.length : Int) - 1)) - (w64 (a2 - a0.Bottom))))).bind fun x => (if (0 : Int) ≤ w64 (a1 - a0.Left) ∧ w64 (a1 - a0.Left) < (x.size : Int) then some ((byteAt x (w64 (a1 - a0.Left))) == 35) else none)) else some false)) else some false))

theorem vc_sl22At (n : Nat) (a0 : SBitmap) (a1 : Int) (a2 : Int) (r : Bool) (h : sl22At n a0 a1 a2 = some r) : VC Tryd.prog 58 [.sh false [.ptr (cBitmap false a0)], .sh false ((cI .i64) false a1), .sh false ((cI .i64) false a2)] [(false, cB true r)] [] := by
  refine VC_of 60 Tryd.func58 rfl rfl rfl fun G0 w0 pv => ?_
  unfold sl22At at h
  refine W_seq ?_
  refine W_text ?_
  refine dq (ps := [(6, pB false)]) rfl rfl rfl ?_
  refine DL_nil ?_
  refine W_seq ?_
  refine W_drawn rfl ?_
  refine dq (R' := [0]) (ps := [(8, .val false [.t (.ptr (cBitmap false a0))])]) rfl rfl rfl ?_
  refine dq (R' := [8]) (ps := [(9, .val false [.t (.ptr (cBitmap false a0))])]) rfl rfl rfl ?_
  refine dq (R' := [9]) (ps := [(10, .val false [.t (.ptr [.sl false 1 (a0.Rows.map (cS false))])])]) rfl rfl rfl ?_
  refine dq (R' := [10]) (ps := [(11, .val false [.t (.sl false 1 (a0.Rows.map (cS false)))])]) rfl rfl rfl ?_
  refine dLen (R' := [11]) (t := 22) (n := (a0.Rows.length : Int)) rfl (ltF rfl) rfl rfl (lenE rfl (List.length_map ..)) rfl ?_
  refine dq (R' := [12]) (ps := [(13, pI .i64 (w64 ((a0.Rows.length : Int) - 1)))]) rfl rfl rfl ?_
  refine dq (R' := [2]) (ps := [(14, pI .i64 a2)]) rfl rfl rfl ?_
  refine dq (R' := [0]) (ps := [(15, .val false [.t (.ptr (cBitmap false a0))])]) rfl rfl rfl ?_
  refine dq (R' := [15]) (ps := [(16, .val false [.t (.ptr (cBitmap false a0))])]) rfl rfl rfl ?_
  refine dq (R' := [16]) (ps := [(17, .val false [.t (.ptr [.sc (.int .i64 a0.Bottom), .sc (.int .i64 a0.Width), .sl false 1 (a0.Rows.map (cS false))])])]) rfl rfl rfl ?_
  refine dq (R' := [17]) (ps := [(18, pI .i64 a0.Bottom)]) rfl rfl rfl ?_
  refine dq (R' := [14, 18]) (ps := [(19, pI .i64 (w64 (a2 - a0.Bottom)))]) rfl rfl rfl ?_
  refine dq (R' := [13, 19]) (ps := [(20, pI .i64 (w64 ((w64 ((a0.Rows.length : Int) - 1)) - (w64 (a2 - a0.Bottom)))))]) rfl rfl rfl ?_
  refine dq (R' := [20]) (ps := [(7, pI .i64 (w64 ((w64 ((a0.Rows.length : Int) - 1)) - (w64 (a2 - a0.Bottom)))))]) rfl rfl rfl ?_
  refine DL_nil ⟨[([0], [8]), ([8], [9]), ([9], [10]), ([10], [11]), ([11], [12]), ([12], [13]), ([2], [14]), ([0], [15]), ([15], [16]), ([16], [17]), ([17], [18]), ([14, 18], [19]), ([13, 19], [20]), ([20], [7])], rfl, by decide +kernel, ?_⟩
  refine W_fn (l := [(0, .val false [.t (.ptr (cBitmap false a0))]), (1, pI .i64 a1), (7, pI .i64 (w64 ((w64 ((a0.Rows.length : Int) - 1)) - (w64 (a2 - a0.Bottom)))))]) (nC rfl (nC rfl (nC rfl nN))) rfl ?_
  refine W_seq ?_
  refine W_drawn rfl ?_
  refine dq (R' := [7]) (ps := [(21, pI .i64 (w64 ((w64 ((a0.Rows.length : Int) - 1)) - (w64 (a2 - a0.Bottom)))))]) rfl rfl rfl ?_
  refine dq (R' := [0]) (ps := [(22, .val false [.t (.ptr (cBitmap false a0))])]) rfl rfl rfl ?_
  refine dq (R' := [22]) (ps := [(23, .val false [.t (.ptr (cBitmap false a0))])]) rfl rfl rfl ?_
  refine dq (R' := [23]) (ps := [(24, .val false [.t (.ptr [.sl false 1 (a0.Rows.map (cS false))])])]) rfl rfl rfl ?_
  refine dq (R' := [24]) (ps := [(25, .val false [.t (.sl false 1 (a0.Rows.map (cS false)))])]) rfl rfl rfl ?_
  refine dLen (R' := [25]) (t := 22) (n := (a0.Rows.length : Int)) rfl (ltF rfl) rfl rfl (lenE rfl (List.length_map ..)) rfl ?_
  refine dq (R' := [26]) (ps := [(27, pI .i64 (w64 ((a0.Rows.length : Int) - 1)))]) rfl rfl rfl ?_
  obtain ⟨r, hr, h⟩ := bind_some h
  refine dCall (R' := [21, 27]) (gn := 55) (fn := Tryd.f55) (cp := []) (lt := []) [21, 27] (vc_sl00In n (w64 ((w64 ((a0.Rows.length : Int) - 1)) - (w64 (a2 - a0.Bottom)))) 0 (w64 ((a0.Rows.length : Int) - 1)) _ hr) Tryd.func55 rfl rfl rfl rfl (.inl rfl) (.inl rfl) (fun st2 h2 => ⟨rfl, args_of0 (.cons (aF (ltF rfl) ((congrArg Slot.sv (h2 21 (by decide))).trans rfl) rfl) (.cons (aC rfl) (.cons (aF (ltF rfl) ((congrArg Slot.sv (h2 27 (by decide))).trans rfl) rfl) .nil)))⟩) rfl ?_
  refine dq (R' := [28]) (ps := [(29, pB r)]) rfl rfl rfl ?_
  refine dS 29 rfl (fun hb => ?_) (fun hb => ?_)
  · replace h := ite_yes hb h
    refine dq (R' := [29, 1]) (ps := [(30, pI .i64 a1)]) rfl rfl rfl ?_
    refine dq (R' := [29, 0]) (ps := [(31, .val false [.t (.ptr (cBitmap false a0))])]) rfl rfl rfl ?_
    refine dq (R' := [29, 31]) (ps := [(32, .val false [.t (.ptr (cBitmap false a0))])]) rfl rfl rfl ?_
    refine dq (R' := [29, 32]) (ps := [(33, .val false [.t (.ptr (cBitmap false a0))])]) rfl rfl rfl ?_
    refine dq (R' := [29, 33]) (ps := [(34, pI .i64 a0.Left)]) rfl rfl rfl ?_
    refine dq (R' := [29, 30, 34]) (ps := [(35, pI .i64 (w64 (a1 - a0.Left)))]) rfl rfl rfl ?_
    refine dq (R' := [29, 0]) (ps := [(36, .val false [.t (.ptr (cBitmap false a0))])]) rfl rfl rfl ?_
    refine dq (R' := [29, 36]) (ps := [(37, .val false [.t (.ptr (cBitmap false a0))])]) rfl rfl rfl ?_
    refine dq (R' := [29, 37]) (ps := [(38, .val false [.t (.ptr [.sc (.int .i64 a0.Width), .sl false 1 (a0.Rows.map (cS false))])])]) rfl rfl rfl ?_
    refine dq (R' := [29, 38]) (ps := [(39, pI .i64 a0.Width)]) rfl rfl rfl ?_
    refine dq (R' := [29, 39]) (ps := [(40, pI .i64 (w64 (a0.Width - 1)))]) rfl rfl rfl ?_
    obtain ⟨r_1, hr_1, h⟩ := bind_some h
    refine dCall (R' := [29, 35, 40]) (gn := 55) (fn := Tryd.f55) (cp := []) (lt := []) [35, 40] (vc_sl00In n (w64 (a1 - a0.Left)) 0 (w64 (a0.Width - 1)) _ hr_1) Tryd.func55 rfl rfl rfl rfl (.inl rfl) (.inl rfl) (fun st2 h2 => ⟨rfl, args_of0 (.cons (aF (ltF rfl) ((congrArg Slot.sv (h2 35 (by decide))).trans rfl) rfl) (.cons (aC rfl) (.cons (aF (ltF rfl) ((congrArg Slot.sv (h2 40 (by decide))).trans rfl) rfl) .nil)))⟩) rfl ?_
    refine dq (R' := [29, 41]) (ps := [(42, pB r_1)]) rfl rfl rfl ?_
    refine dq (R' := [42]) (ps := [(43, pB r_1)]) rfl rfl rfl ?_
    refine dS 43 rfl (fun hb => ?_) (fun hb => ?_)
    · replace h := ite_yes hb h
      refine dq (R' := [43, 0]) (ps := [(44, .val false [.t (.ptr (cBitmap false a0))])]) rfl rfl rfl ?_
      refine dq (R' := [43, 44]) (ps := [(45, .val false [.t (.ptr (cBitmap false a0))])]) rfl rfl rfl ?_
      refine dq (R' := [43, 45]) (ps := [(46, .val false [.t (.ptr [.sl false 1 (a0.Rows.map (cS false))])])]) rfl rfl rfl ?_
      refine dq (R' := [43, 46]) (ps := [(47, .val false [.t (.sl false 1 (a0.Rows.map (cS false)))])]) rfl rfl rfl ?_
      refine dq (R' := [43, 7]) (ps := [(48, pI .i64 (w64 ((w64 ((a0.Rows.length : Int) - 1)) - (w64 (a2 - a0.Bottom)))))]) rfl rfl rfl ?_
      obtain ⟨x, hx, h⟩ := bind_some h
      refine dIxA (R' := [43, 47, 48]) rfl rfl rfl rfl rfl (getI_map (cS false) hx) rfl ?_
      refine dq (R' := [43, 49]) (ps := [(50, pS x)]) rfl rfl rfl ?_
      refine dq (R' := [43, 1]) (ps := [(51, pI .i64 a1)]) rfl rfl rfl ?_
      refine dq (R' := [43, 0]) (ps := [(52, .val false [.t (.ptr (cBitmap false a0))])]) rfl rfl rfl ?_
      refine dq (R' := [43, 52]) (ps := [(53, .val false [.t (.ptr (cBitmap false a0))])]) rfl rfl rfl ?_
      refine dq (R' := [43, 53]) (ps := [(54, .val false [.t (.ptr (cBitmap false a0))])]) rfl rfl rfl ?_
      refine dq (R' := [43, 54]) (ps := [(55, pI .i64 a0.Left)]) rfl rfl rfl ?_
      refine dq (R' := [43, 51, 55]) (ps := [(56, pI .i64 (w64 (a1 - a0.Left)))]) rfl rfl rfl ?_
      obtain ⟨hp, h⟩ := ite_some h
      refine dIdx (R' := [43, 50, 56]) rfl rfl rfl rfl rfl hp rfl ?_
      refine dq (R' := [43, 57]) (ps := [(58, pB ((byteAt x (w64 (a1 - a0.Left))) == 35))]) rfl rfl rfl ?_
      refine dq (R' := [43, 58]) (ps := [(59, pB ((byteAt x (w64 (a1 - a0.Left))) == 35))]) rfl rfl rfl ?_
      refine dq (R' := [59]) (ps := [(6, pB ((byteAt x (w64 (a1 - a0.Left))) == 35))]) rfl rfl rfl ?_
      refine DL_nil ⟨[([7], [21]), ([0], [22]), ([22], [23]), ([23], [24]), ([24], [25]), ([25], [26]), ([26], [27]), ([21, 27], [28]), ([28], [29]), ([29, 1], [30]), ([29, 0], [31]), ([29, 31], [32]), ([29, 32], [33]), ([29, 33], [34]), ([29, 30, 34], [35]), ([29, 0], [36]), ([29, 36], [37]), ([29, 37], [38]), ([29, 38], [39]), ([29, 39], [40]), ([29, 35, 40], [41]), ([29, 41], [42]), ([42], [43]), ([43, 0], [44]), ([43, 44], [45]), ([43, 45], [46]), ([43, 46], [47]), ([43, 7], [48]), ([43, 47, 48], [49]), ([43, 49], [50]), ([43, 1], [51]), ([43, 0], [52]), ([43, 52], [53]), ([43, 53], [54]), ([43, 54], [55]), ([43, 51, 55], [56]), ([43, 50, 56], [57]), ([43, 57], [58]), ([43, 58], [59]), ([59], [6])], rfl, by decide +kernel, ?_⟩
      refine W_fn (l := [(6, pB ((byteAt x (w64 (a1 - a0.Left))) == 35))]) (nC rfl nN) rfl ?_
      refine W_ret ?_
      cases h
      exact ⟨.inr rfl, leaves_of [.tmp 6] rfl (by decide) (.tmp (ltF rfl) rfl .nil)⟩
    · replace h := ite_no hb h
      refine dU (R' := [43]) rfl rfl rfl rfl ?_
      refine dU (R' := [43]) rfl rfl rfl rfl ?_
      refine dU (R' := [43]) rfl rfl rfl rfl ?_
      refine dU (R' := [43]) rfl rfl rfl rfl ?_
      refine dU (R' := [43]) rfl rfl rfl rfl ?_
      refine dU (R' := [43]) rfl rfl rfl rfl ?_
      refine dU (R' := [43]) rfl rfl rfl rfl ?_
      refine dU (R' := [43]) rfl rfl rfl rfl ?_
      refine dU (R' := [43]) rfl rfl rfl rfl ?_
      refine dU (R' := [43]) rfl rfl rfl rfl ?_
      refine dU (R' := [43]) rfl rfl rfl rfl ?_
      refine dU (R' := [43]) rfl rfl rfl rfl ?_
      refine dU (R' := [43]) rfl rfl rfl rfl ?_
      refine dU (R' := [43]) rfl rfl rfl rfl ?_
      refine dU (R' := [43]) rfl rfl rfl rfl ?_
      refine dq (R' := [43, 58]) (ps := [(59, pB false)]) rfl rfl rfl ?_
      refine dq (R' := [59]) (ps := [(6, pB false)]) rfl rfl rfl ?_
      refine DL_nil ⟨[([7], [21]), ([0], [22]), ([22], [23]), ([23], [24]), ([24], [25]), ([25], [26]), ([26], [27]), ([21, 27], [28]), ([28], [29]), ([29, 1], [30]), ([29, 0], [31]), ([29, 31], [32]), ([29, 32], [33]), ([29, 33], [34]), ([29, 30, 34], [35]), ([29, 0], [36]), ([29, 36], [37]), ([29, 37], [38]), ([29, 38], [39]), ([29, 39], [40]), ([29, 35, 40], [41]), ([29, 41], [42]), ([42], [43]), ([43], [44]), ([43], [45]), ([43], [46]), ([43], [47]), ([43], [48]), ([43], [49]), ([43], [50]), ([43], [51]), ([43], [52]), ([43], [53]), ([43], [54]), ([43], [55]), ([43], [56]), ([43], [57]), ([43], [58]), ([43, 58], [59]), ([59], [6])], rfl, by decide +kernel, ?_⟩
      refine W_fn (l := [(6, pB false)]) (nC rfl nN) rfl ?_
      refine W_ret ?_
      cases h
      exact ⟨.inr rfl, leaves_of [.tmp 6] rfl (by decide) (.tmp (ltF rfl) rfl .nil)⟩
  · replace h := ite_no hb h
    refine dU (R' := [29]) rfl rfl rfl rfl ?_
    refine dU (R' := [29]) rfl rfl rfl rfl ?_
    refine dU (R' := [29]) rfl rfl rfl rfl ?_
    refine dU (R' := [29]) rfl rfl rfl rfl ?_
    refine dU (R' := [29]) rfl rfl rfl rfl ?_
    refine dU (R' := [29]) rfl rfl rfl rfl ?_
    refine dU (R' := [29]) rfl rfl rfl rfl ?_
    refine dU (R' := [29]) rfl rfl rfl rfl ?_
    refine dU (R' := [29]) rfl rfl rfl rfl ?_
    refine dU (R' := [29]) rfl rfl rfl rfl ?_
    refine dU (R' := [29]) rfl rfl rfl rfl ?_
    refine dU (R' := [29]) rfl rfl rfl rfl ?_
    refine dq (R' := [29, 41]) (ps := [(42, pB false)]) rfl rfl rfl ?_
    refine dq (R' := [42]) (ps := [(43, pB false)]) rfl rfl rfl ?_
    refine dU (R' := [43]) rfl rfl rfl rfl ?_
    refine dU (R' := [43]) rfl rfl rfl rfl ?_
    refine dU (R' := [43]) rfl rfl rfl rfl ?_
    refine dU (R' := [43]) rfl rfl rfl rfl ?_
    refine dU (R' := [43]) rfl rfl rfl rfl ?_
    refine dU (R' := [43]) rfl rfl rfl rfl ?_
    refine dU (R' := [43]) rfl rfl rfl rfl ?_
    refine dU (R' := [43]) rfl rfl rfl rfl ?_
    refine dU (R' := [43]) rfl rfl rfl rfl ?_
    refine dU (R' := [43]) rfl rfl rfl rfl ?_
    refine dU (R' := [43]) rfl rfl rfl rfl ?_
    refine dU (R' := [43]) rfl rfl rfl rfl ?_
    refine dU (R' := [43]) rfl rfl rfl rfl ?_
    refine dU (R' := [43]) rfl rfl rfl rfl ?_
    refine dU (R' := [43]) rfl rfl rfl rfl ?_
    refine dq (R' := [43, 58]) (ps := [(59, pB false)]) rfl rfl rfl ?_
    refine dq (R' := [59]) (ps := [(6, pB false)]) rfl rfl rfl ?_
    refine DL_nil ⟨[([7], [21]), ([0], [22]), ([22], [23]), ([23], [24]), ([24], [25]), ([25], [26]), ([26], [27]), ([21, 27], [28]), ([28], [29]), ([29], [30]), ([29], [31]), ([29], [32]), ([29], [33]), ([29], [34]), ([29], [35]), ([29], [36]), ([29], [37]), ([29], [38]), ([29], [39]), ([29], [40]), ([29], [41]), ([29, 41], [42]), ([42], [43]), ([43], [44]), ([43], [45]), ([43], [46]), ([43], [47]), ([43], [48]), ([43], [49]), ([43], [50]), ([43], [51]), ([43], [52]), ([43], [53]), ([43], [54]), ([43], [55]), ([43], [56]), ([43], [57]), ([43], [58]), ([43, 58], [59]), ([59], [6])], rfl, by decide +kernel, ?_⟩
    refine W_fn (l := [(6, pB false)]) (nC rfl nN) rfl ?_
    refine W_ret ?_
    cases h
    exact ⟨.inr rfl, leaves_of [.tmp 6] rfl (by decide) (.tmp (ltF rfl) rfl .nil)⟩

-- sl00Min: loop.example/g00883/spec.l00Min
def sl00Min (n : Nat) (a0 : Int) (a1 : Int) : Option (Int) :=
  (if (decide (a0 < a1)) = true then some a0 else some a1)

theorem vc_sl00Min (n : Nat) (a0 : Int) (a1 : Int) (r : Int) (h : sl00Min n a0 a1 = some r) : VC Tryd.prog 59 [.sh false ((cI .i64) false a0), .sh false ((cI .i64) false a1)] [(false, (cI .i64) true r)] [] := by
  refine VC_of 10 Tryd.func59 rfl rfl rfl fun G0 w0 pv => ?_
  unfold sl00Min at h
  refine W_seq ?_
  refine W_text ?_
  refine dq (ps := [(4, pI .i64 0)]) rfl rfl rfl ?_
  refine DL_nil ?_
  refine W_seq ?_
  refine W_seq ?_
  refine W_text ?_
  refine dq (ps := [(5, pI .i64 a0)]) rfl rfl rfl ?_
  refine dq (ps := [(6, pI .i64 a1)]) rfl rfl rfl ?_
  refine dq (ps := [(7, pB (decide (a0 < a1)))]) rfl rfl rfl ?_
  refine DL_nil ?_
  refine W_split ⟨ltF rfl, rfl⟩ (fun hb => ?_) (fun hb => ?_)
  · replace h := ite_yes hb h
    refine W_seq ?_
    refine W_text ?_
    refine dq (ps := [(8, pI .i64 a0)]) rfl rfl rfl ?_
    refine dq (ps := [(4, pI .i64 a0)]) rfl rfl rfl ?_
    refine DL_nil ?_
    refine W_ret ?_
    cases h
    exact ⟨.inr rfl, leaves_of [.tmp 4] rfl (by decide) (.tmp (ltF rfl) rfl .nil)⟩
  · replace h := ite_no hb h
    refine W_skip ?_
    refine W_seq ?_
    refine W_text ?_
    refine dq (ps := [(9, pI .i64 a1)]) rfl rfl rfl ?_
    refine dq (ps := [(4, pI .i64 a1)]) rfl rfl rfl ?_
    refine DL_nil ?_
    refine W_ret ?_
    cases h
    exact ⟨.inr rfl, leaves_of [.tmp 4] rfl (by decide) (.tmp (ltF rfl) rfl .nil)⟩

-- sl00Max: loop.example/g00883/spec.l00Max
def sl00Max (n : Nat) (a0 : Int) (a1 : Int) : Option (Int) :=
  (if (decide (a0 > a1)) = true then some a0 else some a1)

theorem vc_sl00Max (n : Nat) (a0 : Int) (a1 : Int) (r : Int) (h : sl00Max n a0 a1 = some r) : VC Tryd.prog 60 [.sh false ((cI .i64) false a0), .sh false ((cI .i64) false a1)] [(false, (cI .i64) true r)] [] := by
  refine VC_of 10 Tryd.func60 rfl rfl rfl fun G0 w0 pv => ?_
  unfold sl00Max at h
  refine W_seq ?_
  refine W_text ?_
  refine dq (ps := [(4, pI .i64 0)]) rfl rfl rfl ?_
  refine DL_nil ?_
  refine W_seq ?_
  refine W_seq ?_
  refine W_text ?_
  refine dq (ps := [(5, pI .i64 a0)]) rfl rfl rfl ?_
  refine dq (ps := [(6, pI .i64 a1)]) rfl rfl rfl ?_
  refine dq (ps := [(7, pB (decide (a0 > a1)))]) rfl rfl rfl ?_
  refine DL_nil ?_
  refine W_split ⟨ltF rfl, rfl⟩ (fun hb => ?_) (fun hb => ?_)
  · replace h := ite_yes hb h
    refine W_seq ?_
    refine W_text ?_
    refine dq (ps := [(8, pI .i64 a0)]) rfl rfl rfl ?_
    refine dq (ps := [(4, pI .i64 a0)]) rfl rfl rfl ?_
    refine DL_nil ?_
    refine W_ret ?_
    cases h
    exact ⟨.inr rfl, leaves_of [.tmp 4] rfl (by decide) (.tmp (ltF rfl) rfl .nil)⟩
  · replace h := ite_no hb h
    refine W_skip ?_
    refine W_seq ?_
    refine W_text ?_
    refine dq (ps := [(9, pI .i64 a1)]) rfl rfl rfl ?_
    refine dq (ps := [(4, pI .i64 a1)]) rfl rfl rfl ?_
    refine DL_nil ?_
    refine W_ret ?_
    cases h
    exact ⟨.inr rfl, leaves_of [.tmp 4] rfl (by decide) (.tmp (ltF rfl) rfl .nil)⟩

-- sl34Signs: loop.example/g00883/spec.l34Signs
def sl34Signs_P2 (n : Nat) (r : Bool) (a0 : SBitmap) (a1 : SBitmap) (a3 : ByteArray) (a2 : SL34Box) (v9 : List ByteArray) (v10 : Int) (v11 : List Int) (v12 : Int) : Option (Out (Int) (List ByteArray)) :=
  (if (r) = true then some (.go (w64 (0 + 1))) else some (.go 0))

theorem sl34Signs_P2_ok {G0 : Nat → Own} {w0 : World} {Q : Exit → St → Prop} {r : Bool} {a0 : SBitmap} {a1 : SBitmap} {a3 : ByteArray} {a2 : SL34Box} {v9 : List ByteArray} {v10 : Int} {v11 : List Int} {v12 : Int} {out : (Out (Int) (List ByteArray))}
    (hQ : match out with | .go q13 => ∀ st, FN st [(0, .val false [.t (.ptr (cBitmap false a0))]), (1, .val false [.t (.ptr (cBitmap false a1))]), (3, pS a3), (6, .box (cL34Box false a2)), (9, .val false [.t (.sl true 1 (v9.map (cS true)))]), (10, pI .i64 v10), (11, .val false [.t (.sl true 1 (v11.map ((cI .u8) true)))]), (12, pI .i64 v12), (13, pI .i64 q13)] → Q .normal st | .brk _ _ => True | .ret r => ∀ st, Fits st [(8, .val false ((cLStr true r).map .t))] → Q .ret st)
    {n : Nat} (h : sl34Signs_P2 n r a0 a1 a3 a2 v9 v10 v11 v12 = some out) :
    ∀ st, FN st [(0, .val false [.t (.ptr (cBitmap false a0))]), (1, .val false [.t (.ptr (cBitmap false a1))]), (3, pS a3), (6, .box (cL34Box false a2)), (9, .val false [.t (.sl true 1 (v9.map (cS true)))]), (10, pI .i64 v10), (11, .val false [.t (.sl true 1 (v11.map ((cI .u8) true)))]), (12, pI .i64 v12), (13, pI .i64 0), (38, pB r)] → W ⟨Tryd.prog, 65, [], G0, w0⟩ (bodyAt Tryd.f61 [1, 1, 0, 1, 0, 0, 1, 0, 0, 1, 0, 1, 0, 0, 1, 0, 0, 1, 0, 1]) st Q := by
  intro st hst
  refine W_fn hst rfl ?_
  unfold sl34Signs_P2 at h
  refine W_split ⟨ltF rfl, rfl⟩ (fun hb => ?_) (fun hb => ?_)
  · replace h := ite_yes hb h
    refine W_text ?_
    refine dq (ps := [(39, pI .i64 0)]) rfl rfl rfl ?_
    refine dq (ps := [(40, pI .i64 (w64 (0 + 1)))]) rfl rfl rfl ?_
    refine dq (ps := [(13, pI .i64 (w64 (0 + 1)))]) rfl rfl rfl ?_
    refine DL_nil ?_
    cases h
    exact hQ _ (nC rfl (nC rfl (nC rfl (nC rfl (nC rfl (nC rfl (nC rfl (nC rfl (nC rfl nN)))))))))
  · replace h := ite_no hb h
    refine W_skip ?_
    cases h
    exact hQ _ (nC rfl (nC rfl (nC rfl (nC rfl (nC rfl (nC rfl (nC rfl (nC rfl (nC rfl nN)))))))))

def sl34Signs_P3 (n : Nat) (r_1 : Bool) (q13_1 : Int) (a0 : SBitmap) (a1 : SBitmap) (a3 : ByteArray) (a2 : SL34Box) (v9 : List ByteArray) (v10 : Int) (v11 : List Int) (v12 : Int) : Option (Out (Int) (List ByteArray)) :=
  (if (r_1) = true then some (.go (w64 (q13_1 + 2))) else some (.go q13_1))

theorem sl34Signs_P3_ok {G0 : Nat → Own} {w0 : World} {Q : Exit → St → Prop} {r_1 : Bool} {q13_1 : Int} {a0 : SBitmap} {a1 : SBitmap} {a3 : ByteArray} {a2 : SL34Box} {v9 : List ByteArray} {v10 : Int} {v11 : List Int} {v12 : Int} {out : (Out (Int) (List ByteArray))}
    (hQ : match out with | .go q13_2 => ∀ st, FN st [(0, .val false [.t (.ptr (cBitmap false a0))]), (1, .val false [.t (.ptr (cBitmap false a1))]), (3, pS a3), (6, .box (cL34Box false a2)), (9, .val false [.t (.sl true 1 (v9.map (cS true)))]), (10, pI .i64 v10), (11, .val false [.t (.sl true 1 (v11.map ((cI .u8) true)))]), (12, pI .i64 v12), (13, pI .i64 q13_2)] → Q .normal st | .brk _ _ => True | .ret r => ∀ st, Fits st [(8, .val false ((cLStr true r).map .t))] → Q .ret st)
    {n : Nat} (h : sl34Signs_P3 n r_1 q13_1 a0 a1 a3 a2 v9 v10 v11 v12 = some out) :
    ∀ st, FN st [(0, .val false [.t (.ptr (cBitmap false a0))]), (1, .val false [.t (.ptr (cBitmap false a1))]), (3, pS a3), (6, .box (cL34Box false a2)), (9, .val false [.t (.sl true 1 (v9.map (cS true)))]), (10, pI .i64 v10), (11, .val false [.t (.sl true 1 (v11.map ((cI .u8) true)))]), (12, pI .i64 v12), (13, pI .i64 q13_1), (50, pB r_1)] → W ⟨Tryd.prog, 65, [], G0, w0⟩ (bodyAt Tryd.f61 [1, 1, 0, 1, 0, 0, 1, 0, 0, 1, 0, 1, 0, 0, 1, 0, 0, 1, 1, 0, 1]) st Q := by
  intro st hst
  refine W_fn hst rfl ?_
  unfold sl34Signs_P3 at h
  refine W_split ⟨ltF rfl, rfl⟩ (fun hb => ?_) (fun hb => ?_)
  · replace h := ite_yes hb h
    refine W_text ?_
    refine dq (ps := [(51, pI .i64 q13_1)]) rfl rfl rfl ?_
    refine dq (ps := [(52, pI .i64 (w64 (q13_1 + 2)))]) rfl rfl rfl ?_
    refine dq (ps := [(13, pI .i64 (w64 (q13_1 + 2)))]) rfl rfl rfl ?_
    refine DL_nil ?_
    cases h
    exact hQ _ (nC rfl (nC rfl (nC rfl (nC rfl (nC rfl (nC rfl (nC rfl (nC rfl (nC rfl nN)))))))))
  · replace h := ite_no hb h
    refine W_skip ?_
    cases h
    exact hQ _ (nC rfl (nC rfl (nC rfl (nC rfl (nC rfl (nC rfl (nC rfl (nC rfl (nC rfl nN)))))))))

def sl34Signs_L1 : Nat → SL34Box → SBitmap → Int → SBitmap → ByteArray → (List ByteArray) → (List Int) → Int → Option (Out (List Int) (List ByteArray))
  | 0, _, _, _, _, _, _, _, _ => none
  | n + 1, a2, a0, v10, a1, a3, v9, v11, v12 => (if (decide (v12 < a2.width)) = true then ((sl22At n a0 (w64 (a2.left + v12)) (w64 (a2.bottom + v10))).bind fun r => ((sl34Signs_P2 n r a0 a1 a3 a2 v9 v10 v11 v12).bind fun o => (match o with | .go q13_1 => ((sl22At n a1 (w64 (a2.left + v12)) (w64 (a2.bottom + v10))).bind fun r_1 => ((sl34Signs_P3 n r_1 q13_1 a0 a1 a3 a2 v9 v10 v11 v12).bind fun o_1 => (match o_1 with | .go q13_2 => (if (0 : Int) ≤ q13_2 ∧ q13_2 < (a3.size : Int) then (if (v11.length + ([byteAt a3 q13_2]).length) * 1 ≤ 140737488355328 then sl34Signs_L1 n a2 a0 v10 a1 a3 v9 (v11 ++ ([byteAt a3 q13_2])) (w64 (v12 + 1)) else none) else none) | .brk _ _ => none | .ret r => some (.ret r)))) | .brk _ _ => none | .ret r => some (.ret r)))) else some (.go v11))

theorem sl34Signs_L1_ok {G0 : Nat → Own} {w0 : World} {Q : Exit → St → Prop} {a2 : SL34Box} {a0 : SBitmap} {v10 : Int} {a1 : SBitmap} {a3 : ByteArray} {v9 : List ByteArray} {out : (Out (List Int) (List ByteArray))}
    (hQ : match out with | .go q11 => ∀ st, FN st [(0, .val false [.t (.ptr (cBitmap false a0))]), (1, .val false [.t (.ptr (cBitmap false a1))]), (3, pS a3), (6, .box (cL34Box false a2)), (9, .val false [.t (.sl true 1 (v9.map (cS true)))]), (10, pI .i64 v10), (11, .val false [.t (.sl true 1 (q11.map ((cI .u8) true)))])] → Q (.exit 2) st | .brk _ _ => True | .ret r => ∀ st, Fits st [(8, .val false ((cLStr true r).map .t))] → Q .ret st)
    {n : Nat} {v11 : List Int} {v12 : Int} (h : sl34Signs_L1 n a2 a0 v10 a1 a3 v9 v11 v12 = some out) :
    ∀ st, FN st [(0, .val false [.t (.ptr (cBitmap false a0))]), (1, .val false [.t (.ptr (cBitmap false a1))]), (3, pS a3), (6, .box (cL34Box false a2)), (9, .val false [.t (.sl true 1 (v9.map (cS true)))]), (10, pI .i64 v10), (11, .val false [.t (.sl true 1 (v11.map ((cI .u8) true)))]), (12, pI .i64 v12)] → W ⟨Tryd.prog, 65, [], G0, w0⟩ (.loop (bodyAt Tryd.f61 [1, 1, 0, 1, 0, 0, 1, 0, 0, 1, 0, 1, 0, 0])) st Q := by
  intro st hst
  refine W_loop (fun n st => ∃ v11 v12, sl34Signs_L1 n a2 a0 v10 a1 a3 v9 v11 v12 = some out ∧ FN st [(0, .val false [.t (.ptr (cBitmap false a0))]), (1, .val false [.t (.ptr (cBitmap false a1))]), (3, pS a3), (6, .box (cL34Box false a2)), (9, .val false [.t (.sl true 1 (v9.map (cS true)))]), (10, pI .i64 v10), (11, .val false [.t (.sl true 1 (v11.map ((cI .u8) true)))]), (12, pI .i64 v12)]) ?_ (n := n) ⟨v11, v12, h, hst⟩
  clear h hst st n v11 v12
  rintro n st ⟨v11, v12, h, hst⟩
  refine W_fn hst rfl ?_
  cases n with
  | zero => cases h
  | succ n =>
    rw [sl34Signs_L1] at h
    refine W_seq ?_
    refine W_seq ?_
    refine W_text ?_
    refine dq (ps := [(23, pI .i64 v12)]) rfl rfl rfl ?_
    refine dFaB rfl rfl (ltF rfl) rfl rfl rfl rfl rfl rfl ?_
    refine dq (ps := [(25, pI .i64 a2.width)]) rfl rfl rfl ?_
    refine dq (ps := [(26, pB (decide (v12 < a2.width)))]) rfl rfl rfl ?_
    refine DL_nil ?_
    refine W_split ⟨ltF rfl, rfl⟩ (fun hb => ?_) (fun hb => ?_)
    · replace h := ite_yes hb h
      refine W_skip ?_
      refine W_seq ?_
      refine W_block ?_
      refine W_seq ?_
      refine W_text ?_
      refine dq (ps := [(13, pI .i64 0)]) rfl rfl rfl ?_
      refine DL_nil ?_
      refine W_seq ?_
      refine W_seq ?_
      refine W_text ?_
      refine dq (ps := [(29, .val false [.t (.ptr (cBitmap false a0))])]) rfl rfl rfl ?_
      refine dFaB rfl rfl (ltF rfl) rfl rfl rfl rfl rfl rfl ?_
      refine dq (ps := [(31, pI .i64 a2.left)]) rfl rfl rfl ?_
      refine dq (ps := [(32, pI .i64 v12)]) rfl rfl rfl ?_
      refine dq (ps := [(33, pI .i64 (w64 (a2.left + v12)))]) rfl rfl rfl ?_
      refine dFaB rfl rfl (ltF rfl) rfl rfl rfl rfl rfl rfl ?_
      refine dq (ps := [(35, pI .i64 a2.bottom)]) rfl rfl rfl ?_
      refine dq (ps := [(36, pI .i64 v10)]) rfl rfl rfl ?_
      refine dq (ps := [(37, pI .i64 (w64 (a2.bottom + v10)))]) rfl rfl rfl ?_
      obtain ⟨r, hr, h⟩ := bind_some h
      refine dCall (gn := 58) (fn := Tryd.f58) (cp := []) (lt := []) [29, 33, 37] (vc_sl22At n a0 (w64 (a2.left + v12)) (w64 (a2.bottom + v10)) _ hr) Tryd.func58 rfl rfl rfl rfl (.inl rfl) (.inl rfl) (fun st2 h2 => ⟨rfl, args_of0 (.cons (aF (ltF rfl) ((congrArg Slot.sv (h2 29 (by decide))).trans rfl) rfl) (.cons (aF (ltF rfl) ((congrArg Slot.sv (h2 33 (by decide))).trans rfl) rfl) (.cons (aF (ltF rfl) ((congrArg Slot.sv (h2 37 (by decide))).trans rfl) rfl) .nil)))⟩) rfl ?_
      refine DL_nil ?_
      obtain ⟨o, ho, h⟩ := bind_some h
      refine sl34Signs_P2_ok ?_ ho _ (nC rfl (nC rfl (nC rfl (nC rfl (nC rfl (nC rfl (nC rfl (nC rfl (nC rfl (nC rfl nN))))))))))
      rcases o with q13_1 | ⟨j, p⟩ | r
      · skip
        dsimp only at h ⊢
        intro st hst
        refine W_fn hst rfl ?_
        refine W_seq ?_
        refine W_seq ?_
        refine W_text ?_
        refine dq (ps := [(41, .val false [.t (.ptr (cBitmap false a1))])]) rfl rfl rfl ?_
        refine dFaB rfl rfl (ltF rfl) rfl rfl rfl rfl rfl rfl ?_
        refine dq (ps := [(43, pI .i64 a2.left)]) rfl rfl rfl ?_
        refine dq (ps := [(44, pI .i64 v12)]) rfl rfl rfl ?_
        refine dq (ps := [(45, pI .i64 (w64 (a2.left + v12)))]) rfl rfl rfl ?_
        refine dFaB rfl rfl (ltF rfl) rfl rfl rfl rfl rfl rfl ?_
        refine dq (ps := [(47, pI .i64 a2.bottom)]) rfl rfl rfl ?_
        refine dq (ps := [(48, pI .i64 v10)]) rfl rfl rfl ?_
        refine dq (ps := [(49, pI .i64 (w64 (a2.bottom + v10)))]) rfl rfl rfl ?_
        obtain ⟨r_1, hr_1, h⟩ := bind_some h
        refine dCall (gn := 58) (fn := Tryd.f58) (cp := []) (lt := []) [41, 45, 49] (vc_sl22At n a1 (w64 (a2.left + v12)) (w64 (a2.bottom + v10)) _ hr_1) Tryd.func58 rfl rfl rfl rfl (.inl rfl) (.inl rfl) (fun st2 h2 => ⟨rfl, args_of0 (.cons (aF (ltF rfl) ((congrArg Slot.sv (h2 41 (by decide))).trans rfl) rfl) (.cons (aF (ltF rfl) ((congrArg Slot.sv (h2 45 (by decide))).trans rfl) rfl) (.cons (aF (ltF rfl) ((congrArg Slot.sv (h2 49 (by decide))).trans rfl) rfl) .nil)))⟩) rfl ?_
        refine DL_nil ?_
        obtain ⟨o_1, ho_1, h⟩ := bind_some h
        refine sl34Signs_P3_ok ?_ ho_1 _ (nC rfl (nC rfl (nC rfl (nC rfl (nC rfl (nC rfl (nC rfl (nC rfl (nC rfl (nC rfl nN))))))))))
        rcases o_1 with q13_2 | ⟨j, p⟩ | r
        · skip
          dsimp only at h ⊢
          intro st hst
          refine W_fn hst rfl ?_
          refine W_text ?_
          refine dTkM (sv := .val false [.t (.sl true 1 (v11.map ((cI .u8) true)))]) rfl rfl rfl (ltF rfl) rfl rfl rfl ?_
          refine dq (ps := [(54, pS a3)]) rfl rfl rfl ?_
          refine dq (ps := [(55, pI .i64 q13_2)]) rfl rfl rfl ?_
          obtain ⟨hp, h⟩ := ite_some h
          refine dIdx rfl rfl rfl rfl rfl hp rfl ?_
          refine dBS (zs := [.sc (.int .u8 0)]) (ts := [.sc (.int .u8 (byteAt a3 q13_2))]) (els := (([byteAt a3 q13_2]).map ((cI .u8) true))) (qs := [(0, [.sc (.int .u8 (byteAt a3 q13_2))])]) [56] rfl rfl rfl (zeros_of _ rfl ⟨z1 rfl, trivial⟩) rfl rfl rfl rfl rfl (fun st2 h2 => (.cons rfl (⟨ltF rfl, (congrArg Slot.sv (h2 56 (by decide))).trans rfl⟩) rfl .nil)) rfl ?_
          obtain ⟨hp, h⟩ := ite_some h
          refine dApp (sy := (some 57)) (els' := ((v11 ++ ([byteAt a3 q13_2])).map ((cI .u8) true))) (zs := [.sc (.int .u8 0)]) (svg := .val false [.t (.gone)]) [53, 57] rfl rfl (ltF rfl) rfl rfl (by decide) (fun st2 h2 => .lit (ltF rfl) (by decide) ((congrArg Slot.sv (h2 57 (by decide))).trans rfl)) (by decide) rfl rfl rfl (zeros_of _ rfl ⟨z1 rfl, trivial⟩) rfl rfl rfl rfl (here_map (fun _ => rfl) _) (lenMul (List.length_map ..) (List.length_map ..) hp) (app_map (fun _ => rfl) _ _) (fun st2 h => by unfold St.setAt; rw [h]; rfl) rfl ?_
          refine dq (ps := [(58, .dead), (11, .val false [.t (.sl true 1 ((v11 ++ ([byteAt a3 q13_2])).map ((cI .u8) true)))])]) rfl rfl rfl ?_
          refine DL_nil ?_
          refine W_fn (l := [(0, .val false [.t (.ptr (cBitmap false a0))]), (1, .val false [.t (.ptr (cBitmap false a1))]), (3, pS a3), (6, .box (cL34Box false a2)), (9, .val false [.t (.sl true 1 (v9.map (cS true)))]), (10, pI .i64 v10), (11, .val false [.t (.sl true 1 ((v11 ++ ([byteAt a3 q13_2])).map ((cI .u8) true)))]), (12, pI .i64 v12)]) (nC rfl (nC rfl (nC rfl (nC rfl (nC rfl (nC rfl (nC rfl (nC rfl nN)))))))) rfl ?_
          refine W_text ?_
          refine dq (ps := [(27, pI .i64 v12)]) rfl rfl rfl ?_
          refine dq (ps := [(28, pI .i64 (w64 (v12 + 1)))]) rfl rfl rfl ?_
          refine dq (ps := [(12, pI .i64 (w64 (v12 + 1)))]) rfl rfl rfl ?_
          refine DL_nil ?_
          exact ⟨n, Nat.lt_succ_self n, _, _,  h, (nC rfl (nC rfl (nC rfl (nC rfl (nC rfl (nC rfl (nC rfl (nC rfl nN))))))))⟩
        · exact trivial
        · dsimp only at h ⊢
          intro st hst
          cases h
          exact hQ _ hst
      · exact trivial
      · dsimp only at h ⊢
        intro st hst
        cases h
        exact hQ _ hst
    · replace h := ite_no hb h
      refine W_exit ?_
      cases h
      exact hQ _ (nC rfl (nC rfl (nC rfl (nC rfl (nC rfl (nC rfl (nC rfl nN)))))))

def sl34Signs_L0 : Nat → SL34Box → SBitmap → SBitmap → ByteArray → (List ByteArray) → Int → Option (Out (List ByteArray) (List ByteArray))
  | 0, _, _, _, _, _, _ => none
  | n + 1, a2, a0, a1, a3, v9, v10 => (if (decide (v10 ≥ 0)) = true then ((sl34Signs_L1 n a2 a0 v10 a1 a3 v9 ([] : List Int) 0).bind fun o_2 => (match o_2 with | .go q11_1 => (if (v9.length + ([strOf q11_1]).length) * 16 ≤ 140737488355328 then sl34Signs_L0 n a2 a0 a1 a3 (v9 ++ ([strOf q11_1])) (w64 (v10 - 1)) else none) | .brk _ _ => none | .ret r => some (.ret r))) else some (.go v9))

theorem sl34Signs_L0_ok {G0 : Nat → Own} {w0 : World} {Q : Exit → St → Prop} {a2 : SL34Box} {a0 : SBitmap} {a1 : SBitmap} {a3 : ByteArray} {out : (Out (List ByteArray) (List ByteArray))}
    (hQ : match out with | .go q9 => ∀ st, FN st [(9, .val false [.t (.sl true 1 (q9.map (cS true)))])] → Q (.exit 0) st | .brk _ _ => True | .ret r => ∀ st, Fits st [(8, .val false ((cLStr true r).map .t))] → Q .ret st)
    {n : Nat} {v9 : List ByteArray} {v10 : Int} (h : sl34Signs_L0 n a2 a0 a1 a3 v9 v10 = some out) :
    ∀ st, FN st [(0, .val false [.t (.ptr (cBitmap false a0))]), (1, .val false [.t (.ptr (cBitmap false a1))]), (3, pS a3), (6, .box (cL34Box false a2)), (9, .val false [.t (.sl true 1 (v9.map (cS true)))]), (10, pI .i64 v10)] → W ⟨Tryd.prog, 65, [], G0, w0⟩ (.loop (bodyAt Tryd.f61 [1, 1, 0, 1, 0, 0])) st Q := by
  intro st hst
  refine W_loop (fun n st => ∃ v9 v10, sl34Signs_L0 n a2 a0 a1 a3 v9 v10 = some out ∧ FN st [(0, .val false [.t (.ptr (cBitmap false a0))]), (1, .val false [.t (.ptr (cBitmap false a1))]), (3, pS a3), (6, .box (cL34Box false a2)), (9, .val false [.t (.sl true 1 (v9.map (cS true)))]), (10, pI .i64 v10)]) ?_ (n := n) ⟨v9, v10, h, hst⟩
  clear h hst st n v9 v10
  rintro n st ⟨v9, v10, h, hst⟩
  refine W_fn hst rfl ?_
  cases n with
  | zero => cases h
  | succ n =>
    rw [sl34Signs_L0] at h
    refine W_seq ?_
    refine W_seq ?_
    refine W_text ?_
    refine dq (ps := [(18, pI .i64 v10)]) rfl rfl rfl ?_
    refine dq (ps := [(19, pB (decide (v10 ≥ 0)))]) rfl rfl rfl ?_
    refine DL_nil ?_
    refine W_split ⟨ltF rfl, rfl⟩ (fun hb => ?_) (fun hb => ?_)
    · replace h := ite_yes hb h
      refine W_skip ?_
      refine W_seq ?_
      refine W_block ?_
      refine W_seq ?_
      refine W_text ?_
      refine dBS (zs := [.sc (.int .u8 0)]) (ts := []) (els := (([] : List Int).map ((cI .u8) true))) (qs := []) [] rfl rfl rfl (zeros_of _ rfl ⟨z1 rfl, trivial⟩) rfl rfl rfl rfl rfl (fun st2 h2 => .nil) rfl ?_
      refine dq (ps := [(22, .dead), (11, .val false [.t (.sl true 1 (([] : List Int).map ((cI .u8) true)))])]) rfl rfl rfl ?_
      refine DL_nil ?_
      refine W_seq ?_
      refine W_seq ?_
      refine W_text ?_
      refine dq (ps := [(12, pI .i64 0)]) rfl rfl rfl ?_
      refine DL_nil ?_
      refine W_block ?_
      obtain ⟨o_2, ho_2, h⟩ := bind_some h
      refine sl34Signs_L1_ok ?_ ho_2 _ (nC rfl (nC rfl (nC rfl (nC rfl (nC rfl (nC rfl (nC rfl (nC rfl nN))))))))
      rcases o_2 with q11_1 | ⟨j, p⟩ | r
      · skip
        dsimp only at h ⊢
        intro st hst
        refine W_fn hst rfl ?_
        refine W_text ?_
        refine dTkM (sv := .val false [.t (.sl true 1 (v9.map (cS true)))]) rfl rfl rfl (ltF rfl) rfl rfl rfl ?_
        refine dTkM (sv := .val false [.t (.sl true 1 (q11_1.map ((cI .u8) true)))]) rfl rfl rfl (ltF rfl) rfl rfl rfl ?_
        refine dByt (ns := q11_1) rfl rfl (ltF rfl) rfl rfl rfl rfl rfl ?_
        refine dBS (zs := [.sc (.string (ByteArray.mk #[]))]) (ts := [.sc (.string (strOf q11_1))]) (els := (([strOf q11_1]).map (cS true))) (qs := [(0, [.sc (.string (strOf q11_1))])]) [61] rfl rfl rfl (zeros_of _ rfl ⟨z1 rfl, trivial⟩) rfl rfl rfl rfl rfl (fun st2 h2 => (.cons rfl (⟨ltF rfl, (congrArg Slot.sv (h2 61 (by decide))).trans rfl⟩) rfl .nil)) rfl ?_
        obtain ⟨hp, h⟩ := ite_some h
        refine dApp (sy := (some 62)) (els' := ((v9 ++ ([strOf q11_1])).map (cS true))) (zs := [.sc (.string (ByteArray.mk #[]))]) (svg := .val false [.t (.gone)]) [59, 62] rfl rfl (ltF rfl) rfl rfl (by decide) (fun st2 h2 => .lit (ltF rfl) (by decide) ((congrArg Slot.sv (h2 62 (by decide))).trans rfl)) (by decide) rfl rfl rfl (zeros_of _ rfl ⟨z1 rfl, trivial⟩) rfl rfl rfl rfl (here_map (fun _ => rfl) _) (lenMul (List.length_map ..) (List.length_map ..) hp) (app_map (fun _ => rfl) _ _) (fun st2 h => by unfold St.setAt; rw [h]; rfl) rfl ?_
        refine dq (ps := [(63, .dead), (9, .val false [.t (.sl true 1 ((v9 ++ ([strOf q11_1])).map (cS true)))])]) rfl rfl rfl ?_
        refine DL_nil ?_
        refine W_fn (l := [(0, .val false [.t (.ptr (cBitmap false a0))]), (1, .val false [.t (.ptr (cBitmap false a1))]), (3, pS a3), (6, .box (cL34Box false a2)), (9, .val false [.t (.sl true 1 ((v9 ++ ([strOf q11_1])).map (cS true)))]), (10, pI .i64 v10)]) (nC rfl (nC rfl (nC rfl (nC rfl (nC rfl (nC rfl nN)))))) rfl ?_
        refine W_text ?_
        refine dq (ps := [(20, pI .i64 v10)]) rfl rfl rfl ?_
        refine dq (ps := [(21, pI .i64 (w64 (v10 - 1)))]) rfl rfl rfl ?_
        refine dq (ps := [(10, pI .i64 (w64 (v10 - 1)))]) rfl rfl rfl ?_
        refine DL_nil ?_
        exact ⟨n, Nat.lt_succ_self n, _, _,  h, (nC rfl (nC rfl (nC rfl (nC rfl (nC rfl (nC rfl nN))))))⟩
      · exact trivial
      · dsimp only at h ⊢
        intro st hst
        cases h
        exact hQ _ hst
    · replace h := ite_no hb h
      refine W_exit ?_
      cases h
      exact hQ _ (nC rfl nN)

def sl34Signs (n : Nat) (a0 : SBitmap) (a1 : SBitmap) (a2 : SL34Box) (a3 : ByteArray) : Option (List ByteArray) :=
  ((sl34Signs_L0 n a2 a0 a1 a3 ([] : List ByteArray) (w64 (a2.height - 1))).bind fun o_3 => (match o_3 with | .go q9_1 => some q9_1 | .brk _ _ => none | .ret r => some r))

theorem vc_sl34Signs (n : Nat) (a0 : SBitmap) (a1 : SBitmap) (a2 : SL34Box) (a3 : ByteArray) (r : List ByteArray) (h : sl34Signs n a0 a1 a2 a3 = some r) : VC Tryd.prog 61 [.sh false [.ptr (cBitmap false a0)], .sh false [.ptr (cBitmap false a1)], .sh true (cL34Box false a2), .sh false (cS false a3)] [(false, cLStr true r)] [] := by
  refine VC_of 65 Tryd.func61 rfl rfl rfl fun G0 w0 pv => ?_
  unfold sl34Signs at h
  refine W_seq ?_
  refine W_text ?_
  refine dBox (ts := (cL34Box false a2)) rfl rfl rfl rfl rfl ?_
  refine dNil (m := true) (sz := 1) rfl rfl rfl ?_
  refine DL_nil ?_
  refine W_seq ?_
  refine W_text ?_
  refine dBS (zs := [.sc (.string (ByteArray.mk #[]))]) (ts := []) (els := (([] : List ByteArray).map (cS true))) (qs := []) [] rfl rfl rfl (zeros_of _ rfl ⟨z1 rfl, trivial⟩) rfl rfl rfl rfl rfl (fun st2 h2 => .nil) rfl ?_
  refine dq (ps := [(14, .dead), (9, .val false [.t (.sl true 1 (([] : List ByteArray).map (cS true)))])]) rfl rfl rfl ?_
  refine DL_nil ?_
  refine W_seq ?_
  refine W_seq ?_
  refine W_text ?_
  refine dFaB rfl rfl (ltF rfl) rfl rfl rfl rfl rfl rfl ?_
  refine dq (ps := [(16, pI .i64 a2.height)]) rfl rfl rfl ?_
  refine dq (ps := [(17, pI .i64 (w64 (a2.height - 1)))]) rfl rfl rfl ?_
  refine dq (ps := [(10, pI .i64 (w64 (a2.height - 1)))]) rfl rfl rfl ?_
  refine DL_nil ?_
  refine W_block ?_
  obtain ⟨o_3, ho_3, h⟩ := bind_some h
  refine sl34Signs_L0_ok ?_ ho_3 _ (nC rfl (nC rfl (nC rfl (nC rfl (nC rfl (nC rfl nN))))))
  rcases o_3 with q9_1 | ⟨j, p⟩ | r
  · skip
    dsimp only at h ⊢
    intro st hst
    refine W_fn hst rfl ?_
    refine W_seq ?_
    refine W_text ?_
    refine dTkM (sv := .val false [.t (.sl true 1 (q9_1.map (cS true)))]) rfl rfl rfl (ltF rfl) rfl rfl rfl ?_
    refine dq (ps := [(64, .dead), (8, .val false [.t (.sl true 1 (q9_1.map (cS true)))])]) rfl rfl rfl ?_
    refine DL_nil ?_
    refine W_ret ?_
    cases h
    exact ⟨.inr rfl, leaves_of [.tmp 8] rfl (by decide) (.tmp (ltF rfl) rfl .nil)⟩
  · exact trivial
  · dsimp only at h ⊢
    intro st hst
    cases h
    exact ⟨.inr rfl, leaves_of [.tmp 8] rfl (by decide) (.tmp (ltF rfl) (hst.at (s := 8) rfl rfl) .nil)⟩

-- sl34Crop: loop.example/g00883/spec.l34Crop
def sl34Crop_L1 : Nat → SL34Box → SBitmap → Int → (List ByteArray) → Int → Int → Int → Int → Int → Option (Out (Int × Int × Int × Int) (SBitmap))
  | 0, _, _, _, _, _, _, _, _, _ => none
  | n + 1, r, a0, v7, v2_3, v4_0_1, v4_1_1, v5_1, v6_1, v8 => (if (decide (v8 < (w64 (r.left + r.width)))) = true then ((sl22At n a0 v8 v7).bind fun r_1 => (if (r_1) = true then ((sl00Min n v4_0_1 v8).bind fun r_2 => ((sl00Min n v4_1_1 v7).bind fun r_3 => ((sl00Max n v5_1 (w64 (v8 + 1))).bind fun r_4 => ((sl00Max n v6_1 (w64 (v7 + 1))).bind fun r_5 => sl34Crop_L1 n r a0 v7 v2_3 r_2 r_3 r_4 r_5 (w64 (v8 + 1)))))) else sl34Crop_L1 n r a0 v7 v2_3 v4_0_1 v4_1_1 v5_1 v6_1 (w64 (v8 + 1)))) else some (.go (v4_0_1, v4_1_1, v5_1, v6_1)))

theorem sl34Crop_L1_ok {G0 : Nat → Own} {w0 : World} {Q : Exit → St → Prop} {r : SL34Box} {a0 : SBitmap} {v7 : Int} {v2_3 : List ByteArray} {out : (Out (Int × Int × Int × Int) (SBitmap))}
    (hQ : match out with | .go (q4_0_1, q4_1_1, q5_1, q6_1) => ∀ st, FN st [(0, .val false [.t (.ptr (cBitmap false a0))]), (2, .box [.sc (.int .i64 0), .sc (.int .i64 0), .sc (.int .i64 0), .sl true 1 (v2_3.map (cS true))]), (3, .box (cL34Box true r)), (4, .box [.sc (.int .i64 q4_0_1), .sc (.int .i64 q4_1_1), .sc (.int .i64 0), .sc (.int .i64 0)]), (5, pI .i64 q5_1), (6, pI .i64 q6_1), (7, pI .i64 v7)] → Q (.exit 2) st | .brk _ _ => True | .ret r => ∀ st, Fits st [(2, .box (cBitmap true r))] → Q .ret st)
    {n : Nat} {v4_0_1 : Int} {v4_1_1 : Int} {v5_1 : Int} {v6_1 : Int} {v8 : Int} (h : sl34Crop_L1 n r a0 v7 v2_3 v4_0_1 v4_1_1 v5_1 v6_1 v8 = some out) :
    ∀ st, FN st [(0, .val false [.t (.ptr (cBitmap false a0))]), (2, .box [.sc (.int .i64 0), .sc (.int .i64 0), .sc (.int .i64 0), .sl true 1 (v2_3.map (cS true))]), (3, .box (cL34Box true r)), (4, .box [.sc (.int .i64 v4_0_1), .sc (.int .i64 v4_1_1), .sc (.int .i64 0), .sc (.int .i64 0)]), (5, pI .i64 v5_1), (6, pI .i64 v6_1), (7, pI .i64 v7), (8, pI .i64 v8)] → W ⟨Tryd.prog, 96, [], G0, w0⟩ (.loop (bodyAt Tryd.f25 [1, 1, 1, 1, 1, 0, 1, 0, 0, 1, 0, 0, 1, 0, 0])) st Q := by
  intro st hst
  refine W_loop (fun n st => ∃ v4_0_1 v4_1_1 v5_1 v6_1 v8, sl34Crop_L1 n r a0 v7 v2_3 v4_0_1 v4_1_1 v5_1 v6_1 v8 = some out ∧ FN st [(0, .val false [.t (.ptr (cBitmap false a0))]), (2, .box [.sc (.int .i64 0), .sc (.int .i64 0), .sc (.int .i64 0), .sl true 1 (v2_3.map (cS true))]), (3, .box (cL34Box true r)), (4, .box [.sc (.int .i64 v4_0_1), .sc (.int .i64 v4_1_1), .sc (.int .i64 0), .sc (.int .i64 0)]), (5, pI .i64 v5_1), (6, pI .i64 v6_1), (7, pI .i64 v7), (8, pI .i64 v8)]) ?_ (n := n) ⟨v4_0_1, v4_1_1, v5_1, v6_1, v8, h, hst⟩
  clear h hst st n v4_0_1 v4_1_1 v5_1 v6_1 v8
  rintro n st ⟨v4_0_1, v4_1_1, v5_1, v6_1, v8, h, hst⟩
  refine W_fn hst rfl ?_
  cases n with
  | zero => cases h
  | succ n =>
    rw [sl34Crop_L1] at h
    refine W_seq ?_
    refine W_seq ?_
    refine W_text ?_
    refine dq (ps := [(39, pI .i64 v8)]) rfl rfl rfl ?_
    refine dFaB rfl rfl (ltF rfl) rfl rfl rfl rfl rfl rfl ?_
    refine dq (ps := [(41, pI .i64 r.left)]) rfl rfl rfl ?_
    refine dFaB rfl rfl (ltF rfl) rfl rfl rfl rfl rfl rfl ?_
    refine dq (ps := [(43, pI .i64 r.width)]) rfl rfl rfl ?_
    refine dq (ps := [(44, pI .i64 (w64 (r.left + r.width)))]) rfl rfl rfl ?_
    refine dq (ps := [(45, pB (decide (v8 < (w64 (r.left + r.width)))))]) rfl rfl rfl ?_
    refine DL_nil ?_
    refine W_fn (l := [(0, .val false [.t (.ptr (cBitmap false a0))]), (2, .box [.sc (.int .i64 0), .sc (.int .i64 0), .sc (.int .i64 0), .sl true 1 (v2_3.map (cS true))]), (3, .box (cL34Box true r)), (4, .box [.sc (.int .i64 v4_0_1), .sc (.int .i64 v4_1_1), .sc (.int .i64 0), .sc (.int .i64 0)]), (5, pI .i64 v5_1), (6, pI .i64 v6_1), (7, pI .i64 v7), (8, pI .i64 v8), (45, pB (decide (v8 < (w64 (r.left + r.width)))))]) (nC rfl (nC rfl (nC rfl (nC rfl (nC rfl (nC rfl (nC rfl (nC rfl (nC rfl nN))))))))) rfl ?_
    refine W_split ⟨ltF rfl, rfl⟩ (fun hb => ?_) (fun hb => ?_)
    · replace h := ite_yes hb h
      refine W_skip ?_
      refine W_seq ?_
      refine W_block ?_
      refine W_seq ?_
      refine W_text ?_
      refine dq (ps := [(48, .val false [.t (.ptr (cBitmap false a0))])]) rfl rfl rfl ?_
      refine dq (ps := [(49, pI .i64 v8)]) rfl rfl rfl ?_
      refine dq (ps := [(50, pI .i64 v7)]) rfl rfl rfl ?_
      obtain ⟨r_1, hr_1, h⟩ := bind_some h
      refine dCall (gn := 58) (fn := Tryd.f58) (cp := []) (lt := []) [48, 49, 50] (vc_sl22At n a0 v8 v7 _ hr_1) Tryd.func58 rfl rfl rfl rfl (.inl rfl) (.inl rfl) (fun st2 h2 => ⟨rfl, args_of0 (.cons (aF (ltF rfl) ((congrArg Slot.sv (h2 48 (by decide))).trans rfl) rfl) (.cons (aF (ltF rfl) ((congrArg Slot.sv (h2 49 (by decide))).trans rfl) rfl) (.cons (aF (ltF rfl) ((congrArg Slot.sv (h2 50 (by decide))).trans rfl) rfl) .nil)))⟩) rfl ?_
      refine DL_nil ?_
      refine W_split ⟨ltF rfl, rfl⟩ (fun hb => ?_) (fun hb => ?_)
      · replace h := ite_yes hb h
        refine W_seq ?_
        refine W_text ?_
        refine dFaB rfl rfl (ltF rfl) rfl rfl rfl rfl rfl rfl ?_
        refine dq (ps := [(53, pI .i64 v4_0_1)]) rfl rfl rfl ?_
        refine dq (ps := [(54, pI .i64 v8)]) rfl rfl rfl ?_
        obtain ⟨r_2, hr_2, h⟩ := bind_some h
        refine dCall (gn := 59) (fn := Tryd.f59) (cp := []) (lt := []) [53, 54] (vc_sl00Min n v4_0_1 v8 _ hr_2) Tryd.func59 rfl rfl rfl rfl (.inl rfl) (.inl rfl) (fun st2 h2 => ⟨rfl, args_of0 (.cons (aF (ltF rfl) ((congrArg Slot.sv (h2 53 (by decide))).trans rfl) rfl) (.cons (aF (ltF rfl) ((congrArg Slot.sv (h2 54 (by decide))).trans rfl) rfl) .nil))⟩) rfl ?_
        refine dFaB rfl rfl (ltF rfl) rfl rfl rfl rfl rfl rfl ?_
        refine dSt (v := 0) (ag := false) (ts := [.sc (.int .i64 r_2)]) (cs' := [.sc (.int .i64 r_2), .sc (.int .i64 v4_1_1), .sc (.int .i64 0), .sc (.int .i64 0)]) [] [56, 4, 55] rfl (ltF rfl) (by decide) (by decide) rfl rfl rfl rfl rfl (by decide) rfl rfl (fun st2 h2 => .free (⟨ltF rfl, (congrArg Slot.sv (h2 55 (by decide))).trans rfl⟩) rfl) rfl ?_
        refine DL_nil ?_
        refine W_fn (l := [(0, .val false [.t (.ptr (cBitmap false a0))]), (2, .box [.sc (.int .i64 0), .sc (.int .i64 0), .sc (.int .i64 0), .sl true 1 (v2_3.map (cS true))]), (3, .box (cL34Box true r)), (4, .box [.sc (.int .i64 r_2), .sc (.int .i64 v4_1_1), .sc (.int .i64 0), .sc (.int .i64 0)]), (5, pI .i64 v5_1), (6, pI .i64 v6_1), (7, pI .i64 v7), (8, pI .i64 v8)]) (nC rfl (nC rfl (nC rfl (nC rfl (nC rfl (nC rfl (nC rfl (nC rfl nN)))))))) rfl ?_
        refine W_seq ?_
        refine W_text ?_
        refine dFaB rfl rfl (ltF rfl) rfl rfl rfl rfl rfl rfl ?_
        refine dq (ps := [(58, pI .i64 v4_1_1)]) rfl rfl rfl ?_
        refine dq (ps := [(59, pI .i64 v7)]) rfl rfl rfl ?_
        obtain ⟨r_3, hr_3, h⟩ := bind_some h
        refine dCall (gn := 59) (fn := Tryd.f59) (cp := []) (lt := []) [58, 59] (vc_sl00Min n v4_1_1 v7 _ hr_3) Tryd.func59 rfl rfl rfl rfl (.inl rfl) (.inl rfl) (fun st2 h2 => ⟨rfl, args_of0 (.cons (aF (ltF rfl) ((congrArg Slot.sv (h2 58 (by decide))).trans rfl) rfl) (.cons (aF (ltF rfl) ((congrArg Slot.sv (h2 59 (by decide))).trans rfl) rfl) .nil))⟩) rfl ?_
        refine dFaB rfl rfl (ltF rfl) rfl rfl rfl rfl rfl rfl ?_
        refine dSt (v := 0) (ag := false) (ts := [.sc (.int .i64 r_3)]) (cs' := [.sc (.int .i64 r_2), .sc (.int .i64 r_3), .sc (.int .i64 0), .sc (.int .i64 0)]) [] [61, 4, 60] rfl (ltF rfl) (by decide) (by decide) rfl rfl rfl rfl rfl (by decide) rfl rfl (fun st2 h2 => .free (⟨ltF rfl, (congrArg Slot.sv (h2 60 (by decide))).trans rfl⟩) rfl) rfl ?_
        refine DL_nil ?_
        refine W_fn (l := [(0, .val false [.t (.ptr (cBitmap false a0))]), (2, .box [.sc (.int .i64 0), .sc (.int .i64 0), .sc (.int .i64 0), .sl true 1 (v2_3.map (cS true))]), (3, .box (cL34Box true r)), (4, .box [.sc (.int .i64 r_2), .sc (.int .i64 r_3), .sc (.int .i64 0), .sc (.int .i64 0)]), (5, pI .i64 v5_1), (6, pI .i64 v6_1), (7, pI .i64 v7), (8, pI .i64 v8)]) (nC rfl (nC rfl (nC rfl (nC rfl (nC rfl (nC rfl (nC rfl (nC rfl nN)))))))) rfl ?_
        refine W_seq ?_
        refine W_text ?_
        refine dq (ps := [(62, pI .i64 v5_1)]) rfl rfl rfl ?_
        refine dq (ps := [(63, pI .i64 v8)]) rfl rfl rfl ?_
        refine dq (ps := [(64, pI .i64 (w64 (v8 + 1)))]) rfl rfl rfl ?_
        obtain ⟨r_4, hr_4, h⟩ := bind_some h
        refine dCall (gn := 60) (fn := Tryd.f60) (cp := []) (lt := []) [62, 64] (vc_sl00Max n v5_1 (w64 (v8 + 1)) _ hr_4) Tryd.func60 rfl rfl rfl rfl (.inl rfl) (.inl rfl) (fun st2 h2 => ⟨rfl, args_of0 (.cons (aF (ltF rfl) ((congrArg Slot.sv (h2 62 (by decide))).trans rfl) rfl) (.cons (aF (ltF rfl) ((congrArg Slot.sv (h2 64 (by decide))).trans rfl) rfl) .nil))⟩) rfl ?_
        refine dq (ps := [(5, pI .i64 r_4)]) rfl rfl rfl ?_
        refine DL_nil ?_
        refine W_text ?_
        refine dq (ps := [(66, pI .i64 v6_1)]) rfl rfl rfl ?_
        refine dq (ps := [(67, pI .i64 v7)]) rfl rfl rfl ?_
        refine dq (ps := [(68, pI .i64 (w64 (v7 + 1)))]) rfl rfl rfl ?_
        obtain ⟨r_5, hr_5, h⟩ := bind_some h
        refine dCall (gn := 60) (fn := Tryd.f60) (cp := []) (lt := []) [66, 68] (vc_sl00Max n v6_1 (w64 (v7 + 1)) _ hr_5) Tryd.func60 rfl rfl rfl rfl (.inl rfl) (.inl rfl) (fun st2 h2 => ⟨rfl, args_of0 (.cons (aF (ltF rfl) ((congrArg Slot.sv (h2 66 (by decide))).trans rfl) rfl) (.cons (aF (ltF rfl) ((congrArg Slot.sv (h2 68 (by decide))).trans rfl) rfl) .nil))⟩) rfl ?_
        refine dq (ps := [(6, pI .i64 r_5)]) rfl rfl rfl ?_
        refine DL_nil ?_
        refine W_text ?_
        refine dq (ps := [(46, pI .i64 v8)]) rfl rfl rfl ?_
        refine dq (ps := [(47, pI .i64 (w64 (v8 + 1)))]) rfl rfl rfl ?_
        refine dq (ps := [(8, pI .i64 (w64 (v8 + 1)))]) rfl rfl rfl ?_
        refine DL_nil ?_
        exact ⟨n, Nat.lt_succ_self n, _, _, _, _, _,  h, (nC rfl (nC rfl (nC rfl (nC rfl (nC rfl (nC rfl (nC rfl (nC rfl nN))))))))⟩
      · replace h := ite_no hb h
        refine W_skip ?_
        refine W_text ?_
        refine dq (ps := [(46, pI .i64 v8)]) rfl rfl rfl ?_
        refine dq (ps := [(47, pI .i64 (w64 (v8 + 1)))]) rfl rfl rfl ?_
        refine dq (ps := [(8, pI .i64 (w64 (v8 + 1)))]) rfl rfl rfl ?_
        refine DL_nil ?_
        exact ⟨n, Nat.lt_succ_self n, _, _, _, _, _,  h, (nC rfl (nC rfl (nC rfl (nC rfl (nC rfl (nC rfl (nC rfl (nC rfl nN))))))))⟩
    · replace h := ite_no hb h
      refine W_exit ?_
      cases h
      exact hQ _ (nC rfl (nC rfl (nC rfl (nC rfl (nC rfl (nC rfl (nC rfl nN)))))))

def sl34Crop_L0 : Nat → SL34Box → SBitmap → (List ByteArray) → Int → Int → Int → Int → Int → Option (Out (List ByteArray × Int × Int × Int × Int) (SBitmap))
  | 0, _, _, _, _, _, _, _, _ => none
  | n + 1, r, a0, v2_3, v4_0, v4_1, v5, v6, v7 => (if (decide (v7 < (w64 (r.bottom + r.height)))) = true then ((sl34Crop_L1 n r a0 v7 v2_3 v4_0 v4_1 v5 v6 r.left).bind fun o => (match o with | .go (q4_0_1, q4_1_1, q5_1, q6_1) => sl34Crop_L0 n r a0 v2_3 q4_0_1 q4_1_1 q5_1 q6_1 (w64 (v7 + 1)) | .brk _ _ => none | .ret r => some (.ret r))) else some (.go (v2_3, v4_0, v4_1, v5, v6)))

theorem sl34Crop_L0_ok {G0 : Nat → Own} {w0 : World} {Q : Exit → St → Prop} {r : SL34Box} {a0 : SBitmap} {out : (Out (List ByteArray × Int × Int × Int × Int) (SBitmap))}
    (hQ : match out with | .go (q2_3, q4_0, q4_1, q5, q6) => ∀ st, FN st [(0, .val false [.t (.ptr (cBitmap false a0))]), (2, .box [.sc (.int .i64 0), .sc (.int .i64 0), .sc (.int .i64 0), .sl true 1 (q2_3.map (cS true))]), (4, .box [.sc (.int .i64 q4_0), .sc (.int .i64 q4_1), .sc (.int .i64 0), .sc (.int .i64 0)]), (5, pI .i64 q5), (6, pI .i64 q6)] → Q (.exit 0) st | .brk _ _ => True | .ret r => ∀ st, Fits st [(2, .box (cBitmap true r))] → Q .ret st)
    {n : Nat} {v2_3 : List ByteArray} {v4_0 : Int} {v4_1 : Int} {v5 : Int} {v6 : Int} {v7 : Int} (h : sl34Crop_L0 n r a0 v2_3 v4_0 v4_1 v5 v6 v7 = some out) :
    ∀ st, FN st [(0, .val false [.t (.ptr (cBitmap false a0))]), (2, .box [.sc (.int .i64 0), .sc (.int .i64 0), .sc (.int .i64 0), .sl true 1 (v2_3.map (cS true))]), (3, .box (cL34Box true r)), (4, .box [.sc (.int .i64 v4_0), .sc (.int .i64 v4_1), .sc (.int .i64 0), .sc (.int .i64 0)]), (5, pI .i64 v5), (6, pI .i64 v6), (7, pI .i64 v7)] → W ⟨Tryd.prog, 96, [], G0, w0⟩ (.loop (bodyAt Tryd.f25 [1, 1, 1, 1, 1, 0, 1, 0, 0])) st Q := by
  intro st hst
  refine W_loop (fun n st => ∃ v2_3 v4_0 v4_1 v5 v6 v7, sl34Crop_L0 n r a0 v2_3 v4_0 v4_1 v5 v6 v7 = some out ∧ FN st [(0, .val false [.t (.ptr (cBitmap false a0))]), (2, .box [.sc (.int .i64 0), .sc (.int .i64 0), .sc (.int .i64 0), .sl true 1 (v2_3.map (cS true))]), (3, .box (cL34Box true r)), (4, .box [.sc (.int .i64 v4_0), .sc (.int .i64 v4_1), .sc (.int .i64 0), .sc (.int .i64 0)]), (5, pI .i64 v5), (6, pI .i64 v6), (7, pI .i64 v7)]) ?_ (n := n) ⟨v2_3, v4_0, v4_1, v5, v6, v7, h, hst⟩
  clear h hst st n v2_3 v4_0 v4_1 v5 v6 v7
  rintro n st ⟨v2_3, v4_0, v4_1, v5, v6, v7, h, hst⟩
  refine W_fn hst rfl ?_
  cases n with
  | zero => cases h
  | succ n =>
    rw [sl34Crop_L0] at h
    refine W_seq ?_
    refine W_seq ?_
    refine W_text ?_
    refine dq (ps := [(28, pI .i64 v7)]) rfl rfl rfl ?_
    refine dFaB rfl rfl (ltF rfl) rfl rfl rfl rfl rfl rfl ?_
    refine dq (ps := [(30, pI .i64 r.bottom)]) rfl rfl rfl ?_
    refine dFaB rfl rfl (ltF rfl) rfl rfl rfl rfl rfl rfl ?_
    refine dq (ps := [(32, pI .i64 r.height)]) rfl rfl rfl ?_
    refine dq (ps := [(33, pI .i64 (w64 (r.bottom + r.height)))]) rfl rfl rfl ?_
    refine dq (ps := [(34, pB (decide (v7 < (w64 (r.bottom + r.height)))))]) rfl rfl rfl ?_
    refine DL_nil ?_
    refine W_fn (l := [(0, .val false [.t (.ptr (cBitmap false a0))]), (2, .box [.sc (.int .i64 0), .sc (.int .i64 0), .sc (.int .i64 0), .sl true 1 (v2_3.map (cS true))]), (3, .box (cL34Box true r)), (4, .box [.sc (.int .i64 v4_0), .sc (.int .i64 v4_1), .sc (.int .i64 0), .sc (.int .i64 0)]), (5, pI .i64 v5), (6, pI .i64 v6), (7, pI .i64 v7), (34, pB (decide (v7 < (w64 (r.bottom + r.height)))))]) (nC rfl (nC rfl (nC rfl (nC rfl (nC rfl (nC rfl (nC rfl (nC rfl nN)))))))) rfl ?_
    refine W_split ⟨ltF rfl, rfl⟩ (fun hb => ?_) (fun hb => ?_)
    · replace h := ite_yes hb h
      refine W_skip ?_
      refine W_seq ?_
      refine W_block ?_
      refine W_seq ?_
      refine W_text ?_
      refine dFaB rfl rfl (ltF rfl) rfl rfl rfl rfl rfl rfl ?_
      refine dq (ps := [(38, pI .i64 r.left)]) rfl rfl rfl ?_
      refine dq (ps := [(8, pI .i64 r.left)]) rfl rfl rfl ?_
      refine DL_nil ?_
      refine W_block ?_
      obtain ⟨o, ho, h⟩ := bind_some h
      refine sl34Crop_L1_ok ?_ ho _ (nC rfl (nC rfl (nC rfl (nC rfl (nC rfl (nC rfl (nC rfl (nC rfl nN))))))))
      rcases o with p | ⟨j, p⟩ | r
      · obtain ⟨q4_0_1, q4_1_1, q5_1, q6_1⟩ := p
        dsimp only at h ⊢
        intro st hst
        refine W_fn hst rfl ?_
        refine W_text ?_
        refine dq (ps := [(35, pI .i64 v7)]) rfl rfl rfl ?_
        refine dq (ps := [(36, pI .i64 (w64 (v7 + 1)))]) rfl rfl rfl ?_
        refine dq (ps := [(7, pI .i64 (w64 (v7 + 1)))]) rfl rfl rfl ?_
        refine DL_nil ?_
        exact ⟨n, Nat.lt_succ_self n, _, _, _, _, _, _,  h, (nC rfl (nC rfl (nC rfl (nC rfl (nC rfl (nC rfl (nC rfl nN)))))))⟩
      · exact trivial
      · dsimp only at h ⊢
        intro st hst
        cases h
        exact hQ _ hst
    · replace h := ite_no hb h
      refine W_exit ?_
      cases h
      exact hQ _ (nC rfl (nC rfl (nC rfl (nC rfl (nC rfl nN)))))

def sl34Crop (n : Nat) (a0 : SBitmap) : Option (SBitmap) :=
  ((sl34Of n a0).bind fun r => ((sl34Crop_L0 n r a0 ([] : List ByteArray) (w64 (r.left + r.width)) (w64 (r.bottom + r.height)) r.left r.bottom r.bottom).bind fun o_1 => (match o_1 with | .go (q2_3_1, q4_0_2, q4_1_2, q5_2, q6_2) => (if (decide (q5_2 ≤ q4_0_2)) = true then some (SBitmap.mk 0 0 0 ([] : List ByteArray)) else ((sl34Signs n a0 a0 (SL34Box.mk q4_0_2 q4_1_2 (w64 (q5_2 - q4_0_2)) (w64 (q6_2 - q4_1_2))) (ByteArray.mk #[46, 46, 46, 35])).bind fun r_6 => some (SBitmap.mk q4_0_2 q4_1_2 (w64 (q5_2 - q4_0_2)) r_6))) | .brk _ _ => none | .ret r => some r)))

theorem vc_sl34Crop (n : Nat) (a0 : SBitmap) (r : SBitmap) (h : sl34Crop n a0 = some r) : VC Tryd.prog 25 [.sh false [.ptr (cBitmap false a0)]] [(true, cBitmap true r)] [] := by
  refine VC_of 96 Tryd.func25 rfl rfl rfl fun G0 w0 pv => ?_
  unfold sl34Crop at h
  refine W_seq ?_
  refine W_text ?_
  refine dAlloc (R' := []) (zs := [.sc (.int .i64 0), .sc (.int .i64 0), .sc (.int .i64 0), .sl true 1 (([] : List ByteArray).map (cS true))]) rfl rfl (zeros_of _ rfl ⟨z1 rfl, z1 rfl, z1 rfl, z2, trivial⟩) rfl ?_
  refine DL_nil ?_
  refine W_seq ?_
  refine W_text ?_
  refine dq (ps := [(9, .val false [.t (.ptr (cBitmap false a0))])]) rfl rfl rfl ?_
  obtain ⟨r, hr, h⟩ := bind_some h
  refine dCall (R' := [9]) (gn := 57) (fn := Tryd.f57) (cp := []) (lt := []) [9] (vc_sl34Of n a0 _ hr) Tryd.func57 rfl rfl rfl rfl (.inl rfl) (.inl rfl) (fun st2 h2 => ⟨rfl, args_of0 (.cons (aF (ltF rfl) ((congrArg Slot.sv (h2 9 (by decide))).trans rfl) rfl) .nil)⟩) rfl ?_
  refine dAlloc (R' := []) (zs := [.sc (.int .i64 0), .sc (.int .i64 0), .sc (.int .i64 0), .sc (.int .i64 0)]) rfl rfl (zeros_of _ rfl ⟨z1 rfl, z1 rfl, z1 rfl, z1 rfl, trivial⟩) rfl ?_
  refine dStB (R' := [3, 10]) (ag := true) (ts := [.sc (.int .i64 r.left), .sc (.int .i64 r.bottom), .sc (.int .i64 r.width), .sc (.int .i64 r.height)]) (cs' := (cL34Box true r)) [] [3, 10] rfl (ltF rfl) (by decide) rfl rfl rfl (by decide) rfl rfl (fun st2 h2 => .free (⟨ltF rfl, (congrArg Slot.sv (h2 10 (by decide))).trans rfl⟩) rfl) rfl ?_
  refine DL_nil ?_
  refine W_seq ?_
  refine W_text ?_
  refine dFaB rfl rfl (ltF rfl) rfl rfl rfl rfl rfl rfl ?_
  refine dq (ps := [(12, pI .i64 r.left)]) rfl rfl rfl ?_
  refine dFaB rfl rfl (ltF rfl) rfl rfl rfl rfl rfl rfl ?_
  refine dq (ps := [(14, pI .i64 r.width)]) rfl rfl rfl ?_
  refine dq (ps := [(15, pI .i64 (w64 (r.left + r.width)))]) rfl rfl rfl ?_
  refine dFaB rfl rfl (ltF rfl) rfl rfl rfl rfl rfl rfl ?_
  refine dq (ps := [(17, pI .i64 r.bottom)]) rfl rfl rfl ?_
  refine dFaB rfl rfl (ltF rfl) rfl rfl rfl rfl rfl rfl ?_
  refine dq (ps := [(19, pI .i64 r.height)]) rfl rfl rfl ?_
  refine dq (ps := [(20, pI .i64 (w64 (r.bottom + r.height)))]) rfl rfl rfl ?_
  refine dBuild (R' := [15, 20]) (pls := [(0, 1), (1, 1), (2, 1), (3, 1)]) (zs := [.sc (.int .i64 0), .sc (.int .i64 0), .sc (.int .i64 0), .sc (.int .i64 0)]) (ts := [.sc (.int .i64 (w64 (r.left + r.width))), .sc (.int .i64 (w64 (r.bottom + r.height))), .sc (.int .i64 0), .sc (.int .i64 0)]) (qs := [(0, [.sc (.int .i64 (w64 (r.left + r.width)))]), (1, [.sc (.int .i64 (w64 (r.bottom + r.height)))])]) [] [15, 20] rfl rfl rfl (zeros_of _ rfl ⟨z1 rfl, z1 rfl, z1 rfl, z1 rfl, trivial⟩) (by decide) rfl (fun st2 h2 => (.cons rfl (.free (⟨ltF rfl, (congrArg Slot.sv (h2 15 (by decide))).trans rfl⟩) rfl) rfl (.cons rfl (.free (⟨ltF rfl, (congrArg Slot.sv (h2 20 (by decide))).trans rfl⟩) rfl) rfl .nil))) rfl ?_
  refine dAlloc (R' := []) (zs := [.sc (.int .i64 0), .sc (.int .i64 0), .sc (.int .i64 0), .sc (.int .i64 0)]) rfl rfl (zeros_of _ rfl ⟨z1 rfl, z1 rfl, z1 rfl, z1 rfl, trivial⟩) rfl ?_
  refine dStB (R' := [4, 21]) (ag := true) (ts := [.sc (.int .i64 (w64 (r.left + r.width))), .sc (.int .i64 (w64 (r.bottom + r.height))), .sc (.int .i64 0), .sc (.int .i64 0)]) (cs' := [.sc (.int .i64 (w64 (r.left + r.width))), .sc (.int .i64 (w64 (r.bottom + r.height))), .sc (.int .i64 0), .sc (.int .i64 0)]) [] [4, 21] rfl (ltF rfl) (by decide) rfl rfl rfl (by decide) rfl rfl (fun st2 h2 => .free (⟨ltF rfl, (congrArg Slot.sv (h2 21 (by decide))).trans rfl⟩) rfl) rfl ?_
  refine DL_nil ?_
  refine W_fn (l := [(0, .val false [.t (.ptr (cBitmap false a0))]), (2, .box [.sc (.int .i64 0), .sc (.int .i64 0), .sc (.int .i64 0), .sl true 1 (([] : List ByteArray).map (cS true))]), (3, .box (cL34Box true r)), (4, .box [.sc (.int .i64 (w64 (r.left + r.width))), .sc (.int .i64 (w64 (r.bottom + r.height))), .sc (.int .i64 0), .sc (.int .i64 0)])]) (nC rfl (nC rfl (nC rfl (nC rfl nN)))) rfl ?_
  refine W_seq ?_
  refine W_text ?_
  refine dFaB rfl rfl (ltF rfl) rfl rfl rfl rfl rfl rfl ?_
  refine dq (ps := [(23, pI .i64 r.left)]) rfl rfl rfl ?_
  refine dq (ps := [(5, pI .i64 r.left)]) rfl rfl rfl ?_
  refine DL_nil ?_
  refine W_seq ?_
  refine W_text ?_
  refine dFaB rfl rfl (ltF rfl) rfl rfl rfl rfl rfl rfl ?_
  refine dq (ps := [(25, pI .i64 r.bottom)]) rfl rfl rfl ?_
  refine dq (ps := [(6, pI .i64 r.bottom)]) rfl rfl rfl ?_
  refine DL_nil ?_
  refine W_seq ?_
  refine W_seq ?_
  refine W_text ?_
  refine dFaB rfl rfl (ltF rfl) rfl rfl rfl rfl rfl rfl ?_
  refine dq (ps := [(27, pI .i64 r.bottom)]) rfl rfl rfl ?_
  refine dq (ps := [(7, pI .i64 r.bottom)]) rfl rfl rfl ?_
  refine DL_nil ?_
  refine W_block ?_
  obtain ⟨o_1, ho_1, h⟩ := bind_some h
  refine sl34Crop_L0_ok ?_ ho_1 _ (nC rfl (nC rfl (nC rfl (nC rfl (nC rfl (nC rfl (nC rfl nN)))))))
  rcases o_1 with p | ⟨j, p⟩ | r
  · obtain ⟨q2_3_1, q4_0_2, q4_1_2, q5_2, q6_2⟩ := p
    dsimp only at h ⊢
    intro st hst
    refine W_fn hst rfl ?_
    refine W_seq ?_
    refine W_seq ?_
    refine W_text ?_
    refine dq (ps := [(70, pI .i64 q5_2)]) rfl rfl rfl ?_
    refine dFaB rfl rfl (ltF rfl) rfl rfl rfl rfl rfl rfl ?_
    refine dq (ps := [(72, pI .i64 q4_0_2)]) rfl rfl rfl ?_
    refine dq (ps := [(73, pB (decide (q5_2 ≤ q4_0_2)))]) rfl rfl rfl ?_
    refine DL_nil ?_
    refine W_split ⟨ltF rfl, rfl⟩ (fun hb => ?_) (fun hb => ?_)
    · replace h := ite_yes hb h
      refine W_seq ?_
      refine W_text ?_
      refine dBuild (pls := [(0, 1), (1, 1), (2, 1), (3, 1)]) (zs := [.sc (.int .i64 0), .sc (.int .i64 0), .sc (.int .i64 0), .sl true 1 (([] : List ByteArray).map (cS true))]) (ts := [.sc (.int .i64 0), .sc (.int .i64 0), .sc (.int .i64 0), .sl true 1 (([] : List ByteArray).map (cS true))]) (qs := []) [] [] rfl rfl rfl (zeros_of _ rfl ⟨z1 rfl, z1 rfl, z1 rfl, z2, trivial⟩) (by decide) rfl (fun st2 h2 => .nil) rfl ?_
      refine dStB (ag := true) (ts := [.sc (.int .i64 0), .sc (.int .i64 0), .sc (.int .i64 0), .sl true 1 (([] : List ByteArray).map (cS true))]) (cs' := [.sc (.int .i64 0), .sc (.int .i64 0), .sc (.int .i64 0), .sl true 1 (([] : List ByteArray).map (cS true))]) [(74, 0)] [2, 74] rfl (ltF rfl) (by decide) rfl rfl rfl (by decide) rfl rfl (fun st2 h2 => .own (ltF rfl) ((congrArg Slot.sv (h2 74 (by decide))).trans rfl) rfl) rfl ?_
      refine DL_nil ?_
      refine W_ret ?_
      cases h
      exact ⟨.inr rfl, leaves_of [.cell 2 26] rfl (by decide) (.cell (ltF rfl) rfl rfl rfl rfl .nil)⟩
    · replace h := ite_no hb h
      refine W_skip ?_
      refine W_seq ?_
      refine W_text ?_
      refine dq (ps := [(75, pI .i64 q5_2)]) rfl rfl rfl ?_
      refine dFaB rfl rfl (ltF rfl) rfl rfl rfl rfl rfl rfl ?_
      refine dq (ps := [(77, pI .i64 q4_0_2)]) rfl rfl rfl ?_
      refine dq (ps := [(78, pI .i64 (w64 (q5_2 - q4_0_2)))]) rfl rfl rfl ?_
      refine dFaB rfl rfl (ltF rfl) rfl rfl rfl rfl rfl rfl ?_
      refine dSt (R' := [79, 4, 78]) (v := 0) (ag := false) (ts := [.sc (.int .i64 (w64 (q5_2 - q4_0_2)))]) (cs' := [.sc (.int .i64 q4_0_2), .sc (.int .i64 q4_1_2), .sc (.int .i64 (w64 (q5_2 - q4_0_2))), .sc (.int .i64 0)]) [] [79, 4, 78] rfl (ltF rfl) (by decide) (by decide) rfl rfl rfl rfl rfl (by decide) rfl rfl (fun st2 h2 => .free (⟨ltF rfl, (congrArg Slot.sv (h2 78 (by decide))).trans rfl⟩) rfl) rfl ?_
      refine DL_nil ?_
      refine W_fn (l := [(0, .val false [.t (.ptr (cBitmap false a0))]), (2, .box [.sc (.int .i64 0), .sc (.int .i64 0), .sc (.int .i64 0), .sl true 1 (q2_3_1.map (cS true))]), (4, .box [.sc (.int .i64 q4_0_2), .sc (.int .i64 q4_1_2), .sc (.int .i64 (w64 (q5_2 - q4_0_2))), .sc (.int .i64 0)]), (6, pI .i64 q6_2)]) (nC rfl (nC rfl (nC rfl (nC rfl nN)))) rfl ?_
      refine W_seq ?_
      refine W_text ?_
      refine dq (ps := [(80, pI .i64 q6_2)]) rfl rfl rfl ?_
      refine dFaB rfl rfl (ltF rfl) rfl rfl rfl rfl rfl rfl ?_
      refine dq (ps := [(82, pI .i64 q4_1_2)]) rfl rfl rfl ?_
      refine dq (ps := [(83, pI .i64 (w64 (q6_2 - q4_1_2)))]) rfl rfl rfl ?_
      refine dFaB rfl rfl (ltF rfl) rfl rfl rfl rfl rfl rfl ?_
      refine dSt (R' := [84, 4, 83]) (v := 0) (ag := false) (ts := [.sc (.int .i64 (w64 (q6_2 - q4_1_2)))]) (cs' := [.sc (.int .i64 q4_0_2), .sc (.int .i64 q4_1_2), .sc (.int .i64 (w64 (q5_2 - q4_0_2))), .sc (.int .i64 (w64 (q6_2 - q4_1_2)))]) [] [84, 4, 83] rfl (ltF rfl) (by decide) (by decide) rfl rfl rfl rfl rfl (by decide) rfl rfl (fun st2 h2 => .free (⟨ltF rfl, (congrArg Slot.sv (h2 83 (by decide))).trans rfl⟩) rfl) rfl ?_
      refine DL_nil ?_
      refine W_fn (l := [(0, .val false [.t (.ptr (cBitmap false a0))]), (2, .box [.sc (.int .i64 0), .sc (.int .i64 0), .sc (.int .i64 0), .sl true 1 (q2_3_1.map (cS true))]), (4, .box [.sc (.int .i64 q4_0_2), .sc (.int .i64 q4_1_2), .sc (.int .i64 (w64 (q5_2 - q4_0_2))), .sc (.int .i64 (w64 (q6_2 - q4_1_2)))])]) (nC rfl (nC rfl (nC rfl nN))) rfl ?_
      refine W_seq ?_
      refine W_drawn rfl ?_
      refine dFaB (R' := [4]) rfl rfl (ltF rfl) rfl rfl rfl rfl rfl rfl ?_
      refine dq (R' := [85, 4]) (ps := [(86, pI .i64 q4_0_2)]) rfl rfl rfl ?_
      refine dFaB (R' := [4]) rfl rfl (ltF rfl) rfl rfl rfl rfl rfl rfl ?_
      refine dq (R' := [87, 4]) (ps := [(88, pI .i64 q4_1_2)]) rfl rfl rfl ?_
      refine dFaB (R' := [4]) rfl rfl (ltF rfl) rfl rfl rfl rfl rfl rfl ?_
      refine dq (R' := [89, 4]) (ps := [(90, pI .i64 (w64 (q5_2 - q4_0_2)))]) rfl rfl rfl ?_
      refine dq (R' := [0]) (ps := [(91, .val false [.t (.ptr (cBitmap false a0))])]) rfl rfl rfl ?_
      refine dq (R' := [0]) (ps := [(92, .val false [.t (.ptr (cBitmap false a0))])]) rfl rfl rfl ?_
      refine dLdB (R' := [4]) (sv := .val true [.t (.sc (.int .i64 q4_0_2)), .t (.sc (.int .i64 q4_1_2)), .t (.sc (.int .i64 (w64 (q5_2 - q4_0_2)))), .t (.sc (.int .i64 (w64 (q6_2 - q4_1_2))))]) rfl rfl (ltF rfl) rfl rfl rfl rfl rfl rfl rfl rfl ?_
      obtain ⟨r_6, hr_6, h⟩ := bind_some h
      refine dCall (R' := [91, 92, 93]) (gn := 61) (fn := Tryd.f61) (cp := []) (lt := []) [91, 92, 93] (vc_sl34Signs n a0 a0 (SL34Box.mk q4_0_2 q4_1_2 (w64 (q5_2 - q4_0_2)) (w64 (q6_2 - q4_1_2))) (ByteArray.mk #[46, 46, 46, 35]) _ hr_6) Tryd.func61 rfl rfl rfl rfl (.inl rfl) (.inl rfl) (fun st2 h2 => ⟨rfl, args_of0 (.cons (aF (ltF rfl) ((congrArg Slot.sv (h2 91 (by decide))).trans rfl) rfl) (.cons (aF (ltF rfl) ((congrArg Slot.sv (h2 92 (by decide))).trans rfl) rfl) (.cons (aF (ltF rfl) ((congrArg Slot.sv (h2 93 (by decide))).trans rfl) rfl) (.cons (aC rfl) .nil))))⟩) rfl ?_
      refine dBuild (R' := [86, 88, 90, 94]) (pls := [(0, 1), (1, 1), (2, 1), (3, 1)]) (zs := [.sc (.int .i64 0), .sc (.int .i64 0), .sc (.int .i64 0), .sl true 1 (([] : List ByteArray).map (cS true))]) (ts := [.sc (.int .i64 q4_0_2), .sc (.int .i64 q4_1_2), .sc (.int .i64 (w64 (q5_2 - q4_0_2))), .sl true 1 (r_6.map (cS true))]) (qs := [(0, [.sc (.int .i64 q4_0_2)]), (1, [.sc (.int .i64 q4_1_2)]), (2, [.sc (.int .i64 (w64 (q5_2 - q4_0_2)))]), (3, [.sl true 1 (r_6.map (cS true))])]) [(94, 3)] [86, 88, 90, 94] rfl rfl rfl (zeros_of _ rfl ⟨z1 rfl, z1 rfl, z1 rfl, z2, trivial⟩) (by decide) rfl (fun st2 h2 => (.cons rfl (.free (⟨ltF rfl, (congrArg Slot.sv (h2 86 (by decide))).trans rfl⟩) rfl) rfl (.cons rfl (.free (⟨ltF rfl, (congrArg Slot.sv (h2 88 (by decide))).trans rfl⟩) rfl) rfl (.cons rfl (.free (⟨ltF rfl, (congrArg Slot.sv (h2 90 (by decide))).trans rfl⟩) rfl) rfl (.cons rfl (.own (ltF rfl) ((congrArg Slot.sv (h2 94 (by decide))).trans rfl) rfl) rfl .nil))))) rfl ?_
      refine dStB (R' := [2, 95]) (ag := true) (ts := [.sc (.int .i64 q4_0_2), .sc (.int .i64 q4_1_2), .sc (.int .i64 (w64 (q5_2 - q4_0_2))), .sl true 1 (r_6.map (cS true))]) (cs' := [.sc (.int .i64 q4_0_2), .sc (.int .i64 q4_1_2), .sc (.int .i64 (w64 (q5_2 - q4_0_2))), .sl true 1 (r_6.map (cS true))]) [(95, 0)] [2, 95] rfl (ltF rfl) (by decide) rfl rfl rfl (by decide) rfl rfl (fun st2 h2 => .own (ltF rfl) ((congrArg Slot.sv (h2 95 (by decide))).trans rfl) rfl) rfl ?_
      refine DL_nil ⟨[([4], [85]), ([85, 4], [86]), ([4], [87]), ([87, 4], [88]), ([4], [89]), ([89, 4], [90]), ([0], [91]), ([0], [92]), ([4], [93]), ([91, 92, 93], [94]), ([86, 88, 90, 94], [94, 95]), ([2, 95], [95, 2])], rfl, by decide +kernel, ?_⟩
      refine W_fn (l := [(2, .box [.sc (.int .i64 q4_0_2), .sc (.int .i64 q4_1_2), .sc (.int .i64 (w64 (q5_2 - q4_0_2))), .sl true 1 (r_6.map (cS true))])]) (nC rfl nN) rfl ?_
      refine W_ret ?_
      cases h
      exact ⟨.inr rfl, leaves_of [.cell 2 26] rfl (by decide) (.cell (ltF rfl) rfl rfl rfl rfl .nil)⟩
  · exact trivial
  · dsimp only at h ⊢
    intro st hst
    cases h
    exact ⟨.inr rfl, leaves_of [.cell 2 26] rfl (by decide) (.cell (ltF rfl) (hst.at (s := 2) rfl rfl) rfl rfl rfl .nil)⟩

-- sCropBitmap: loop.example/g00883/spec.CropBitmap
def sCropBitmap (n : Nat) (a0 : SBitmap) : Option (SBitmap × Int) :=
  ((sl22Ok n a0).bind fun r => (if (!r) = true then some ((SBitmap.mk 0 0 0 ([] : List ByteArray)), 1) else ((sl34Crop n a0).bind fun r_1 => some (r_1, 0))))

theorem vc_sCropBitmap (n : Nat) (a0 : SBitmap) (r : SBitmap × Int) (h : sCropBitmap n a0 = some r) : VC Tryd.prog 7 [.sh true (cBitmap false a0)] [(true, cBitmap true r.1), (false, (cI .i64) true r.2)] [] := by
  refine VC_of 8 Tryd.func7 rfl rfl rfl fun G0 w0 pv => ?_
  unfold sCropBitmap at h
  refine W_seq ?_
  refine W_text ?_
  refine dBox (ts := (cBitmap false a0)) rfl rfl rfl rfl rfl ?_
  refine dAlloc (zs := [.sc (.int .i64 0), .sc (.int .i64 0), .sc (.int .i64 0), .sl true 1 (([] : List ByteArray).map (cS true))]) rfl rfl (zeros_of _ rfl ⟨z1 rfl, z1 rfl, z1 rfl, z2, trivial⟩) rfl ?_
  refine dq (ps := [(3, pI .i64 0)]) rfl rfl rfl ?_
  refine DL_nil ?_
  refine W_seq ?_
  refine W_seq ?_
  refine W_text ?_
  obtain ⟨r, hr, h⟩ := bind_some h
  refine dCall (gn := 24) (fn := Tryd.f24) (cp := []) (lt := [(1, [])]) [1] (vc_sl22Ok n a0 _ hr) Tryd.func24 rfl rfl rfl rfl (.inr ⟨(rC (eC rfl eN) rN), rfl⟩) (.inl rfl) (fun st2 h2 => ⟨rfl, args_of0 (.cons (aB (n := 4) (ltF rfl) ((congrArg Slot.sv (h2 1 (by decide))).trans rfl) rfl (wC rfl (wC rfl (wC rfl (wC (wS (wholes_map (fun _ => (wC rfl wN)) _)) wN)))) (sC rfl (sC rfl (sC rfl (sC (sS (shrs_map (fun _ => (sC rfl sN)) _)) sN)))) (by decide)) .nil)⟩) rfl ?_
  refine dq (ps := [(5, pB (!r))]) rfl rfl rfl ?_
  refine DL_nil ?_
  refine W_split ⟨ltF rfl, rfl⟩ (fun hb => ?_) (fun hb => ?_)
  · replace h := ite_yes hb h
    refine W_seq ?_
    refine W_text ?_
    refine dBuild (pls := [(0, 1), (1, 1), (2, 1), (3, 1)]) (zs := [.sc (.int .i64 0), .sc (.int .i64 0), .sc (.int .i64 0), .sl true 1 (([] : List ByteArray).map (cS true))]) (ts := [.sc (.int .i64 0), .sc (.int .i64 0), .sc (.int .i64 0), .sl true 1 (([] : List ByteArray).map (cS true))]) (qs := []) [] [] rfl rfl rfl (zeros_of _ rfl ⟨z1 rfl, z1 rfl, z1 rfl, z2, trivial⟩) (by decide) rfl (fun st2 h2 => .nil) rfl ?_
    refine dStB (ag := true) (ts := [.sc (.int .i64 0), .sc (.int .i64 0), .sc (.int .i64 0), .sl true 1 (([] : List ByteArray).map (cS true))]) (cs' := [.sc (.int .i64 0), .sc (.int .i64 0), .sc (.int .i64 0), .sl true 1 (([] : List ByteArray).map (cS true))]) [(6, 0)] [2, 6] rfl (ltF rfl) (by decide) rfl rfl rfl (by decide) rfl rfl (fun st2 h2 => .own (ltF rfl) ((congrArg Slot.sv (h2 6 (by decide))).trans rfl) rfl) rfl ?_
    refine dq (ps := [(3, pI .i64 1)]) rfl rfl rfl ?_
    refine DL_nil ?_
    refine W_ret ?_
    cases h
    exact ⟨.inr rfl, leaves_of [.cell 2 26, .tmp 3] rfl (by decide) (.cell (ltF rfl) rfl rfl rfl rfl (.tmp (ltF rfl) rfl .nil))⟩
  · replace h := ite_no hb h
    refine W_skip ?_
    refine W_seq ?_
    refine W_text ?_
    obtain ⟨r_1, hr_1, h⟩ := bind_some h
    refine dCall (gn := 25) (fn := Tryd.f25) (cp := []) (lt := [(1, [])]) [1] (vc_sl34Crop n a0 _ hr_1) Tryd.func25 rfl rfl rfl rfl (.inr ⟨(rC (eC rfl (eC rfl (eC rfl (eC (eS (deeps_map (fun _ => (eC rfl eN)) _)) eN)))) rN), rfl⟩) (.inl rfl) (fun st2 h2 => ⟨rfl, args_of0 (.cons (aB (n := 4) (ltF rfl) ((congrArg Slot.sv (h2 1 (by decide))).trans rfl) rfl (wC rfl (wC rfl (wC rfl (wC (wS (wholes_map (fun _ => (wC rfl wN)) _)) wN)))) (sC rfl (sC rfl (sC rfl (sC (sS (shrs_map (fun _ => (sC rfl sN)) _)) sN)))) (by decide)) .nil)⟩) rfl ?_
    refine dStB (ag := true) (ts := [.sc (.int .i64 r_1.Left), .sc (.int .i64 r_1.Bottom), .sc (.int .i64 r_1.Width), .sl true 1 (r_1.Rows.map (cS true))]) (cs' := (cBitmap true r_1)) [(7, 0)] [2, 7] rfl (ltF rfl) (by decide) rfl rfl rfl (by decide) rfl rfl (fun st2 h2 => .own (ltF rfl) ((congrArg Slot.sv (h2 7 (by decide))).trans rfl) rfl) rfl ?_
    refine dq (ps := [(3, pI .i64 0)]) rfl rfl rfl ?_
    refine DL_nil ?_
    refine W_ret ?_
    cases h
    exact ⟨.inr rfl, leaves_of [.cell 2 26, .tmp 3] rfl (by decide) (.cell (ltF rfl) rfl rfl rfl rfl (.tmp (ltF rfl) rfl .nil))⟩

-- strings.Trim at a cutset of ASCII bytes, from the kit
def strings_Trim (n : Nat) (a0 a1 : ByteArray) : Option ByteArray := trimF a0 a1
theorem vc_strings_Trim (n : Nat) (a0 a1 r : ByteArray) (h : strings_Trim n a0 a1 = some r) : VC Tryd.prog 64 [.sh false (cS false a0), .sh false (cS false a1)] [(false, cS true r)] [] := by
  unfold strings_Trim trimF at h
  obtain ⟨⟨h1, h2⟩, h3⟩ := ite_some h
  clear h
  subst h2
  cases h3
  exact str2_bridge fun w => Any.strings_Trim_laid Tryd.lays160 (by kernel_rfl) a0 _ w h1 (by decide) (ascii_of_all (by decide))

-- iValidBitmap_1: loop.example/g00883/impl.ValidBitmap$1
def iValidBitmap_1 (n : Nat) (a0 : ByteArray) (b1 : SBitmap) : Option (Bool) :=
  (if ((a0.size : Int) != b1.Width) = true then some true else ((strings_Trim n a0 (ByteArray.mk #[35, 46])).bind fun r => some (!(sEq r (ByteArray.mk #[])))))

theorem vc_iValidBitmap_1 (n : Nat) (a0 : ByteArray) (b1 : SBitmap) (r : Bool) (h : iValidBitmap_1 n a0 b1 = some r) : VC Tryd.prog 63 [.sh false (cS false a0), .sh false [.ptr (cBitmap false b1)]] [(false, cB true r)] [] := by
  refine VC_of 14 Tryd.func63 rfl rfl rfl fun G0 w0 pv => ?_
  unfold iValidBitmap_1 at h
  refine W_seq ?_
  refine W_text ?_
  refine dq (ps := [(3, pB false)]) rfl rfl rfl ?_
  refine DL_nil ?_
  refine W_seq ?_
  refine W_text ?_
  refine dq (ps := [(4, pS a0)]) rfl rfl rfl ?_
  refine dLen (t := 9) (n := (a0.size : Int)) rfl (ltF rfl) rfl rfl rfl rfl ?_
  refine dq (ps := [(6, .val false [.t (.ptr [.sc (.int .i64 b1.Width), .sl false 1 (b1.Rows.map (cS false))])])]) rfl rfl rfl ?_
  refine dq (ps := [(7, pI .i64 b1.Width)]) rfl rfl rfl ?_
  refine dq (ps := [(8, pB ((a0.size : Int) != b1.Width))]) rfl rfl rfl ?_
  refine dq (ps := [(9, pB ((a0.size : Int) != b1.Width))]) rfl rfl rfl ?_
  refine dS 9 rfl (fun hb => ?_) (fun hb => ?_)
  · replace h := ite_yes hb h
    refine dU rfl rfl rfl rfl ?_
    refine dU rfl rfl rfl rfl ?_
    refine dU rfl rfl rfl rfl ?_
    refine dq (ps := [(13, pB true)]) rfl rfl rfl ?_
    refine dq (ps := [(3, pB true)]) rfl rfl rfl ?_
    refine DL_nil ?_
    refine W_fn (l := [(3, pB true)]) (nC rfl nN) rfl ?_
    refine W_ret ?_
    cases h
    exact ⟨.inr rfl, leaves_of [.tmp 3] rfl (by decide) (.tmp (ltF rfl) rfl .nil)⟩
  · replace h := ite_no hb h
    refine dq (ps := [(10, pS a0)]) rfl rfl rfl ?_
    obtain ⟨r, hr, h⟩ := bind_some h
    refine dCall (gn := 64) (fn := Tryd.f64) (cp := []) (lt := []) [10] (vc_strings_Trim n a0 (ByteArray.mk #[35, 46]) _ hr) Tryd.func64 rfl rfl rfl rfl (.inl rfl) (.inl rfl) (fun st2 h2 => ⟨rfl, args_of0 (.cons (aF (ltF rfl) ((congrArg Slot.sv (h2 10 (by decide))).trans rfl) rfl) (.cons (aC rfl) .nil))⟩) rfl ?_
    refine dq (ps := [(12, pB (!(sEq r (ByteArray.mk #[]))))]) rfl rfl rfl ?_
    refine dq (ps := [(13, pB (!(sEq r (ByteArray.mk #[]))))]) rfl rfl rfl ?_
    refine dq (ps := [(3, pB (!(sEq r (ByteArray.mk #[]))))]) rfl rfl rfl ?_
    refine DL_nil ?_
    refine W_fn (l := [(3, pB (!(sEq r (ByteArray.mk #[]))))]) (nC rfl nN) rfl ?_
    refine W_ret ?_
    cases h
    exact ⟨.inr rfl, leaves_of [.tmp 3] rfl (by decide) (.tmp (ltF rfl) rfl .nil)⟩

-- slices_IndexFunc_string_iValidBitmap_1: slices.IndexFunc[[]string,string]
def slices_IndexFunc_string_iValidBitmap_1_L0 : Nat → (List ByteArray) → SBitmap → Int → Int → Option (Out (Unit) (Int))
  | 0, _, _, _, _ => none
  | n + 1, a0, b1_0, v7, v8 => (if (decide (v8 < v7)) = true then ((getI a0 v8).bind fun x => ((iValidBitmap_1 n x b1_0).bind fun r => (if (r) = true then some (.ret v8) else slices_IndexFunc_string_iValidBitmap_1_L0 n a0 b1_0 v7 (w64 (v8 + 1))))) else some (.go ()))

theorem slices_IndexFunc_string_iValidBitmap_1_L0_ok {G0 : Nat → Own} {w0 : World} {Q : Exit → St → Prop} {a0 : List ByteArray} {b1_0 : SBitmap} {out : (Out (Unit) (Int))}
    (hQ : match out with | .go _ => ∀ st, FN st [] → Q (.exit 0) st | .brk _ _ => True | .ret r => ∀ st, Fits st [(4, .val false (((cI .i64) true r).map .t))] → Q .ret st)
    {n : Nat} {v7 : Int} {v8 : Int} (h : slices_IndexFunc_string_iValidBitmap_1_L0 n a0 b1_0 v7 v8 = some out) :
    ∀ st, FN st [(0, .val false [.t (.sl false 1 (a0.map (cS false)))]), (1, .val false [.t (.fn 63 [.ptr (cBitmap false b1_0)])]), (7, pI .i64 v7), (8, pI .i64 v8)] → W ⟨Tryd.prog, 19, [], G0, w0⟩ (.loop (bodyAt Tryd.f84 [1, 0, 1, 0, 0])) st Q := by
  intro st hst
  refine W_loop (fun n st => ∃ v7 v8, slices_IndexFunc_string_iValidBitmap_1_L0 n a0 b1_0 v7 v8 = some out ∧ FN st [(0, .val false [.t (.sl false 1 (a0.map (cS false)))]), (1, .val false [.t (.fn 63 [.ptr (cBitmap false b1_0)])]), (7, pI .i64 v7), (8, pI .i64 v8)]) ?_ (n := n) ⟨v7, v8, h, hst⟩
  clear h hst st n v7 v8
  rintro n st ⟨v7, v8, h, hst⟩
  refine W_fn hst rfl ?_
  cases n with
  | zero => cases h
  | succ n =>
    rw [slices_IndexFunc_string_iValidBitmap_1_L0] at h
    refine W_seq ?_
    refine W_text ?_
    refine dq (ps := [(9, pB (decide (v8 < v7)))]) rfl rfl rfl ?_
    refine DL_nil ?_
    refine W_seq ?_
    refine W_split ⟨ltF rfl, rfl⟩ (fun hb => ?_) (fun hb => ?_)
    · replace h := ite_yes hb h
      refine W_skip ?_
      refine W_seq ?_
      refine W_block ?_
      refine W_seq ?_
      refine W_text ?_
      refine dq (ps := [(10, pI .i64 v8)]) rfl rfl rfl ?_
      refine dq (ps := [(5, pI .i64 v8)]) rfl rfl rfl ?_
      refine DL_nil ?_
      refine W_seq ?_
      refine W_text ?_
      refine dq (ps := [(11, .val false [.t (.fn 63 [.ptr (cBitmap false b1_0)])])]) rfl rfl rfl ?_
      refine dq (ps := [(12, .val false [.t (.sl false 1 (a0.map (cS false)))])]) rfl rfl rfl ?_
      refine dq (ps := [(13, pI .i64 v8)]) rfl rfl rfl ?_
      obtain ⟨x, hx, h⟩ := bind_some h
      refine dIxA rfl rfl rfl rfl rfl (getI_map (cS false) hx) rfl ?_
      refine dq (ps := [(15, pS x)]) rfl rfl rfl ?_
      obtain ⟨r, hr, h⟩ := bind_some h
      refine dCall (gn := 63) (fn := Tryd.f63) (cp := [.ptr (cBitmap false b1_0)]) (lt := []) [15, 11] (vc_iValidBitmap_1 n x b1_0 _ hr) Tryd.func63 rfl rfl rfl rfl (.inl rfl) (.inl rfl) (fun st2 h2 => ⟨⟨ltF rfl, (congrArg Slot.sv (h2 11 (by decide))).trans rfl⟩, args_of (cp := [.ptr (cBitmap false b1_0)]) (.cons (aF (ltF rfl) ((congrArg Slot.sv (h2 15 (by decide))).trans rfl) rfl) .nil)⟩) rfl ?_
      refine DL_nil ?_
      refine W_fn (l := [(0, .val false [.t (.sl false 1 (a0.map (cS false)))]), (1, .val false [.t (.fn 63 [.ptr (cBitmap false b1_0)])]), (5, pI .i64 v8), (7, pI .i64 v7), (8, pI .i64 v8), (16, pB r)]) (nC rfl (nC rfl (nC rfl (nC rfl (nC rfl (nC rfl nN)))))) rfl ?_
      refine W_split ⟨ltF rfl, rfl⟩ (fun hb => ?_) (fun hb => ?_)
      · replace h := ite_yes hb h
        refine W_seq ?_
        refine W_text ?_
        refine dq (ps := [(17, pI .i64 v8)]) rfl rfl rfl ?_
        refine dq (ps := [(4, pI .i64 v8)]) rfl rfl rfl ?_
        refine DL_nil ?_
        refine W_ret ?_
        cases h
        exact hQ _ (fC rfl rfl fN)
      · replace h := ite_no hb h
        refine W_skip ?_
        refine W_text ?_
        refine dq (ps := [(18, pI .i64 (w64 (v8 + 1)))]) rfl rfl rfl ?_
        refine dq (ps := [(8, pI .i64 (w64 (v8 + 1)))]) rfl rfl rfl ?_
        refine DL_nil ?_
        exact ⟨n, Nat.lt_succ_self n, _, _,  h, (nC rfl (nC rfl (nC rfl (nC rfl nN))))⟩
    · replace h := ite_no hb h
      refine W_exit ?_
      cases h
      exact hQ _ nN

def slices_IndexFunc_string_iValidBitmap_1 (n : Nat) (a0 : List ByteArray) (b1_0 : SBitmap) : Option (Int) :=
  ((slices_IndexFunc_string_iValidBitmap_1_L0 n a0 b1_0 (a0.length : Int) 0).bind fun o => (match o with | .go _ => some (-1) | .brk _ _ => none | .ret r => some r))

theorem vc_slices_IndexFunc_string_iValidBitmap_1 (n : Nat) (a0 : List ByteArray) (b1_0 : SBitmap) (r : Int) (h : slices_IndexFunc_string_iValidBitmap_1 n a0 b1_0 = some r) : VC Tryd.prog 84 [.sh false (cLStr false a0), .sh false [.fn 63 [.ptr (cBitmap false b1_0)]]] [(false, (cI .i64) true r)] [] := by
  refine VC_of 19 Tryd.func84 rfl rfl rfl fun G0 w0 pv => ?_
  unfold slices_IndexFunc_string_iValidBitmap_1 at h
  refine W_seq ?_
  refine W_text ?_
  refine dq (ps := [(4, pI .i64 0)]) rfl rfl rfl ?_
  refine DL_nil ?_
  refine W_seq ?_
  refine W_seq ?_
  refine W_text ?_
  refine dq (ps := [(6, .val false [.t (.sl false 1 (a0.map (cS false)))])]) rfl rfl rfl ?_
  refine dLen (t := 22) (n := (a0.length : Int)) rfl (ltF rfl) rfl rfl (lenE rfl (List.length_map ..)) rfl ?_
  refine dq (ps := [(8, pI .i64 0)]) rfl rfl rfl ?_
  refine DL_nil ?_
  refine W_block ?_
  obtain ⟨o, ho, h⟩ := bind_some h
  refine slices_IndexFunc_string_iValidBitmap_1_L0_ok ?_ ho _ (nC rfl (nC rfl (nC rfl (nC rfl nN))))
  rcases o with p | ⟨j, p⟩ | r
  · skip
    dsimp only at h ⊢
    intro st hst
    refine W_fn hst rfl ?_
    refine W_seq ?_
    refine W_text ?_
    refine dq (ps := [(4, pI .i64 (-1))]) rfl rfl rfl ?_
    refine DL_nil ?_
    refine W_ret ?_
    cases h
    exact ⟨.inr rfl, leaves_of [.tmp 4] rfl (by decide) (.tmp (ltF rfl) rfl .nil)⟩
  · exact trivial
  · dsimp only at h ⊢
    intro st hst
    cases h
    exact ⟨.inr rfl, leaves_of [.tmp 4] rfl (by decide) (.tmp (ltF rfl) (hst.at (s := 4) rfl rfl) .nil)⟩

-- slices_ContainsFunc_string_iValidBitmap_1: slices.ContainsFunc[[]string,string]
def slices_ContainsFunc_string_iValidBitmap_1 (n : Nat) (a0 : List ByteArray) (b1_0 : SBitmap) : Option (Bool) :=
  ((slices_IndexFunc_string_iValidBitmap_1 n a0 b1_0).bind fun r => some (decide (r ≥ 0)))

theorem vc_slices_ContainsFunc_string_iValidBitmap_1 (n : Nat) (a0 : List ByteArray) (b1_0 : SBitmap) (r : Bool) (h : slices_ContainsFunc_string_iValidBitmap_1 n a0 b1_0 = some r) : VC Tryd.prog 62 [.sh false (cLStr false a0), .sh false [.fn 63 [.ptr (cBitmap false b1_0)]]] [(false, cB true r)] [] := by
  refine VC_of 9 Tryd.func62 rfl rfl rfl fun G0 w0 pv => ?_
  unfold slices_ContainsFunc_string_iValidBitmap_1 at h
  refine W_seq ?_
  refine W_text ?_
  refine dq (ps := [(4, pB false)]) rfl rfl rfl ?_
  refine DL_nil ?_
  refine W_seq ?_
  refine W_text ?_
  refine dq (ps := [(5, .val false [.t (.sl false 1 (a0.map (cS false)))])]) rfl rfl rfl ?_
  refine dq (ps := [(6, .val false [.t (.fn 63 [.ptr (cBitmap false b1_0)])])]) rfl rfl rfl ?_
  obtain ⟨r, hr, h⟩ := bind_some h
  refine dCall (gn := 84) (fn := Tryd.f84) (cp := []) (lt := []) [5, 6] (vc_slices_IndexFunc_string_iValidBitmap_1 n a0 b1_0 _ hr) Tryd.func84 rfl rfl rfl rfl (.inl rfl) (.inl rfl) (fun st2 h2 => ⟨rfl, args_of0 (.cons (aF (ltF rfl) ((congrArg Slot.sv (h2 5 (by decide))).trans rfl) rfl) (.cons (aF (ltF rfl) ((congrArg Slot.sv (h2 6 (by decide))).trans rfl) rfl) .nil))⟩) rfl ?_
  refine dq (ps := [(8, pB (decide (r ≥ 0)))]) rfl rfl rfl ?_
  refine dq (ps := [(4, pB (decide (r ≥ 0)))]) rfl rfl rfl ?_
  refine DL_nil ?_
  refine W_ret ?_
  cases h
  exact ⟨.inr rfl, leaves_of [.tmp 4] rfl (by decide) (.tmp (ltF rfl) rfl .nil)⟩

-- iValidBitmap: loop.example/g00883/impl.ValidBitmap
def iValidBitmap (n : Nat) (a0 : SBitmap) : Option (Bool) :=
  (if (decide ((if a0.Bottom > a0.Left then a0.Bottom else a0.Left) > 1048576)) = true then some false else (if (decide ((if a0.Bottom < a0.Left then a0.Bottom else a0.Left) < (-1048576))) = true then some false else (if (decide ((a0.Rows.length : Int) > 128)) = true then some false else (if (decide (a0.Width < 0)) = true then some false else (if (decide (a0.Width > 128)) = true then some false else (if ((a0.Width == 0) != ((a0.Rows.length : Int) == 0)) = true then some false else ((slices_ContainsFunc_string_iValidBitmap_1 n a0.Rows a0).bind fun r => some (!r))))))))

theorem vc_iValidBitmap (n : Nat) (a0 : SBitmap) (r : Bool) (h : iValidBitmap n a0 = some r) : VC Tryd.prog 27 [.sh true (cBitmap false a0)] [(false, cB true r)] [] := by
  refine VC_of 48 Tryd.func27 rfl rfl rfl fun G0 w0 pv => ?_
  unfold iValidBitmap at h
  refine W_seq ?_
  refine W_text ?_
  refine dBox (ts := (cBitmap false a0)) rfl rfl rfl rfl rfl ?_
  refine dq (ps := [(2, pB false)]) rfl rfl rfl ?_
  refine DL_nil ?_
  refine W_seq ?_
  refine W_seq ?_
  refine W_text ?_
  refine dFaB rfl rfl (ltF rfl) rfl rfl rfl rfl rfl rfl ?_
  refine dq (ps := [(4, pI .i64 a0.Left)]) rfl rfl rfl ?_
  refine dFaB rfl rfl (ltF rfl) rfl rfl rfl rfl rfl rfl ?_
  refine dq (ps := [(6, pI .i64 a0.Bottom)]) rfl rfl rfl ?_
  refine dMax rfl rfl rfl rfl rfl ?_
  refine dq (ps := [(8, pB (decide ((if a0.Bottom > a0.Left then a0.Bottom else a0.Left) > 1048576)))]) rfl rfl rfl ?_
  refine dq (ps := [(9, pB (decide ((if a0.Bottom > a0.Left then a0.Bottom else a0.Left) > 1048576)))]) rfl rfl rfl ?_
  refine dS 9 rfl (fun hb => ?_) (fun hb => ?_)
  · replace h := ite_yes hb h
    refine dU rfl rfl rfl rfl ?_
    refine dU rfl rfl rfl rfl ?_
    refine dU rfl rfl rfl rfl ?_
    refine dU rfl rfl rfl rfl ?_
    refine dU rfl rfl rfl rfl ?_
    refine dU rfl rfl rfl rfl ?_
    refine dq (ps := [(16, pB true)]) rfl rfl rfl ?_
    refine dq (ps := [(17, pB true)]) rfl rfl rfl ?_
    refine dU rfl rfl rfl rfl ?_
    refine dU rfl rfl rfl rfl ?_
    refine dU rfl rfl rfl rfl ?_
    refine dU rfl rfl rfl rfl ?_
    refine dq (ps := [(22, pB true)]) rfl rfl rfl ?_
    refine dq (ps := [(23, pB true)]) rfl rfl rfl ?_
    refine dU rfl rfl rfl rfl ?_
    refine dU rfl rfl rfl rfl ?_
    refine dU rfl rfl rfl rfl ?_
    refine dq (ps := [(27, pB true)]) rfl rfl rfl ?_
    refine dq (ps := [(28, pB true)]) rfl rfl rfl ?_
    refine dU rfl rfl rfl rfl ?_
    refine dU rfl rfl rfl rfl ?_
    refine dU rfl rfl rfl rfl ?_
    refine dq (ps := [(32, pB true)]) rfl rfl rfl ?_
    refine dq (ps := [(33, pB true)]) rfl rfl rfl ?_
    refine dU rfl rfl rfl rfl ?_
    refine dU rfl rfl rfl rfl ?_
    refine dU rfl rfl rfl rfl ?_
    refine dU rfl rfl rfl rfl ?_
    refine dU rfl rfl rfl rfl ?_
    refine dU rfl rfl rfl rfl ?_
    refine dU rfl rfl rfl rfl ?_
    refine dU rfl rfl rfl rfl ?_
    refine dq (ps := [(42, pB true)]) rfl rfl rfl ?_
    refine DL_nil ?_
    refine W_fn (l := [(1, .box (cBitmap false a0)), (42, pB true)]) (nC rfl (nC rfl nN)) rfl ?_
    refine W_yes ⟨ltF rfl, rfl⟩ ?_
    refine W_seq ?_
    refine W_text ?_
    refine dq (ps := [(2, pB false)]) rfl rfl rfl ?_
    refine DL_nil ?_
    refine W_ret ?_
    cases h
    exact ⟨.inr rfl, leaves_of [.tmp 2] rfl (by decide) (.tmp (ltF rfl) rfl .nil)⟩
  · replace h := ite_no hb h
    refine dFaB rfl rfl (ltF rfl) rfl rfl rfl rfl rfl rfl ?_
    refine dq (ps := [(11, pI .i64 a0.Left)]) rfl rfl rfl ?_
    refine dFaB rfl rfl (ltF rfl) rfl rfl rfl rfl rfl rfl ?_
    refine dq (ps := [(13, pI .i64 a0.Bottom)]) rfl rfl rfl ?_
    refine dMin rfl rfl rfl rfl rfl ?_
    refine dq (ps := [(15, pB (decide ((if a0.Bottom < a0.Left then a0.Bottom else a0.Left) < (-1048576))))]) rfl rfl rfl ?_
    refine dq (ps := [(16, pB (decide ((if a0.Bottom < a0.Left then a0.Bottom else a0.Left) < (-1048576))))]) rfl rfl rfl ?_
    refine dq (ps := [(17, pB (decide ((if a0.Bottom < a0.Left then a0.Bottom else a0.Left) < (-1048576))))]) rfl rfl rfl ?_
    refine dS 17 rfl (fun hb => ?_) (fun hb => ?_)
    · replace h := ite_yes hb h
      refine dU rfl rfl rfl rfl ?_
      refine dU rfl rfl rfl rfl ?_
      refine dU rfl rfl rfl rfl ?_
      refine dU rfl rfl rfl rfl ?_
      refine dq (ps := [(22, pB true)]) rfl rfl rfl ?_
      refine dq (ps := [(23, pB true)]) rfl rfl rfl ?_
      refine dU rfl rfl rfl rfl ?_
      refine dU rfl rfl rfl rfl ?_
      refine dU rfl rfl rfl rfl ?_
      refine dq (ps := [(27, pB true)]) rfl rfl rfl ?_
      refine dq (ps := [(28, pB true)]) rfl rfl rfl ?_
      refine dU rfl rfl rfl rfl ?_
      refine dU rfl rfl rfl rfl ?_
      refine dU rfl rfl rfl rfl ?_
      refine dq (ps := [(32, pB true)]) rfl rfl rfl ?_
      refine dq (ps := [(33, pB true)]) rfl rfl rfl ?_
      refine dU rfl rfl rfl rfl ?_
      refine dU rfl rfl rfl rfl ?_
      refine dU rfl rfl rfl rfl ?_
      refine dU rfl rfl rfl rfl ?_
      refine dU rfl rfl rfl rfl ?_
      refine dU rfl rfl rfl rfl ?_
      refine dU rfl rfl rfl rfl ?_
      refine dU rfl rfl rfl rfl ?_
      refine dq (ps := [(42, pB true)]) rfl rfl rfl ?_
      refine DL_nil ?_
      refine W_fn (l := [(1, .box (cBitmap false a0)), (42, pB true)]) (nC rfl (nC rfl nN)) rfl ?_
      refine W_yes ⟨ltF rfl, rfl⟩ ?_
      refine W_seq ?_
      refine W_text ?_
      refine dq (ps := [(2, pB false)]) rfl rfl rfl ?_
      refine DL_nil ?_
      refine W_ret ?_
      cases h
      exact ⟨.inr rfl, leaves_of [.tmp 2] rfl (by decide) (.tmp (ltF rfl) rfl .nil)⟩
    · replace h := ite_no hb h
      refine dFaB rfl rfl (ltF rfl) rfl rfl rfl rfl rfl rfl ?_
      refine dq (ps := [(19, .val false [.t (.sl false 1 (a0.Rows.map (cS false)))])]) rfl rfl rfl ?_
      refine dLen (t := 22) (n := (a0.Rows.length : Int)) rfl (ltF rfl) rfl rfl (lenE rfl (List.length_map ..)) rfl ?_
      refine dq (ps := [(21, pB (decide ((a0.Rows.length : Int) > 128)))]) rfl rfl rfl ?_
      refine dq (ps := [(22, pB (decide ((a0.Rows.length : Int) > 128)))]) rfl rfl rfl ?_
      refine dq (ps := [(23, pB (decide ((a0.Rows.length : Int) > 128)))]) rfl rfl rfl ?_
      refine dS 23 rfl (fun hb => ?_) (fun hb => ?_)
      · replace h := ite_yes hb h
        refine dU rfl rfl rfl rfl ?_
        refine dU rfl rfl rfl rfl ?_
        refine dU rfl rfl rfl rfl ?_
        refine dq (ps := [(27, pB true)]) rfl rfl rfl ?_
        refine dq (ps := [(28, pB true)]) rfl rfl rfl ?_
        refine dU rfl rfl rfl rfl ?_
        refine dU rfl rfl rfl rfl ?_
        refine dU rfl rfl rfl rfl ?_
        refine dq (ps := [(32, pB true)]) rfl rfl rfl ?_
        refine dq (ps := [(33, pB true)]) rfl rfl rfl ?_
        refine dU rfl rfl rfl rfl ?_
        refine dU rfl rfl rfl rfl ?_
        refine dU rfl rfl rfl rfl ?_
        refine dU rfl rfl rfl rfl ?_
        refine dU rfl rfl rfl rfl ?_
        refine dU rfl rfl rfl rfl ?_
        refine dU rfl rfl rfl rfl ?_
        refine dU rfl rfl rfl rfl ?_
        refine dq (ps := [(42, pB true)]) rfl rfl rfl ?_
        refine DL_nil ?_
        refine W_fn (l := [(1, .box (cBitmap false a0)), (42, pB true)]) (nC rfl (nC rfl nN)) rfl ?_
        refine W_yes ⟨ltF rfl, rfl⟩ ?_
        refine W_seq ?_
        refine W_text ?_
        refine dq (ps := [(2, pB false)]) rfl rfl rfl ?_
        refine DL_nil ?_
        refine W_ret ?_
        cases h
        exact ⟨.inr rfl, leaves_of [.tmp 2] rfl (by decide) (.tmp (ltF rfl) rfl .nil)⟩
      · replace h := ite_no hb h
        refine dFaB rfl rfl (ltF rfl) rfl rfl rfl rfl rfl rfl ?_
        refine dq (ps := [(25, pI .i64 a0.Width)]) rfl rfl rfl ?_
        refine dq (ps := [(26, pB (decide (a0.Width < 0)))]) rfl rfl rfl ?_
        refine dq (ps := [(27, pB (decide (a0.Width < 0)))]) rfl rfl rfl ?_
        refine dq (ps := [(28, pB (decide (a0.Width < 0)))]) rfl rfl rfl ?_
        refine dS 28 rfl (fun hb => ?_) (fun hb => ?_)
        · replace h := ite_yes hb h
          refine dU rfl rfl rfl rfl ?_
          refine dU rfl rfl rfl rfl ?_
          refine dU rfl rfl rfl rfl ?_
          refine dq (ps := [(32, pB true)]) rfl rfl rfl ?_
          refine dq (ps := [(33, pB true)]) rfl rfl rfl ?_
          refine dU rfl rfl rfl rfl ?_
          refine dU rfl rfl rfl rfl ?_
          refine dU rfl rfl rfl rfl ?_
          refine dU rfl rfl rfl rfl ?_
          refine dU rfl rfl rfl rfl ?_
          refine dU rfl rfl rfl rfl ?_
          refine dU rfl rfl rfl rfl ?_
          refine dU rfl rfl rfl rfl ?_
          refine dq (ps := [(42, pB true)]) rfl rfl rfl ?_
          refine DL_nil ?_
          refine W_fn (l := [(1, .box (cBitmap false a0)), (42, pB true)]) (nC rfl (nC rfl nN)) rfl ?_
          refine W_yes ⟨ltF rfl, rfl⟩ ?_
          refine W_seq ?_
          refine W_text ?_
          refine dq (ps := [(2, pB false)]) rfl rfl rfl ?_
          refine DL_nil ?_
          refine W_ret ?_
          cases h
          exact ⟨.inr rfl, leaves_of [.tmp 2] rfl (by decide) (.tmp (ltF rfl) rfl .nil)⟩
        · replace h := ite_no hb h
          refine dFaB rfl rfl (ltF rfl) rfl rfl rfl rfl rfl rfl ?_
          refine dq (ps := [(30, pI .i64 a0.Width)]) rfl rfl rfl ?_
          refine dq (ps := [(31, pB (decide (a0.Width > 128)))]) rfl rfl rfl ?_
          refine dq (ps := [(32, pB (decide (a0.Width > 128)))]) rfl rfl rfl ?_
          refine dq (ps := [(33, pB (decide (a0.Width > 128)))]) rfl rfl rfl ?_
          refine dS 33 rfl (fun hb => ?_) (fun hb => ?_)
          · replace h := ite_yes hb h
            refine dU rfl rfl rfl rfl ?_
            refine dU rfl rfl rfl rfl ?_
            refine dU rfl rfl rfl rfl ?_
            refine dU rfl rfl rfl rfl ?_
            refine dU rfl rfl rfl rfl ?_
            refine dU rfl rfl rfl rfl ?_
            refine dU rfl rfl rfl rfl ?_
            refine dU rfl rfl rfl rfl ?_
            refine dq (ps := [(42, pB true)]) rfl rfl rfl ?_
            refine DL_nil ?_
            refine W_fn (l := [(1, .box (cBitmap false a0)), (42, pB true)]) (nC rfl (nC rfl nN)) rfl ?_
            refine W_yes ⟨ltF rfl, rfl⟩ ?_
            refine W_seq ?_
            refine W_text ?_
            refine dq (ps := [(2, pB false)]) rfl rfl rfl ?_
            refine DL_nil ?_
            refine W_ret ?_
            cases h
            exact ⟨.inr rfl, leaves_of [.tmp 2] rfl (by decide) (.tmp (ltF rfl) rfl .nil)⟩
          · replace h := ite_no hb h
            refine dFaB rfl rfl (ltF rfl) rfl rfl rfl rfl rfl rfl ?_
            refine dq (ps := [(35, pI .i64 a0.Width)]) rfl rfl rfl ?_
            refine dq (ps := [(36, pB (a0.Width == 0))]) rfl rfl rfl ?_
            refine dFaB rfl rfl (ltF rfl) rfl rfl rfl rfl rfl rfl ?_
            refine dq (ps := [(38, .val false [.t (.sl false 1 (a0.Rows.map (cS false)))])]) rfl rfl rfl ?_
            refine dLen (t := 22) (n := (a0.Rows.length : Int)) rfl (ltF rfl) rfl rfl (lenE rfl (List.length_map ..)) rfl ?_
            refine dq (ps := [(40, pB ((a0.Rows.length : Int) == 0))]) rfl rfl rfl ?_
            refine dx (ps := [(41, pB ((a0.Width == 0) != ((a0.Rows.length : Int) == 0)))]) rfl rfl rfl ?_
            refine dq (ps := [(42, pB ((a0.Width == 0) != ((a0.Rows.length : Int) == 0)))]) rfl rfl rfl ?_
            refine DL_nil ?_
            refine W_fn (l := [(1, .box (cBitmap false a0)), (42, pB ((a0.Width == 0) != ((a0.Rows.length : Int) == 0)))]) (nC rfl (nC rfl nN)) rfl ?_
            refine W_split ⟨ltF rfl, rfl⟩ (fun hb => ?_) (fun hb => ?_)
            · replace h := ite_yes hb h
              refine W_seq ?_
              refine W_text ?_
              refine dq (ps := [(2, pB false)]) rfl rfl rfl ?_
              refine DL_nil ?_
              refine W_ret ?_
              cases h
              exact ⟨.inr rfl, leaves_of [.tmp 2] rfl (by decide) (.tmp (ltF rfl) rfl .nil)⟩
            · replace h := ite_no hb h
              refine W_skip ?_
              refine W_seq ?_
              refine W_freeze (r := 1) (ys := (cBitmap false a0)) rfl (wC rfl (wC rfl (wC rfl (wC (wS (wholes_map (fun _ => (wC rfl wN)) _)) wN)))) (sC rfl (sC rfl (sC rfl (sC (sS (shrs_map (fun _ => (sC rfl sN)) _)) sN)))) ?_
              refine W_text ?_
              refine dq (ps := [(43, .val false [.t (.ptr [.sl false 1 (a0.Rows.map (cS false))])])]) rfl rfl rfl ?_
              refine dq (ps := [(44, .val false [.t (.sl false 1 (a0.Rows.map (cS false)))])]) rfl rfl rfl ?_
              refine dMF (ys := [.ptr (cBitmap false a0)]) [1] rfl rfl rfl (fun st2 h2 => Caps.get (.cons ⟨ltF rfl, (congrArg Slot.sv (h2 1 (by decide))).trans rfl⟩ rfl .nil)) rfl ?_
              obtain ⟨r, hr, h⟩ := bind_some h
              refine dCall (gn := 62) (fn := Tryd.f62) (cp := []) (lt := []) [44, 45] (vc_slices_ContainsFunc_string_iValidBitmap_1 n a0.Rows a0 _ hr) Tryd.func62 rfl rfl rfl rfl (.inl rfl) (.inl rfl) (fun st2 h2 => ⟨rfl, args_of0 (.cons (aF (ltF rfl) ((congrArg Slot.sv (h2 44 (by decide))).trans rfl) rfl) (.cons (aF (ltF rfl) ((congrArg Slot.sv (h2 45 (by decide))).trans rfl) rfl) .nil))⟩) rfl ?_
              refine dq (ps := [(47, pB (!r))]) rfl rfl rfl ?_
              refine dq (ps := [(2, pB (!r))]) rfl rfl rfl ?_
              refine DL_nil ?_
              refine W_fn (l := [(2, pB (!r))]) (nC rfl nN) rfl ?_
              refine W_ret ?_
              cases h
              exact ⟨.inr rfl, leaves_of [.tmp 2] rfl (by decide) (.tmp (ltF rfl) rfl .nil)⟩

structure SPixelArea where
  left : Int
  bottom : Int
  width : Int
  height : Int

def cPixelArea (m : Bool) (x : SPixelArea) : List T := [.sc (.int .i64 x.left), .sc (.int .i64 x.bottom), .sc (.int .i64 x.width), .sc (.int .i64 x.height)]

-- ibitmapFrame: loop.example/g00883/impl.bitmapFrame
def ibitmapFrame (n : Nat) (a0 : SBitmap) : Option (SPixelArea) :=
  some (SPixelArea.mk a0.Left a0.Bottom a0.Width (a0.Rows.length : Int))

theorem vc_ibitmapFrame (n : Nat) (a0 : SBitmap) (r : SPixelArea) (h : ibitmapFrame n a0 = some r) : VC Tryd.prog 28 [.sh true (cBitmap false a0)] [(true, cPixelArea true r)] [] := by
  refine VC_of 13 Tryd.func28 rfl rfl rfl fun G0 w0 pv => ?_
  unfold ibitmapFrame at h
  refine W_seq ?_
  refine W_text ?_
  refine dBox (ts := (cBitmap false a0)) rfl rfl rfl rfl rfl ?_
  refine dAlloc (zs := [.sc (.int .i64 0), .sc (.int .i64 0), .sc (.int .i64 0), .sc (.int .i64 0)]) rfl rfl (zeros_of _ rfl ⟨z1 rfl, z1 rfl, z1 rfl, z1 rfl, trivial⟩) rfl ?_
  refine DL_nil ?_
  refine W_seq ?_
  refine W_text ?_
  refine dFaB rfl rfl (ltF rfl) rfl rfl rfl rfl rfl rfl ?_
  refine dq (ps := [(4, pI .i64 a0.Left)]) rfl rfl rfl ?_
  refine dFaB rfl rfl (ltF rfl) rfl rfl rfl rfl rfl rfl ?_
  refine dq (ps := [(6, pI .i64 a0.Bottom)]) rfl rfl rfl ?_
  refine dFaB rfl rfl (ltF rfl) rfl rfl rfl rfl rfl rfl ?_
  refine dq (ps := [(8, pI .i64 a0.Width)]) rfl rfl rfl ?_
  refine dFaB rfl rfl (ltF rfl) rfl rfl rfl rfl rfl rfl ?_
  refine dq (ps := [(10, .val false [.t (.sl false 1 (a0.Rows.map (cS false)))])]) rfl rfl rfl ?_
  refine dLen (t := 22) (n := (a0.Rows.length : Int)) rfl (ltF rfl) rfl rfl (lenE rfl (List.length_map ..)) rfl ?_
  refine dBuild (pls := [(0, 1), (1, 1), (2, 1), (3, 1)]) (zs := [.sc (.int .i64 0), .sc (.int .i64 0), .sc (.int .i64 0), .sc (.int .i64 0)]) (ts := [.sc (.int .i64 a0.Left), .sc (.int .i64 a0.Bottom), .sc (.int .i64 a0.Width), .sc (.int .i64 (a0.Rows.length : Int))]) (qs := [(0, [.sc (.int .i64 a0.Left)]), (1, [.sc (.int .i64 a0.Bottom)]), (2, [.sc (.int .i64 a0.Width)]), (3, [.sc (.int .i64 (a0.Rows.length : Int))])]) [] [4, 6, 8, 11] rfl rfl rfl (zeros_of _ rfl ⟨z1 rfl, z1 rfl, z1 rfl, z1 rfl, trivial⟩) (by decide) rfl (fun st2 h2 => (.cons rfl (.free (⟨ltF rfl, (congrArg Slot.sv (h2 4 (by decide))).trans rfl⟩) rfl) rfl (.cons rfl (.free (⟨ltF rfl, (congrArg Slot.sv (h2 6 (by decide))).trans rfl⟩) rfl) rfl (.cons rfl (.free (⟨ltF rfl, (congrArg Slot.sv (h2 8 (by decide))).trans rfl⟩) rfl) rfl (.cons rfl (.free (⟨ltF rfl, (congrArg Slot.sv (h2 11 (by decide))).trans rfl⟩) rfl) rfl .nil))))) rfl ?_
  refine dStB (ag := true) (ts := [.sc (.int .i64 a0.Left), .sc (.int .i64 a0.Bottom), .sc (.int .i64 a0.Width), .sc (.int .i64 (a0.Rows.length : Int))]) (cs' := [.sc (.int .i64 a0.Left), .sc (.int .i64 a0.Bottom), .sc (.int .i64 a0.Width), .sc (.int .i64 (a0.Rows.length : Int))]) [] [2, 12] rfl (ltF rfl) (by decide) rfl rfl rfl (by decide) rfl rfl (fun st2 h2 => .free (⟨ltF rfl, (congrArg Slot.sv (h2 12 (by decide))).trans rfl⟩) rfl) rfl ?_
  refine DL_nil ?_
  refine W_fn (l := [(2, .box [.sc (.int .i64 a0.Left), .sc (.int .i64 a0.Bottom), .sc (.int .i64 a0.Width), .sc (.int .i64 (a0.Rows.length : Int))])]) (nC rfl nN) rfl ?_
  refine W_ret ?_
  cases h
  exact ⟨.inr rfl, leaves_of [.cell 2 60] rfl (by decide) (.cell (ltF rfl) rfl rfl rfl rfl .nil)⟩

-- ipixelAt: loop.example/g00883/impl.pixelAt
def ipixelAt (n : Nat) (a0 : SBitmap) (a1 : Int) (a2 : Int) : Option (Bool) :=
  (if (decide ((w64 (a1 - a0.Left)) ≥ 0)) = true then (if (decide ((w64 (a1 - a0.Left)) < a0.Width)) = true then (if (decide ((w64 (a2 - a0.Bottom)) ≥ 0)) = true then (if (decide ((w64 (a2 - a0.Bottom)) < (a0.Rows.length : Int))) = true then ((getI a0.Rows (w64 ((w64 ((a0.Rows.length : Int) - 1)) - (w64 (a2 - a0.Bottom))))).bind fun x => (if (0 : Int) ≤ w64 (a1 - a0.Left) ∧ w64 (a1 - a0.Left) < (x.size : Int) then some ((byteAt x (w64 (a1 - a0.Left))) == 35) else none)) else some false) else some false) else some false) else some false)

theorem vc_ipixelAt (n : Nat) (a0 : SBitmap) (a1 : Int) (a2 : Int) (r : Bool) (h : ipixelAt n a0 a1 a2 = some r) : VC Tryd.prog 29 [.sh true (cBitmap false a0), .sh false ((cI .i64) false a1), .sh false ((cI .i64) false a2)] [(false, cB true r)] [] := by
  refine VC_of 49 Tryd.func29 rfl rfl rfl fun G0 w0 pv => ?_
  unfold ipixelAt at h
  refine W_seq ?_
  refine W_text ?_
  refine dBox (ts := (cBitmap false a0)) rfl rfl rfl rfl rfl ?_
  refine dq (ps := [(6, pB false)]) rfl rfl rfl ?_
  refine DL_nil ?_
  refine W_seq ?_
  refine W_drawn rfl ?_
  refine dq (R' := [1]) (ps := [(8, pI .i64 a1)]) rfl rfl rfl ?_
  refine dFaB (R' := [3]) rfl rfl (ltF rfl) rfl rfl rfl rfl rfl rfl ?_
  refine dq (R' := [9, 3]) (ps := [(10, pI .i64 a0.Left)]) rfl rfl rfl ?_
  refine dq (R' := [8, 10]) (ps := [(11, pI .i64 (w64 (a1 - a0.Left)))]) rfl rfl rfl ?_
  refine dq (R' := [2]) (ps := [(12, pI .i64 a2)]) rfl rfl rfl ?_
  refine dFaB (R' := [3]) rfl rfl (ltF rfl) rfl rfl rfl rfl rfl rfl ?_
  refine dq (R' := [13, 3]) (ps := [(14, pI .i64 a0.Bottom)]) rfl rfl rfl ?_
  refine dq (R' := [12, 14]) (ps := [(15, pI .i64 (w64 (a2 - a0.Bottom)))]) rfl rfl rfl ?_
  refine dq (R' := [11]) (ps := [(1, pI .i64 (w64 (a1 - a0.Left)))]) rfl rfl rfl ?_
  refine dq (R' := [15]) (ps := [(2, pI .i64 (w64 (a2 - a0.Bottom)))]) rfl rfl rfl ?_
  refine DL_nil ⟨[([1], [8]), ([3], [9]), ([9, 3], [10]), ([8, 10], [11]), ([2], [12]), ([3], [13]), ([13, 3], [14]), ([12, 14], [15]), ([11], [1]), ([15], [2])], rfl, by decide +kernel, ?_⟩
  refine W_fn (l := [(1, pI .i64 (w64 (a1 - a0.Left))), (2, pI .i64 (w64 (a2 - a0.Bottom))), (3, .box (cBitmap false a0))]) (nC rfl (nC rfl (nC rfl nN))) rfl ?_
  refine W_seq ?_
  refine W_text ?_
  refine dFaB rfl rfl (ltF rfl) rfl rfl rfl rfl rfl rfl ?_
  refine dq (ps := [(17, .val false [.t (.sl false 1 (a0.Rows.map (cS false)))])]) rfl rfl rfl ?_
  refine dLen (t := 22) (n := (a0.Rows.length : Int)) rfl (ltF rfl) rfl rfl (lenE rfl (List.length_map ..)) rfl ?_
  refine dq (ps := [(7, pI .i64 (a0.Rows.length : Int))]) rfl rfl rfl ?_
  refine DL_nil ?_
  refine W_seq ?_
  refine W_text ?_
  refine dq (ps := [(19, pI .i64 (w64 (a1 - a0.Left)))]) rfl rfl rfl ?_
  refine dq (ps := [(20, pB (decide ((w64 (a1 - a0.Left)) ≥ 0)))]) rfl rfl rfl ?_
  refine dq (ps := [(21, pB (decide ((w64 (a1 - a0.Left)) ≥ 0)))]) rfl rfl rfl ?_
  refine dS 21 rfl (fun hb => ?_) (fun hb => ?_)
  · replace h := ite_yes hb h
    refine dq (ps := [(22, pI .i64 (w64 (a1 - a0.Left)))]) rfl rfl rfl ?_
    refine dFaB rfl rfl (ltF rfl) rfl rfl rfl rfl rfl rfl ?_
    refine dq (ps := [(24, pI .i64 a0.Width)]) rfl rfl rfl ?_
    refine dq (ps := [(25, pB (decide ((w64 (a1 - a0.Left)) < a0.Width)))]) rfl rfl rfl ?_
    refine dq (ps := [(26, pB (decide ((w64 (a1 - a0.Left)) < a0.Width)))]) rfl rfl rfl ?_
    refine dq (ps := [(27, pB (decide ((w64 (a1 - a0.Left)) < a0.Width)))]) rfl rfl rfl ?_
    refine dS 27 rfl (fun hb => ?_) (fun hb => ?_)
    · replace h := ite_yes hb h
      refine dq (ps := [(28, pI .i64 (w64 (a2 - a0.Bottom)))]) rfl rfl rfl ?_
      refine dq (ps := [(29, pB (decide ((w64 (a2 - a0.Bottom)) ≥ 0)))]) rfl rfl rfl ?_
      refine dq (ps := [(30, pB (decide ((w64 (a2 - a0.Bottom)) ≥ 0)))]) rfl rfl rfl ?_
      refine dq (ps := [(31, pB (decide ((w64 (a2 - a0.Bottom)) ≥ 0)))]) rfl rfl rfl ?_
      refine dS 31 rfl (fun hb => ?_) (fun hb => ?_)
      · replace h := ite_yes hb h
        refine dq (ps := [(32, pI .i64 (w64 (a2 - a0.Bottom)))]) rfl rfl rfl ?_
        refine dq (ps := [(33, pI .i64 (a0.Rows.length : Int))]) rfl rfl rfl ?_
        refine dq (ps := [(34, pB (decide ((w64 (a2 - a0.Bottom)) < (a0.Rows.length : Int))))]) rfl rfl rfl ?_
        refine dq (ps := [(35, pB (decide ((w64 (a2 - a0.Bottom)) < (a0.Rows.length : Int))))]) rfl rfl rfl ?_
        refine dq (ps := [(36, pB (decide ((w64 (a2 - a0.Bottom)) < (a0.Rows.length : Int))))]) rfl rfl rfl ?_
        refine dS 36 rfl (fun hb => ?_) (fun hb => ?_)
        · replace h := ite_yes hb h
          refine dFaB rfl rfl (ltF rfl) rfl rfl rfl rfl rfl rfl ?_
          refine dq (ps := [(38, .val false [.t (.sl false 1 (a0.Rows.map (cS false)))])]) rfl rfl rfl ?_
          refine dq (ps := [(39, pI .i64 (a0.Rows.length : Int))]) rfl rfl rfl ?_
          refine dq (ps := [(40, pI .i64 (w64 ((a0.Rows.length : Int) - 1)))]) rfl rfl rfl ?_
          refine dq (ps := [(41, pI .i64 (w64 (a2 - a0.Bottom)))]) rfl rfl rfl ?_
          refine dq (ps := [(42, pI .i64 (w64 ((w64 ((a0.Rows.length : Int) - 1)) - (w64 (a2 - a0.Bottom)))))]) rfl rfl rfl ?_
          obtain ⟨x, hx, h⟩ := bind_some h
          refine dIxA rfl rfl rfl rfl rfl (getI_map (cS false) hx) rfl ?_
          refine dq (ps := [(44, pS x)]) rfl rfl rfl ?_
          refine dq (ps := [(45, pI .i64 (w64 (a1 - a0.Left)))]) rfl rfl rfl ?_
          obtain ⟨hp, h⟩ := ite_some h
          refine dIdx rfl rfl rfl rfl rfl hp rfl ?_
          refine dq (ps := [(47, pB ((byteAt x (w64 (a1 - a0.Left))) == 35))]) rfl rfl rfl ?_
          refine dq (ps := [(48, pB ((byteAt x (w64 (a1 - a0.Left))) == 35))]) rfl rfl rfl ?_
          refine dq (ps := [(6, pB ((byteAt x (w64 (a1 - a0.Left))) == 35))]) rfl rfl rfl ?_
          refine DL_nil ?_
          refine W_fn (l := [(6, pB ((byteAt x (w64 (a1 - a0.Left))) == 35))]) (nC rfl nN) rfl ?_
          refine W_ret ?_
          cases h
          exact ⟨.inr rfl, leaves_of [.tmp 6] rfl (by decide) (.tmp (ltF rfl) rfl .nil)⟩
        · replace h := ite_no hb h
          refine dU rfl rfl rfl rfl ?_
          refine dU rfl rfl rfl rfl ?_
          refine dU rfl rfl rfl rfl ?_
          refine dU rfl rfl rfl rfl ?_
          refine dU rfl rfl rfl rfl ?_
          refine dU rfl rfl rfl rfl ?_
          refine dU rfl rfl rfl rfl ?_
          refine dU rfl rfl rfl rfl ?_
          refine dU rfl rfl rfl rfl ?_
          refine dU rfl rfl rfl rfl ?_
          refine dU rfl rfl rfl rfl ?_
          refine dq (ps := [(48, pB false)]) rfl rfl rfl ?_
          refine dq (ps := [(6, pB false)]) rfl rfl rfl ?_
          refine DL_nil ?_
          refine W_fn (l := [(6, pB false)]) (nC rfl nN) rfl ?_
          refine W_ret ?_
          cases h
          exact ⟨.inr rfl, leaves_of [.tmp 6] rfl (by decide) (.tmp (ltF rfl) rfl .nil)⟩
      · replace h := ite_no hb h
        refine dU rfl rfl rfl rfl ?_
        refine dU rfl rfl rfl rfl ?_
        refine dU rfl rfl rfl rfl ?_
        refine dq (ps := [(35, pB false)]) rfl rfl rfl ?_
        refine dq (ps := [(36, pB false)]) rfl rfl rfl ?_
        refine dU rfl rfl rfl rfl ?_
        refine dU rfl rfl rfl rfl ?_
        refine dU rfl rfl rfl rfl ?_
        refine dU rfl rfl rfl rfl ?_
        refine dU rfl rfl rfl rfl ?_
        refine dU rfl rfl rfl rfl ?_
        refine dU rfl rfl rfl rfl ?_
        refine dU rfl rfl rfl rfl ?_
        refine dU rfl rfl rfl rfl ?_
        refine dU rfl rfl rfl rfl ?_
        refine dU rfl rfl rfl rfl ?_
        refine dq (ps := [(48, pB false)]) rfl rfl rfl ?_
        refine dq (ps := [(6, pB false)]) rfl rfl rfl ?_
        refine DL_nil ?_
        refine W_fn (l := [(6, pB false)]) (nC rfl nN) rfl ?_
        refine W_ret ?_
        cases h
        exact ⟨.inr rfl, leaves_of [.tmp 6] rfl (by decide) (.tmp (ltF rfl) rfl .nil)⟩
    · replace h := ite_no hb h
      refine dU rfl rfl rfl rfl ?_
      refine dU rfl rfl rfl rfl ?_
      refine dq (ps := [(30, pB false)]) rfl rfl rfl ?_
      refine dq (ps := [(31, pB false)]) rfl rfl rfl ?_
      refine dU rfl rfl rfl rfl ?_
      refine dU rfl rfl rfl rfl ?_
      refine dU rfl rfl rfl rfl ?_
      refine dq (ps := [(35, pB false)]) rfl rfl rfl ?_
      refine dq (ps := [(36, pB false)]) rfl rfl rfl ?_
      refine dU rfl rfl rfl rfl ?_
      refine dU rfl rfl rfl rfl ?_
      refine dU rfl rfl rfl rfl ?_
      refine dU rfl rfl rfl rfl ?_
      refine dU rfl rfl rfl rfl ?_
      refine dU rfl rfl rfl rfl ?_
      refine dU rfl rfl rfl rfl ?_
      refine dU rfl rfl rfl rfl ?_
      refine dU rfl rfl rfl rfl ?_
      refine dU rfl rfl rfl rfl ?_
      refine dU rfl rfl rfl rfl ?_
      refine dq (ps := [(48, pB false)]) rfl rfl rfl ?_
      refine dq (ps := [(6, pB false)]) rfl rfl rfl ?_
      refine DL_nil ?_
      refine W_fn (l := [(6, pB false)]) (nC rfl nN) rfl ?_
      refine W_ret ?_
      cases h
      exact ⟨.inr rfl, leaves_of [.tmp 6] rfl (by decide) (.tmp (ltF rfl) rfl .nil)⟩
  · replace h := ite_no hb h
    refine dU rfl rfl rfl rfl ?_
    refine dU rfl rfl rfl rfl ?_
    refine dU rfl rfl rfl rfl ?_
    refine dU rfl rfl rfl rfl ?_
    refine dq (ps := [(26, pB false)]) rfl rfl rfl ?_
    refine dq (ps := [(27, pB false)]) rfl rfl rfl ?_
    refine dU rfl rfl rfl rfl ?_
    refine dU rfl rfl rfl rfl ?_
    refine dq (ps := [(30, pB false)]) rfl rfl rfl ?_
    refine dq (ps := [(31, pB false)]) rfl rfl rfl ?_
    refine dU rfl rfl rfl rfl ?_
    refine dU rfl rfl rfl rfl ?_
    refine dU rfl rfl rfl rfl ?_
    refine dq (ps := [(35, pB false)]) rfl rfl rfl ?_
    refine dq (ps := [(36, pB false)]) rfl rfl rfl ?_
    refine dU rfl rfl rfl rfl ?_
    refine dU rfl rfl rfl rfl ?_
    refine dU rfl rfl rfl rfl ?_
    refine dU rfl rfl rfl rfl ?_
    refine dU rfl rfl rfl rfl ?_
    refine dU rfl rfl rfl rfl ?_
    refine dU rfl rfl rfl rfl ?_
    refine dU rfl rfl rfl rfl ?_
    refine dU rfl rfl rfl rfl ?_
    refine dU rfl rfl rfl rfl ?_
    refine dU rfl rfl rfl rfl ?_
    refine dq (ps := [(48, pB false)]) rfl rfl rfl ?_
    refine dq (ps := [(6, pB false)]) rfl rfl rfl ?_
    refine DL_nil ?_
    refine W_fn (l := [(6, pB false)]) (nC rfl nN) rfl ?_
    refine W_ret ?_
    cases h
    exact ⟨.inr rfl, leaves_of [.tmp 6] rfl (by decide) (.tmp (ltF rfl) rfl .nil)⟩

structure SPt where
  X : Int
  Y : Int

def cPt (m : Bool) (x : SPt) : List T := [.sc (.int .i64 x.X), .sc (.int .i64 x.Y)]

def cLPt (m : Bool) (x : List SPt) : List T := [.sl m 2 (x.map (cPt m))]

-- iboundsOf: loop.example/g00883/impl.boundsOf
def iboundsOf_L0 : Nat → Int → Int → Int → Int → (List SPt) → Int → Int → Option (Out (Int × Int × Int × Int) (SPt × SPt))
  | 0, _, _, _, _, _, _, _ => none
  | n + 1, v4_0, v4_1, v5_0, v5_1, v15, v16, v17 => (if (decide (v17 < v16)) = true then ((getI v15 v17).bind fun x_2 => iboundsOf_L0 n (if x_2.X < v4_0 then x_2.X else v4_0) (if x_2.Y < v4_1 then x_2.Y else v4_1) (if x_2.X > v5_0 then x_2.X else v5_0) (if x_2.Y > v5_1 then x_2.Y else v5_1) v15 v16 (w64 (v17 + 1))) else some (.go (v4_0, v4_1, v5_0, v5_1)))

theorem iboundsOf_L0_ok {G0 : Nat → Own} {w0 : World} {Q : Exit → St → Prop}  {out : (Out (Int × Int × Int × Int) (SPt × SPt))}
    (hQ : match out with | .go (q4_0, q4_1, q5_0, q5_1) => ∀ st, FN st [(2, .box [.sc (.int .i64 0), .sc (.int .i64 0)]), (3, .box [.sc (.int .i64 0), .sc (.int .i64 0)]), (4, .box [.sc (.int .i64 q4_0), .sc (.int .i64 q4_1)]), (5, .box [.sc (.int .i64 q5_0), .sc (.int .i64 q5_1)])] → Q (.exit 0) st | .brk _ _ => True | .ret r => ∀ st, Fits st [(2, .box (cPt true r.1)), (3, .box (cPt true r.2))] → Q .ret st)
    {n : Nat} {v4_0 : Int} {v4_1 : Int} {v5_0 : Int} {v5_1 : Int} {v15 : List SPt} {v16 : Int} {v17 : Int} (h : iboundsOf_L0 n v4_0 v4_1 v5_0 v5_1 v15 v16 v17 = some out) :
    ∀ st, FN st [(2, .box [.sc (.int .i64 0), .sc (.int .i64 0)]), (3, .box [.sc (.int .i64 0), .sc (.int .i64 0)]), (4, .box [.sc (.int .i64 v4_0), .sc (.int .i64 v4_1)]), (5, .box [.sc (.int .i64 v5_0), .sc (.int .i64 v5_1)]), (15, .val false [.t (.sl false 2 (v15.map (cPt false)))]), (16, pI .i64 v16), (17, pI .i64 v17)] → W ⟨Tryd.prog, 46, [], G0, w0⟩ (.loop (bodyAt Tryd.f30 [1, 1, 0, 1, 0, 0])) st Q := by
  intro st hst
  refine W_loop (fun n st => ∃ v4_0 v4_1 v5_0 v5_1 v15 v16 v17, iboundsOf_L0 n v4_0 v4_1 v5_0 v5_1 v15 v16 v17 = some out ∧ FN st [(2, .box [.sc (.int .i64 0), .sc (.int .i64 0)]), (3, .box [.sc (.int .i64 0), .sc (.int .i64 0)]), (4, .box [.sc (.int .i64 v4_0), .sc (.int .i64 v4_1)]), (5, .box [.sc (.int .i64 v5_0), .sc (.int .i64 v5_1)]), (15, .val false [.t (.sl false 2 (v15.map (cPt false)))]), (16, pI .i64 v16), (17, pI .i64 v17)]) ?_ (n := n) ⟨v4_0, v4_1, v5_0, v5_1, v15, v16, v17, h, hst⟩
  clear h hst st n v4_0 v4_1 v5_0 v5_1 v15 v16 v17
  rintro n st ⟨v4_0, v4_1, v5_0, v5_1, v15, v16, v17, h, hst⟩
  refine W_fn hst rfl ?_
  cases n with
  | zero => cases h
  | succ n =>
    rw [iboundsOf_L0] at h
    refine W_seq ?_
    refine W_text ?_
    refine dq (ps := [(18, pB (decide (v17 < v16)))]) rfl rfl rfl ?_
    refine DL_nil ?_
    refine W_seq ?_
    refine W_split ⟨ltF rfl, rfl⟩ (fun hb => ?_) (fun hb => ?_)
    · replace h := ite_yes hb h
      refine W_skip ?_
      refine W_seq ?_
      refine W_block ?_
      refine W_seq ?_
      refine W_text ?_
      obtain ⟨x_2, hx_2, h⟩ := bind_some h
      refine dIxA rfl rfl rfl rfl rfl (getI_map (cPt false) hx_2) rfl ?_
      refine dq (ps := [(20, .val true ((cPt false x_2).map .t))]) rfl rfl rfl ?_
      refine dAlloc (zs := [.sc (.int .i64 0), .sc (.int .i64 0)]) rfl rfl (zeros_of _ rfl ⟨z1 rfl, z1 rfl, trivial⟩) rfl ?_
      refine dStB (ag := true) (ts := [.sc (.int .i64 x_2.X), .sc (.int .i64 x_2.Y)]) (cs' := (cPt false x_2)) [] [7, 20] rfl (ltF rfl) (by decide) rfl rfl rfl (by decide) rfl rfl (fun st2 h2 => .free (⟨ltF rfl, (congrArg Slot.sv (h2 20 (by decide))).trans rfl⟩) rfl) rfl ?_
      refine DL_nil ?_
      refine W_seq ?_
      refine W_text ?_
      refine dFaB rfl rfl (ltF rfl) rfl rfl rfl rfl rfl rfl ?_
      refine dq (ps := [(22, pI .i64 v4_0)]) rfl rfl rfl ?_
      refine dFaB rfl rfl (ltF rfl) rfl rfl rfl rfl rfl rfl ?_
      refine dq (ps := [(24, pI .i64 x_2.X)]) rfl rfl rfl ?_
      refine dMin rfl rfl rfl rfl rfl ?_
      refine dFaB rfl rfl (ltF rfl) rfl rfl rfl rfl rfl rfl ?_
      refine dq (ps := [(27, pI .i64 v4_1)]) rfl rfl rfl ?_
      refine dFaB rfl rfl (ltF rfl) rfl rfl rfl rfl rfl rfl ?_
      refine dq (ps := [(29, pI .i64 x_2.Y)]) rfl rfl rfl ?_
      refine dMin rfl rfl rfl rfl rfl ?_
      refine dBuild (pls := [(0, 1), (1, 1)]) (zs := [.sc (.int .i64 0), .sc (.int .i64 0)]) (ts := [.sc (.int .i64 (if x_2.X < v4_0 then x_2.X else v4_0)), .sc (.int .i64 (if x_2.Y < v4_1 then x_2.Y else v4_1))]) (qs := [(0, [.sc (.int .i64 (if x_2.X < v4_0 then x_2.X else v4_0))]), (1, [.sc (.int .i64 (if x_2.Y < v4_1 then x_2.Y else v4_1))])]) [] [25, 30] rfl rfl rfl (zeros_of _ rfl ⟨z1 rfl, z1 rfl, trivial⟩) (by decide) rfl (fun st2 h2 => (.cons rfl (.free (⟨ltF rfl, (congrArg Slot.sv (h2 25 (by decide))).trans rfl⟩) rfl) rfl (.cons rfl (.free (⟨ltF rfl, (congrArg Slot.sv (h2 30 (by decide))).trans rfl⟩) rfl) rfl .nil))) rfl ?_
      refine dStB (ag := true) (ts := [.sc (.int .i64 (if x_2.X < v4_0 then x_2.X else v4_0)), .sc (.int .i64 (if x_2.Y < v4_1 then x_2.Y else v4_1))]) (cs' := [.sc (.int .i64 (if x_2.X < v4_0 then x_2.X else v4_0)), .sc (.int .i64 (if x_2.Y < v4_1 then x_2.Y else v4_1))]) [] [4, 31] rfl (ltF rfl) (by decide) rfl rfl rfl (by decide) rfl rfl (fun st2 h2 => .free (⟨ltF rfl, (congrArg Slot.sv (h2 31 (by decide))).trans rfl⟩) rfl) rfl ?_
      refine DL_nil ?_
      refine W_fn (l := [(2, .box [.sc (.int .i64 0), .sc (.int .i64 0)]), (3, .box [.sc (.int .i64 0), .sc (.int .i64 0)]), (4, .box [.sc (.int .i64 (if x_2.X < v4_0 then x_2.X else v4_0)), .sc (.int .i64 (if x_2.Y < v4_1 then x_2.Y else v4_1))]), (5, .box [.sc (.int .i64 v5_0), .sc (.int .i64 v5_1)]), (7, .box (cPt false x_2)), (15, .val false [.t (.sl false 2 (v15.map (cPt false)))]), (16, pI .i64 v16), (17, pI .i64 v17)]) (nC rfl (nC rfl (nC rfl (nC rfl (nC rfl (nC rfl (nC rfl (nC rfl nN)))))))) rfl ?_
      refine W_text ?_
      refine dFaB rfl rfl (ltF rfl) rfl rfl rfl rfl rfl rfl ?_
      refine dq (ps := [(33, pI .i64 v5_0)]) rfl rfl rfl ?_
      refine dFaB rfl rfl (ltF rfl) rfl rfl rfl rfl rfl rfl ?_
      refine dq (ps := [(35, pI .i64 x_2.X)]) rfl rfl rfl ?_
      refine dMax rfl rfl rfl rfl rfl ?_
      refine dFaB rfl rfl (ltF rfl) rfl rfl rfl rfl rfl rfl ?_
      refine dq (ps := [(38, pI .i64 v5_1)]) rfl rfl rfl ?_
      refine dFaB rfl rfl (ltF rfl) rfl rfl rfl rfl rfl rfl ?_
      refine dq (ps := [(40, pI .i64 x_2.Y)]) rfl rfl rfl ?_
      refine dMax rfl rfl rfl rfl rfl ?_
      refine dBuild (pls := [(0, 1), (1, 1)]) (zs := [.sc (.int .i64 0), .sc (.int .i64 0)]) (ts := [.sc (.int .i64 (if x_2.X > v5_0 then x_2.X else v5_0)), .sc (.int .i64 (if x_2.Y > v5_1 then x_2.Y else v5_1))]) (qs := [(0, [.sc (.int .i64 (if x_2.X > v5_0 then x_2.X else v5_0))]), (1, [.sc (.int .i64 (if x_2.Y > v5_1 then x_2.Y else v5_1))])]) [] [36, 41] rfl rfl rfl (zeros_of _ rfl ⟨z1 rfl, z1 rfl, trivial⟩) (by decide) rfl (fun st2 h2 => (.cons rfl (.free (⟨ltF rfl, (congrArg Slot.sv (h2 36 (by decide))).trans rfl⟩) rfl) rfl (.cons rfl (.free (⟨ltF rfl, (congrArg Slot.sv (h2 41 (by decide))).trans rfl⟩) rfl) rfl .nil))) rfl ?_
      refine dStB (ag := true) (ts := [.sc (.int .i64 (if x_2.X > v5_0 then x_2.X else v5_0)), .sc (.int .i64 (if x_2.Y > v5_1 then x_2.Y else v5_1))]) (cs' := [.sc (.int .i64 (if x_2.X > v5_0 then x_2.X else v5_0)), .sc (.int .i64 (if x_2.Y > v5_1 then x_2.Y else v5_1))]) [] [5, 42] rfl (ltF rfl) (by decide) rfl rfl rfl (by decide) rfl rfl (fun st2 h2 => .free (⟨ltF rfl, (congrArg Slot.sv (h2 42 (by decide))).trans rfl⟩) rfl) rfl ?_
      refine DL_nil ?_
      refine W_fn (l := [(2, .box [.sc (.int .i64 0), .sc (.int .i64 0)]), (3, .box [.sc (.int .i64 0), .sc (.int .i64 0)]), (4, .box [.sc (.int .i64 (if x_2.X < v4_0 then x_2.X else v4_0)), .sc (.int .i64 (if x_2.Y < v4_1 then x_2.Y else v4_1))]), (5, .box [.sc (.int .i64 (if x_2.X > v5_0 then x_2.X else v5_0)), .sc (.int .i64 (if x_2.Y > v5_1 then x_2.Y else v5_1))]), (15, .val false [.t (.sl false 2 (v15.map (cPt false)))]), (16, pI .i64 v16), (17, pI .i64 v17)]) (nC rfl (nC rfl (nC rfl (nC rfl (nC rfl (nC rfl (nC rfl nN))))))) rfl ?_
      refine W_text ?_
      refine dq (ps := [(43, pI .i64 (w64 (v17 + 1)))]) rfl rfl rfl ?_
      refine dq (ps := [(17, pI .i64 (w64 (v17 + 1)))]) rfl rfl rfl ?_
      refine DL_nil ?_
      exact ⟨n, Nat.lt_succ_self n, _, _, _, _, _, _, _,  h, (nC rfl (nC rfl (nC rfl (nC rfl (nC rfl (nC rfl (nC rfl nN)))))))⟩
    · replace h := ite_no hb h
      refine W_exit ?_
      cases h
      exact hQ _ (nC rfl (nC rfl (nC rfl (nC rfl nN))))

def iboundsOf (n : Nat) (a0 : List SPt) : Option (SPt × SPt) :=
  ((getI a0 0).bind fun x => ((getI a0 0).bind fun x_1 => (if (0 : Int) ≤ 1 ∧ 1 ≤ (a0.length : Int) ∧ (a0.length : Int) ≤ (a0.length : Int) then ((iboundsOf_L0 n x.X x.Y x_1.X x_1.Y (cutL a0 1 (a0.length : Int)) ((cutL a0 1 (a0.length : Int)).length : Int) 0).bind fun o => (match o with | .go (q4_0_1, q4_1_1, q5_0_1, q5_1_1) => some ((SPt.mk q4_0_1 q4_1_1), (SPt.mk q5_0_1 q5_1_1)) | .brk _ _ => none | .ret r => some r)) else none)))

theorem vc_iboundsOf (n : Nat) (a0 : List SPt) (r : SPt × SPt) (h : iboundsOf n a0 = some r) : VC Tryd.prog 30 [.sh false (cLPt false a0)] [(true, cPt true r.1), (true, cPt true r.2)] [] := by
  refine VC_of 46 Tryd.func30 rfl rfl rfl fun G0 w0 pv => ?_
  unfold iboundsOf at h
  refine W_seq ?_
  refine W_text ?_
  refine dAlloc (R' := []) (zs := [.sc (.int .i64 0), .sc (.int .i64 0)]) rfl rfl (zeros_of _ rfl ⟨z1 rfl, z1 rfl, trivial⟩) rfl ?_
  refine dAlloc (R' := []) (zs := [.sc (.int .i64 0), .sc (.int .i64 0)]) rfl rfl (zeros_of _ rfl ⟨z1 rfl, z1 rfl, trivial⟩) rfl ?_
  refine DL_nil ?_
  refine W_seq ?_
  refine W_drawn rfl ?_
  refine dq (R' := [0]) (ps := [(8, .val false [.t (.sl false 2 (a0.map (cPt false)))])]) rfl rfl rfl ?_
  obtain ⟨x, hx, h⟩ := bind_some h
  refine dIxA (R' := [8]) rfl rfl rfl rfl rfl (getI_map (cPt false) hx) rfl ?_
  refine dq (R' := [9]) (ps := [(10, .val true ((cPt false x).map .t))]) rfl rfl rfl ?_
  refine dq (R' := [0]) (ps := [(11, .val false [.t (.sl false 2 (a0.map (cPt false)))])]) rfl rfl rfl ?_
  obtain ⟨x_1, hx_1, h⟩ := bind_some h
  refine dIxA (R' := [11]) rfl rfl rfl rfl rfl (getI_map (cPt false) hx_1) rfl ?_
  refine dq (R' := [12]) (ps := [(13, .val true ((cPt false x_1).map .t))]) rfl rfl rfl ?_
  refine dAlloc (R' := []) (zs := [.sc (.int .i64 0), .sc (.int .i64 0)]) rfl rfl (zeros_of _ rfl ⟨z1 rfl, z1 rfl, trivial⟩) rfl ?_
  refine dAlloc (R' := []) (zs := [.sc (.int .i64 0), .sc (.int .i64 0)]) rfl rfl (zeros_of _ rfl ⟨z1 rfl, z1 rfl, trivial⟩) rfl ?_
  refine dStB (R' := [4, 10]) (ag := true) (ts := [.sc (.int .i64 x.X), .sc (.int .i64 x.Y)]) (cs' := (cPt false x)) [] [4, 10] rfl (ltF rfl) (by decide) rfl rfl rfl (by decide) rfl rfl (fun st2 h2 => .free (⟨ltF rfl, (congrArg Slot.sv (h2 10 (by decide))).trans rfl⟩) rfl) rfl ?_
  refine dStB (R' := [5, 13]) (ag := true) (ts := [.sc (.int .i64 x_1.X), .sc (.int .i64 x_1.Y)]) (cs' := (cPt false x_1)) [] [5, 13] rfl (ltF rfl) (by decide) rfl rfl rfl (by decide) rfl rfl (fun st2 h2 => .free (⟨ltF rfl, (congrArg Slot.sv (h2 13 (by decide))).trans rfl⟩) rfl) rfl ?_
  refine DL_nil ⟨[([0], [8]), ([8], [9]), ([9], [10]), ([0], [11]), ([11], [12]), ([12], [13]), ([], [4]), ([], [5]), ([4, 10], [4]), ([5, 13], [5])], rfl, by decide +kernel, ?_⟩
  refine W_fn (l := [(0, .val false [.t (.sl false 2 (a0.map (cPt false)))]), (2, .box [.sc (.int .i64 0), .sc (.int .i64 0)]), (3, .box [.sc (.int .i64 0), .sc (.int .i64 0)]), (4, .box (cPt false x)), (5, .box (cPt false x_1))]) (nC rfl (nC rfl (nC rfl (nC rfl (nC rfl nN))))) rfl ?_
  refine W_seq ?_
  refine W_seq ?_
  refine W_text ?_
  refine dq (ps := [(14, .val false [.t (.sl false 2 (a0.map (cPt false)))])]) rfl rfl rfl ?_
  obtain ⟨hp, h⟩ := ite_some h
  refine dCutL (R' := [14]) (b := 1) (e := (a0.length : Int)) (els' := ((cutL a0 1 (a0.length : Int)).map (cPt false))) rfl rfl rfl rfl rfl (by rw [List.length_map]; rfl) (by rw [List.length_map]; exact hp) (cut_map _ _ _ _) rfl ?_
  refine dLen (R' := [15]) (t := 58) (n := ((cutL a0 1 (a0.length : Int)).length : Int)) rfl (ltF rfl) rfl rfl (lenE rfl (List.length_map ..)) rfl ?_
  refine dq (ps := [(17, pI .i64 0)]) rfl rfl rfl ?_
  refine DL_nil ?_
  refine W_block ?_
  obtain ⟨o, ho, h⟩ := bind_some h
  refine iboundsOf_L0_ok ?_ ho _ (nC rfl (nC rfl (nC rfl (nC rfl (nC rfl (nC rfl (nC rfl nN)))))))
  rcases o with p | ⟨j, p⟩ | r
  · obtain ⟨q4_0_1, q4_1_1, q5_0_1, q5_1_1⟩ := p
    dsimp only at h ⊢
    intro st hst
    refine W_fn hst rfl ?_
    refine W_seq ?_
    refine W_drawn rfl ?_
    refine dLdB (R' := [4]) (sv := .val true [.t (.sc (.int .i64 q4_0_1)), .t (.sc (.int .i64 q4_1_1))]) rfl rfl (ltF rfl) rfl rfl rfl rfl rfl rfl rfl rfl ?_
    refine dLdB (R' := [5]) (sv := .val true [.t (.sc (.int .i64 q5_0_1)), .t (.sc (.int .i64 q5_1_1))]) rfl rfl (ltF rfl) rfl rfl rfl rfl rfl rfl rfl rfl ?_
    refine dStB (R' := [2, 44]) (ag := true) (ts := [.sc (.int .i64 q4_0_1), .sc (.int .i64 q4_1_1)]) (cs' := [.sc (.int .i64 q4_0_1), .sc (.int .i64 q4_1_1)]) [] [2, 44] rfl (ltF rfl) (by decide) rfl rfl rfl (by decide) rfl rfl (fun st2 h2 => .free (⟨ltF rfl, (congrArg Slot.sv (h2 44 (by decide))).trans rfl⟩) rfl) rfl ?_
    refine dStB (R' := [3, 45]) (ag := true) (ts := [.sc (.int .i64 q5_0_1), .sc (.int .i64 q5_1_1)]) (cs' := [.sc (.int .i64 q5_0_1), .sc (.int .i64 q5_1_1)]) [] [3, 45] rfl (ltF rfl) (by decide) rfl rfl rfl (by decide) rfl rfl (fun st2 h2 => .free (⟨ltF rfl, (congrArg Slot.sv (h2 45 (by decide))).trans rfl⟩) rfl) rfl ?_
    refine DL_nil ⟨[([4], [44]), ([5], [45]), ([2, 44], [2]), ([3, 45], [3])], rfl, by decide +kernel, ?_⟩
    refine W_ret ?_
    cases h
    exact ⟨.inr rfl, leaves_of [.cell 2 64, .cell 3 64] rfl (by decide) (.cell (ltF rfl) rfl rfl rfl rfl (.cell (ltF rfl) rfl rfl rfl rfl .nil))⟩
  · exact trivial
  · dsimp only at h ⊢
    intro st hst
    cases h
    exact ⟨.inr rfl, leaves_of [.cell 2 64, .cell 3 64] rfl (by decide) (.cell (ltF rfl) (hst.at (s := 2) rfl rfl) rfl rfl rfl (.cell (ltF rfl) (hst.at (s := 3) rfl rfl) rfl rfl rfl .nil))⟩

-- iinkByte: loop.example/g00883/impl.inkByte
def iinkByte (n : Nat) (a0 : Bool) : Option (Int) :=
  (if (a0) = true then some 35 else some 46)

theorem vc_iinkByte (n : Nat) (a0 : Bool) (r : Int) (h : iinkByte n a0 = some r) : VC Tryd.prog 33 [.sh false (cB false a0)] [(false, (cI .u8) true r)] [] := by
  refine VC_of 4 Tryd.func33 rfl rfl rfl fun G0 w0 pv => ?_
  unfold iinkByte at h
  refine W_seq ?_
  refine W_text ?_
  refine dq (ps := [(2, pI .u8 0)]) rfl rfl rfl ?_
  refine DL_nil ?_
  refine W_seq ?_
  refine W_seq ?_
  refine W_text ?_
  refine dq (ps := [(3, pB a0)]) rfl rfl rfl ?_
  refine DL_nil ?_
  refine W_split ⟨ltF rfl, rfl⟩ (fun hb => ?_) (fun hb => ?_)
  · replace h := ite_yes hb h
    refine W_seq ?_
    refine W_text ?_
    refine dq (ps := [(2, pI .u8 35)]) rfl rfl rfl ?_
    refine DL_nil ?_
    refine W_ret ?_
    cases h
    exact ⟨.inr rfl, leaves_of [.tmp 2] rfl (by decide) (.tmp (ltF rfl) rfl .nil)⟩
  · replace h := ite_no hb h
    refine W_skip ?_
    refine W_seq ?_
    refine W_text ?_
    refine dq (ps := [(2, pI .u8 46)]) rfl rfl rfl ?_
    refine DL_nil ?_
    refine W_ret ?_
    cases h
    exact ⟨.inr rfl, leaves_of [.tmp 2] rfl (by decide) (.tmp (ltF rfl) rfl .nil)⟩

-- iCropBitmap_1: loop.example/g00883/impl.CropBitmap$1
def iCropBitmap_1 (n : Nat) (a0 : Int) (a1 : Int) (b2 : SBitmap) : Option (Int) :=
  ((ipixelAt n b2 a0 a1).bind fun r => ((iinkByte n r).bind fun r_1 => some r_1))

theorem vc_iCropBitmap_1 (n : Nat) (a0 : Int) (a1 : Int) (b2 : SBitmap) (r : Int) (h : iCropBitmap_1 n a0 a1 b2 = some r) : VC Tryd.prog 32 [.sh false ((cI .i64) false a0), .sh false ((cI .i64) false a1), .sh false [.ptr (cBitmap false b2)]] [(false, (cI .u8) true r)] [] := by
  refine VC_of 11 Tryd.func32 rfl rfl rfl fun G0 w0 pv => ?_
  unfold iCropBitmap_1 at h
  refine W_seq ?_
  refine W_text ?_
  refine dq (ps := [(5, pI .u8 0)]) rfl rfl rfl ?_
  refine DL_nil ?_
  refine W_seq ?_
  refine W_text ?_
  refine dq (ps := [(6, .val true ((cBitmap false b2).map .t))]) rfl rfl rfl ?_
  refine dq (ps := [(7, pI .i64 a0)]) rfl rfl rfl ?_
  refine dq (ps := [(8, pI .i64 a1)]) rfl rfl rfl ?_
  obtain ⟨r, hr, h⟩ := bind_some h
  refine dCall (gn := 29) (fn := Tryd.f29) (cp := []) (lt := []) [6, 7, 8] (vc_ipixelAt n b2 a0 a1 _ hr) Tryd.func29 rfl rfl rfl rfl (.inl rfl) (.inl rfl) (fun st2 h2 => ⟨rfl, args_of0 (.cons (aF (ltF rfl) ((congrArg Slot.sv (h2 6 (by decide))).trans rfl) rfl) (.cons (aF (ltF rfl) ((congrArg Slot.sv (h2 7 (by decide))).trans rfl) rfl) (.cons (aF (ltF rfl) ((congrArg Slot.sv (h2 8 (by decide))).trans rfl) rfl) .nil)))⟩) rfl ?_
  obtain ⟨r_1, hr_1, h⟩ := bind_some h
  refine dCall (gn := 33) (fn := Tryd.f33) (cp := []) (lt := []) [9] (vc_iinkByte n r _ hr_1) Tryd.func33 rfl rfl rfl rfl (.inl rfl) (.inl rfl) (fun st2 h2 => ⟨rfl, args_of0 (.cons (aF (ltF rfl) ((congrArg Slot.sv (h2 9 (by decide))).trans rfl) rfl) .nil)⟩) rfl ?_
  refine dq (ps := [(5, pI .u8 r_1)]) rfl rfl rfl ?_
  refine DL_nil ?_
  refine W_fn (l := [(5, pI .u8 r_1)]) (nC rfl nN) rfl ?_
  refine W_ret ?_
  cases h
  exact ⟨.inr rfl, leaves_of [.tmp 5] rfl (by decide) (.tmp (ltF rfl) rfl .nil)⟩

-- idrawFrame_iCropBitmap_1: loop.example/g00883/impl.drawFrame
def idrawFrame_iCropBitmap_1_L1 : Nat → SPixelArea → Int → SBitmap → (List ByteArray) → (List Int) → Int → Int → Option (Out (List Int) (List ByteArray))
  | 0, _, _, _, _, _, _, _ => none
  | n + 1, a0, v6, b1_0, v5, v7, v25, v26 => (if (decide (v26 < v25)) = true then ((iCropBitmap_1 n (w64 (a0.left + v26)) v6 b1_0).bind fun r => ((getI v7 v26).bind fun x => idrawFrame_iCropBitmap_1_L1 n a0 v6 b1_0 v5 (v7.set v26.toNat r) v25 (w64 (v26 + 1)))) else some (.go v7))

theorem idrawFrame_iCropBitmap_1_L1_ok {G0 : Nat → Own} {w0 : World} {Q : Exit → St → Prop} {a0 : SPixelArea} {v6 : Int} {b1_0 : SBitmap} {v5 : List ByteArray} {out : (Out (List Int) (List ByteArray))}
    (hQ : match out with | .go q7 => ∀ st, FN st [(1, .val false [.t (.fn 32 [.ptr (cBitmap false b1_0)])]), (2, .box (cPixelArea false a0)), (5, .val false [.t (.sl true 1 (v5.map (cS true)))]), (6, pI .i64 v6), (7, .val false [.t (.sl true 1 (q7.map ((cI .u8) true)))])] → Q (.exit 2) st | .brk _ _ => True | .ret r => ∀ st, Fits st [(4, .val false ((cLStr true r).map .t))] → Q .ret st)
    {n : Nat} {v7 : List Int} {v25 : Int} {v26 : Int} (h : idrawFrame_iCropBitmap_1_L1 n a0 v6 b1_0 v5 v7 v25 v26 = some out) :
    ∀ st, FN st [(1, .val false [.t (.fn 32 [.ptr (cBitmap false b1_0)])]), (2, .box (cPixelArea false a0)), (5, .val false [.t (.sl true 1 (v5.map (cS true)))]), (6, pI .i64 v6), (7, .val false [.t (.sl true 1 (v7.map ((cI .u8) true)))]), (25, pI .i64 v25), (26, pI .i64 v26)] → W ⟨Tryd.prog, 46, [], G0, w0⟩ (.loop (bodyAt Tryd.f31 [1, 1, 0, 1, 0, 0, 1, 0, 0, 1, 0, 1, 0, 0])) st Q := by
  intro st hst
  refine W_loop (fun n st => ∃ v7 v25 v26, idrawFrame_iCropBitmap_1_L1 n a0 v6 b1_0 v5 v7 v25 v26 = some out ∧ FN st [(1, .val false [.t (.fn 32 [.ptr (cBitmap false b1_0)])]), (2, .box (cPixelArea false a0)), (5, .val false [.t (.sl true 1 (v5.map (cS true)))]), (6, pI .i64 v6), (7, .val false [.t (.sl true 1 (v7.map ((cI .u8) true)))]), (25, pI .i64 v25), (26, pI .i64 v26)]) ?_ (n := n) ⟨v7, v25, v26, h, hst⟩
  clear h hst st n v7 v25 v26
  rintro n st ⟨v7, v25, v26, h, hst⟩
  refine W_fn hst rfl ?_
  cases n with
  | zero => cases h
  | succ n =>
    rw [idrawFrame_iCropBitmap_1_L1] at h
    refine W_seq ?_
    refine W_text ?_
    refine dq (ps := [(27, pB (decide (v26 < v25)))]) rfl rfl rfl ?_
    refine DL_nil ?_
    refine W_seq ?_
    refine W_split ⟨ltF rfl, rfl⟩ (fun hb => ?_) (fun hb => ?_)
    · replace h := ite_yes hb h
      refine W_skip ?_
      refine W_seq ?_
      refine W_block ?_
      refine W_seq ?_
      refine W_text ?_
      refine dq (ps := [(28, pI .i64 v26)]) rfl rfl rfl ?_
      refine dq (ps := [(8, pI .i64 v26)]) rfl rfl rfl ?_
      refine DL_nil ?_
      refine W_text ?_
      refine dq (ps := [(29, .val false [.ref 7 0 [(0, 0)]])]) rfl rfl rfl ?_
      refine dq (ps := [(30, pI .i64 v26)]) rfl rfl rfl ?_
      refine dq (ps := [(31, .val false [.t (.fn 32 [.ptr (cBitmap false b1_0)])])]) rfl rfl rfl ?_
      refine dFaB rfl rfl (ltF rfl) rfl rfl rfl rfl rfl rfl ?_
      refine dq (ps := [(33, pI .i64 a0.left)]) rfl rfl rfl ?_
      refine dq (ps := [(34, pI .i64 v26)]) rfl rfl rfl ?_
      refine dq (ps := [(35, pI .i64 (w64 (a0.left + v26)))]) rfl rfl rfl ?_
      refine dq (ps := [(36, pI .i64 v6)]) rfl rfl rfl ?_
      obtain ⟨r, hr, h⟩ := bind_some h
      refine dCall (gn := 32) (fn := Tryd.f32) (cp := [.ptr (cBitmap false b1_0)]) (lt := []) [35, 36, 31] (vc_iCropBitmap_1 n (w64 (a0.left + v26)) v6 b1_0 _ hr) Tryd.func32 rfl rfl rfl rfl (.inl rfl) (.inl rfl) (fun st2 h2 => ⟨⟨ltF rfl, (congrArg Slot.sv (h2 31 (by decide))).trans rfl⟩, args_of (cp := [.ptr (cBitmap false b1_0)]) (.cons (aF (ltF rfl) ((congrArg Slot.sv (h2 35 (by decide))).trans rfl) rfl) (.cons (aF (ltF rfl) ((congrArg Slot.sv (h2 36 (by decide))).trans rfl) rfl) .nil))⟩) rfl ?_
      obtain ⟨x, hx, h⟩ := bind_some h
      refine dIxO (v := 0) rfl rfl (ltF rfl) rfl rfl rfl (getI_lt ((cI .u8) true) hx) rfl rfl rfl rfl rfl ?_
      refine dStO (ag := false) (ts := [.sc (.int .u8 r)]) (sv := .val false [.t (.sl true 1 ((v7.set v26.toNat r).map ((cI .u8) true)))]) [38, 7, 37] rfl (ltF rfl) (by decide) (by decide) rfl rfl rfl (getI_row ((cI .u8) true) hx) rfl rfl rfl (fun st2 h2 => ⟨ltF rfl, (congrArg Slot.sv (h2 37 (by decide))).trans rfl⟩) (fun st2 h => by rw [List.map_set]; unfold St.setAt; rw [h]; rfl) rfl ?_
      refine DL_nil ?_
      refine W_fn (l := [(1, .val false [.t (.fn 32 [.ptr (cBitmap false b1_0)])]), (2, .box (cPixelArea false a0)), (5, .val false [.t (.sl true 1 (v5.map (cS true)))]), (6, pI .i64 v6), (7, .val false [.t (.sl true 1 ((v7.set v26.toNat r).map ((cI .u8) true)))]), (25, pI .i64 v25), (26, pI .i64 v26)]) (nC rfl (nC rfl (nC rfl (nC rfl (nC rfl (nC rfl (nC rfl nN))))))) rfl ?_
      refine W_text ?_
      refine dq (ps := [(39, pI .i64 (w64 (v26 + 1)))]) rfl rfl rfl ?_
      refine dq (ps := [(26, pI .i64 (w64 (v26 + 1)))]) rfl rfl rfl ?_
      refine DL_nil ?_
      exact ⟨n, Nat.lt_succ_self n, _, _, _,  h, (nC rfl (nC rfl (nC rfl (nC rfl (nC rfl (nC rfl (nC rfl nN)))))))⟩
    · replace h := ite_no hb h
      refine W_exit ?_
      cases h
      exact hQ _ (nC rfl (nC rfl (nC rfl (nC rfl (nC rfl nN)))))

def idrawFrame_iCropBitmap_1_L0 : Nat → SPixelArea → SBitmap → (List ByteArray) → Int → Option (Out (List ByteArray) (List ByteArray))
  | 0, _, _, _, _ => none
  | n + 1, a0, b1_0, v5, v6 => (if (decide (v6 ≥ a0.bottom)) = true then (if (0 : Int) ≤ a0.width ∧ a0.width ≤ a0.width ∧ (1 : Int) * a0.width ≤ 281474976710656 then ((idrawFrame_iCropBitmap_1_L1 n a0 v6 b1_0 v5 (List.replicate a0.width.toNat (0 : Int)) ((List.replicate a0.width.toNat (0 : Int)).length : Int) 0).bind fun o => (match o with | .go q7_1 => (if (v5.length + ([strOf q7_1]).length) * 16 ≤ 140737488355328 then idrawFrame_iCropBitmap_1_L0 n a0 b1_0 (v5 ++ ([strOf q7_1])) (w64 (v6 - 1)) else none) | .brk _ _ => none | .ret r => some (.ret r))) else none) else some (.go v5))

theorem idrawFrame_iCropBitmap_1_L0_ok {G0 : Nat → Own} {w0 : World} {Q : Exit → St → Prop} {a0 : SPixelArea} {b1_0 : SBitmap} {out : (Out (List ByteArray) (List ByteArray))}
    (hQ : match out with | .go q5 => ∀ st, FN st [(5, .val false [.t (.sl true 1 (q5.map (cS true)))])] → Q (.exit 0) st | .brk _ _ => True | .ret r => ∀ st, Fits st [(4, .val false ((cLStr true r).map .t))] → Q .ret st)
    {n : Nat} {v5 : List ByteArray} {v6 : Int} (h : idrawFrame_iCropBitmap_1_L0 n a0 b1_0 v5 v6 = some out) :
    ∀ st, FN st [(1, .val false [.t (.fn 32 [.ptr (cBitmap false b1_0)])]), (2, .box (cPixelArea false a0)), (5, .val false [.t (.sl true 1 (v5.map (cS true)))]), (6, pI .i64 v6)] → W ⟨Tryd.prog, 46, [], G0, w0⟩ (.loop (bodyAt Tryd.f31 [1, 1, 0, 1, 0, 0])) st Q := by
  intro st hst
  refine W_loop (fun n st => ∃ v5 v6, idrawFrame_iCropBitmap_1_L0 n a0 b1_0 v5 v6 = some out ∧ FN st [(1, .val false [.t (.fn 32 [.ptr (cBitmap false b1_0)])]), (2, .box (cPixelArea false a0)), (5, .val false [.t (.sl true 1 (v5.map (cS true)))]), (6, pI .i64 v6)]) ?_ (n := n) ⟨v5, v6, h, hst⟩
  clear h hst st n v5 v6
  rintro n st ⟨v5, v6, h, hst⟩
  refine W_fn hst rfl ?_
  cases n with
  | zero => cases h
  | succ n =>
    rw [idrawFrame_iCropBitmap_1_L0] at h
    refine W_seq ?_
    refine W_seq ?_
    refine W_text ?_
    refine dq (ps := [(15, pI .i64 v6)]) rfl rfl rfl ?_
    refine dFaB rfl rfl (ltF rfl) rfl rfl rfl rfl rfl rfl ?_
    refine dq (ps := [(17, pI .i64 a0.bottom)]) rfl rfl rfl ?_
    refine dq (ps := [(18, pB (decide (v6 ≥ a0.bottom)))]) rfl rfl rfl ?_
    refine DL_nil ?_
    refine W_split ⟨ltF rfl, rfl⟩ (fun hb => ?_) (fun hb => ?_)
    · replace h := ite_yes hb h
      refine W_skip ?_
      refine W_seq ?_
      refine W_block ?_
      refine W_seq ?_
      refine W_text ?_
      refine dFaB rfl rfl (ltF rfl) rfl rfl rfl rfl rfl rfl ?_
      refine dq (ps := [(22, pI .i64 a0.width)]) rfl rfl rfl ?_
      obtain ⟨hp, h⟩ := ite_some h
      refine dMake (zs := [.sc (.int .u8 0)]) (els := ((List.replicate a0.width.toNat (0 : Int)).map ((cI .u8) true))) rfl rfl rfl (zeros_of _ rfl ⟨z1 rfl, trivial⟩) rfl rfl rfl rfl hp rfl (rep_map ((cI .u8) true) (0 : Int) _) rfl ?_
      refine dq (ps := [(23, .dead), (7, .val false [.t (.sl true 1 ((List.replicate a0.width.toNat (0 : Int)).map ((cI .u8) true)))])]) rfl rfl rfl ?_
      refine DL_nil ?_
      refine W_seq ?_
      refine W_seq ?_
      refine W_text ?_
      refine dq (ps := [(24, .val false [.ref 7 1 [(0, 0)]])]) rfl rfl rfl ?_
      refine dLen (t := 35) (n := ((List.replicate a0.width.toNat (0 : Int)).length : Int)) rfl (ltF rfl) rfl rfl (lenE rfl (List.length_map ..)) rfl ?_
      refine dq (ps := [(26, pI .i64 0)]) rfl rfl rfl ?_
      refine DL_nil ?_
      refine W_block ?_
      obtain ⟨o, ho, h⟩ := bind_some h
      refine idrawFrame_iCropBitmap_1_L1_ok ?_ ho _ (nC rfl (nC rfl (nC rfl (nC rfl (nC rfl (nC rfl (nC rfl nN)))))))
      rcases o with q7_1 | ⟨j, p⟩ | r
      · skip
        dsimp only at h ⊢
        intro st hst
        refine W_fn hst rfl ?_
        refine W_text ?_
        refine dTkM (sv := .val false [.t (.sl true 1 (v5.map (cS true)))]) rfl rfl rfl (ltF rfl) rfl rfl rfl ?_
        refine dTkM (sv := .val false [.t (.sl true 1 (q7_1.map ((cI .u8) true)))]) rfl rfl rfl (ltF rfl) rfl rfl rfl ?_
        refine dByt (ns := q7_1) rfl rfl (ltF rfl) rfl rfl rfl rfl rfl ?_
        refine dBS (zs := [.sc (.string (ByteArray.mk #[]))]) (ts := [.sc (.string (strOf q7_1))]) (els := (([strOf q7_1]).map (cS true))) (qs := [(0, [.sc (.string (strOf q7_1))])]) [42] rfl rfl rfl (zeros_of _ rfl ⟨z1 rfl, trivial⟩) rfl rfl rfl rfl rfl (fun st2 h2 => (.cons rfl (⟨ltF rfl, (congrArg Slot.sv (h2 42 (by decide))).trans rfl⟩) rfl .nil)) rfl ?_
        obtain ⟨hp, h⟩ := ite_some h
        refine dApp (sy := (some 43)) (els' := ((v5 ++ ([strOf q7_1])).map (cS true))) (zs := [.sc (.string (ByteArray.mk #[]))]) (svg := .val false [.t (.gone)]) [40, 43] rfl rfl (ltF rfl) rfl rfl (by decide) (fun st2 h2 => .lit (ltF rfl) (by decide) ((congrArg Slot.sv (h2 43 (by decide))).trans rfl)) (by decide) rfl rfl rfl (zeros_of _ rfl ⟨z1 rfl, trivial⟩) rfl rfl rfl rfl (here_map (fun _ => rfl) _) (lenMul (List.length_map ..) (List.length_map ..) hp) (app_map (fun _ => rfl) _ _) (fun st2 h => by unfold St.setAt; rw [h]; rfl) rfl ?_
        refine dq (ps := [(44, .dead), (5, .val false [.t (.sl true 1 ((v5 ++ ([strOf q7_1])).map (cS true)))])]) rfl rfl rfl ?_
        refine DL_nil ?_
        refine W_fn (l := [(1, .val false [.t (.fn 32 [.ptr (cBitmap false b1_0)])]), (2, .box (cPixelArea false a0)), (5, .val false [.t (.sl true 1 ((v5 ++ ([strOf q7_1])).map (cS true)))]), (6, pI .i64 v6)]) (nC rfl (nC rfl (nC rfl (nC rfl nN)))) rfl ?_
        refine W_text ?_
        refine dq (ps := [(19, pI .i64 v6)]) rfl rfl rfl ?_
        refine dq (ps := [(20, pI .i64 (w64 (v6 - 1)))]) rfl rfl rfl ?_
        refine dq (ps := [(6, pI .i64 (w64 (v6 - 1)))]) rfl rfl rfl ?_
        refine DL_nil ?_
        exact ⟨n, Nat.lt_succ_self n, _, _,  h, (nC rfl (nC rfl (nC rfl (nC rfl nN))))⟩
      · exact trivial
      · dsimp only at h ⊢
        intro st hst
        cases h
        exact hQ _ hst
    · replace h := ite_no hb h
      refine W_exit ?_
      cases h
      exact hQ _ (nC rfl nN)

def idrawFrame_iCropBitmap_1 (n : Nat) (a0 : SPixelArea) (b1_0 : SBitmap) : Option (List ByteArray) :=
  ((idrawFrame_iCropBitmap_1_L0 n a0 b1_0 ([] : List ByteArray) (w64 ((w64 (a0.bottom + a0.height)) - 1))).bind fun o_1 => (match o_1 with | .go q5_1 => some q5_1 | .brk _ _ => none | .ret r => some r))

theorem vc_idrawFrame_iCropBitmap_1 (n : Nat) (a0 : SPixelArea) (b1_0 : SBitmap) (r : List ByteArray) (h : idrawFrame_iCropBitmap_1 n a0 b1_0 = some r) : VC Tryd.prog 31 [.sh true (cPixelArea false a0), .sh false [.fn 32 [.ptr (cBitmap false b1_0)]]] [(false, cLStr true r)] [] := by
  refine VC_of 46 Tryd.func31 rfl rfl rfl fun G0 w0 pv => ?_
  unfold idrawFrame_iCropBitmap_1 at h
  refine W_seq ?_
  refine W_text ?_
  refine dBox (ts := (cPixelArea false a0)) rfl rfl rfl rfl rfl ?_
  refine dNil (m := true) (sz := 1) rfl rfl rfl ?_
  refine DL_nil ?_
  refine W_seq ?_
  refine W_text ?_
  refine dNil (m := true) (sz := 1) rfl rfl rfl ?_
  refine DL_nil ?_
  refine W_seq ?_
  refine W_seq ?_
  refine W_text ?_
  refine dFaB rfl rfl (ltF rfl) rfl rfl rfl rfl rfl rfl ?_
  refine dq (ps := [(10, pI .i64 a0.bottom)]) rfl rfl rfl ?_
  refine dFaB rfl rfl (ltF rfl) rfl rfl rfl rfl rfl rfl ?_
  refine dq (ps := [(12, pI .i64 a0.height)]) rfl rfl rfl ?_
  refine dq (ps := [(13, pI .i64 (w64 (a0.bottom + a0.height)))]) rfl rfl rfl ?_
  refine dq (ps := [(14, pI .i64 (w64 ((w64 (a0.bottom + a0.height)) - 1)))]) rfl rfl rfl ?_
  refine dq (ps := [(6, pI .i64 (w64 ((w64 (a0.bottom + a0.height)) - 1)))]) rfl rfl rfl ?_
  refine DL_nil ?_
  refine W_fn (l := [(1, .val false [.t (.fn 32 [.ptr (cBitmap false b1_0)])]), (2, .box (cPixelArea false a0)), (5, .val false [.t (.sl true 1 (([] : List ByteArray).map (cS true)))]), (6, pI .i64 (w64 ((w64 (a0.bottom + a0.height)) - 1)))]) (nC rfl (nC rfl (nC rfl (nC rfl nN)))) rfl ?_
  refine W_block ?_
  obtain ⟨o_1, ho_1, h⟩ := bind_some h
  refine idrawFrame_iCropBitmap_1_L0_ok ?_ ho_1 _ (nC rfl (nC rfl (nC rfl (nC rfl nN))))
  rcases o_1 with q5_1 | ⟨j, p⟩ | r
  · skip
    dsimp only at h ⊢
    intro st hst
    refine W_fn hst rfl ?_
    refine W_seq ?_
    refine W_text ?_
    refine dTkM (sv := .val false [.t (.sl true 1 (q5_1.map (cS true)))]) rfl rfl rfl (ltF rfl) rfl rfl rfl ?_
    refine dq (ps := [(45, .dead), (4, .val false [.t (.sl true 1 (q5_1.map (cS true)))])]) rfl rfl rfl ?_
    refine DL_nil ?_
    refine W_ret ?_
    cases h
    exact ⟨.inr rfl, leaves_of [.tmp 4] rfl (by decide) (.tmp (ltF rfl) rfl .nil)⟩
  · exact trivial
  · dsimp only at h ⊢
    intro st hst
    cases h
    exact ⟨.inr rfl, leaves_of [.tmp 4] rfl (by decide) (.tmp (ltF rfl) (hst.at (s := 4) rfl rfl) .nil)⟩

-- iCropBitmap: loop.example/g00883/impl.CropBitmap
def iCropBitmap_L1 : Nat → SPixelArea → SBitmap → Int → (List ByteArray) → (List SPt) → Int → Option (Out (List SPt) (SBitmap × Int))
  | 0, _, _, _, _, _, _ => none
  | n + 1, r_1, a0, v6, v2_3, v4_1, v7 => (if (decide (v7 < (w64 (r_1.left + r_1.width)))) = true then ((ipixelAt n a0 v7 v6).bind fun r_2 => (if (r_2) = true then (if (v4_1.length + ([(SPt.mk v7 v6)]).length) * 16 ≤ 140737488355328 then iCropBitmap_L1 n r_1 a0 v6 v2_3 (v4_1 ++ ([(SPt.mk v7 v6)])) (w64 (v7 + 1)) else none) else iCropBitmap_L1 n r_1 a0 v6 v2_3 v4_1 (w64 (v7 + 1)))) else some (.go v4_1))

theorem iCropBitmap_L1_ok {G0 : Nat → Own} {w0 : World} {Q : Exit → St → Prop} {r_1 : SPixelArea} {a0 : SBitmap} {v6 : Int} {v2_3 : List ByteArray} {out : (Out (List SPt) (SBitmap × Int))}
    (hQ : match out with | .go q4_1 => ∀ st, FN st [(1, .box (cBitmap false a0)), (2, .box [.sc (.int .i64 0), .sc (.int .i64 0), .sc (.int .i64 0), .sl true 1 (v2_3.map (cS true))]), (4, .val false [.t (.sl true 2 (q4_1.map (cPt true)))]), (5, .box (cPixelArea true r_1)), (6, pI .i64 v6)] → Q (.exit 2) st | .brk _ _ => True | .ret r => ∀ st, Fits st [(2, .box (cBitmap true r.1)), (3, .val false (((cI .i64) true r.2).map .t))] → Q .ret st)
    {n : Nat} {v4_1 : List SPt} {v7 : Int} (h : iCropBitmap_L1 n r_1 a0 v6 v2_3 v4_1 v7 = some out) :
    ∀ st, FN st [(1, .box (cBitmap false a0)), (2, .box [.sc (.int .i64 0), .sc (.int .i64 0), .sc (.int .i64 0), .sl true 1 (v2_3.map (cS true))]), (4, .val false [.t (.sl true 2 (v4_1.map (cPt true)))]), (5, .box (cPixelArea true r_1)), (6, pI .i64 v6), (7, pI .i64 v7)] → W ⟨Tryd.prog, 86, [], G0, w0⟩ (.loop (bodyAt Tryd.f9 [1, 1, 1, 1, 0, 1, 0, 0, 1, 0, 0, 1, 0, 0])) st Q := by
  intro st hst
  refine W_loop (fun n st => ∃ v4_1 v7, iCropBitmap_L1 n r_1 a0 v6 v2_3 v4_1 v7 = some out ∧ FN st [(1, .box (cBitmap false a0)), (2, .box [.sc (.int .i64 0), .sc (.int .i64 0), .sc (.int .i64 0), .sl true 1 (v2_3.map (cS true))]), (4, .val false [.t (.sl true 2 (v4_1.map (cPt true)))]), (5, .box (cPixelArea true r_1)), (6, pI .i64 v6), (7, pI .i64 v7)]) ?_ (n := n) ⟨v4_1, v7, h, hst⟩
  clear h hst st n v4_1 v7
  rintro n st ⟨v4_1, v7, h, hst⟩
  refine W_fn hst rfl ?_
  cases n with
  | zero => cases h
  | succ n =>
    rw [iCropBitmap_L1] at h
    refine W_seq ?_
    refine W_seq ?_
    refine W_text ?_
    refine dq (ps := [(30, pI .i64 v7)]) rfl rfl rfl ?_
    refine dFaB rfl rfl (ltF rfl) rfl rfl rfl rfl rfl rfl ?_
    refine dq (ps := [(32, pI .i64 r_1.left)]) rfl rfl rfl ?_
    refine dFaB rfl rfl (ltF rfl) rfl rfl rfl rfl rfl rfl ?_
    refine dq (ps := [(34, pI .i64 r_1.width)]) rfl rfl rfl ?_
    refine dq (ps := [(35, pI .i64 (w64 (r_1.left + r_1.width)))]) rfl rfl rfl ?_
    refine dq (ps := [(36, pB (decide (v7 < (w64 (r_1.left + r_1.width)))))]) rfl rfl rfl ?_
    refine DL_nil ?_
    refine W_fn (l := [(1, .box (cBitmap false a0)), (2, .box [.sc (.int .i64 0), .sc (.int .i64 0), .sc (.int .i64 0), .sl true 1 (v2_3.map (cS true))]), (4, .val false [.t (.sl true 2 (v4_1.map (cPt true)))]), (5, .box (cPixelArea true r_1)), (6, pI .i64 v6), (7, pI .i64 v7), (36, pB (decide (v7 < (w64 (r_1.left + r_1.width)))))]) (nC rfl (nC rfl (nC rfl (nC rfl (nC rfl (nC rfl (nC rfl nN))))))) rfl ?_
    refine W_split ⟨ltF rfl, rfl⟩ (fun hb => ?_) (fun hb => ?_)
    · replace h := ite_yes hb h
      refine W_skip ?_
      refine W_seq ?_
      refine W_block ?_
      refine W_seq ?_
      refine W_text ?_
      refine dLdB (sv := .val true [.t (.sc (.int .i64 a0.Left)), .t (.sc (.int .i64 a0.Bottom)), .t (.sc (.int .i64 a0.Width)), .t (.sl false 1 (a0.Rows.map (cS false)))]) rfl rfl (ltF rfl) rfl rfl rfl rfl rfl rfl rfl rfl ?_
      refine dq (ps := [(40, pI .i64 v7)]) rfl rfl rfl ?_
      refine dq (ps := [(41, pI .i64 v6)]) rfl rfl rfl ?_
      obtain ⟨r_2, hr_2, h⟩ := bind_some h
      refine dCall (gn := 29) (fn := Tryd.f29) (cp := []) (lt := []) [39, 40, 41] (vc_ipixelAt n a0 v7 v6 _ hr_2) Tryd.func29 rfl rfl rfl rfl (.inl rfl) (.inl rfl) (fun st2 h2 => ⟨rfl, args_of0 (.cons (aF (ltF rfl) ((congrArg Slot.sv (h2 39 (by decide))).trans rfl) rfl) (.cons (aF (ltF rfl) ((congrArg Slot.sv (h2 40 (by decide))).trans rfl) rfl) (.cons (aF (ltF rfl) ((congrArg Slot.sv (h2 41 (by decide))).trans rfl) rfl) .nil)))⟩) rfl ?_
      refine DL_nil ?_
      refine W_split ⟨ltF rfl, rfl⟩ (fun hb => ?_) (fun hb => ?_)
      · replace h := ite_yes hb h
        refine W_text ?_
        refine dTkM (sv := .val false [.t (.sl true 2 (v4_1.map (cPt true)))]) rfl rfl rfl (ltF rfl) rfl rfl rfl ?_
        refine dq (ps := [(44, pI .i64 v7)]) rfl rfl rfl ?_
        refine dq (ps := [(45, pI .i64 v6)]) rfl rfl rfl ?_
        refine dBuild (pls := [(0, 1), (1, 1)]) (zs := [.sc (.int .i64 0), .sc (.int .i64 0)]) (ts := [.sc (.int .i64 v7), .sc (.int .i64 v6)]) (qs := [(0, [.sc (.int .i64 v7)]), (1, [.sc (.int .i64 v6)])]) [] [44, 45] rfl rfl rfl (zeros_of _ rfl ⟨z1 rfl, z1 rfl, trivial⟩) (by decide) rfl (fun st2 h2 => (.cons rfl (.free (⟨ltF rfl, (congrArg Slot.sv (h2 44 (by decide))).trans rfl⟩) rfl) rfl (.cons rfl (.free (⟨ltF rfl, (congrArg Slot.sv (h2 45 (by decide))).trans rfl⟩) rfl) rfl .nil))) rfl ?_
        refine dBS (zs := [.sc (.int .i64 0), .sc (.int .i64 0)]) (ts := [.sc (.int .i64 v7), .sc (.int .i64 v6)]) (els := (([(SPt.mk v7 v6)]).map (cPt true))) (qs := [(0, [.sc (.int .i64 v7), .sc (.int .i64 v6)])]) [46] rfl rfl rfl (zeros_of _ rfl ⟨z1 rfl, z1 rfl, trivial⟩) rfl rfl rfl rfl rfl (fun st2 h2 => (.cons rfl (⟨ltF rfl, (congrArg Slot.sv (h2 46 (by decide))).trans rfl⟩) rfl .nil)) rfl ?_
        obtain ⟨hp, h⟩ := ite_some h
        refine dApp (sy := (some 47)) (els' := ((v4_1 ++ ([(SPt.mk v7 v6)])).map (cPt true))) (zs := [.sc (.int .i64 0), .sc (.int .i64 0)]) (svg := .val false [.t (.gone)]) [43, 47] rfl rfl (ltF rfl) rfl rfl (by decide) (fun st2 h2 => .lit (ltF rfl) (by decide) ((congrArg Slot.sv (h2 47 (by decide))).trans rfl)) (by decide) rfl rfl rfl (zeros_of _ rfl ⟨z1 rfl, z1 rfl, trivial⟩) rfl rfl rfl rfl (here_map (fun _ => rfl) _) (lenMul (List.length_map ..) (List.length_map ..) hp) (app_map (fun _ => rfl) _ _) (fun st2 h => by unfold St.setAt; rw [h]; rfl) rfl ?_
        refine dq (ps := [(48, .dead), (4, .val false [.t (.sl true 2 ((v4_1 ++ ([(SPt.mk v7 v6)])).map (cPt true)))])]) rfl rfl rfl ?_
        refine DL_nil ?_
        refine W_fn (l := [(1, .box (cBitmap false a0)), (2, .box [.sc (.int .i64 0), .sc (.int .i64 0), .sc (.int .i64 0), .sl true 1 (v2_3.map (cS true))]), (4, .val false [.t (.sl true 2 ((v4_1 ++ ([(SPt.mk v7 v6)])).map (cPt true)))]), (5, .box (cPixelArea true r_1)), (6, pI .i64 v6), (7, pI .i64 v7)]) (nC rfl (nC rfl (nC rfl (nC rfl (nC rfl (nC rfl nN)))))) rfl ?_
        refine W_text ?_
        refine dq (ps := [(37, pI .i64 v7)]) rfl rfl rfl ?_
        refine dq (ps := [(38, pI .i64 (w64 (v7 + 1)))]) rfl rfl rfl ?_
        refine dq (ps := [(7, pI .i64 (w64 (v7 + 1)))]) rfl rfl rfl ?_
        refine DL_nil ?_
        exact ⟨n, Nat.lt_succ_self n, _, _,  h, (nC rfl (nC rfl (nC rfl (nC rfl (nC rfl (nC rfl nN))))))⟩
      · replace h := ite_no hb h
        refine W_skip ?_
        refine W_text ?_
        refine dq (ps := [(37, pI .i64 v7)]) rfl rfl rfl ?_
        refine dq (ps := [(38, pI .i64 (w64 (v7 + 1)))]) rfl rfl rfl ?_
        refine dq (ps := [(7, pI .i64 (w64 (v7 + 1)))]) rfl rfl rfl ?_
        refine DL_nil ?_
        exact ⟨n, Nat.lt_succ_self n, _, _,  h, (nC rfl (nC rfl (nC rfl (nC rfl (nC rfl (nC rfl nN))))))⟩
    · replace h := ite_no hb h
      refine W_exit ?_
      cases h
      exact hQ _ (nC rfl (nC rfl (nC rfl (nC rfl (nC rfl nN)))))

def iCropBitmap_L0 : Nat → SPixelArea → SBitmap → Bool → (List ByteArray) → (List SPt) → Int → Option (Out (List ByteArray × List SPt) (SBitmap × Int))
  | 0, _, _, _, _, _, _ => none
  | n + 1, r_1, a0, r, v2_3, v4, v6 => (if (decide (v6 < (w64 (r_1.bottom + r_1.height)))) = true then ((iCropBitmap_L1 n r_1 a0 v6 v2_3 v4 r_1.left).bind fun o => (match o with | .go q4_1 => iCropBitmap_L0 n r_1 a0 r v2_3 q4_1 (w64 (v6 + 1)) | .brk _ _ => none | .ret r => some (.ret r))) else some (.go (v2_3, v4)))

theorem iCropBitmap_L0_ok {G0 : Nat → Own} {w0 : World} {Q : Exit → St → Prop} {r_1 : SPixelArea} {a0 : SBitmap} {r : Bool} {out : (Out (List ByteArray × List SPt) (SBitmap × Int))}
    (hQ : match out with | .go (q2_3, q4) => ∀ st, FN st [(1, .box (cBitmap false a0)), (2, .box [.sc (.int .i64 0), .sc (.int .i64 0), .sc (.int .i64 0), .sl true 1 (q2_3.map (cS true))]), (4, .val false [.t (.sl true 2 (q4.map (cPt true)))]), (5, .box (cPixelArea true r_1))] → Q (.exit 0) st | .brk _ _ => True | .ret r => ∀ st, Fits st [(2, .box (cBitmap true r.1)), (3, .val false (((cI .i64) true r.2).map .t))] → Q .ret st)
    {n : Nat} {v2_3 : List ByteArray} {v4 : List SPt} {v6 : Int} (h : iCropBitmap_L0 n r_1 a0 r v2_3 v4 v6 = some out) :
    ∀ st, FN st [(1, .box (cBitmap false a0)), (2, .box [.sc (.int .i64 0), .sc (.int .i64 0), .sc (.int .i64 0), .sl true 1 (v2_3.map (cS true))]), (4, .val false [.t (.sl true 2 (v4.map (cPt true)))]), (5, .box (cPixelArea true r_1)), (6, pI .i64 v6)] → W ⟨Tryd.prog, 86, [], G0, w0⟩ (.loop (bodyAt Tryd.f9 [1, 1, 1, 1, 0, 1, 0, 0])) st Q := by
  intro st hst
  refine W_loop (fun n st => ∃ v2_3 v4 v6, iCropBitmap_L0 n r_1 a0 r v2_3 v4 v6 = some out ∧ FN st [(1, .box (cBitmap false a0)), (2, .box [.sc (.int .i64 0), .sc (.int .i64 0), .sc (.int .i64 0), .sl true 1 (v2_3.map (cS true))]), (4, .val false [.t (.sl true 2 (v4.map (cPt true)))]), (5, .box (cPixelArea true r_1)), (6, pI .i64 v6)]) ?_ (n := n) ⟨v2_3, v4, v6, h, hst⟩
  clear h hst st n v2_3 v4 v6
  rintro n st ⟨v2_3, v4, v6, h, hst⟩
  refine W_fn hst rfl ?_
  cases n with
  | zero => cases h
  | succ n =>
    rw [iCropBitmap_L0] at h
    refine W_seq ?_
    refine W_seq ?_
    refine W_text ?_
    refine dq (ps := [(19, pI .i64 v6)]) rfl rfl rfl ?_
    refine dFaB rfl rfl (ltF rfl) rfl rfl rfl rfl rfl rfl ?_
    refine dq (ps := [(21, pI .i64 r_1.bottom)]) rfl rfl rfl ?_
    refine dFaB rfl rfl (ltF rfl) rfl rfl rfl rfl rfl rfl ?_
    refine dq (ps := [(23, pI .i64 r_1.height)]) rfl rfl rfl ?_
    refine dq (ps := [(24, pI .i64 (w64 (r_1.bottom + r_1.height)))]) rfl rfl rfl ?_
    refine dq (ps := [(25, pB (decide (v6 < (w64 (r_1.bottom + r_1.height)))))]) rfl rfl rfl ?_
    refine DL_nil ?_
    refine W_fn (l := [(1, .box (cBitmap false a0)), (2, .box [.sc (.int .i64 0), .sc (.int .i64 0), .sc (.int .i64 0), .sl true 1 (v2_3.map (cS true))]), (4, .val false [.t (.sl true 2 (v4.map (cPt true)))]), (5, .box (cPixelArea true r_1)), (6, pI .i64 v6), (25, pB (decide (v6 < (w64 (r_1.bottom + r_1.height)))))]) (nC rfl (nC rfl (nC rfl (nC rfl (nC rfl (nC rfl nN)))))) rfl ?_
    refine W_split ⟨ltF rfl, rfl⟩ (fun hb => ?_) (fun hb => ?_)
    · replace h := ite_yes hb h
      refine W_skip ?_
      refine W_seq ?_
      refine W_block ?_
      refine W_seq ?_
      refine W_text ?_
      refine dFaB rfl rfl (ltF rfl) rfl rfl rfl rfl rfl rfl ?_
      refine dq (ps := [(29, pI .i64 r_1.left)]) rfl rfl rfl ?_
      refine dq (ps := [(7, pI .i64 r_1.left)]) rfl rfl rfl ?_
      refine DL_nil ?_
      refine W_block ?_
      obtain ⟨o, ho, h⟩ := bind_some h
      refine iCropBitmap_L1_ok ?_ ho _ (nC rfl (nC rfl (nC rfl (nC rfl (nC rfl (nC rfl nN))))))
      rcases o with q4_1 | ⟨j, p⟩ | r
      · skip
        dsimp only at h ⊢
        intro st hst
        refine W_fn hst rfl ?_
        refine W_text ?_
        refine dq (ps := [(26, pI .i64 v6)]) rfl rfl rfl ?_
        refine dq (ps := [(27, pI .i64 (w64 (v6 + 1)))]) rfl rfl rfl ?_
        refine dq (ps := [(6, pI .i64 (w64 (v6 + 1)))]) rfl rfl rfl ?_
        refine DL_nil ?_
        exact ⟨n, Nat.lt_succ_self n, _, _, _,  h, (nC rfl (nC rfl (nC rfl (nC rfl (nC rfl nN)))))⟩
      · exact trivial
      · dsimp only at h ⊢
        intro st hst
        cases h
        exact hQ _ hst
    · replace h := ite_no hb h
      refine W_exit ?_
      cases h
      exact hQ _ (nC rfl (nC rfl (nC rfl (nC rfl nN))))

def iCropBitmap (n : Nat) (a0 : SBitmap) : Option (SBitmap × Int) :=
  ((iValidBitmap n a0).bind fun r => (if (!r) = true then some ((SBitmap.mk 0 0 0 ([] : List ByteArray)), 1) else ((ibitmapFrame n a0).bind fun r_1 => ((iCropBitmap_L0 n r_1 a0 r ([] : List ByteArray) ([] : List SPt) r_1.bottom).bind fun o_1 => (match o_1 with | .go (q2_3_1, q4_2) => (if ((q4_2.length : Int) == 0) = true then some ((SBitmap.mk 0 0 0 ([] : List ByteArray)), 0) else ((iboundsOf n q4_2).bind fun r_3 => ((idrawFrame_iCropBitmap_1 n (SPixelArea.mk r_3.1.X r_3.1.Y (w64 ((w64 (r_3.2.X - r_3.1.X)) + 1)) (w64 ((w64 (r_3.2.Y - r_3.1.Y)) + 1))) a0).bind fun r_4 => some ((SBitmap.mk r_3.1.X r_3.1.Y (w64 ((w64 (r_3.2.X - r_3.1.X)) + 1)) r_4), 0)))) | .brk _ _ => none | .ret r => some r)))))

theorem vc_iCropBitmap (n : Nat) (a0 : SBitmap) (r : SBitmap × Int) (h : iCropBitmap n a0 = some r) : VC Tryd.prog 9 [.sh true (cBitmap false a0)] [(true, cBitmap true r.1), (false, (cI .i64) true r.2)] [] := by
  refine VC_of 86 Tryd.func9 rfl rfl rfl fun G0 w0 pv => ?_
  unfold iCropBitmap at h
  refine W_seq ?_
  refine W_text ?_
  refine dBox (ts := (cBitmap false a0)) rfl rfl rfl rfl rfl ?_
  refine dAlloc (zs := [.sc (.int .i64 0), .sc (.int .i64 0), .sc (.int .i64 0), .sl true 1 (([] : List ByteArray).map (cS true))]) rfl rfl (zeros_of _ rfl ⟨z1 rfl, z1 rfl, z1 rfl, z2, trivial⟩) rfl ?_
  refine dq (ps := [(3, pI .i64 0)]) rfl rfl rfl ?_
  refine DL_nil ?_
  refine W_seq ?_
  refine W_seq ?_
  refine W_text ?_
  refine dLdB (sv := .val true [.t (.sc (.int .i64 a0.Left)), .t (.sc (.int .i64 a0.Bottom)), .t (.sc (.int .i64 a0.Width)), .t (.sl false 1 (a0.Rows.map (cS false)))]) rfl rfl (ltF rfl) rfl rfl rfl rfl rfl rfl rfl rfl ?_
  obtain ⟨r, hr, h⟩ := bind_some h
  refine dCall (gn := 27) (fn := Tryd.f27) (cp := []) (lt := []) [11] (vc_iValidBitmap n a0 _ hr) Tryd.func27 rfl rfl rfl rfl (.inl rfl) (.inl rfl) (fun st2 h2 => ⟨rfl, args_of0 (.cons (aF (ltF rfl) ((congrArg Slot.sv (h2 11 (by decide))).trans rfl) rfl) .nil)⟩) rfl ?_
  refine dq (ps := [(13, pB (!r))]) rfl rfl rfl ?_
  refine DL_nil ?_
  refine W_split ⟨ltF rfl, rfl⟩ (fun hb => ?_) (fun hb => ?_)
  · replace h := ite_yes hb h
    refine W_seq ?_
    refine W_text ?_
    refine dBuild (pls := [(0, 1), (1, 1), (2, 1), (3, 1)]) (zs := [.sc (.int .i64 0), .sc (.int .i64 0), .sc (.int .i64 0), .sl true 1 (([] : List ByteArray).map (cS true))]) (ts := [.sc (.int .i64 0), .sc (.int .i64 0), .sc (.int .i64 0), .sl true 1 (([] : List ByteArray).map (cS true))]) (qs := []) [] [] rfl rfl rfl (zeros_of _ rfl ⟨z1 rfl, z1 rfl, z1 rfl, z2, trivial⟩) (by decide) rfl (fun st2 h2 => .nil) rfl ?_
    refine dStB (ag := true) (ts := [.sc (.int .i64 0), .sc (.int .i64 0), .sc (.int .i64 0), .sl true 1 (([] : List ByteArray).map (cS true))]) (cs' := [.sc (.int .i64 0), .sc (.int .i64 0), .sc (.int .i64 0), .sl true 1 (([] : List ByteArray).map (cS true))]) [(14, 0)] [2, 14] rfl (ltF rfl) (by decide) rfl rfl rfl (by decide) rfl rfl (fun st2 h2 => .own (ltF rfl) ((congrArg Slot.sv (h2 14 (by decide))).trans rfl) rfl) rfl ?_
    refine dq (ps := [(3, pI .i64 1)]) rfl rfl rfl ?_
    refine DL_nil ?_
    refine W_ret ?_
    cases h
    exact ⟨.inr rfl, leaves_of [.cell 2 26, .tmp 3] rfl (by decide) (.cell (ltF rfl) rfl rfl rfl rfl (.tmp (ltF rfl) rfl .nil))⟩
  · replace h := ite_no hb h
    refine W_skip ?_
    refine W_seq ?_
    refine W_text ?_
    refine dNil (m := true) (sz := 2) rfl rfl rfl ?_
    refine DL_nil ?_
    refine W_seq ?_
    refine W_text ?_
    refine dLdB (sv := .val true [.t (.sc (.int .i64 a0.Left)), .t (.sc (.int .i64 a0.Bottom)), .t (.sc (.int .i64 a0.Width)), .t (.sl false 1 (a0.Rows.map (cS false)))]) rfl rfl (ltF rfl) rfl rfl rfl rfl rfl rfl rfl rfl ?_
    obtain ⟨r_1, hr_1, h⟩ := bind_some h
    refine dCall (gn := 28) (fn := Tryd.f28) (cp := []) (lt := []) [15] (vc_ibitmapFrame n a0 _ hr_1) Tryd.func28 rfl rfl rfl rfl (.inl rfl) (.inl rfl) (fun st2 h2 => ⟨rfl, args_of0 (.cons (aF (ltF rfl) ((congrArg Slot.sv (h2 15 (by decide))).trans rfl) rfl) .nil)⟩) rfl ?_
    refine dAlloc (zs := [.sc (.int .i64 0), .sc (.int .i64 0), .sc (.int .i64 0), .sc (.int .i64 0)]) rfl rfl (zeros_of _ rfl ⟨z1 rfl, z1 rfl, z1 rfl, z1 rfl, trivial⟩) rfl ?_
    refine dStB (ag := true) (ts := [.sc (.int .i64 r_1.left), .sc (.int .i64 r_1.bottom), .sc (.int .i64 r_1.width), .sc (.int .i64 r_1.height)]) (cs' := (cPixelArea true r_1)) [] [5, 16] rfl (ltF rfl) (by decide) rfl rfl rfl (by decide) rfl rfl (fun st2 h2 => .free (⟨ltF rfl, (congrArg Slot.sv (h2 16 (by decide))).trans rfl⟩) rfl) rfl ?_
    refine DL_nil ?_
    refine W_seq ?_
    refine W_seq ?_
    refine W_text ?_
    refine dFaB rfl rfl (ltF rfl) rfl rfl rfl rfl rfl rfl ?_
    refine dq (ps := [(18, pI .i64 r_1.bottom)]) rfl rfl rfl ?_
    refine dq (ps := [(6, pI .i64 r_1.bottom)]) rfl rfl rfl ?_
    refine DL_nil ?_
    refine W_block ?_
    obtain ⟨o_1, ho_1, h⟩ := bind_some h
    refine iCropBitmap_L0_ok ?_ ho_1 _ (nC rfl (nC rfl (nC rfl (nC rfl (nC rfl nN)))))
    rcases o_1 with p | ⟨j, p⟩ | r
    · obtain ⟨q2_3_1, q4_2⟩ := p
      dsimp only at h ⊢
      intro st hst
      refine W_fn hst rfl ?_
      refine W_seq ?_
      refine W_seq ?_
      refine W_text ?_
      refine dq (ps := [(49, .val false [.ref 4 0 [(0, 0)]])]) rfl rfl rfl ?_
      refine dLen (t := 58) (n := (q4_2.length : Int)) rfl (ltF rfl) rfl rfl (lenE rfl (List.length_map ..)) rfl ?_
      refine dq (ps := [(51, pB ((q4_2.length : Int) == 0))]) rfl rfl rfl ?_
      refine DL_nil ?_
      refine W_split ⟨ltF rfl, rfl⟩ (fun hb => ?_) (fun hb => ?_)
      · replace h := ite_yes hb h
        refine W_seq ?_
        refine W_text ?_
        refine dBuild (pls := [(0, 1), (1, 1), (2, 1), (3, 1)]) (zs := [.sc (.int .i64 0), .sc (.int .i64 0), .sc (.int .i64 0), .sl true 1 (([] : List ByteArray).map (cS true))]) (ts := [.sc (.int .i64 0), .sc (.int .i64 0), .sc (.int .i64 0), .sl true 1 (([] : List ByteArray).map (cS true))]) (qs := []) [] [] rfl rfl rfl (zeros_of _ rfl ⟨z1 rfl, z1 rfl, z1 rfl, z2, trivial⟩) (by decide) rfl (fun st2 h2 => .nil) rfl ?_
        refine dStB (ag := true) (ts := [.sc (.int .i64 0), .sc (.int .i64 0), .sc (.int .i64 0), .sl true 1 (([] : List ByteArray).map (cS true))]) (cs' := [.sc (.int .i64 0), .sc (.int .i64 0), .sc (.int .i64 0), .sl true 1 (([] : List ByteArray).map (cS true))]) [(52, 0)] [2, 52] rfl (ltF rfl) (by decide) rfl rfl rfl (by decide) rfl rfl (fun st2 h2 => .own (ltF rfl) ((congrArg Slot.sv (h2 52 (by decide))).trans rfl) rfl) rfl ?_
        refine dq (ps := [(3, pI .i64 0)]) rfl rfl rfl ?_
        refine DL_nil ?_
        refine W_ret ?_
        cases h
        exact ⟨.inr rfl, leaves_of [.cell 2 26, .tmp 3] rfl (by decide) (.cell (ltF rfl) rfl rfl rfl rfl (.tmp (ltF rfl) rfl .nil))⟩
      · replace h := ite_no hb h
        refine W_skip ?_
        refine W_seq ?_
        refine W_text ?_
        refine dTkM (sv := .val false [.t (.sl true 2 (q4_2.map (cPt true)))]) rfl rfl rfl (ltF rfl) rfl rfl rfl ?_
        obtain ⟨r_3, hr_3, h⟩ := bind_some h
        refine dCall (gn := 30) (fn := Tryd.f30) (cp := []) (lt := [(54, [(0, 0)])]) [54] (vc_iboundsOf n q4_2 _ hr_3) Tryd.func30 rfl rfl rfl rfl (.inr ⟨(rC (eC rfl (eC rfl eN)) (rC (eC rfl (eC rfl eN)) rN)), rfl⟩) (.inl rfl) (fun st2 h2 => ⟨rfl, args_of0 (.cons (aA (ltF rfl) ((congrArg Slot.sv (h2 54 (by decide))).trans rfl) (.cons (cA_own (wholes_map (fun _ => (wC rfl (wC rfl wN))) _) (shrs_map (fun _ => (sC rfl (sC rfl sN))) _) (by decide)) .nil)) .nil)⟩) rfl ?_
        refine dTkM (sv := .tup [(true, [.t (.sc (.int .i64 r_3.1.X)), .t (.sc (.int .i64 r_3.1.Y))]), (true, [.t (.sc (.int .i64 r_3.2.X)), .t (.sc (.int .i64 r_3.2.Y))])]) rfl rfl rfl (ltF rfl) rfl rfl rfl ?_
        refine dExt (ag := true) (ts := (cPt true r_3.1)) rfl rfl (ltF rfl) rfl rfl rfl rfl ?_
        refine dExt (ag := true) (ts := (cPt true r_3.2)) rfl rfl (ltF rfl) rfl rfl rfl rfl ?_
        refine dAlloc (zs := [.sc (.int .i64 0), .sc (.int .i64 0)]) rfl rfl (zeros_of _ rfl ⟨z1 rfl, z1 rfl, trivial⟩) rfl ?_
        refine dAlloc (zs := [.sc (.int .i64 0), .sc (.int .i64 0)]) rfl rfl (zeros_of _ rfl ⟨z1 rfl, z1 rfl, trivial⟩) rfl ?_
        refine dStB (ag := true) (ts := [.sc (.int .i64 r_3.1.X), .sc (.int .i64 r_3.1.Y)]) (cs' := (cPt true r_3.1)) [] [8, 56] rfl (ltF rfl) (by decide) rfl rfl rfl (by decide) rfl rfl (fun st2 h2 => .free (⟨ltF rfl, (congrArg Slot.sv (h2 56 (by decide))).trans rfl⟩) rfl) rfl ?_
        refine dStB (ag := true) (ts := [.sc (.int .i64 r_3.2.X), .sc (.int .i64 r_3.2.Y)]) (cs' := (cPt true r_3.2)) [] [9, 57] rfl (ltF rfl) (by decide) rfl rfl rfl (by decide) rfl rfl (fun st2 h2 => .free (⟨ltF rfl, (congrArg Slot.sv (h2 57 (by decide))).trans rfl⟩) rfl) rfl ?_
        refine DL_nil ?_
        refine W_fn (l := [(1, .box (cBitmap false a0)), (2, .box [.sc (.int .i64 0), .sc (.int .i64 0), .sc (.int .i64 0), .sl true 1 (q2_3_1.map (cS true))]), (5, .box (cPixelArea true r_1)), (8, .box (cPt true r_3.1)), (9, .box (cPt true r_3.2))]) (nC rfl (nC rfl (nC rfl (nC rfl (nC rfl nN))))) rfl ?_
        refine W_seq ?_
        refine W_text ?_
        refine dFaB rfl rfl (ltF rfl) rfl rfl rfl rfl rfl rfl ?_
        refine dq (ps := [(59, pI .i64 r_3.1.X)]) rfl rfl rfl ?_
        refine dFaB rfl rfl (ltF rfl) rfl rfl rfl rfl rfl rfl ?_
        refine dq (ps := [(61, pI .i64 r_3.1.Y)]) rfl rfl rfl ?_
        refine dFaB rfl rfl (ltF rfl) rfl rfl rfl rfl rfl rfl ?_
        refine dq (ps := [(63, pI .i64 r_3.2.X)]) rfl rfl rfl ?_
        refine dFaB rfl rfl (ltF rfl) rfl rfl rfl rfl rfl rfl ?_
        refine dq (ps := [(65, pI .i64 r_3.1.X)]) rfl rfl rfl ?_
        refine dq (ps := [(66, pI .i64 (w64 (r_3.2.X - r_3.1.X)))]) rfl rfl rfl ?_
        refine dq (ps := [(67, pI .i64 (w64 ((w64 (r_3.2.X - r_3.1.X)) + 1)))]) rfl rfl rfl ?_
        refine dFaB rfl rfl (ltF rfl) rfl rfl rfl rfl rfl rfl ?_
        refine dq (ps := [(69, pI .i64 r_3.2.Y)]) rfl rfl rfl ?_
        refine dFaB rfl rfl (ltF rfl) rfl rfl rfl rfl rfl rfl ?_
        refine dq (ps := [(71, pI .i64 r_3.1.Y)]) rfl rfl rfl ?_
        refine dq (ps := [(72, pI .i64 (w64 (r_3.2.Y - r_3.1.Y)))]) rfl rfl rfl ?_
        refine dq (ps := [(73, pI .i64 (w64 ((w64 (r_3.2.Y - r_3.1.Y)) + 1)))]) rfl rfl rfl ?_
        refine dBuild (pls := [(0, 1), (1, 1), (2, 1), (3, 1)]) (zs := [.sc (.int .i64 0), .sc (.int .i64 0), .sc (.int .i64 0), .sc (.int .i64 0)]) (ts := [.sc (.int .i64 r_3.1.X), .sc (.int .i64 r_3.1.Y), .sc (.int .i64 (w64 ((w64 (r_3.2.X - r_3.1.X)) + 1))), .sc (.int .i64 (w64 ((w64 (r_3.2.Y - r_3.1.Y)) + 1)))]) (qs := [(0, [.sc (.int .i64 r_3.1.X)]), (1, [.sc (.int .i64 r_3.1.Y)]), (2, [.sc (.int .i64 (w64 ((w64 (r_3.2.X - r_3.1.X)) + 1)))]), (3, [.sc (.int .i64 (w64 ((w64 (r_3.2.Y - r_3.1.Y)) + 1)))])]) [] [59, 61, 67, 73] rfl rfl rfl (zeros_of _ rfl ⟨z1 rfl, z1 rfl, z1 rfl, z1 rfl, trivial⟩) (by decide) rfl (fun st2 h2 => (.cons rfl (.free (⟨ltF rfl, (congrArg Slot.sv (h2 59 (by decide))).trans rfl⟩) rfl) rfl (.cons rfl (.free (⟨ltF rfl, (congrArg Slot.sv (h2 61 (by decide))).trans rfl⟩) rfl) rfl (.cons rfl (.free (⟨ltF rfl, (congrArg Slot.sv (h2 67 (by decide))).trans rfl⟩) rfl) rfl (.cons rfl (.free (⟨ltF rfl, (congrArg Slot.sv (h2 73 (by decide))).trans rfl⟩) rfl) rfl .nil))))) rfl ?_
        refine dStB (ag := true) (ts := [.sc (.int .i64 r_3.1.X), .sc (.int .i64 r_3.1.Y), .sc (.int .i64 (w64 ((w64 (r_3.2.X - r_3.1.X)) + 1))), .sc (.int .i64 (w64 ((w64 (r_3.2.Y - r_3.1.Y)) + 1)))]) (cs' := [.sc (.int .i64 r_3.1.X), .sc (.int .i64 r_3.1.Y), .sc (.int .i64 (w64 ((w64 (r_3.2.X - r_3.1.X)) + 1))), .sc (.int .i64 (w64 ((w64 (r_3.2.Y - r_3.1.Y)) + 1)))]) [] [5, 74] rfl (ltF rfl) (by decide) rfl rfl rfl (by decide) rfl rfl (fun st2 h2 => .free (⟨ltF rfl, (congrArg Slot.sv (h2 74 (by decide))).trans rfl⟩) rfl) rfl ?_
        refine DL_nil ?_
        refine W_fn (l := [(1, .box (cBitmap false a0)), (2, .box [.sc (.int .i64 0), .sc (.int .i64 0), .sc (.int .i64 0), .sl true 1 (q2_3_1.map (cS true))]), (5, .box [.sc (.int .i64 r_3.1.X), .sc (.int .i64 r_3.1.Y), .sc (.int .i64 (w64 ((w64 (r_3.2.X - r_3.1.X)) + 1))), .sc (.int .i64 (w64 ((w64 (r_3.2.Y - r_3.1.Y)) + 1)))])]) (nC rfl (nC rfl (nC rfl nN))) rfl ?_
        refine W_seq ?_
        refine W_freeze (r := 1) (ys := (cBitmap false a0)) rfl (wC rfl (wC rfl (wC rfl (wC (wS (wholes_map (fun _ => (wC rfl wN)) _)) wN)))) (sC rfl (sC rfl (sC rfl (sC (sS (shrs_map (fun _ => (sC rfl sN)) _)) sN)))) ?_
        refine W_text ?_
        refine dLdB (sv := .val true [.t (.sc (.int .i64 r_3.1.X)), .t (.sc (.int .i64 r_3.1.Y)), .t (.sc (.int .i64 (w64 ((w64 (r_3.2.X - r_3.1.X)) + 1)))), .t (.sc (.int .i64 (w64 ((w64 (r_3.2.Y - r_3.1.Y)) + 1))))]) rfl rfl (ltF rfl) rfl rfl rfl rfl rfl rfl rfl rfl ?_
        refine dMF (ys := [.ptr (cBitmap false a0)]) [1] rfl rfl rfl (fun st2 h2 => Caps.get (.cons ⟨ltF rfl, (congrArg Slot.sv (h2 1 (by decide))).trans rfl⟩ rfl .nil)) rfl ?_
        obtain ⟨r_4, hr_4, h⟩ := bind_some h
        refine dCall (gn := 31) (fn := Tryd.f31) (cp := []) (lt := []) [75, 76] (vc_idrawFrame_iCropBitmap_1 n (SPixelArea.mk r_3.1.X r_3.1.Y (w64 ((w64 (r_3.2.X - r_3.1.X)) + 1)) (w64 ((w64 (r_3.2.Y - r_3.1.Y)) + 1))) a0 _ hr_4) Tryd.func31 rfl rfl rfl rfl (.inl rfl) (.inl rfl) (fun st2 h2 => ⟨rfl, args_of0 (.cons (aF (ltF rfl) ((congrArg Slot.sv (h2 75 (by decide))).trans rfl) rfl) (.cons (aF (ltF rfl) ((congrArg Slot.sv (h2 76 (by decide))).trans rfl) rfl) .nil))⟩) rfl ?_
        refine dq (ps := [(77, .dead), (10, .val false [.t (.sl true 1 (r_4.map (cS true)))])]) rfl rfl rfl ?_
        refine DL_nil ?_
        refine W_seq ?_
        refine W_text ?_
        refine dFaB rfl rfl (ltF rfl) rfl rfl rfl rfl rfl rfl ?_
        refine dq (ps := [(79, pI .i64 r_3.1.X)]) rfl rfl rfl ?_
        refine dFaB rfl rfl (ltF rfl) rfl rfl rfl rfl rfl rfl ?_
        refine dq (ps := [(81, pI .i64 r_3.1.Y)]) rfl rfl rfl ?_
        refine dFaB rfl rfl (ltF rfl) rfl rfl rfl rfl rfl rfl ?_
        refine dq (ps := [(83, pI .i64 (w64 ((w64 (r_3.2.X - r_3.1.X)) + 1)))]) rfl rfl rfl ?_
        refine dTkM (sv := .val false [.t (.sl true 1 (r_4.map (cS true)))]) rfl rfl rfl (ltF rfl) rfl rfl rfl ?_
        refine dBuild (pls := [(0, 1), (1, 1), (2, 1), (3, 1)]) (zs := [.sc (.int .i64 0), .sc (.int .i64 0), .sc (.int .i64 0), .sl true 1 (([] : List ByteArray).map (cS true))]) (ts := [.sc (.int .i64 r_3.1.X), .sc (.int .i64 r_3.1.Y), .sc (.int .i64 (w64 ((w64 (r_3.2.X - r_3.1.X)) + 1))), .sl true 1 (r_4.map (cS true))]) (qs := [(0, [.sc (.int .i64 r_3.1.X)]), (1, [.sc (.int .i64 r_3.1.Y)]), (2, [.sc (.int .i64 (w64 ((w64 (r_3.2.X - r_3.1.X)) + 1)))]), (3, [.sl true 1 (r_4.map (cS true))])]) [(84, 3)] [79, 81, 83, 84] rfl rfl rfl (zeros_of _ rfl ⟨z1 rfl, z1 rfl, z1 rfl, z2, trivial⟩) (by decide) rfl (fun st2 h2 => (.cons rfl (.free (⟨ltF rfl, (congrArg Slot.sv (h2 79 (by decide))).trans rfl⟩) rfl) rfl (.cons rfl (.free (⟨ltF rfl, (congrArg Slot.sv (h2 81 (by decide))).trans rfl⟩) rfl) rfl (.cons rfl (.free (⟨ltF rfl, (congrArg Slot.sv (h2 83 (by decide))).trans rfl⟩) rfl) rfl (.cons rfl (.own (ltF rfl) ((congrArg Slot.sv (h2 84 (by decide))).trans rfl) rfl) rfl .nil))))) rfl ?_
        refine dStB (ag := true) (ts := [.sc (.int .i64 r_3.1.X), .sc (.int .i64 r_3.1.Y), .sc (.int .i64 (w64 ((w64 (r_3.2.X - r_3.1.X)) + 1))), .sl true 1 (r_4.map (cS true))]) (cs' := [.sc (.int .i64 r_3.1.X), .sc (.int .i64 r_3.1.Y), .sc (.int .i64 (w64 ((w64 (r_3.2.X - r_3.1.X)) + 1))), .sl true 1 (r_4.map (cS true))]) [(85, 0)] [2, 85] rfl (ltF rfl) (by decide) rfl rfl rfl (by decide) rfl rfl (fun st2 h2 => .own (ltF rfl) ((congrArg Slot.sv (h2 85 (by decide))).trans rfl) rfl) rfl ?_
        refine dq (ps := [(3, pI .i64 0)]) rfl rfl rfl ?_
        refine DL_nil ?_
        refine W_fn (l := [(2, .box [.sc (.int .i64 r_3.1.X), .sc (.int .i64 r_3.1.Y), .sc (.int .i64 (w64 ((w64 (r_3.2.X - r_3.1.X)) + 1))), .sl true 1 (r_4.map (cS true))]), (3, pI .i64 0)]) (nC rfl (nC rfl nN)) rfl ?_
        refine W_ret ?_
        cases h
        exact ⟨.inr rfl, leaves_of [.cell 2 26, .tmp 3] rfl (by decide) (.cell (ltF rfl) rfl rfl rfl rfl (.tmp (ltF rfl) rfl .nil))⟩
    · exact trivial
    · dsimp only at h ⊢
      intro st hst
      cases h
      exact ⟨.inr rfl, leaves_of [.cell 2 26, .tmp 3] rfl (by decide) (.cell (ltF rfl) (hst.at (s := 2) rfl rfl) rfl rfl rfl (.tmp (ltF rfl) (hst.at (s := 3) rfl rfl) .nil))⟩

end Go.V
