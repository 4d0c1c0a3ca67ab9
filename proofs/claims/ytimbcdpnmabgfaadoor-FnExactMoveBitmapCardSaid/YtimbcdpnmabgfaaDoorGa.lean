/- The typed functions and their contracts. Conditions: none. -/
import Derived.Test.YtimbcdpnmabgfaaDoorVh
import Derived.Test.YtimbcdpnmabgfaaDoorProg
import Derived.Test.YtimbcdpnmabgfaaDoorS
import Derived.Shelf.Strings.SlTrimAscii
set_option maxRecDepth 100000
set_option linter.unusedVariables false
set_option maxHeartbeats 1000000
namespace Go.V
open Go Go.RowKit Go.Proofs
def cLStr (m : Bool) (x : List ByteArray) : List T := [.sl m 1 (x.map (cS m))]

structure SBitmap where
  Left : Int
  Bottom : Int
  Width : Int
  Rows : List ByteArray

def cBitmap (m : Bool) (x : SBitmap) : List T := [.sc (.int .i64 x.Left), .sc (.int .i64 x.Bottom), .sc (.int .i64 x.Width), .sl m 1 (x.Rows.map (cS m))]

-- lszStringS: loop.example/g00883/laws.szStringS
def lszStringS_L0 : Nat → (List ByteArray) → Int → Int → Option (Out (Int) (Int))
  | 0, _, _, _ => none
  | n + 1, a0, v1, v5 => (if (decide (v5 < (a0.length : Int))) = true then ((getI a0 v5).bind fun x => (if (decide ((w64 (v1 - (x.size : Int))) < 0)) = true then some (.ret (-1)) else lszStringS_L0 n a0 (w64 (v1 - (x.size : Int))) (w64 (v5 + 1)))) else some (.go v1))

theorem lszStringS_L0_ok {G0 : Nat → Own} {w0 : World} {Q : Exit → St → Prop} {a0 : List ByteArray} {out : (Out (Int) (Int))}
    (hQ : match out with | .go q1 => ∀ st, FN st [(1, pI .i64 q1)] → Q (.exit 0) st | .brk _ _ => True | .ret r => ∀ st, Fits st [(4, .val false (((cI .i64) true r).map .t))] → Q .ret st)
    {n : Nat} {v1 : Int} {v5 : Int} (h : lszStringS_L0 n a0 v1 v5 = some out) :
    ∀ st, FN st [(0, .val false [.t (.sl false 1 (a0.map (cS false)))]), (1, pI .i64 v1), (5, pI .i64 v5)] → W ⟨Tryd.prog, 28, [], G0, w0⟩ (.loop (bodyAt Tryd.f17 [1, 1, 1, 0, 1, 0, 0])) st Q := by
  intro st hst
  refine W_loop (fun n st => ∃ v1 v5, lszStringS_L0 n a0 v1 v5 = some out ∧ FN st [(0, .val false [.t (.sl false 1 (a0.map (cS false)))]), (1, pI .i64 v1), (5, pI .i64 v5)]) ?_ (n := n) ⟨v1, v5, h, hst⟩
  clear h hst st n v1 v5
  rintro n st ⟨v1, v5, h, hst⟩
  refine W_fn hst rfl ?_
  cases n with
  | zero => cases h
  | succ n =>
    rw [lszStringS_L0] at h
    refine W_seq ?_
    refine W_seq ?_
    refine W_text ?_
    refine dq (ps := [(12, pI .i64 v5)]) rfl rfl rfl ?_
    refine dq (ps := [(13, .val false [.t (.sl false 1 (a0.map (cS false)))])]) rfl rfl rfl ?_
    refine dLen (t := 22) (n := (a0.length : Int)) rfl (ltF rfl) rfl rfl (lenE rfl (List.length_map ..)) rfl ?_
    refine dq (ps := [(15, pB (decide (v5 < (a0.length : Int))))]) rfl rfl rfl ?_
    refine DL_nil ?_
    refine W_split ⟨ltF rfl, rfl⟩ (fun hb => ?_) (fun hb => ?_)
    · replace h := ite_yes hb h
      refine W_skip ?_
      refine W_seq ?_
      refine W_block ?_
      refine W_seq ?_
      refine W_text ?_
      refine dq (ps := [(18, pI .i64 v1)]) rfl rfl rfl ?_
      refine dq (ps := [(19, .val false [.t (.sl false 1 (a0.map (cS false)))])]) rfl rfl rfl ?_
      refine dq (ps := [(20, pI .i64 v5)]) rfl rfl rfl ?_
      obtain ⟨x, hx, h⟩ := bind_some h
      refine dIxA rfl rfl rfl rfl rfl (getI_map (cS false) hx) rfl ?_
      refine dq (ps := [(22, pS x)]) rfl rfl rfl ?_
      refine dLen (t := 9) (n := (x.size : Int)) rfl (ltF rfl) rfl rfl rfl rfl ?_
      refine dq (ps := [(24, pI .i64 (w64 (v1 - (x.size : Int))))]) rfl rfl rfl ?_
      refine dq (ps := [(1, pI .i64 (w64 (v1 - (x.size : Int))))]) rfl rfl rfl ?_
      refine DL_nil ?_
      refine W_fn (l := [(0, .val false [.t (.sl false 1 (a0.map (cS false)))]), (1, pI .i64 (w64 (v1 - (x.size : Int)))), (5, pI .i64 v5)]) (nC rfl (nC rfl (nC rfl nN))) rfl ?_
      refine W_seq ?_
      refine W_text ?_
      refine dq (ps := [(25, pI .i64 (w64 (v1 - (x.size : Int))))]) rfl rfl rfl ?_
      refine dq (ps := [(26, pB (decide ((w64 (v1 - (x.size : Int))) < 0)))]) rfl rfl rfl ?_
      refine DL_nil ?_
      refine W_split ⟨ltF rfl, rfl⟩ (fun hb => ?_) (fun hb => ?_)
      · replace h := ite_yes hb h
        refine W_seq ?_
        refine W_text ?_
        refine dq (ps := [(4, pI .i64 (-1))]) rfl rfl rfl ?_
        refine DL_nil ?_
        refine W_ret ?_
        cases h
        exact hQ _ (fC rfl rfl fN)
      · replace h := ite_no hb h
        refine W_skip ?_
        refine W_text ?_
        refine dq (ps := [(16, pI .i64 v5)]) rfl rfl rfl ?_
        refine dq (ps := [(17, pI .i64 (w64 (v5 + 1)))]) rfl rfl rfl ?_
        refine dq (ps := [(5, pI .i64 (w64 (v5 + 1)))]) rfl rfl rfl ?_
        refine DL_nil ?_
        exact ⟨n, Nat.lt_succ_self n, _, _,  h, (nC rfl (nC rfl (nC rfl nN)))⟩
    · replace h := ite_no hb h
      refine W_exit ?_
      cases h
      exact hQ _ (nC rfl nN)

def lszStringS (n : Nat) (a0 : List ByteArray) (a1 : Int) : Option (Int) :=
  (if (decide ((w64 (a1 - (a0.length : Int))) < 0)) = true then some (-1) else ((lszStringS_L0 n a0 (w64 (a1 - (a0.length : Int))) 0).bind fun o => (match o with | .go q1_1 => some q1_1 | .brk _ _ => none | .ret r => some r)))

theorem vc_lszStringS (n : Nat) (a0 : List ByteArray) (a1 : Int) (r : Int) (h : lszStringS n a0 a1 = some r) : VC Tryd.prog 17 [.sh false (cLStr false a0), .sh false ((cI .i64) false a1)] [(false, (cI .i64) true r)] [] := by
  refine VC_of 28 Tryd.func17 rfl rfl rfl fun G0 w0 pv => ?_
  unfold lszStringS at h
  refine W_seq ?_
  refine W_text ?_
  refine dq (ps := [(4, pI .i64 0)]) rfl rfl rfl ?_
  refine DL_nil ?_
  refine W_seq ?_
  refine W_text ?_
  refine dq (ps := [(6, pI .i64 a1)]) rfl rfl rfl ?_
  refine dq (ps := [(7, .val false [.t (.sl false 1 (a0.map (cS false)))])]) rfl rfl rfl ?_
  refine dLen (t := 22) (n := (a0.length : Int)) rfl (ltF rfl) rfl rfl (lenE rfl (List.length_map ..)) rfl ?_
  refine dq (ps := [(9, pI .i64 (w64 (a1 - (a0.length : Int))))]) rfl rfl rfl ?_
  refine dq (ps := [(1, pI .i64 (w64 (a1 - (a0.length : Int))))]) rfl rfl rfl ?_
  refine DL_nil ?_
  refine W_seq ?_
  refine W_seq ?_
  refine W_text ?_
  refine dq (ps := [(10, pI .i64 (w64 (a1 - (a0.length : Int))))]) rfl rfl rfl ?_
  refine dq (ps := [(11, pB (decide ((w64 (a1 - (a0.length : Int))) < 0)))]) rfl rfl rfl ?_
  refine DL_nil ?_
  refine W_split ⟨ltF rfl, rfl⟩ (fun hb => ?_) (fun hb => ?_)
  · replace h := ite_yes hb h
    refine W_seq ?_
    refine W_text ?_
    refine dq (ps := [(4, pI .i64 (-1))]) rfl rfl rfl ?_
    refine DL_nil ?_
    refine W_ret ?_
    cases h
    exact ⟨.inr rfl, leaves_of [.tmp 4] rfl (by decide) (.tmp (ltF rfl) rfl .nil)⟩
  · replace h := ite_no hb h
    refine W_skip ?_
    refine W_seq ?_
    refine W_seq ?_
    refine W_text ?_
    refine dq (ps := [(5, pI .i64 0)]) rfl rfl rfl ?_
    refine DL_nil ?_
    refine W_block ?_
    obtain ⟨o, ho, h⟩ := bind_some h
    refine lszStringS_L0_ok ?_ ho _ (nC rfl (nC rfl (nC rfl nN)))
    rcases o with q1_1 | ⟨j, p⟩ | r
    · skip
      dsimp only at h ⊢
      intro st hst
      refine W_fn hst rfl ?_
      refine W_seq ?_
      refine W_text ?_
      refine dq (ps := [(27, pI .i64 q1_1)]) rfl rfl rfl ?_
      refine dq (ps := [(4, pI .i64 q1_1)]) rfl rfl rfl ?_
      refine DL_nil ?_
      refine W_ret ?_
      cases h
      exact ⟨.inr rfl, leaves_of [.tmp 4] rfl (by decide) (.tmp (ltF rfl) rfl .nil)⟩
    · exact trivial
    · dsimp only at h ⊢
      intro st hst
      cases h
      exact ⟨.inr rfl, leaves_of [.tmp 4] rfl (by decide) (.tmp (ltF rfl) (hst.at (s := 4) rfl rfl) .nil)⟩

-- lszBitmap: loop.example/g00883/laws.szBitmap
def lszBitmap (n : Nat) (a0 : SBitmap) (a1 : Int) : Option (Int) :=
  ((lszStringS n a0.Rows a1).bind fun r => (if (decide (r < 0)) = true then some (-1) else some r))

theorem vc_lszBitmap (n : Nat) (a0 : SBitmap) (a1 : Int) (r : Int) (h : lszBitmap n a0 a1 = some r) : VC Tryd.prog 6 [.sh true (cBitmap false a0), .sh false ((cI .i64) false a1)] [(false, (cI .i64) true r)] [] := by
  refine VC_of 12 Tryd.func6 rfl rfl rfl fun G0 w0 pv => ?_
  unfold lszBitmap at h
  refine W_seq ?_
  refine W_text ?_
  refine dBox (ts := (cBitmap false a0)) rfl rfl rfl rfl rfl ?_
  refine dq (ps := [(4, pI .i64 0)]) rfl rfl rfl ?_
  refine DL_nil ?_
  refine W_seq ?_
  refine W_text ?_
  refine dFaB rfl rfl (ltF rfl) rfl rfl rfl rfl rfl rfl ?_
  refine dq (ps := [(6, .val false [.t (.sl false 1 (a0.Rows.map (cS false)))])]) rfl rfl rfl ?_
  refine dq (ps := [(7, pI .i64 a1)]) rfl rfl rfl ?_
  obtain ⟨r, hr, h⟩ := bind_some h
  refine dCall (gn := 17) (fn := Tryd.f17) (cp := []) (lt := []) [6, 7] (vc_lszStringS n a0.Rows a1 _ hr) Tryd.func17 rfl rfl rfl rfl (.inl rfl) (.inl rfl) (fun st2 h2 => ⟨rfl, args_of0 (.cons (aF (ltF rfl) ((congrArg Slot.sv (h2 6 (by decide))).trans rfl) rfl) (.cons (aF (ltF rfl) ((congrArg Slot.sv (h2 7 (by decide))).trans rfl) rfl) .nil))⟩) rfl ?_
  refine dq (ps := [(1, pI .i64 r)]) rfl rfl rfl ?_
  refine DL_nil ?_
  refine W_seq ?_
  refine W_seq ?_
  refine W_text ?_
  refine dq (ps := [(9, pI .i64 r)]) rfl rfl rfl ?_
  refine dq (ps := [(10, pB (decide (r < 0)))]) rfl rfl rfl ?_
  refine DL_nil ?_
  refine W_split ⟨ltF rfl, rfl⟩ (fun hb => ?_) (fun hb => ?_)
  · replace h := ite_yes hb h
    refine W_seq ?_
    refine W_text ?_
    refine dq (ps := [(4, pI .i64 (-1))]) rfl rfl rfl ?_
    refine DL_nil ?_
    refine W_ret ?_
    cases h
    exact ⟨.inr rfl, leaves_of [.tmp 4] rfl (by decide) (.tmp (ltF rfl) rfl .nil)⟩
  · replace h := ite_no hb h
    refine W_skip ?_
    refine W_seq ?_
    refine W_text ?_
    refine dq (ps := [(11, pI .i64 r)]) rfl rfl rfl ?_
    refine dq (ps := [(4, pI .i64 r)]) rfl rfl rfl ?_
    refine DL_nil ?_
    refine W_ret ?_
    cases h
    exact ⟨.inr rfl, leaves_of [.tmp 4] rfl (by decide) (.tmp (ltF rfl) rfl .nil)⟩

-- ltoStringS: loop.example/g00883/laws.toStringS
def ltoStringS_L0 : Nat → (List ByteArray) → (List ByteArray) → Int → Option (Out (List ByteArray) (List ByteArray))
  | 0, _, _, _ => none
  | n + 1, a0, v3, v4 => (if (decide (v4 < (a0.length : Int))) = true then ((getI a0 v4).bind fun x => ((getI v3 v4).bind fun x_1 => ltoStringS_L0 n a0 (v3.set v4.toNat x) (w64 (v4 + 1)))) else some (.go v3))

theorem ltoStringS_L0_ok {G0 : Nat → Own} {w0 : World} {Q : Exit → St → Prop} {a0 : List ByteArray} {out : (Out (List ByteArray) (List ByteArray))}
    (hQ : match out with | .go q3 => ∀ st, FN st [(3, .val false [.t (.sl true 1 (q3.map (cS true)))])] → Q (.exit 0) st | .brk _ _ => True | .ret r => ∀ st, Fits st [(2, .val false ((cLStr true r).map .t))] → Q .ret st)
    {n : Nat} {v3 : List ByteArray} {v4 : Int} (h : ltoStringS_L0 n a0 v3 v4 = some out) :
    ∀ st, FN st [(0, .val false [.t (.sl false 1 (a0.map (cS false)))]), (3, .val false [.t (.sl true 1 (v3.map (cS true)))]), (4, pI .i64 v4)] → W ⟨Tryd.prog, 22, [], G0, w0⟩ (.loop (bodyAt Tryd.f20 [1, 1, 0, 1, 0, 0])) st Q := by
  intro st hst
  refine W_loop (fun n st => ∃ v3 v4, ltoStringS_L0 n a0 v3 v4 = some out ∧ FN st [(0, .val false [.t (.sl false 1 (a0.map (cS false)))]), (3, .val false [.t (.sl true 1 (v3.map (cS true)))]), (4, pI .i64 v4)]) ?_ (n := n) ⟨v3, v4, h, hst⟩
  clear h hst st n v3 v4
  rintro n st ⟨v3, v4, h, hst⟩
  refine W_fn hst rfl ?_
  cases n with
  | zero => cases h
  | succ n =>
    rw [ltoStringS_L0] at h
    refine W_seq ?_
    refine W_seq ?_
    refine W_text ?_
    refine dq (ps := [(8, pI .i64 v4)]) rfl rfl rfl ?_
    refine dq (ps := [(9, .val false [.t (.sl false 1 (a0.map (cS false)))])]) rfl rfl rfl ?_
    refine dLen (t := 22) (n := (a0.length : Int)) rfl (ltF rfl) rfl rfl (lenE rfl (List.length_map ..)) rfl ?_
    refine dq (ps := [(11, pB (decide (v4 < (a0.length : Int))))]) rfl rfl rfl ?_
    refine DL_nil ?_
    refine W_split ⟨ltF rfl, rfl⟩ (fun hb => ?_) (fun hb => ?_)
    · replace h := ite_yes hb h
      refine W_skip ?_
      refine W_seq ?_
      refine W_block ?_
      refine W_text ?_
      refine dq (ps := [(14, .val false [.ref 3 0 [(0, 0)]])]) rfl rfl rfl ?_
      refine dq (ps := [(15, pI .i64 v4)]) rfl rfl rfl ?_
      refine dq (ps := [(16, .val false [.t (.sl false 1 (a0.map (cS false)))])]) rfl rfl rfl ?_
      refine dq (ps := [(17, pI .i64 v4)]) rfl rfl rfl ?_
      obtain ⟨x, hx, h⟩ := bind_some h
      refine dIxA rfl rfl rfl rfl rfl (getI_map (cS false) hx) rfl ?_
      refine dq (ps := [(19, pS x)]) rfl rfl rfl ?_
      obtain ⟨x_1, hx_1, h⟩ := bind_some h
      refine dIxO (v := 0) rfl rfl (ltF rfl) rfl rfl rfl (getI_lt (cS true) hx_1) rfl rfl rfl rfl rfl ?_
      refine dStO (ag := false) (ts := [.sc (.string x)]) (sv := .val false [.t (.sl true 1 ((v3.set v4.toNat x).map (cS true)))]) [20, 3, 19] rfl (ltF rfl) (by decide) (by decide) rfl rfl rfl (getI_row (cS true) hx_1) rfl rfl rfl (fun st2 h2 => ⟨ltF rfl, (congrArg Slot.sv (h2 19 (by decide))).trans rfl⟩) (fun st2 h => by rw [List.map_set]; unfold St.setAt; rw [h]; rfl) rfl ?_
      refine DL_nil ?_
      refine W_fn (l := [(0, .val false [.t (.sl false 1 (a0.map (cS false)))]), (3, .val false [.t (.sl true 1 ((v3.set v4.toNat x).map (cS true)))]), (4, pI .i64 v4)]) (nC rfl (nC rfl (nC rfl nN))) rfl ?_
      refine W_text ?_
      refine dq (ps := [(12, pI .i64 v4)]) rfl rfl rfl ?_
      refine dq (ps := [(13, pI .i64 (w64 (v4 + 1)))]) rfl rfl rfl ?_
      refine dq (ps := [(4, pI .i64 (w64 (v4 + 1)))]) rfl rfl rfl ?_
      refine DL_nil ?_
      exact ⟨n, Nat.lt_succ_self n, _, _,  h, (nC rfl (nC rfl (nC rfl nN)))⟩
    · replace h := ite_no hb h
      refine W_exit ?_
      cases h
      exact hQ _ (nC rfl nN)

def ltoStringS (n : Nat) (a0 : List ByteArray) : Option (List ByteArray) :=
  (if (0 : Int) ≤ (a0.length : Int) ∧ (a0.length : Int) ≤ (a0.length : Int) ∧ (16 : Int) * (a0.length : Int) ≤ 281474976710656 then ((ltoStringS_L0 n a0 (List.replicate (a0.length : Int).toNat (ByteArray.mk #[])) 0).bind fun o => (match o with | .go q3_1 => some q3_1 | .brk _ _ => none | .ret r => some r)) else none)

theorem vc_ltoStringS (n : Nat) (a0 : List ByteArray) (r : List ByteArray) (h : ltoStringS n a0 = some r) : VC Tryd.prog 20 [.sh false (cLStr false a0)] [(false, cLStr true r)] [] := by
  refine VC_of 22 Tryd.func20 rfl rfl rfl fun G0 w0 pv => ?_
  unfold ltoStringS at h
  refine W_seq ?_
  refine W_text ?_
  refine dNil (m := true) (sz := 1) rfl rfl rfl ?_
  refine DL_nil ?_
  refine W_seq ?_
  refine W_text ?_
  refine dq (ps := [(5, .val false [.t (.sl false 1 (a0.map (cS false)))])]) rfl rfl rfl ?_
  refine dLen (t := 22) (n := (a0.length : Int)) rfl (ltF rfl) rfl rfl (lenE rfl (List.length_map ..)) rfl ?_
  obtain ⟨hp, h⟩ := ite_some h
  refine dMake (zs := [.sc (.string (ByteArray.mk #[]))]) (els := ((List.replicate (a0.length : Int).toNat (ByteArray.mk #[])).map (cS true))) rfl rfl rfl (zeros_of _ rfl ⟨z1 rfl, trivial⟩) rfl rfl rfl rfl hp rfl (rep_map (cS true) (ByteArray.mk #[]) _) rfl ?_
  refine dq (ps := [(7, .dead), (3, .val false [.t (.sl true 1 ((List.replicate (a0.length : Int).toNat (ByteArray.mk #[])).map (cS true)))])]) rfl rfl rfl ?_
  refine DL_nil ?_
  refine W_seq ?_
  refine W_seq ?_
  refine W_text ?_
  refine dq (ps := [(4, pI .i64 0)]) rfl rfl rfl ?_
  refine DL_nil ?_
  refine W_block ?_
  obtain ⟨o, ho, h⟩ := bind_some h
  refine ltoStringS_L0_ok ?_ ho _ (nC rfl (nC rfl (nC rfl nN)))
  rcases o with q3_1 | ⟨j, p⟩ | r
  · skip
    dsimp only at h ⊢
    intro st hst
    refine W_fn hst rfl ?_
    refine W_seq ?_
    refine W_text ?_
    refine dTkM (sv := .val false [.t (.sl true 1 (q3_1.map (cS true)))]) rfl rfl rfl (ltF rfl) rfl rfl rfl ?_
    refine dq (ps := [(21, .dead), (2, .val false [.t (.sl true 1 (q3_1.map (cS true)))])]) rfl rfl rfl ?_
    refine DL_nil ?_
    refine W_ret ?_
    cases h
    exact ⟨.inr rfl, leaves_of [.tmp 2] rfl (by decide) (.tmp (ltF rfl) rfl .nil)⟩
  · exact trivial
  · dsimp only at h ⊢
    intro st hst
    cases h
    exact ⟨.inr rfl, leaves_of [.tmp 2] rfl (by decide) (.tmp (ltF rfl) (hst.at (s := 2) rfl rfl) .nil)⟩

-- ltoBitmap: loop.example/g00883/laws.toBitmap
def ltoBitmap (n : Nat) (a0 : SBitmap) : Option (SBitmap) :=
  ((ltoStringS n a0.Rows).bind fun r => some (SBitmap.mk a0.Left a0.Bottom a0.Width r))

theorem vc_ltoBitmap (n : Nat) (a0 : SBitmap) (r : SBitmap) (h : ltoBitmap n a0 = some r) : VC Tryd.prog 8 [.sh true (cBitmap false a0)] [(true, cBitmap true r)] [] := by
  refine VC_of 18 Tryd.func8 rfl rfl rfl fun G0 w0 pv => ?_
  unfold ltoBitmap at h
  refine W_seq ?_
  refine W_text ?_
  refine dBox (ts := (cBitmap false a0)) rfl rfl rfl rfl rfl ?_
  refine dAlloc (zs := [.sc (.int .i64 0), .sc (.int .i64 0), .sc (.int .i64 0), .sl true 1 (([] : List ByteArray).map (cS true))]) rfl rfl (zeros_of _ rfl ⟨z1 rfl, z1 rfl, z1 rfl, z2, trivial⟩) rfl ?_
  refine DL_nil ?_
  refine W_seq ?_
  refine W_text ?_
  refine dAlloc (zs := [.sc (.int .i64 0), .sc (.int .i64 0), .sc (.int .i64 0), .sl true 1 (([] : List ByteArray).map (cS true))]) rfl rfl (zeros_of _ rfl ⟨z1 rfl, z1 rfl, z1 rfl, z2, trivial⟩) rfl ?_
  refine DL_nil ?_
  refine W_seq ?_
  refine W_text ?_
  refine dFaB rfl rfl (ltF rfl) rfl rfl rfl rfl rfl rfl ?_
  refine dq (ps := [(5, pI .i64 a0.Left)]) rfl rfl rfl ?_
  refine dFaB rfl rfl (ltF rfl) rfl rfl rfl rfl rfl rfl ?_
  refine dSt (v := 1) (ag := false) (ts := [.sc (.int .i64 a0.Left)]) (cs' := [.sc (.int .i64 a0.Left), .sc (.int .i64 0), .sc (.int .i64 0), .sl true 1 (([] : List ByteArray).map (cS true))]) [] [6, 3, 5] rfl (ltF rfl) (by decide) (by decide) rfl rfl rfl rfl rfl (by decide) rfl rfl (fun st2 h2 => .free (⟨ltF rfl, (congrArg Slot.sv (h2 5 (by decide))).trans rfl⟩) rfl) rfl ?_
  refine DL_nil ?_
  refine W_seq ?_
  refine W_text ?_
  refine dFaB rfl rfl (ltF rfl) rfl rfl rfl rfl rfl rfl ?_
  refine dq (ps := [(8, pI .i64 a0.Bottom)]) rfl rfl rfl ?_
  refine dFaB rfl rfl (ltF rfl) rfl rfl rfl rfl rfl rfl ?_
  refine dSt (v := 2) (ag := false) (ts := [.sc (.int .i64 a0.Bottom)]) (cs' := [.sc (.int .i64 a0.Left), .sc (.int .i64 a0.Bottom), .sc (.int .i64 0), .sl true 1 (([] : List ByteArray).map (cS true))]) [] [9, 3, 8] rfl (ltF rfl) (by decide) (by decide) rfl rfl rfl rfl rfl (by decide) rfl rfl (fun st2 h2 => .free (⟨ltF rfl, (congrArg Slot.sv (h2 8 (by decide))).trans rfl⟩) rfl) rfl ?_
  refine DL_nil ?_
  refine W_seq ?_
  refine W_text ?_
  refine dFaB rfl rfl (ltF rfl) rfl rfl rfl rfl rfl rfl ?_
  refine dq (ps := [(11, pI .i64 a0.Width)]) rfl rfl rfl ?_
  refine dFaB rfl rfl (ltF rfl) rfl rfl rfl rfl rfl rfl ?_
  refine dSt (v := 3) (ag := false) (ts := [.sc (.int .i64 a0.Width)]) (cs' := [.sc (.int .i64 a0.Left), .sc (.int .i64 a0.Bottom), .sc (.int .i64 a0.Width), .sl true 1 (([] : List ByteArray).map (cS true))]) [] [12, 3, 11] rfl (ltF rfl) (by decide) (by decide) rfl rfl rfl rfl rfl (by decide) rfl rfl (fun st2 h2 => .free (⟨ltF rfl, (congrArg Slot.sv (h2 11 (by decide))).trans rfl⟩) rfl) rfl ?_
  refine DL_nil ?_
  refine W_seq ?_
  refine W_text ?_
  refine dFaB rfl rfl (ltF rfl) rfl rfl rfl rfl rfl rfl ?_
  refine dq (ps := [(14, .val false [.t (.sl false 1 (a0.Rows.map (cS false)))])]) rfl rfl rfl ?_
  obtain ⟨r, hr, h⟩ := bind_some h
  refine dCall (gn := 20) (fn := Tryd.f20) (cp := []) (lt := []) [14] (vc_ltoStringS n a0.Rows _ hr) Tryd.func20 rfl rfl rfl rfl (.inl rfl) (.inl rfl) (fun st2 h2 => ⟨rfl, args_of0 (.cons (aF (ltF rfl) ((congrArg Slot.sv (h2 14 (by decide))).trans rfl) rfl) .nil)⟩) rfl ?_
  refine dFaB rfl rfl (ltF rfl) rfl rfl rfl rfl rfl rfl ?_
  refine dSt (v := 4) (ag := false) (ts := [.sl true 1 (r.map (cS true))]) (cs' := [.sc (.int .i64 a0.Left), .sc (.int .i64 a0.Bottom), .sc (.int .i64 a0.Width), .sl true 1 (r.map (cS true))]) [(15, 3)] [16, 3, 15] rfl (ltF rfl) (by decide) (by decide) rfl rfl rfl rfl rfl (by decide) rfl rfl (fun st2 h2 => .own (ltF rfl) ((congrArg Slot.sv (h2 15 (by decide))).trans rfl) rfl) rfl ?_
  refine DL_nil ?_
  refine W_seq ?_
  refine W_text ?_
  refine dLdT (ag := true) (ts := [.sc (.int .i64 a0.Left), .sc (.int .i64 a0.Bottom), .sc (.int .i64 a0.Width), .sl true 1 (r.map (cS true))]) rfl rfl rfl (ltF rfl) rfl rfl rfl rfl rfl rfl rfl rfl ?_
  refine dStB (ag := true) (ts := [.sc (.int .i64 a0.Left), .sc (.int .i64 a0.Bottom), .sc (.int .i64 a0.Width), .sl true 1 (r.map (cS true))]) (cs' := [.sc (.int .i64 a0.Left), .sc (.int .i64 a0.Bottom), .sc (.int .i64 a0.Width), .sl true 1 (r.map (cS true))]) [(17, 0)] [2, 17] rfl (ltF rfl) (by decide) rfl rfl rfl (by decide) rfl rfl (fun st2 h2 => .own (ltF rfl) ((congrArg Slot.sv (h2 17 (by decide))).trans rfl) rfl) rfl ?_
  refine DL_nil ?_
  refine W_ret ?_
  cases h
  exact ⟨.inr rfl, leaves_of [.cell 2 26] rfl (by decide) (.cell (ltF rfl) rfl rfl rfl rfl .nil)⟩

-- sl00In: loop.example/g00883/spec.l00In
def sl00In (n : Nat) (a0 : Int) (a1 : Int) (a2 : Int) : Option (Bool) :=
  (if (decide (a0 ≥ a1)) = true then some (decide (a0 ≤ a2)) else some false)

theorem vc_sl00In (n : Nat) (a0 : Int) (a1 : Int) (a2 : Int) (r : Bool) (h : sl00In n a0 a1 a2 = some r) : VC Tryd.prog 38 [.sh false ((cI .i64) false a0), .sh false ((cI .i64) false a1), .sh false ((cI .i64) false a2)] [(false, cB true r)] [] := by
  refine VC_of 15 Tryd.func38 rfl rfl rfl fun G0 w0 pv => ?_
  unfold sl00In at h
  refine W_seq ?_
  refine W_text ?_
  refine dq (ps := [(6, pB false)]) rfl rfl rfl ?_
  refine DL_nil ?_
  refine W_seq ?_
  refine W_text ?_
  refine dq (ps := [(7, pI .i64 a0)]) rfl rfl rfl ?_
  refine dq (ps := [(8, pI .i64 a1)]) rfl rfl rfl ?_
  refine dq (ps := [(9, pB (decide (a0 ≥ a1)))]) rfl rfl rfl ?_
  refine dq (ps := [(10, pB (decide (a0 ≥ a1)))]) rfl rfl rfl ?_
  refine dS 10 rfl (fun hb => ?_) (fun hb => ?_)
  · replace h := ite_yes hb h
    refine dq (ps := [(11, pI .i64 a0)]) rfl rfl rfl ?_
    refine dq (ps := [(12, pI .i64 a2)]) rfl rfl rfl ?_
    refine dq (ps := [(13, pB (decide (a0 ≤ a2)))]) rfl rfl rfl ?_
    refine dq (ps := [(14, pB (decide (a0 ≤ a2)))]) rfl rfl rfl ?_
    refine dq (ps := [(6, pB (decide (a0 ≤ a2)))]) rfl rfl rfl ?_
    refine DL_nil ?_
    refine W_fn (l := [(6, pB (decide (a0 ≤ a2)))]) (nC rfl nN) rfl ?_
    refine W_ret ?_
    cases h
    exact ⟨.inr rfl, leaves_of [.tmp 6] rfl (by decide) (.tmp (ltF rfl) rfl .nil)⟩
  · replace h := ite_no hb h
    refine dU rfl rfl rfl rfl ?_
    refine dU rfl rfl rfl rfl ?_
    refine dU rfl rfl rfl rfl ?_
    refine dq (ps := [(14, pB false)]) rfl rfl rfl ?_
    refine dq (ps := [(6, pB false)]) rfl rfl rfl ?_
    refine DL_nil ?_
    refine W_fn (l := [(6, pB false)]) (nC rfl nN) rfl ?_
    refine W_ret ?_
    cases h
    exact ⟨.inr rfl, leaves_of [.tmp 6] rfl (by decide) (.tmp (ltF rfl) rfl .nil)⟩

-- sl22Row: loop.example/g00883/spec.l22Row
def sl22Row_L0 : Nat → ByteArray → Int → Int → Option (Out (Unit) (Bool))
  | 0, _, _, _ => none
  | n + 1, a0, a1, v5 => (if (decide (v5 < (a0.size : Int))) = true then (if (0 : Int) ≤ v5 ∧ v5 < (a0.size : Int) then (if ((byteAt a0 v5) != 35) = true then (if (0 : Int) ≤ v5 ∧ v5 < (a0.size : Int) then (if ((byteAt a0 v5) != 46) = true then some (.ret false) else sl22Row_L0 n a0 a1 (w64 (v5 + 1))) else none) else sl22Row_L0 n a0 a1 (w64 (v5 + 1))) else none) else some (.go ()))

theorem sl22Row_L0_ok {G0 : Nat → Own} {w0 : World} {Q : Exit → St → Prop} {a0 : ByteArray} {a1 : Int} {out : (Out (Unit) (Bool))}
    (hQ : match out with | .go _ => ∀ st, FN st [(0, pS a0), (1, pI .i64 a1)] → Q (.exit 0) st | .brk _ _ => True | .ret r => ∀ st, Fits st [(4, .val false ((cB true r).map .t))] → Q .ret st)
    {n : Nat} {v5 : Int} (h : sl22Row_L0 n a0 a1 v5 = some out) :
    ∀ st, FN st [(0, pS a0), (1, pI .i64 a1), (5, pI .i64 v5)] → W ⟨Tryd.prog, 26, [], G0, w0⟩ (.loop (bodyAt Tryd.f39 [1, 0, 1, 0, 0])) st Q := by
  intro st hst
  refine W_loop (fun n st => ∃ v5, sl22Row_L0 n a0 a1 v5 = some out ∧ FN st [(0, pS a0), (1, pI .i64 a1), (5, pI .i64 v5)]) ?_ (n := n) ⟨v5, h, hst⟩
  clear h hst st n v5
  rintro n st ⟨v5, h, hst⟩
  refine W_fn hst rfl ?_
  cases n with
  | zero => cases h
  | succ n =>
    rw [sl22Row_L0] at h
    refine W_seq ?_
    refine W_seq ?_
    refine W_text ?_
    refine dq (ps := [(6, pI .i64 v5)]) rfl rfl rfl ?_
    refine dq (ps := [(7, pS a0)]) rfl rfl rfl ?_
    refine dLen (t := 9) (n := (a0.size : Int)) rfl (ltF rfl) rfl rfl rfl rfl ?_
    refine dq (ps := [(9, pB (decide (v5 < (a0.size : Int))))]) rfl rfl rfl ?_
    refine DL_nil ?_
    refine W_split ⟨ltF rfl, rfl⟩ (fun hb => ?_) (fun hb => ?_)
    · replace h := ite_yes hb h
      refine W_skip ?_
      refine W_seq ?_
      refine W_block ?_
      refine W_seq ?_
      refine W_text ?_
      refine dq (ps := [(12, pS a0)]) rfl rfl rfl ?_
      refine dq (ps := [(13, pI .i64 v5)]) rfl rfl rfl ?_
      obtain ⟨hp, h⟩ := ite_some h
      refine dIdx rfl rfl rfl rfl rfl hp rfl ?_
      refine dq (ps := [(15, pB ((byteAt a0 v5) != 35))]) rfl rfl rfl ?_
      refine dq (ps := [(16, pB ((byteAt a0 v5) != 35))]) rfl rfl rfl ?_
      refine dS 16 rfl (fun hb => ?_) (fun hb => ?_)
      · replace h := ite_yes hb h
        refine dq (ps := [(17, pS a0)]) rfl rfl rfl ?_
        refine dq (ps := [(18, pI .i64 v5)]) rfl rfl rfl ?_
        obtain ⟨hp, h⟩ := ite_some h
        refine dIdx rfl rfl rfl rfl rfl hp rfl ?_
        refine dq (ps := [(20, pB ((byteAt a0 v5) != 46))]) rfl rfl rfl ?_
        refine dq (ps := [(21, pB ((byteAt a0 v5) != 46))]) rfl rfl rfl ?_
        refine DL_nil ?_
        refine W_fn (l := [(0, pS a0), (1, pI .i64 a1), (5, pI .i64 v5), (17, pS a0), (18, pI .i64 v5), (19, pI .u8 (byteAt a0 v5)), (20, pB ((byteAt a0 v5) != 46)), (21, pB ((byteAt a0 v5) != 46))]) (nC rfl (nC rfl (nC rfl (nC rfl (nC rfl (nC rfl (nC rfl (nC rfl nN)))))))) rfl ?_
        refine W_split ⟨ltF rfl, rfl⟩ (fun hb => ?_) (fun hb => ?_)
        · replace h := ite_yes hb h
          refine W_seq ?_
          refine W_text ?_
          refine dq (ps := [(4, pB false)]) rfl rfl rfl ?_
          refine DL_nil ?_
          refine W_ret ?_
          cases h
          exact hQ _ (fC rfl rfl fN)
        · replace h := ite_no hb h
          refine W_skip ?_
          refine W_text ?_
          refine dq (ps := [(10, pI .i64 v5)]) rfl rfl rfl ?_
          refine dq (ps := [(11, pI .i64 (w64 (v5 + 1)))]) rfl rfl rfl ?_
          refine dq (ps := [(5, pI .i64 (w64 (v5 + 1)))]) rfl rfl rfl ?_
          refine DL_nil ?_
          exact ⟨n, Nat.lt_succ_self n, _,  h, (nC rfl (nC rfl (nC rfl nN)))⟩
      · replace h := ite_no hb h
        refine dU rfl rfl rfl rfl ?_
        refine dU rfl rfl rfl rfl ?_
        refine dU rfl rfl rfl rfl ?_
        refine dU rfl rfl rfl rfl ?_
        refine dq (ps := [(21, pB false)]) rfl rfl rfl ?_
        refine DL_nil ?_
        refine W_fn (l := [(0, pS a0), (1, pI .i64 a1), (5, pI .i64 v5), (17, .tup []), (18, .tup []), (19, .tup []), (20, .tup []), (21, pB false)]) (nC rfl (nC rfl (nC rfl (nC rfl (nC rfl (nC rfl (nC rfl (nC rfl nN)))))))) rfl ?_
        refine W_no ⟨ltF rfl, rfl⟩ ?_
        refine W_skip ?_
        refine W_text ?_
        refine dq (ps := [(10, pI .i64 v5)]) rfl rfl rfl ?_
        refine dq (ps := [(11, pI .i64 (w64 (v5 + 1)))]) rfl rfl rfl ?_
        refine dq (ps := [(5, pI .i64 (w64 (v5 + 1)))]) rfl rfl rfl ?_
        refine DL_nil ?_
        exact ⟨n, Nat.lt_succ_self n, _,  h, (nC rfl (nC rfl (nC rfl nN)))⟩
    · replace h := ite_no hb h
      refine W_exit ?_
      cases h
      exact hQ _ (nC rfl (nC rfl nN))

def sl22Row (n : Nat) (a0 : ByteArray) (a1 : Int) : Option (Bool) :=
  ((sl22Row_L0 n a0 a1 0).bind fun o => (match o with | .go _ => some ((a0.size : Int) == a1) | .brk _ _ => none | .ret r => some r))

theorem vc_sl22Row (n : Nat) (a0 : ByteArray) (a1 : Int) (r : Bool) (h : sl22Row n a0 a1 = some r) : VC Tryd.prog 39 [.sh false (cS false a0), .sh false ((cI .i64) false a1)] [(false, cB true r)] [] := by
  refine VC_of 26 Tryd.func39 rfl rfl rfl fun G0 w0 pv => ?_
  unfold sl22Row at h
  refine W_seq ?_
  refine W_text ?_
  refine dq (ps := [(4, pB false)]) rfl rfl rfl ?_
  refine DL_nil ?_
  refine W_seq ?_
  refine W_seq ?_
  refine W_text ?_
  refine dq (ps := [(5, pI .i64 0)]) rfl rfl rfl ?_
  refine DL_nil ?_
  refine W_block ?_
  obtain ⟨o, ho, h⟩ := bind_some h
  refine sl22Row_L0_ok ?_ ho _ (nC rfl (nC rfl (nC rfl nN)))
  rcases o with p | ⟨j, p⟩ | r
  · skip
    dsimp only at h ⊢
    intro st hst
    refine W_fn hst rfl ?_
    refine W_seq ?_
    refine W_text ?_
    refine dq (ps := [(22, pS a0)]) rfl rfl rfl ?_
    refine dLen (t := 9) (n := (a0.size : Int)) rfl (ltF rfl) rfl rfl rfl rfl ?_
    refine dq (ps := [(24, pI .i64 a1)]) rfl rfl rfl ?_
    refine dq (ps := [(25, pB ((a0.size : Int) == a1))]) rfl rfl rfl ?_
    refine dq (ps := [(4, pB ((a0.size : Int) == a1))]) rfl rfl rfl ?_
    refine DL_nil ?_
    refine W_ret ?_
    cases h
    exact ⟨.inr rfl, leaves_of [.tmp 4] rfl (by decide) (.tmp (ltF rfl) rfl .nil)⟩
  · exact trivial
  · dsimp only at h ⊢
    intro st hst
    cases h
    exact ⟨.inr rfl, leaves_of [.tmp 4] rfl (by decide) (.tmp (ltF rfl) (hst.at (s := 4) rfl rfl) .nil)⟩

-- sl22Ok: loop.example/g00883/spec.l22Ok
def sl22Ok_L0 : Nat → SBitmap → Int → Option (Out (Unit) (Bool))
  | 0, _, _ => none
  | n + 1, a0, v3 => (if (decide (v3 < (a0.Rows.length : Int))) = true then ((getI a0.Rows v3).bind fun x => ((sl22Row n x a0.Width).bind fun r_3 => (if (!r_3) = true then some (.ret false) else sl22Ok_L0 n a0 (w64 (v3 + 1))))) else some (.go ()))

theorem sl22Ok_L0_ok {G0 : Nat → Own} {w0 : World} {Q : Exit → St → Prop} {a0 : SBitmap} {out : (Out (Unit) (Bool))}
    (hQ : match out with | .go _ => ∀ st, FN st [] → Q (.exit 0) st | .brk _ _ => True | .ret r => ∀ st, Fits st [(2, .val false ((cB true r).map .t))] → Q .ret st)
    {n : Nat} {v3 : Int} (h : sl22Ok_L0 n a0 v3 = some out) :
    ∀ st, FN st [(0, .val false [.t (.ptr (cBitmap false a0))]), (3, pI .i64 v3)] → W ⟨Tryd.prog, 70, [], G0, w0⟩ (.loop (bodyAt Tryd.f18 [1, 1, 0, 1, 0, 0])) st Q := by
  intro st hst
  refine W_loop (fun n st => ∃ v3, sl22Ok_L0 n a0 v3 = some out ∧ FN st [(0, .val false [.t (.ptr (cBitmap false a0))]), (3, pI .i64 v3)]) ?_ (n := n) ⟨v3, h, hst⟩
  clear h hst st n v3
  rintro n st ⟨v3, h, hst⟩
  refine W_fn hst rfl ?_
  cases n with
  | zero => cases h
  | succ n =>
    rw [sl22Ok_L0] at h
    refine W_seq ?_
    refine W_seq ?_
    refine W_text ?_
    refine dq (ps := [(48, pI .i64 v3)]) rfl rfl rfl ?_
    refine dq (ps := [(49, .val false [.t (.ptr (cBitmap false a0))])]) rfl rfl rfl ?_
    refine dq (ps := [(50, .val false [.t (.ptr (cBitmap false a0))])]) rfl rfl rfl ?_
    refine dq (ps := [(51, .val false [.t (.ptr [.sl false 1 (a0.Rows.map (cS false))])])]) rfl rfl rfl ?_
    refine dq (ps := [(52, .val false [.t (.sl false 1 (a0.Rows.map (cS false)))])]) rfl rfl rfl ?_
    refine dLen (t := 22) (n := (a0.Rows.length : Int)) rfl (ltF rfl) rfl rfl (lenE rfl (List.length_map ..)) rfl ?_
    refine dq (ps := [(54, pB (decide (v3 < (a0.Rows.length : Int))))]) rfl rfl rfl ?_
    refine DL_nil ?_
    refine W_fn (l := [(0, .val false [.t (.ptr (cBitmap false a0))]), (3, pI .i64 v3), (54, pB (decide (v3 < (a0.Rows.length : Int))))]) (nC rfl (nC rfl (nC rfl nN))) rfl ?_
    refine W_split ⟨ltF rfl, rfl⟩ (fun hb => ?_) (fun hb => ?_)
    · replace h := ite_yes hb h
      refine W_skip ?_
      refine W_seq ?_
      refine W_block ?_
      refine W_seq ?_
      refine W_drawn rfl ?_
      refine dq (R' := [0]) (ps := [(57, .val false [.t (.ptr (cBitmap false a0))])]) rfl rfl rfl ?_
      refine dq (R' := [57]) (ps := [(58, .val false [.t (.ptr (cBitmap false a0))])]) rfl rfl rfl ?_
      refine dq (R' := [58]) (ps := [(59, .val false [.t (.ptr [.sl false 1 (a0.Rows.map (cS false))])])]) rfl rfl rfl ?_
      refine dq (R' := [59]) (ps := [(60, .val false [.t (.sl false 1 (a0.Rows.map (cS false)))])]) rfl rfl rfl ?_
      refine dq (R' := [3]) (ps := [(61, pI .i64 v3)]) rfl rfl rfl ?_
      obtain ⟨x, hx, h⟩ := bind_some h
      refine dIxA (R' := [60, 61]) rfl rfl rfl rfl rfl (getI_map (cS false) hx) rfl ?_
      refine dq (R' := [62]) (ps := [(63, pS x)]) rfl rfl rfl ?_
      refine dq (R' := [0]) (ps := [(64, .val false [.t (.ptr (cBitmap false a0))])]) rfl rfl rfl ?_
      refine dq (R' := [64]) (ps := [(65, .val false [.t (.ptr (cBitmap false a0))])]) rfl rfl rfl ?_
      refine dq (R' := [65]) (ps := [(66, .val false [.t (.ptr [.sc (.int .i64 a0.Width), .sl false 1 (a0.Rows.map (cS false))])])]) rfl rfl rfl ?_
      refine dq (R' := [66]) (ps := [(67, pI .i64 a0.Width)]) rfl rfl rfl ?_
      obtain ⟨r_3, hr_3, h⟩ := bind_some h
      refine dCall (gn := 39) (fn := Tryd.f39) (cp := []) (lt := []) [63, 67] (vc_sl22Row n x a0.Width _ hr_3) Tryd.func39 rfl rfl rfl rfl (.inl rfl) (.inl rfl) (fun st2 h2 => ⟨rfl, args_of0 (.cons (aF (ltF rfl) ((congrArg Slot.sv (h2 63 (by decide))).trans rfl) rfl) (.cons (aF (ltF rfl) ((congrArg Slot.sv (h2 67 (by decide))).trans rfl) rfl) .nil))⟩) rfl ?_
      refine dq (R' := [68]) (ps := [(69, pB (!r_3))]) rfl rfl rfl ?_
      refine DL_nil ⟨[([0], [57]), ([57], [58]), ([58], [59]), ([59], [60]), ([3], [61]), ([60, 61], [62]), ([62], [63]), ([0], [64]), ([64], [65]), ([65], [66]), ([66], [67]), ([63, 67], [68]), ([68], [69])], rfl, by decide +kernel, ?_⟩
      refine W_fn (l := [(0, .val false [.t (.ptr (cBitmap false a0))]), (3, pI .i64 v3), (69, pB (!r_3))]) (nC rfl (nC rfl (nC rfl nN))) rfl ?_
      refine W_split ⟨ltF rfl, rfl⟩ (fun hb => ?_) (fun hb => ?_)
      · replace h := ite_yes hb h
        refine W_seq ?_
        refine W_text ?_
        refine dq (ps := [(2, pB false)]) rfl rfl rfl ?_
        refine DL_nil ?_
        refine W_ret ?_
        cases h
        exact hQ _ (fC rfl rfl fN)
      · replace h := ite_no hb h
        refine W_skip ?_
        refine W_text ?_
        refine dq (ps := [(55, pI .i64 v3)]) rfl rfl rfl ?_
        refine dq (ps := [(56, pI .i64 (w64 (v3 + 1)))]) rfl rfl rfl ?_
        refine dq (ps := [(3, pI .i64 (w64 (v3 + 1)))]) rfl rfl rfl ?_
        refine DL_nil ?_
        exact ⟨n, Nat.lt_succ_self n, _,  h, (nC rfl (nC rfl nN))⟩
    · replace h := ite_no hb h
      refine W_exit ?_
      cases h
      exact hQ _ nN

def sl22Ok (n : Nat) (a0 : SBitmap) : Option (Bool) :=
  ((sl00In n a0.Left (-1048576) 1048576).bind fun r => (if (!r) = true then some false else ((sl00In n a0.Bottom (-1048576) 1048576).bind fun r_1 => (if (!r_1) = true then some false else ((sl00In n a0.Width 0 128).bind fun r_2 => (if (!r_2) = true then some false else (if (decide ((a0.Rows.length : Int) > 128)) = true then some false else (if ((a0.Width == 0) != ((a0.Rows.length : Int) == 0)) = true then some false else ((sl22Ok_L0 n a0 0).bind fun o => (match o with | .go _ => some true | .brk _ _ => none | .ret r => some r))))))))))

theorem vc_sl22Ok (n : Nat) (a0 : SBitmap) (r : Bool) (h : sl22Ok n a0 = some r) : VC Tryd.prog 18 [.sh false [.ptr (cBitmap false a0)]] [(false, cB true r)] [] := by
  refine VC_of 70 Tryd.func18 rfl rfl rfl fun G0 w0 pv => ?_
  unfold sl22Ok at h
  refine W_seq ?_
  refine W_text ?_
  refine dq (ps := [(2, pB false)]) rfl rfl rfl ?_
  refine DL_nil ?_
  refine W_seq ?_
  refine W_seq ?_
  refine W_drawn rfl ?_
  refine dq (R' := [0]) (ps := [(4, .val false [.t (.ptr (cBitmap false a0))])]) rfl rfl rfl ?_
  refine dq (R' := [4]) (ps := [(5, .val false [.t (.ptr (cBitmap false a0))])]) rfl rfl rfl ?_
  refine dq (R' := [5]) (ps := [(6, .val false [.t (.ptr (cBitmap false a0))])]) rfl rfl rfl ?_
  refine dq (R' := [6]) (ps := [(7, pI .i64 a0.Left)]) rfl rfl rfl ?_
  obtain ⟨r, hr, h⟩ := bind_some h
  refine dCall (gn := 38) (fn := Tryd.f38) (cp := []) (lt := []) [7] (vc_sl00In n a0.Left (-1048576) 1048576 _ hr) Tryd.func38 rfl rfl rfl rfl (.inl rfl) (.inl rfl) (fun st2 h2 => ⟨rfl, args_of0 (.cons (aF (ltF rfl) ((congrArg Slot.sv (h2 7 (by decide))).trans rfl) rfl) (.cons (aC rfl) (.cons (aC rfl) .nil)))⟩) rfl ?_
  refine dq (R' := [8]) (ps := [(9, pB (!r))]) rfl rfl rfl ?_
  refine dq (R' := [9]) (ps := [(10, pB (!r))]) rfl rfl rfl ?_
  refine dS 10 rfl (fun hb => ?_) (fun hb => ?_)
  · replace h := ite_yes hb h
    refine dU rfl rfl rfl rfl ?_
    refine dU rfl rfl rfl rfl ?_
    refine dU rfl rfl rfl rfl ?_
    refine dU rfl rfl rfl rfl ?_
    refine dU rfl rfl rfl rfl ?_
    refine dU rfl rfl rfl rfl ?_
    refine dq (R' := [10, 16]) (ps := [(17, pB true)]) rfl rfl rfl ?_
    refine dq (R' := [17]) (ps := [(18, pB true)]) rfl rfl rfl ?_
    refine dU rfl rfl rfl rfl ?_
    refine dU rfl rfl rfl rfl ?_
    refine dU rfl rfl rfl rfl ?_
    refine dU rfl rfl rfl rfl ?_
    refine dU rfl rfl rfl rfl ?_
    refine dU rfl rfl rfl rfl ?_
    refine dq (R' := [18, 24]) (ps := [(25, pB true)]) rfl rfl rfl ?_
    refine dq (R' := [25]) (ps := [(26, pB true)]) rfl rfl rfl ?_
    refine dU rfl rfl rfl rfl ?_
    refine dU rfl rfl rfl rfl ?_
    refine dU rfl rfl rfl rfl ?_
    refine dU rfl rfl rfl rfl ?_
    refine dU rfl rfl rfl rfl ?_
    refine dU rfl rfl rfl rfl ?_
    refine dq (R' := [26, 32]) (ps := [(33, pB true)]) rfl rfl rfl ?_
    refine dq (R' := [33]) (ps := [(34, pB true)]) rfl rfl rfl ?_
    refine dU rfl rfl rfl rfl ?_
    refine dU rfl rfl rfl rfl ?_
    refine dU rfl rfl rfl rfl ?_
    refine dU rfl rfl rfl rfl ?_
    refine dU rfl rfl rfl rfl ?_
    refine dU rfl rfl rfl rfl ?_
    refine dU rfl rfl rfl rfl ?_
    refine dU rfl rfl rfl rfl ?_
    refine dU rfl rfl rfl rfl ?_
    refine dU rfl rfl rfl rfl ?_
    refine dU rfl rfl rfl rfl ?_
    refine dU rfl rfl rfl rfl ?_
    refine dq (R' := [34, 46]) (ps := [(47, pB true)]) rfl rfl rfl ?_
    refine DL_nil ⟨[([0], [4]), ([4], [5]), ([5], [6]), ([6], [7]), ([7], [8]), ([8], [9]), ([9], [10]), ([10], [11]), ([10], [12]), ([10], [13]), ([10], [14]), ([10], [15]), ([10], [16]), ([10, 16], [17]), ([17], [18]), ([18], [19]), ([18], [20]), ([18], [21]), ([18], [22]), ([18], [23]), ([18], [24]), ([18, 24], [25]), ([25], [26]), ([26], [27]), ([26], [28]), ([26], [29]), ([26], [30]), ([26], [31]), ([26], [32]), ([26, 32], [33]), ([33], [34]), ([34], [35]), ([34], [36]), ([34], [37]), ([34], [38]), ([34], [39]), ([34], [40]), ([34], [41]), ([34], [42]), ([34], [43]), ([34], [44]), ([34], [45]), ([34], [46]), ([34, 46], [47])], rfl, by decide +kernel, ?_⟩
    refine W_fn (l := [(0, .val false [.t (.ptr (cBitmap false a0))]), (47, pB true)]) (nC rfl (nC rfl nN)) rfl ?_
    refine W_yes ⟨ltF rfl, rfl⟩ ?_
    refine W_seq ?_
    refine W_text ?_
    refine dq (ps := [(2, pB false)]) rfl rfl rfl ?_
    refine DL_nil ?_
    refine W_ret ?_
    cases h
    exact ⟨.inr rfl, leaves_of [.tmp 2] rfl (by decide) (.tmp (ltF rfl) rfl .nil)⟩
  · replace h := ite_no hb h
    refine dq (ps := [(11, .val false [.t (.ptr (cBitmap false a0))])]) rfl rfl rfl ?_
    refine dq (ps := [(12, .val false [.t (.ptr (cBitmap false a0))])]) rfl rfl rfl ?_
    refine dq (ps := [(13, .val false [.t (.ptr [.sc (.int .i64 a0.Bottom), .sc (.int .i64 a0.Width), .sl false 1 (a0.Rows.map (cS false))])])]) rfl rfl rfl ?_
    refine dq (ps := [(14, pI .i64 a0.Bottom)]) rfl rfl rfl ?_
    obtain ⟨r_1, hr_1, h⟩ := bind_some h
    refine dCall (gn := 38) (fn := Tryd.f38) (cp := []) (lt := []) [14] (vc_sl00In n a0.Bottom (-1048576) 1048576 _ hr_1) Tryd.func38 rfl rfl rfl rfl (.inl rfl) (.inl rfl) (fun st2 h2 => ⟨rfl, args_of0 (.cons (aF (ltF rfl) ((congrArg Slot.sv (h2 14 (by decide))).trans rfl) rfl) (.cons (aC rfl) (.cons (aC rfl) .nil)))⟩) rfl ?_
    refine dq (ps := [(16, pB (!r_1))]) rfl rfl rfl ?_
    refine dq (ps := [(17, pB (!r_1))]) rfl rfl rfl ?_
    refine dq (ps := [(18, pB (!r_1))]) rfl rfl rfl ?_
    refine dS 18 rfl (fun hb => ?_) (fun hb => ?_)
    · replace h := ite_yes hb h
      refine dU rfl rfl rfl rfl ?_
      refine dU rfl rfl rfl rfl ?_
      refine dU rfl rfl rfl rfl ?_
      refine dU rfl rfl rfl rfl ?_
      refine dU rfl rfl rfl rfl ?_
      refine dU rfl rfl rfl rfl ?_
      refine dq (ps := [(25, pB true)]) rfl rfl rfl ?_
      refine dq (ps := [(26, pB true)]) rfl rfl rfl ?_
      refine dU rfl rfl rfl rfl ?_
      refine dU rfl rfl rfl rfl ?_
      refine dU rfl rfl rfl rfl ?_
      refine dU rfl rfl rfl rfl ?_
      refine dU rfl rfl rfl rfl ?_
      refine dU rfl rfl rfl rfl ?_
      refine dq (ps := [(33, pB true)]) rfl rfl rfl ?_
      refine dq (ps := [(34, pB true)]) rfl rfl rfl ?_
      refine dU rfl rfl rfl rfl ?_
      refine dU rfl rfl rfl rfl ?_
      refine dU rfl rfl rfl rfl ?_
      refine dU rfl rfl rfl rfl ?_
      refine dU rfl rfl rfl rfl ?_
      refine dU rfl rfl rfl rfl ?_
      refine dU rfl rfl rfl rfl ?_
      refine dU rfl rfl rfl rfl ?_
      refine dU rfl rfl rfl rfl ?_
      refine dU rfl rfl rfl rfl ?_
      refine dU rfl rfl rfl rfl ?_
      refine dU rfl rfl rfl rfl ?_
      refine dq (ps := [(47, pB true)]) rfl rfl rfl ?_
      refine DL_nil ⟨[([0], [4]), ([4], [5]), ([5], [6]), ([6], [7]), ([7], [8]), ([8], [9]), ([9], [10]), ([10, 0], [11]), ([10, 11], [12]), ([10, 12], [13]), ([10, 13], [14]), ([10, 14], [15]), ([10, 15], [16]), ([10, 16], [17]), ([17], [18]), ([18], [19]), ([18], [20]), ([18], [21]), ([18], [22]), ([18], [23]), ([18], [24]), ([18, 24], [25]), ([25], [26]), ([26], [27]), ([26], [28]), ([26], [29]), ([26], [30]), ([26], [31]), ([26], [32]), ([26, 32], [33]), ([33], [34]), ([34], [35]), ([34], [36]), ([34], [37]), ([34], [38]), ([34], [39]), ([34], [40]), ([34], [41]), ([34], [42]), ([34], [43]), ([34], [44]), ([34], [45]), ([34], [46]), ([34, 46], [47])], rfl, by decide +kernel, ?_⟩
      refine W_fn (l := [(0, .val false [.t (.ptr (cBitmap false a0))]), (47, pB true)]) (nC rfl (nC rfl nN)) rfl ?_
      refine W_yes ⟨ltF rfl, rfl⟩ ?_
      refine W_seq ?_
      refine W_text ?_
      refine dq (ps := [(2, pB false)]) rfl rfl rfl ?_
      refine DL_nil ?_
      refine W_ret ?_
      cases h
      exact ⟨.inr rfl, leaves_of [.tmp 2] rfl (by decide) (.tmp (ltF rfl) rfl .nil)⟩
    · replace h := ite_no hb h
      refine dq (ps := [(19, .val false [.t (.ptr (cBitmap false a0))])]) rfl rfl rfl ?_
      refine dq (ps := [(20, .val false [.t (.ptr (cBitmap false a0))])]) rfl rfl rfl ?_
      refine dq (ps := [(21, .val false [.t (.ptr [.sc (.int .i64 a0.Width), .sl false 1 (a0.Rows.map (cS false))])])]) rfl rfl rfl ?_
      refine dq (ps := [(22, pI .i64 a0.Width)]) rfl rfl rfl ?_
      obtain ⟨r_2, hr_2, h⟩ := bind_some h
      refine dCall (gn := 38) (fn := Tryd.f38) (cp := []) (lt := []) [22] (vc_sl00In n a0.Width 0 128 _ hr_2) Tryd.func38 rfl rfl rfl rfl (.inl rfl) (.inl rfl) (fun st2 h2 => ⟨rfl, args_of0 (.cons (aF (ltF rfl) ((congrArg Slot.sv (h2 22 (by decide))).trans rfl) rfl) (.cons (aC rfl) (.cons (aC rfl) .nil)))⟩) rfl ?_
      refine dq (ps := [(24, pB (!r_2))]) rfl rfl rfl ?_
      refine dq (ps := [(25, pB (!r_2))]) rfl rfl rfl ?_
      refine dq (ps := [(26, pB (!r_2))]) rfl rfl rfl ?_
      refine dS 26 rfl (fun hb => ?_) (fun hb => ?_)
      · replace h := ite_yes hb h
        refine dU rfl rfl rfl rfl ?_
        refine dU rfl rfl rfl rfl ?_
        refine dU rfl rfl rfl rfl ?_
        refine dU rfl rfl rfl rfl ?_
        refine dU rfl rfl rfl rfl ?_
        refine dU rfl rfl rfl rfl ?_
        refine dq (ps := [(33, pB true)]) rfl rfl rfl ?_
        refine dq (ps := [(34, pB true)]) rfl rfl rfl ?_
        refine dU rfl rfl rfl rfl ?_
        refine dU rfl rfl rfl rfl ?_
        refine dU rfl rfl rfl rfl ?_
        refine dU rfl rfl rfl rfl ?_
        refine dU rfl rfl rfl rfl ?_
        refine dU rfl rfl rfl rfl ?_
        refine dU rfl rfl rfl rfl ?_
        refine dU rfl rfl rfl rfl ?_
        refine dU rfl rfl rfl rfl ?_
        refine dU rfl rfl rfl rfl ?_
        refine dU rfl rfl rfl rfl ?_
        refine dU rfl rfl rfl rfl ?_
        refine dq (ps := [(47, pB true)]) rfl rfl rfl ?_
        refine DL_nil ⟨[([0], [4]), ([4], [5]), ([5], [6]), ([6], [7]), ([7], [8]), ([8], [9]), ([9], [10]), ([10, 0], [11]), ([10, 11], [12]), ([10, 12], [13]), ([10, 13], [14]), ([10, 14], [15]), ([10, 15], [16]), ([10, 16], [17]), ([17], [18]), ([18, 0], [19]), ([18, 19], [20]), ([18, 20], [21]), ([18, 21], [22]), ([18, 22], [23]), ([18, 23], [24]), ([18, 24], [25]), ([25], [26]), ([26], [27]), ([26], [28]), ([26], [29]), ([26], [30]), ([26], [31]), ([26], [32]), ([26, 32], [33]), ([33], [34]), ([34], [35]), ([34], [36]), ([34], [37]), ([34], [38]), ([34], [39]), ([34], [40]), ([34], [41]), ([34], [42]), ([34], [43]), ([34], [44]), ([34], [45]), ([34], [46]), ([34, 46], [47])], rfl, by decide +kernel, ?_⟩
        refine W_fn (l := [(0, .val false [.t (.ptr (cBitmap false a0))]), (47, pB true)]) (nC rfl (nC rfl nN)) rfl ?_
        refine W_yes ⟨ltF rfl, rfl⟩ ?_
        refine W_seq ?_
        refine W_text ?_
        refine dq (ps := [(2, pB false)]) rfl rfl rfl ?_
        refine DL_nil ?_
        refine W_ret ?_
        cases h
        exact ⟨.inr rfl, leaves_of [.tmp 2] rfl (by decide) (.tmp (ltF rfl) rfl .nil)⟩
      · replace h := ite_no hb h
        refine dq (ps := [(27, .val false [.t (.ptr (cBitmap false a0))])]) rfl rfl rfl ?_
        refine dq (ps := [(28, .val false [.t (.ptr (cBitmap false a0))])]) rfl rfl rfl ?_
        refine dq (ps := [(29, .val false [.t (.ptr [.sl false 1 (a0.Rows.map (cS false))])])]) rfl rfl rfl ?_
        refine dq (ps := [(30, .val false [.t (.sl false 1 (a0.Rows.map (cS false)))])]) rfl rfl rfl ?_
        refine dLen (t := 22) (n := (a0.Rows.length : Int)) rfl (ltF rfl) rfl rfl (lenE rfl (List.length_map ..)) rfl ?_
        refine dq (ps := [(32, pB (decide ((a0.Rows.length : Int) > 128)))]) rfl rfl rfl ?_
        refine dq (ps := [(33, pB (decide ((a0.Rows.length : Int) > 128)))]) rfl rfl rfl ?_
        refine dq (ps := [(34, pB (decide ((a0.Rows.length : Int) > 128)))]) rfl rfl rfl ?_
        refine dS 34 rfl (fun hb => ?_) (fun hb => ?_)
        · replace h := ite_yes hb h
          refine dU rfl rfl rfl rfl ?_
          refine dU rfl rfl rfl rfl ?_
          refine dU rfl rfl rfl rfl ?_
          refine dU rfl rfl rfl rfl ?_
          refine dU rfl rfl rfl rfl ?_
          refine dU rfl rfl rfl rfl ?_
          refine dU rfl rfl rfl rfl ?_
          refine dU rfl rfl rfl rfl ?_
          refine dU rfl rfl rfl rfl ?_
          refine dU rfl rfl rfl rfl ?_
          refine dU rfl rfl rfl rfl ?_
          refine dU rfl rfl rfl rfl ?_
          refine dq (ps := [(47, pB true)]) rfl rfl rfl ?_
          refine DL_nil ⟨[([0], [4]), ([4], [5]), ([5], [6]), ([6], [7]), ([7], [8]), ([8], [9]), ([9], [10]), ([10, 0], [11]), ([10, 11], [12]), ([10, 12], [13]), ([10, 13], [14]), ([10, 14], [15]), ([10, 15], [16]), ([10, 16], [17]), ([17], [18]), ([18, 0], [19]), ([18, 19], [20]), ([18, 20], [21]), ([18, 21], [22]), ([18, 22], [23]), ([18, 23], [24]), ([18, 24], [25]), ([25], [26]), ([26, 0], [27]), ([26, 27], [28]), ([26, 28], [29]), ([26, 29], [30]), ([26, 30], [31]), ([26, 31], [32]), ([26, 32], [33]), ([33], [34]), ([34], [35]), ([34], [36]), ([34], [37]), ([34], [38]), ([34], [39]), ([34], [40]), ([34], [41]), ([34], [42]), ([34], [43]), ([34], [44]), ([34], [45]), ([34], [46]), ([34, 46], [47])], rfl, by decide +kernel, ?_⟩
          refine W_fn (l := [(0, .val false [.t (.ptr (cBitmap false a0))]), (47, pB true)]) (nC rfl (nC rfl nN)) rfl ?_
          refine W_yes ⟨ltF rfl, rfl⟩ ?_
          refine W_seq ?_
          refine W_text ?_
          refine dq (ps := [(2, pB false)]) rfl rfl rfl ?_
          refine DL_nil ?_
          refine W_ret ?_
          cases h
          exact ⟨.inr rfl, leaves_of [.tmp 2] rfl (by decide) (.tmp (ltF rfl) rfl .nil)⟩
        · replace h := ite_no hb h
          refine dq (ps := [(35, .val false [.t (.ptr (cBitmap false a0))])]) rfl rfl rfl ?_
          refine dq (ps := [(36, .val false [.t (.ptr (cBitmap false a0))])]) rfl rfl rfl ?_
          refine dq (ps := [(37, .val false [.t (.ptr [.sc (.int .i64 a0.Width), .sl false 1 (a0.Rows.map (cS false))])])]) rfl rfl rfl ?_
          refine dq (ps := [(38, pI .i64 a0.Width)]) rfl rfl rfl ?_
          refine dq (ps := [(39, pB (a0.Width == 0))]) rfl rfl rfl ?_
          refine dq (ps := [(40, .val false [.t (.ptr (cBitmap false a0))])]) rfl rfl rfl ?_
          refine dq (ps := [(41, .val false [.t (.ptr (cBitmap false a0))])]) rfl rfl rfl ?_
          refine dq (ps := [(42, .val false [.t (.ptr [.sl false 1 (a0.Rows.map (cS false))])])]) rfl rfl rfl ?_
          refine dq (ps := [(43, .val false [.t (.sl false 1 (a0.Rows.map (cS false)))])]) rfl rfl rfl ?_
          refine dLen (t := 22) (n := (a0.Rows.length : Int)) rfl (ltF rfl) rfl rfl (lenE rfl (List.length_map ..)) rfl ?_
          refine dq (ps := [(45, pB ((a0.Rows.length : Int) == 0))]) rfl rfl rfl ?_
          refine dx (ps := [(46, pB ((a0.Width == 0) != ((a0.Rows.length : Int) == 0)))]) rfl rfl rfl ?_
          refine dq (ps := [(47, pB ((a0.Width == 0) != ((a0.Rows.length : Int) == 0)))]) rfl rfl rfl ?_
          refine DL_nil ⟨[([0], [4]), ([4], [5]), ([5], [6]), ([6], [7]), ([7], [8]), ([8], [9]), ([9], [10]), ([10, 0], [11]), ([10, 11], [12]), ([10, 12], [13]), ([10, 13], [14]), ([10, 14], [15]), ([10, 15], [16]), ([10, 16], [17]), ([17], [18]), ([18, 0], [19]), ([18, 19], [20]), ([18, 20], [21]), ([18, 21], [22]), ([18, 22], [23]), ([18, 23], [24]), ([18, 24], [25]), ([25], [26]), ([26, 0], [27]), ([26, 27], [28]), ([26, 28], [29]), ([26, 29], [30]), ([26, 30], [31]), ([26, 31], [32]), ([26, 32], [33]), ([33], [34]), ([34, 0], [35]), ([34, 35], [36]), ([34, 36], [37]), ([34, 37], [38]), ([34, 38], [39]), ([34, 0], [40]), ([34, 40], [41]), ([34, 41], [42]), ([34, 42], [43]), ([34, 43], [44]), ([34, 44], [45]), ([34, 39, 45], [46]), ([34, 46], [47])], rfl, by decide +kernel, ?_⟩
          refine W_fn (l := [(0, .val false [.t (.ptr (cBitmap false a0))]), (47, pB ((a0.Width == 0) != ((a0.Rows.length : Int) == 0)))]) (nC rfl (nC rfl nN)) rfl ?_
          refine W_split ⟨ltF rfl, rfl⟩ (fun hb => ?_) (fun hb => ?_)
          · replace h := ite_yes hb h
            refine W_seq ?_
            refine W_text ?_
            refine dq (ps := [(2, pB false)]) rfl rfl rfl ?_
            refine DL_nil ?_
            refine W_ret ?_
            cases h
            exact ⟨.inr rfl, leaves_of [.tmp 2] rfl (by decide) (.tmp (ltF rfl) rfl .nil)⟩
          · replace h := ite_no hb h
            refine W_skip ?_
            refine W_seq ?_
            refine W_seq ?_
            refine W_text ?_
            refine dq (ps := [(3, pI .i64 0)]) rfl rfl rfl ?_
            refine DL_nil ?_
            refine W_block ?_
            obtain ⟨o, ho, h⟩ := bind_some h
            refine sl22Ok_L0_ok ?_ ho _ (nC rfl (nC rfl nN))
            rcases o with p | ⟨j, p⟩ | r
            · skip
              dsimp only at h ⊢
              intro st hst
              refine W_fn hst rfl ?_
              refine W_seq ?_
              refine W_text ?_
              refine dq (ps := [(2, pB true)]) rfl rfl rfl ?_
              refine DL_nil ?_
              refine W_ret ?_
              cases h
              exact ⟨.inr rfl, leaves_of [.tmp 2] rfl (by decide) (.tmp (ltF rfl) rfl .nil)⟩
            · exact trivial
            · dsimp only at h ⊢
              intro st hst
              cases h
              exact ⟨.inr rfl, leaves_of [.tmp 2] rfl (by decide) (.tmp (ltF rfl) (hst.at (s := 2) rfl rfl) .nil)⟩

-- sl34Move: loop.example/g00883/spec.l34Move
def sl34Move (n : Nat) (a0 : SBitmap) (a1 : Int) (a2 : Int) : Option (SBitmap × Int) :=
  ((sl00In n a1 (-2097152) 2097152).bind fun r => (if (!r) = true then some ((SBitmap.mk 0 0 0 ([] : List ByteArray)), 2) else ((sl00In n a2 (-2097152) 2097152).bind fun r_1 => (if (!r_1) = true then some ((SBitmap.mk 0 0 0 ([] : List ByteArray)), 2) else (if (([] : List ByteArray).length + a0.Rows.length) * 16 ≤ 140737488355328 then ((sl22Ok n (SBitmap.mk (w64 (a0.Left + a1)) (w64 (a0.Bottom + a2)) a0.Width (([] : List ByteArray) ++ a0.Rows))).bind fun r_2 => (if (!r_2) = true then some ((SBitmap.mk 0 0 0 ([] : List ByteArray)), 2) else some ((SBitmap.mk (w64 (a0.Left + a1)) (w64 (a0.Bottom + a2)) a0.Width (([] : List ByteArray) ++ a0.Rows)), 0))) else none)))))

theorem vc_sl34Move (n : Nat) (a0 : SBitmap) (a1 : Int) (a2 : Int) (r : SBitmap × Int) (h : sl34Move n a0 a1 a2 = some r) : VC Tryd.prog 19 [.sh false [.ptr (cBitmap false a0)], .sh false ((cI .i64) false a1), .sh false ((cI .i64) false a2)] [(true, cBitmap true r.1), (false, (cI .i64) true r.2)] [] := by
  refine VC_of 45 Tryd.func19 rfl rfl rfl fun G0 w0 pv => ?_
  unfold sl34Move at h
  refine W_seq ?_
  refine W_text ?_
  refine dAlloc (zs := [.sc (.int .i64 0), .sc (.int .i64 0), .sc (.int .i64 0), .sl true 1 (([] : List ByteArray).map (cS true))]) rfl rfl (zeros_of _ rfl ⟨z1 rfl, z1 rfl, z1 rfl, z2, trivial⟩) rfl ?_
  refine dq (ps := [(7, pI .i64 0)]) rfl rfl rfl ?_
  refine DL_nil ?_
  refine W_seq ?_
  refine W_seq ?_
  refine W_text ?_
  refine dq (ps := [(9, pI .i64 a1)]) rfl rfl rfl ?_
  obtain ⟨r, hr, h⟩ := bind_some h
  refine dCall (gn := 38) (fn := Tryd.f38) (cp := []) (lt := []) [9] (vc_sl00In n a1 (-2097152) 2097152 _ hr) Tryd.func38 rfl rfl rfl rfl (.inl rfl) (.inl rfl) (fun st2 h2 => ⟨rfl, args_of0 (.cons (aF (ltF rfl) ((congrArg Slot.sv (h2 9 (by decide))).trans rfl) rfl) (.cons (aC rfl) (.cons (aC rfl) .nil)))⟩) rfl ?_
  refine dq (ps := [(11, pB (!r))]) rfl rfl rfl ?_
  refine dq (ps := [(12, pB (!r))]) rfl rfl rfl ?_
  refine dS 12 rfl (fun hb => ?_) (fun hb => ?_)
  · replace h := ite_yes hb h
    refine dU rfl rfl rfl rfl ?_
    refine dU rfl rfl rfl rfl ?_
    refine dU rfl rfl rfl rfl ?_
    refine dq (ps := [(16, pB true)]) rfl rfl rfl ?_
    refine DL_nil ?_
    refine W_fn (l := [(0, .val false [.t (.ptr (cBitmap false a0))]), (1, pI .i64 a1), (2, pI .i64 a2), (6, .box [.sc (.int .i64 0), .sc (.int .i64 0), .sc (.int .i64 0), .sl true 1 (([] : List ByteArray).map (cS true))]), (16, pB true)]) (nC rfl (nC rfl (nC rfl (nC rfl (nC rfl nN))))) rfl ?_
    refine W_yes ⟨ltF rfl, rfl⟩ ?_
    refine W_seq ?_
    refine W_text ?_
    refine dBuild (pls := [(0, 1), (1, 1), (2, 1), (3, 1)]) (zs := [.sc (.int .i64 0), .sc (.int .i64 0), .sc (.int .i64 0), .sl true 1 (([] : List ByteArray).map (cS true))]) (ts := [.sc (.int .i64 0), .sc (.int .i64 0), .sc (.int .i64 0), .sl true 1 (([] : List ByteArray).map (cS true))]) (qs := []) [] [] rfl rfl rfl (zeros_of _ rfl ⟨z1 rfl, z1 rfl, z1 rfl, z2, trivial⟩) (by decide) rfl (fun st2 h2 => .nil) rfl ?_
    refine dStB (ag := true) (ts := [.sc (.int .i64 0), .sc (.int .i64 0), .sc (.int .i64 0), .sl true 1 (([] : List ByteArray).map (cS true))]) (cs' := [.sc (.int .i64 0), .sc (.int .i64 0), .sc (.int .i64 0), .sl true 1 (([] : List ByteArray).map (cS true))]) [(17, 0)] [6, 17] rfl (ltF rfl) (by decide) rfl rfl rfl (by decide) rfl rfl (fun st2 h2 => .own (ltF rfl) ((congrArg Slot.sv (h2 17 (by decide))).trans rfl) rfl) rfl ?_
    refine dq (ps := [(7, pI .i64 2)]) rfl rfl rfl ?_
    refine DL_nil ?_
    refine W_ret ?_
    cases h
    exact ⟨.inr rfl, leaves_of [.cell 6 26, .tmp 7] rfl (by decide) (.cell (ltF rfl) rfl rfl rfl rfl (.tmp (ltF rfl) rfl .nil))⟩
  · replace h := ite_no hb h
    refine dq (ps := [(13, pI .i64 a2)]) rfl rfl rfl ?_
    obtain ⟨r_1, hr_1, h⟩ := bind_some h
    refine dCall (gn := 38) (fn := Tryd.f38) (cp := []) (lt := []) [13] (vc_sl00In n a2 (-2097152) 2097152 _ hr_1) Tryd.func38 rfl rfl rfl rfl (.inl rfl) (.inl rfl) (fun st2 h2 => ⟨rfl, args_of0 (.cons (aF (ltF rfl) ((congrArg Slot.sv (h2 13 (by decide))).trans rfl) rfl) (.cons (aC rfl) (.cons (aC rfl) .nil)))⟩) rfl ?_
    refine dq (ps := [(15, pB (!r_1))]) rfl rfl rfl ?_
    refine dq (ps := [(16, pB (!r_1))]) rfl rfl rfl ?_
    refine DL_nil ?_
    refine W_fn (l := [(0, .val false [.t (.ptr (cBitmap false a0))]), (1, pI .i64 a1), (2, pI .i64 a2), (6, .box [.sc (.int .i64 0), .sc (.int .i64 0), .sc (.int .i64 0), .sl true 1 (([] : List ByteArray).map (cS true))]), (16, pB (!r_1))]) (nC rfl (nC rfl (nC rfl (nC rfl (nC rfl nN))))) rfl ?_
    refine W_split ⟨ltF rfl, rfl⟩ (fun hb => ?_) (fun hb => ?_)
    · replace h := ite_yes hb h
      refine W_seq ?_
      refine W_text ?_
      refine dBuild (pls := [(0, 1), (1, 1), (2, 1), (3, 1)]) (zs := [.sc (.int .i64 0), .sc (.int .i64 0), .sc (.int .i64 0), .sl true 1 (([] : List ByteArray).map (cS true))]) (ts := [.sc (.int .i64 0), .sc (.int .i64 0), .sc (.int .i64 0), .sl true 1 (([] : List ByteArray).map (cS true))]) (qs := []) [] [] rfl rfl rfl (zeros_of _ rfl ⟨z1 rfl, z1 rfl, z1 rfl, z2, trivial⟩) (by decide) rfl (fun st2 h2 => .nil) rfl ?_
      refine dStB (ag := true) (ts := [.sc (.int .i64 0), .sc (.int .i64 0), .sc (.int .i64 0), .sl true 1 (([] : List ByteArray).map (cS true))]) (cs' := [.sc (.int .i64 0), .sc (.int .i64 0), .sc (.int .i64 0), .sl true 1 (([] : List ByteArray).map (cS true))]) [(17, 0)] [6, 17] rfl (ltF rfl) (by decide) rfl rfl rfl (by decide) rfl rfl (fun st2 h2 => .own (ltF rfl) ((congrArg Slot.sv (h2 17 (by decide))).trans rfl) rfl) rfl ?_
      refine dq (ps := [(7, pI .i64 2)]) rfl rfl rfl ?_
      refine DL_nil ?_
      refine W_ret ?_
      cases h
      exact ⟨.inr rfl, leaves_of [.cell 6 26, .tmp 7] rfl (by decide) (.cell (ltF rfl) rfl rfl rfl rfl (.tmp (ltF rfl) rfl .nil))⟩
    · replace h := ite_no hb h
      refine W_skip ?_
      refine W_seq ?_
      refine W_drawn rfl ?_
      refine dq (R' := [0]) (ps := [(18, .val false [.t (.ptr (cBitmap false a0))])]) rfl rfl rfl ?_
      refine dq (R' := [18]) (ps := [(19, .val false [.t (.ptr (cBitmap false a0))])]) rfl rfl rfl ?_
      refine dq (R' := [19]) (ps := [(20, .val false [.t (.ptr (cBitmap false a0))])]) rfl rfl rfl ?_
      refine dq (R' := [20]) (ps := [(21, pI .i64 a0.Left)]) rfl rfl rfl ?_
      refine dq (R' := [1]) (ps := [(22, pI .i64 a1)]) rfl rfl rfl ?_
      refine dq (R' := [21, 22]) (ps := [(23, pI .i64 (w64 (a0.Left + a1)))]) rfl rfl rfl ?_
      refine dq (R' := [0]) (ps := [(24, .val false [.t (.ptr (cBitmap false a0))])]) rfl rfl rfl ?_
      refine dq (R' := [24]) (ps := [(25, .val false [.t (.ptr (cBitmap false a0))])]) rfl rfl rfl ?_
      refine dq (R' := [25]) (ps := [(26, .val false [.t (.ptr [.sc (.int .i64 a0.Bottom), .sc (.int .i64 a0.Width), .sl false 1 (a0.Rows.map (cS false))])])]) rfl rfl rfl ?_
      refine dq (R' := [26]) (ps := [(27, pI .i64 a0.Bottom)]) rfl rfl rfl ?_
      refine dq (R' := [2]) (ps := [(28, pI .i64 a2)]) rfl rfl rfl ?_
      refine dq (R' := [27, 28]) (ps := [(29, pI .i64 (w64 (a0.Bottom + a2)))]) rfl rfl rfl ?_
      refine dq (R' := [0]) (ps := [(30, .val false [.t (.ptr (cBitmap false a0))])]) rfl rfl rfl ?_
      refine dq (R' := [30]) (ps := [(31, .val false [.t (.ptr (cBitmap false a0))])]) rfl rfl rfl ?_
      refine dq (R' := [31]) (ps := [(32, .val false [.t (.ptr [.sc (.int .i64 a0.Width), .sl false 1 (a0.Rows.map (cS false))])])]) rfl rfl rfl ?_
      refine dq (R' := [32]) (ps := [(33, pI .i64 a0.Width)]) rfl rfl rfl ?_
      refine dBS (zs := [.sc (.string (ByteArray.mk #[]))]) (ts := []) (els := (([] : List ByteArray).map (cS true))) (qs := []) [] rfl rfl rfl (zeros_of _ rfl ⟨z1 rfl, trivial⟩) rfl rfl rfl rfl rfl (fun st2 h2 => .nil) rfl ?_
      refine dq (R' := [0]) (ps := [(35, .val false [.t (.ptr (cBitmap false a0))])]) rfl rfl rfl ?_
      refine dq (R' := [35]) (ps := [(36, .val false [.t (.ptr (cBitmap false a0))])]) rfl rfl rfl ?_
      refine dq (R' := [36]) (ps := [(37, .val false [.t (.ptr [.sl false 1 (a0.Rows.map (cS false))])])]) rfl rfl rfl ?_
      refine dq (R' := [37]) (ps := [(38, .val false [.t (.sl false 1 (a0.Rows.map (cS false)))])]) rfl rfl rfl ?_
      obtain ⟨hp, h⟩ := ite_some h
      refine dApp (sy := none) (els' := ((([] : List ByteArray) ++ a0.Rows).map (cS true))) (zs := [.sc (.string (ByteArray.mk #[]))]) (svg := .val false [.t (.gone)]) [34, 38] rfl rfl (ltF rfl) rfl rfl (by decide) (fun st2 h2 => .shd ⟨ltF rfl, (congrArg Slot.sv (h2 38 (by decide))).trans rfl⟩) (by decide) rfl rfl rfl (zeros_of _ rfl ⟨z1 rfl, trivial⟩) rfl rfl rfl rfl (here_map (fun _ => rfl) _) (lenMul (List.length_map ..) (List.length_map ..) hp) (app_map (fun _ => rfl) _ _) (fun st2 h => by unfold St.setAt; rw [h]; rfl) rfl ?_
      refine dBuild (pls := [(0, 1), (1, 1), (2, 1), (3, 1)]) (zs := [.sc (.int .i64 0), .sc (.int .i64 0), .sc (.int .i64 0), .sl true 1 (([] : List ByteArray).map (cS true))]) (ts := [.sc (.int .i64 (w64 (a0.Left + a1))), .sc (.int .i64 (w64 (a0.Bottom + a2))), .sc (.int .i64 a0.Width), .sl true 1 ((([] : List ByteArray) ++ a0.Rows).map (cS true))]) (qs := [(0, [.sc (.int .i64 (w64 (a0.Left + a1)))]), (1, [.sc (.int .i64 (w64 (a0.Bottom + a2)))]), (2, [.sc (.int .i64 a0.Width)]), (3, [.sl true 1 ((([] : List ByteArray) ++ a0.Rows).map (cS true))])]) [(39, 3)] [23, 29, 33, 39] rfl rfl rfl (zeros_of _ rfl ⟨z1 rfl, z1 rfl, z1 rfl, z2, trivial⟩) (by decide) rfl (fun st2 h2 => (.cons rfl (.free (⟨ltF rfl, (congrArg Slot.sv (h2 23 (by decide))).trans rfl⟩) rfl) rfl (.cons rfl (.free (⟨ltF rfl, (congrArg Slot.sv (h2 29 (by decide))).trans rfl⟩) rfl) rfl (.cons rfl (.free (⟨ltF rfl, (congrArg Slot.sv (h2 33 (by decide))).trans rfl⟩) rfl) rfl (.cons rfl (.own (ltF rfl) ((congrArg Slot.sv (h2 39 (by decide))).trans rfl) rfl) rfl .nil))))) rfl ?_
      refine dAlloc (zs := [.sc (.int .i64 0), .sc (.int .i64 0), .sc (.int .i64 0), .sl true 1 (([] : List ByteArray).map (cS true))]) rfl rfl (zeros_of _ rfl ⟨z1 rfl, z1 rfl, z1 rfl, z2, trivial⟩) rfl ?_
      refine dStB (ag := true) (ts := [.sc (.int .i64 (w64 (a0.Left + a1))), .sc (.int .i64 (w64 (a0.Bottom + a2))), .sc (.int .i64 a0.Width), .sl true 1 ((([] : List ByteArray) ++ a0.Rows).map (cS true))]) (cs' := [.sc (.int .i64 (w64 (a0.Left + a1))), .sc (.int .i64 (w64 (a0.Bottom + a2))), .sc (.int .i64 a0.Width), .sl true 1 ((([] : List ByteArray) ++ a0.Rows).map (cS true))]) [(40, 0)] [8, 40] rfl (ltF rfl) (by decide) rfl rfl rfl (by decide) rfl rfl (fun st2 h2 => .own (ltF rfl) ((congrArg Slot.sv (h2 40 (by decide))).trans rfl) rfl) rfl ?_
      refine DL_nil ⟨[([0], [18]), ([18], [19]), ([19], [20]), ([20], [21]), ([1], [22]), ([21, 22], [23]), ([0], [24]), ([24], [25]), ([25], [26]), ([26], [27]), ([2], [28]), ([27, 28], [29]), ([0], [30]), ([30], [31]), ([31], [32]), ([32], [33]), ([], [34]), ([0], [35]), ([35], [36]), ([36], [37]), ([37], [38]), ([34, 38], [34, 39]), ([23, 29, 33, 39], [39, 40]), ([], [8]), ([8, 40], [40, 8])], rfl, by decide +kernel, ?_⟩
      refine W_fn (l := [(6, .box [.sc (.int .i64 0), .sc (.int .i64 0), .sc (.int .i64 0), .sl true 1 (([] : List ByteArray).map (cS true))]), (8, .box [.sc (.int .i64 (w64 (a0.Left + a1))), .sc (.int .i64 (w64 (a0.Bottom + a2))), .sc (.int .i64 a0.Width), .sl true 1 ((([] : List ByteArray) ++ a0.Rows).map (cS true))])]) (nC rfl (nC rfl nN)) rfl ?_
      refine W_seq ?_
      refine W_seq ?_
      refine W_text ?_
      obtain ⟨r_2, hr_2, h⟩ := bind_some h
      refine dCall (gn := 18) (fn := Tryd.f18) (cp := []) (lt := [(8, [])]) [8] (vc_sl22Ok n (SBitmap.mk (w64 (a0.Left + a1)) (w64 (a0.Bottom + a2)) a0.Width (([] : List ByteArray) ++ a0.Rows)) _ hr_2) Tryd.func18 rfl rfl rfl rfl (.inr ⟨(rC (eC rfl eN) rN), rfl⟩) (.inl rfl) (fun st2 h2 => ⟨rfl, args_of0 (.cons (aB (n := 4) (ltF rfl) ((congrArg Slot.sv (h2 8 (by decide))).trans rfl) rfl (wC rfl (wC rfl (wC rfl (wC (wS (wholes_map (fun _ => (wC rfl wN)) _)) wN)))) (sC rfl (sC rfl (sC rfl (sC (sS (shrs_map (fun _ => (sC rfl sN)) _)) sN)))) (by decide)) .nil)⟩) rfl ?_
      refine dq (ps := [(42, pB (!r_2))]) rfl rfl rfl ?_
      refine DL_nil ?_
      refine W_split ⟨ltF rfl, rfl⟩ (fun hb => ?_) (fun hb => ?_)
      · replace h := ite_yes hb h
        refine W_seq ?_
        refine W_text ?_
        refine dBuild (pls := [(0, 1), (1, 1), (2, 1), (3, 1)]) (zs := [.sc (.int .i64 0), .sc (.int .i64 0), .sc (.int .i64 0), .sl true 1 (([] : List ByteArray).map (cS true))]) (ts := [.sc (.int .i64 0), .sc (.int .i64 0), .sc (.int .i64 0), .sl true 1 (([] : List ByteArray).map (cS true))]) (qs := []) [] [] rfl rfl rfl (zeros_of _ rfl ⟨z1 rfl, z1 rfl, z1 rfl, z2, trivial⟩) (by decide) rfl (fun st2 h2 => .nil) rfl ?_
        refine dStB (ag := true) (ts := [.sc (.int .i64 0), .sc (.int .i64 0), .sc (.int .i64 0), .sl true 1 (([] : List ByteArray).map (cS true))]) (cs' := [.sc (.int .i64 0), .sc (.int .i64 0), .sc (.int .i64 0), .sl true 1 (([] : List ByteArray).map (cS true))]) [(43, 0)] [6, 43] rfl (ltF rfl) (by decide) rfl rfl rfl (by decide) rfl rfl (fun st2 h2 => .own (ltF rfl) ((congrArg Slot.sv (h2 43 (by decide))).trans rfl) rfl) rfl ?_
        refine dq (ps := [(7, pI .i64 2)]) rfl rfl rfl ?_
        refine DL_nil ?_
        refine W_ret ?_
        cases h
        exact ⟨.inr rfl, leaves_of [.cell 6 26, .tmp 7] rfl (by decide) (.cell (ltF rfl) rfl rfl rfl rfl (.tmp (ltF rfl) rfl .nil))⟩
      · replace h := ite_no hb h
        refine W_skip ?_
        refine W_seq ?_
        refine W_text ?_
        refine dLdT (ag := true) (ts := [.sc (.int .i64 (w64 (a0.Left + a1))), .sc (.int .i64 (w64 (a0.Bottom + a2))), .sc (.int .i64 a0.Width), .sl true 1 ((([] : List ByteArray) ++ a0.Rows).map (cS true))]) rfl rfl rfl (ltF rfl) rfl rfl rfl rfl rfl rfl rfl rfl ?_
        refine dStB (ag := true) (ts := [.sc (.int .i64 (w64 (a0.Left + a1))), .sc (.int .i64 (w64 (a0.Bottom + a2))), .sc (.int .i64 a0.Width), .sl true 1 ((([] : List ByteArray) ++ a0.Rows).map (cS true))]) (cs' := [.sc (.int .i64 (w64 (a0.Left + a1))), .sc (.int .i64 (w64 (a0.Bottom + a2))), .sc (.int .i64 a0.Width), .sl true 1 ((([] : List ByteArray) ++ a0.Rows).map (cS true))]) [(44, 0)] [6, 44] rfl (ltF rfl) (by decide) rfl rfl rfl (by decide) rfl rfl (fun st2 h2 => .own (ltF rfl) ((congrArg Slot.sv (h2 44 (by decide))).trans rfl) rfl) rfl ?_
        refine dq (ps := [(7, pI .i64 0)]) rfl rfl rfl ?_
        refine DL_nil ?_
        refine W_ret ?_
        cases h
        exact ⟨.inr rfl, leaves_of [.cell 6 26, .tmp 7] rfl (by decide) (.cell (ltF rfl) rfl rfl rfl rfl (.tmp (ltF rfl) rfl .nil))⟩

-- sMoveBitmap: loop.example/g00883/spec.MoveBitmap
def sMoveBitmap (n : Nat) (a0 : SBitmap) (a1 : Int) (a2 : Int) : Option (SBitmap × Int) :=
  ((sl22Ok n a0).bind fun r => (if (!r) = true then some ((SBitmap.mk 0 0 0 ([] : List ByteArray)), 1) else ((sl34Move n a0 a1 a2).bind fun r_1 => some (r_1.1, r_1.2))))

theorem vc_sMoveBitmap (n : Nat) (a0 : SBitmap) (a1 : Int) (a2 : Int) (r : SBitmap × Int) (h : sMoveBitmap n a0 a1 a2 = some r) : VC Tryd.prog 7 [.sh true (cBitmap false a0), .sh false ((cI .i64) false a1), .sh false ((cI .i64) false a2)] [(true, cBitmap true r.1), (false, (cI .i64) true r.2)] [] := by
  refine VC_of 16 Tryd.func7 rfl rfl rfl fun G0 w0 pv => ?_
  unfold sMoveBitmap at h
  refine W_seq ?_
  refine W_text ?_
  refine dBox (ts := (cBitmap false a0)) rfl rfl rfl rfl rfl ?_
  refine dAlloc (zs := [.sc (.int .i64 0), .sc (.int .i64 0), .sc (.int .i64 0), .sl true 1 (([] : List ByteArray).map (cS true))]) rfl rfl (zeros_of _ rfl ⟨z1 rfl, z1 rfl, z1 rfl, z2, trivial⟩) rfl ?_
  refine dq (ps := [(7, pI .i64 0)]) rfl rfl rfl ?_
  refine DL_nil ?_
  refine W_seq ?_
  refine W_seq ?_
  refine W_text ?_
  obtain ⟨r, hr, h⟩ := bind_some h
  refine dCall (gn := 18) (fn := Tryd.f18) (cp := []) (lt := [(3, [])]) [3] (vc_sl22Ok n a0 _ hr) Tryd.func18 rfl rfl rfl rfl (.inr ⟨(rC (eC rfl eN) rN), rfl⟩) (.inl rfl) (fun st2 h2 => ⟨rfl, args_of0 (.cons (aB (n := 4) (ltF rfl) ((congrArg Slot.sv (h2 3 (by decide))).trans rfl) rfl (wC rfl (wC rfl (wC rfl (wC (wS (wholes_map (fun _ => (wC rfl wN)) _)) wN)))) (sC rfl (sC rfl (sC rfl (sC (sS (shrs_map (fun _ => (sC rfl sN)) _)) sN)))) (by decide)) .nil)⟩) rfl ?_
  refine dq (ps := [(9, pB (!r))]) rfl rfl rfl ?_
  refine DL_nil ?_
  refine W_split ⟨ltF rfl, rfl⟩ (fun hb => ?_) (fun hb => ?_)
  · replace h := ite_yes hb h
    refine W_seq ?_
    refine W_text ?_
    refine dBuild (pls := [(0, 1), (1, 1), (2, 1), (3, 1)]) (zs := [.sc (.int .i64 0), .sc (.int .i64 0), .sc (.int .i64 0), .sl true 1 (([] : List ByteArray).map (cS true))]) (ts := [.sc (.int .i64 0), .sc (.int .i64 0), .sc (.int .i64 0), .sl true 1 (([] : List ByteArray).map (cS true))]) (qs := []) [] [] rfl rfl rfl (zeros_of _ rfl ⟨z1 rfl, z1 rfl, z1 rfl, z2, trivial⟩) (by decide) rfl (fun st2 h2 => .nil) rfl ?_
    refine dStB (ag := true) (ts := [.sc (.int .i64 0), .sc (.int .i64 0), .sc (.int .i64 0), .sl true 1 (([] : List ByteArray).map (cS true))]) (cs' := [.sc (.int .i64 0), .sc (.int .i64 0), .sc (.int .i64 0), .sl true 1 (([] : List ByteArray).map (cS true))]) [(10, 0)] [6, 10] rfl (ltF rfl) (by decide) rfl rfl rfl (by decide) rfl rfl (fun st2 h2 => .own (ltF rfl) ((congrArg Slot.sv (h2 10 (by decide))).trans rfl) rfl) rfl ?_
    refine dq (ps := [(7, pI .i64 1)]) rfl rfl rfl ?_
    refine DL_nil ?_
    refine W_ret ?_
    cases h
    exact ⟨.inr rfl, leaves_of [.cell 6 26, .tmp 7] rfl (by decide) (.cell (ltF rfl) rfl rfl rfl rfl (.tmp (ltF rfl) rfl .nil))⟩
  · replace h := ite_no hb h
    refine W_skip ?_
    refine W_seq ?_
    refine W_text ?_
    refine dq (ps := [(11, pI .i64 a1)]) rfl rfl rfl ?_
    refine dq (ps := [(12, pI .i64 a2)]) rfl rfl rfl ?_
    obtain ⟨r_1, hr_1, h⟩ := bind_some h
    refine dCall (gn := 19) (fn := Tryd.f19) (cp := []) (lt := [(3, [])]) [3, 11, 12] (vc_sl34Move n a0 a1 a2 _ hr_1) Tryd.func19 rfl rfl rfl rfl (.inr ⟨(rC (eC rfl (eC rfl (eC rfl (eC (eS (deeps_map (fun _ => (eC rfl eN)) _)) eN)))) (rC (eC rfl eN) rN)), rfl⟩) (.inl rfl) (fun st2 h2 => ⟨rfl, args_of0 (.cons (aB (n := 4) (ltF rfl) ((congrArg Slot.sv (h2 3 (by decide))).trans rfl) rfl (wC rfl (wC rfl (wC rfl (wC (wS (wholes_map (fun _ => (wC rfl wN)) _)) wN)))) (sC rfl (sC rfl (sC rfl (sC (sS (shrs_map (fun _ => (sC rfl sN)) _)) sN)))) (by decide)) (.cons (aF (ltF rfl) ((congrArg Slot.sv (h2 11 (by decide))).trans rfl) rfl) (.cons (aF (ltF rfl) ((congrArg Slot.sv (h2 12 (by decide))).trans rfl) rfl) .nil)))⟩) rfl ?_
    refine dExtOwn (ag := true) (ts := (cBitmap true r_1.1)) rfl rfl rfl (ltF rfl) rfl rfl rfl rfl ?_
    refine dExt (ag := false) (ts := [.sc (.int .i64 r_1.2)]) rfl rfl (ltF rfl) rfl rfl rfl rfl ?_
    refine dStB (ag := true) (ts := [.sc (.int .i64 r_1.1.Left), .sc (.int .i64 r_1.1.Bottom), .sc (.int .i64 r_1.1.Width), .sl true 1 (r_1.1.Rows.map (cS true))]) (cs' := (cBitmap true r_1.1)) [(14, 0)] [6, 14] rfl (ltF rfl) (by decide) rfl rfl rfl (by decide) rfl rfl (fun st2 h2 => .own (ltF rfl) ((congrArg Slot.sv (h2 14 (by decide))).trans rfl) rfl) rfl ?_
    refine dq (ps := [(7, pI .i64 r_1.2)]) rfl rfl rfl ?_
    refine DL_nil ?_
    refine W_fn (l := [(6, .box (cBitmap true r_1.1)), (7, pI .i64 r_1.2)]) (nC rfl (nC rfl nN)) rfl ?_
    refine W_ret ?_
    cases h
    exact ⟨.inr rfl, leaves_of [.cell 6 26, .tmp 7] rfl (by decide) (.cell (ltF rfl) rfl rfl rfl rfl (.tmp (ltF rfl) rfl .nil))⟩

-- strings.Trim at a cutset of ASCII bytes, from the kit
def strings_Trim (n : Nat) (a0 a1 : ByteArray) : Option ByteArray := trimF a0 a1
theorem vc_strings_Trim (n : Nat) (a0 a1 r : ByteArray) (h : strings_Trim n a0 a1 = some r) : VC Tryd.prog 42 [.sh false (cS false a0), .sh false (cS false a1)] [(false, cS true r)] [] := by
  unfold strings_Trim trimF at h
  obtain ⟨⟨h1, h2⟩, h3⟩ := ite_some h
  clear h
  subst h2
  cases h3
  exact str2_bridge fun w => Any.strings_Trim_laid Tryd.lays160 (by kernel_rfl) a0 _ w h1 (by decide) (ascii_of_all (by decide))

-- iValidBitmap_1: loop.example/g00883/impl.ValidBitmap$1
def iValidBitmap_1 (n : Nat) (a0 : ByteArray) (b1 : SBitmap) : Option (Bool) :=
  (if ((a0.size : Int) != b1.Width) = true then some true else ((strings_Trim n a0 (ByteArray.mk #[35, 46])).bind fun r => some (!(sEq r (ByteArray.mk #[])))))

theorem vc_iValidBitmap_1 (n : Nat) (a0 : ByteArray) (b1 : SBitmap) (r : Bool) (h : iValidBitmap_1 n a0 b1 = some r) : VC Tryd.prog 41 [.sh false (cS false a0), .sh false [.ptr (cBitmap false b1)]] [(false, cB true r)] [] := by
  refine VC_of 14 Tryd.func41 rfl rfl rfl fun G0 w0 pv => ?_
  unfold iValidBitmap_1 at h
  refine W_seq ?_
  refine W_text ?_
  refine dq (ps := [(3, pB false)]) rfl rfl rfl ?_
  refine DL_nil ?_
  refine W_seq ?_
  refine W_text ?_
  refine dq (ps := [(4, pS a0)]) rfl rfl rfl ?_
  refine dLen (t := 9) (n := (a0.size : Int)) rfl (ltF rfl) rfl rfl rfl rfl ?_
  refine dq (ps := [(6, .val false [.t (.ptr [.sc (.int .i64 b1.Width), .sl false 1 (b1.Rows.map (cS false))])])]) rfl rfl rfl ?_
  refine dq (ps := [(7, pI .i64 b1.Width)]) rfl rfl rfl ?_
  refine dq (ps := [(8, pB ((a0.size : Int) != b1.Width))]) rfl rfl rfl ?_
  refine dq (ps := [(9, pB ((a0.size : Int) != b1.Width))]) rfl rfl rfl ?_
  refine dS 9 rfl (fun hb => ?_) (fun hb => ?_)
  · replace h := ite_yes hb h
    refine dU rfl rfl rfl rfl ?_
    refine dU rfl rfl rfl rfl ?_
    refine dU rfl rfl rfl rfl ?_
    refine dq (ps := [(13, pB true)]) rfl rfl rfl ?_
    refine dq (ps := [(3, pB true)]) rfl rfl rfl ?_
    refine DL_nil ?_
    refine W_fn (l := [(3, pB true)]) (nC rfl nN) rfl ?_
    refine W_ret ?_
    cases h
    exact ⟨.inr rfl, leaves_of [.tmp 3] rfl (by decide) (.tmp (ltF rfl) rfl .nil)⟩
  · replace h := ite_no hb h
    refine dq (ps := [(10, pS a0)]) rfl rfl rfl ?_
    obtain ⟨r, hr, h⟩ := bind_some h
    refine dCall (gn := 42) (fn := Tryd.f42) (cp := []) (lt := []) [10] (vc_strings_Trim n a0 (ByteArray.mk #[35, 46]) _ hr) Tryd.func42 rfl rfl rfl rfl (.inl rfl) (.inl rfl) (fun st2 h2 => ⟨rfl, args_of0 (.cons (aF (ltF rfl) ((congrArg Slot.sv (h2 10 (by decide))).trans rfl) rfl) (.cons (aC rfl) .nil))⟩) rfl ?_
    refine dq (ps := [(12, pB (!(sEq r (ByteArray.mk #[]))))]) rfl rfl rfl ?_
    refine dq (ps := [(13, pB (!(sEq r (ByteArray.mk #[]))))]) rfl rfl rfl ?_
    refine dq (ps := [(3, pB (!(sEq r (ByteArray.mk #[]))))]) rfl rfl rfl ?_
    refine DL_nil ?_
    refine W_fn (l := [(3, pB (!(sEq r (ByteArray.mk #[]))))]) (nC rfl nN) rfl ?_
    refine W_ret ?_
    cases h
    exact ⟨.inr rfl, leaves_of [.tmp 3] rfl (by decide) (.tmp (ltF rfl) rfl .nil)⟩

-- slices_IndexFunc_string_iValidBitmap_1: slices.IndexFunc[[]string,string]
def slices_IndexFunc_string_iValidBitmap_1_L0 : Nat → (List ByteArray) → SBitmap → Int → Int → Option (Out (Unit) (Int))
  | 0, _, _, _, _ => none
  | n + 1, a0, b1_0, v7, v8 => (if (decide (v8 < v7)) = true then ((getI a0 v8).bind fun x => ((iValidBitmap_1 n x b1_0).bind fun r => (if (r) = true then some (.ret v8) else slices_IndexFunc_string_iValidBitmap_1_L0 n a0 b1_0 v7 (w64 (v8 + 1))))) else some (.go ()))

theorem slices_IndexFunc_string_iValidBitmap_1_L0_ok {G0 : Nat → Own} {w0 : World} {Q : Exit → St → Prop} {a0 : List ByteArray} {b1_0 : SBitmap} {out : (Out (Unit) (Int))}
    (hQ : match out with | .go _ => ∀ st, FN st [] → Q (.exit 0) st | .brk _ _ => True | .ret r => ∀ st, Fits st [(4, .val false (((cI .i64) true r).map .t))] → Q .ret st)
    {n : Nat} {v7 : Int} {v8 : Int} (h : slices_IndexFunc_string_iValidBitmap_1_L0 n a0 b1_0 v7 v8 = some out) :
    ∀ st, FN st [(0, .val false [.t (.sl false 1 (a0.map (cS false)))]), (1, .val false [.t (.fn 41 [.ptr (cBitmap false b1_0)])]), (7, pI .i64 v7), (8, pI .i64 v8)] → W ⟨Tryd.prog, 19, [], G0, w0⟩ (.loop (bodyAt Tryd.f51 [1, 0, 1, 0, 0])) st Q := by
  intro st hst
  refine W_loop (fun n st => ∃ v7 v8, slices_IndexFunc_string_iValidBitmap_1_L0 n a0 b1_0 v7 v8 = some out ∧ FN st [(0, .val false [.t (.sl false 1 (a0.map (cS false)))]), (1, .val false [.t (.fn 41 [.ptr (cBitmap false b1_0)])]), (7, pI .i64 v7), (8, pI .i64 v8)]) ?_ (n := n) ⟨v7, v8, h, hst⟩
  clear h hst st n v7 v8
  rintro n st ⟨v7, v8, h, hst⟩
  refine W_fn hst rfl ?_
  cases n with
  | zero => cases h
  | succ n =>
    rw [slices_IndexFunc_string_iValidBitmap_1_L0] at h
    refine W_seq ?_
    refine W_text ?_
    refine dq (ps := [(9, pB (decide (v8 < v7)))]) rfl rfl rfl ?_
    refine DL_nil ?_
    refine W_seq ?_
    refine W_split ⟨ltF rfl, rfl⟩ (fun hb => ?_) (fun hb => ?_)
    · replace h := ite_yes hb h
      refine W_skip ?_
      refine W_seq ?_
      refine W_block ?_
      refine W_seq ?_
      refine W_text ?_
      refine dq (ps := [(10, pI .i64 v8)]) rfl rfl rfl ?_
      refine dq (ps := [(5, pI .i64 v8)]) rfl rfl rfl ?_
      refine DL_nil ?_
      refine W_seq ?_
      refine W_text ?_
      refine dq (ps := [(11, .val false [.t (.fn 41 [.ptr (cBitmap false b1_0)])])]) rfl rfl rfl ?_
      refine dq (ps := [(12, .val false [.t (.sl false 1 (a0.map (cS false)))])]) rfl rfl rfl ?_
      refine dq (ps := [(13, pI .i64 v8)]) rfl rfl rfl ?_
      obtain ⟨x, hx, h⟩ := bind_some h
      refine dIxA rfl rfl rfl rfl rfl (getI_map (cS false) hx) rfl ?_
      refine dq (ps := [(15, pS x)]) rfl rfl rfl ?_
      obtain ⟨r, hr, h⟩ := bind_some h
      refine dCall (gn := 41) (fn := Tryd.f41) (cp := [.ptr (cBitmap false b1_0)]) (lt := []) [15, 11] (vc_iValidBitmap_1 n x b1_0 _ hr) Tryd.func41 rfl rfl rfl rfl (.inl rfl) (.inl rfl) (fun st2 h2 => ⟨⟨ltF rfl, (congrArg Slot.sv (h2 11 (by decide))).trans rfl⟩, args_of (cp := [.ptr (cBitmap false b1_0)]) (.cons (aF (ltF rfl) ((congrArg Slot.sv (h2 15 (by decide))).trans rfl) rfl) .nil)⟩) rfl ?_
      refine DL_nil ?_
      refine W_fn (l := [(0, .val false [.t (.sl false 1 (a0.map (cS false)))]), (1, .val false [.t (.fn 41 [.ptr (cBitmap false b1_0)])]), (5, pI .i64 v8), (7, pI .i64 v7), (8, pI .i64 v8), (16, pB r)]) (nC rfl (nC rfl (nC rfl (nC rfl (nC rfl (nC rfl nN)))))) rfl ?_
      refine W_split ⟨ltF rfl, rfl⟩ (fun hb => ?_) (fun hb => ?_)
      · replace h := ite_yes hb h
        refine W_seq ?_
        refine W_text ?_
        refine dq (ps := [(17, pI .i64 v8)]) rfl rfl rfl ?_
        refine dq (ps := [(4, pI .i64 v8)]) rfl rfl rfl ?_
        refine DL_nil ?_
        refine W_ret ?_
        cases h
        exact hQ _ (fC rfl rfl fN)
      · replace h := ite_no hb h
        refine W_skip ?_
        refine W_text ?_
        refine dq (ps := [(18, pI .i64 (w64 (v8 + 1)))]) rfl rfl rfl ?_
        refine dq (ps := [(8, pI .i64 (w64 (v8 + 1)))]) rfl rfl rfl ?_
        refine DL_nil ?_
        exact ⟨n, Nat.lt_succ_self n, _, _,  h, (nC rfl (nC rfl (nC rfl (nC rfl nN))))⟩
    · replace h := ite_no hb h
      refine W_exit ?_
      cases h
      exact hQ _ nN

def slices_IndexFunc_string_iValidBitmap_1 (n : Nat) (a0 : List ByteArray) (b1_0 : SBitmap) : Option (Int) :=
  ((slices_IndexFunc_string_iValidBitmap_1_L0 n a0 b1_0 (a0.length : Int) 0).bind fun o => (match o with | .go _ => some (-1) | .brk _ _ => none | .ret r => some r))

theorem vc_slices_IndexFunc_string_iValidBitmap_1 (n : Nat) (a0 : List ByteArray) (b1_0 : SBitmap) (r : Int) (h : slices_IndexFunc_string_iValidBitmap_1 n a0 b1_0 = some r) : VC Tryd.prog 51 [.sh false (cLStr false a0), .sh false [.fn 41 [.ptr (cBitmap false b1_0)]]] [(false, (cI .i64) true r)] [] := by
  refine VC_of 19 Tryd.func51 rfl rfl rfl fun G0 w0 pv => ?_
  unfold slices_IndexFunc_string_iValidBitmap_1 at h
  refine W_seq ?_
  refine W_text ?_
  refine dq (ps := [(4, pI .i64 0)]) rfl rfl rfl ?_
  refine DL_nil ?_
  refine W_seq ?_
  refine W_seq ?_
  refine W_text ?_
  refine dq (ps := [(6, .val false [.t (.sl false 1 (a0.map (cS false)))])]) rfl rfl rfl ?_
  refine dLen (t := 22) (n := (a0.length : Int)) rfl (ltF rfl) rfl rfl (lenE rfl (List.length_map ..)) rfl ?_
  refine dq (ps := [(8, pI .i64 0)]) rfl rfl rfl ?_
  refine DL_nil ?_
  refine W_block ?_
  obtain ⟨o, ho, h⟩ := bind_some h
  refine slices_IndexFunc_string_iValidBitmap_1_L0_ok ?_ ho _ (nC rfl (nC rfl (nC rfl (nC rfl nN))))
  rcases o with p | ⟨j, p⟩ | r
  · skip
    dsimp only at h ⊢
    intro st hst
    refine W_fn hst rfl ?_
    refine W_seq ?_
    refine W_text ?_
    refine dq (ps := [(4, pI .i64 (-1))]) rfl rfl rfl ?_
    refine DL_nil ?_
    refine W_ret ?_
    cases h
    exact ⟨.inr rfl, leaves_of [.tmp 4] rfl (by decide) (.tmp (ltF rfl) rfl .nil)⟩
  · exact trivial
  · dsimp only at h ⊢
    intro st hst
    cases h
    exact ⟨.inr rfl, leaves_of [.tmp 4] rfl (by decide) (.tmp (ltF rfl) (hst.at (s := 4) rfl rfl) .nil)⟩

-- slices_ContainsFunc_string_iValidBitmap_1: slices.ContainsFunc[[]string,string]
def slices_ContainsFunc_string_iValidBitmap_1 (n : Nat) (a0 : List ByteArray) (b1_0 : SBitmap) : Option (Bool) :=
  ((slices_IndexFunc_string_iValidBitmap_1 n a0 b1_0).bind fun r => some (decide (r ≥ 0)))

theorem vc_slices_ContainsFunc_string_iValidBitmap_1 (n : Nat) (a0 : List ByteArray) (b1_0 : SBitmap) (r : Bool) (h : slices_ContainsFunc_string_iValidBitmap_1 n a0 b1_0 = some r) : VC Tryd.prog 40 [.sh false (cLStr false a0), .sh false [.fn 41 [.ptr (cBitmap false b1_0)]]] [(false, cB true r)] [] := by
  refine VC_of 9 Tryd.func40 rfl rfl rfl fun G0 w0 pv => ?_
  unfold slices_ContainsFunc_string_iValidBitmap_1 at h
  refine W_seq ?_
  refine W_text ?_
  refine dq (ps := [(4, pB false)]) rfl rfl rfl ?_
  refine DL_nil ?_
  refine W_seq ?_
  refine W_text ?_
  refine dq (ps := [(5, .val false [.t (.sl false 1 (a0.map (cS false)))])]) rfl rfl rfl ?_
  refine dq (ps := [(6, .val false [.t (.fn 41 [.ptr (cBitmap false b1_0)])])]) rfl rfl rfl ?_
  obtain ⟨r, hr, h⟩ := bind_some h
  refine dCall (gn := 51) (fn := Tryd.f51) (cp := []) (lt := []) [5, 6] (vc_slices_IndexFunc_string_iValidBitmap_1 n a0 b1_0 _ hr) Tryd.func51 rfl rfl rfl rfl (.inl rfl) (.inl rfl) (fun st2 h2 => ⟨rfl, args_of0 (.cons (aF (ltF rfl) ((congrArg Slot.sv (h2 5 (by decide))).trans rfl) rfl) (.cons (aF (ltF rfl) ((congrArg Slot.sv (h2 6 (by decide))).trans rfl) rfl) .nil))⟩) rfl ?_
  refine dq (ps := [(8, pB (decide (r ≥ 0)))]) rfl rfl rfl ?_
  refine dq (ps := [(4, pB (decide (r ≥ 0)))]) rfl rfl rfl ?_
  refine DL_nil ?_
  refine W_ret ?_
  cases h
  exact ⟨.inr rfl, leaves_of [.tmp 4] rfl (by decide) (.tmp (ltF rfl) rfl .nil)⟩

-- iValidBitmap: loop.example/g00883/impl.ValidBitmap
def iValidBitmap (n : Nat) (a0 : SBitmap) : Option (Bool) :=
  (if (decide ((if a0.Bottom > a0.Left then a0.Bottom else a0.Left) > 1048576)) = true then some false else (if (decide ((if a0.Bottom < a0.Left then a0.Bottom else a0.Left) < (-1048576))) = true then some false else (if (decide ((a0.Rows.length : Int) > 128)) = true then some false else (if (decide (a0.Width < 0)) = true then some false else (if (decide (a0.Width > 128)) = true then some false else (if ((a0.Width == 0) != ((a0.Rows.length : Int) == 0)) = true then some false else ((slices_ContainsFunc_string_iValidBitmap_1 n a0.Rows a0).bind fun r => some (!r))))))))

theorem vc_iValidBitmap (n : Nat) (a0 : SBitmap) (r : Bool) (h : iValidBitmap n a0 = some r) : VC Tryd.prog 21 [.sh true (cBitmap false a0)] [(false, cB true r)] [] := by
  refine VC_of 48 Tryd.func21 rfl rfl rfl fun G0 w0 pv => ?_
  unfold iValidBitmap at h
  refine W_seq ?_
  refine W_text ?_
  refine dBox (ts := (cBitmap false a0)) rfl rfl rfl rfl rfl ?_
  refine dq (ps := [(2, pB false)]) rfl rfl rfl ?_
  refine DL_nil ?_
  refine W_seq ?_
  refine W_seq ?_
  refine W_text ?_
  refine dFaB rfl rfl (ltF rfl) rfl rfl rfl rfl rfl rfl ?_
  refine dq (ps := [(4, pI .i64 a0.Left)]) rfl rfl rfl ?_
  refine dFaB rfl rfl (ltF rfl) rfl rfl rfl rfl rfl rfl ?_
  refine dq (ps := [(6, pI .i64 a0.Bottom)]) rfl rfl rfl ?_
  refine dMax rfl rfl rfl rfl rfl ?_
  refine dq (ps := [(8, pB (decide ((if a0.Bottom > a0.Left then a0.Bottom else a0.Left) > 1048576)))]) rfl rfl rfl ?_
  refine dq (ps := [(9, pB (decide ((if a0.Bottom > a0.Left then a0.Bottom else a0.Left) > 1048576)))]) rfl rfl rfl ?_
  refine dS 9 rfl (fun hb => ?_) (fun hb => ?_)
  · replace h := ite_yes hb h
    refine dU rfl rfl rfl rfl ?_
    refine dU rfl rfl rfl rfl ?_
    refine dU rfl rfl rfl rfl ?_
    refine dU rfl rfl rfl rfl ?_
    refine dU rfl rfl rfl rfl ?_
    refine dU rfl rfl rfl rfl ?_
    refine dq (ps := [(16, pB true)]) rfl rfl rfl ?_
    refine dq (ps := [(17, pB true)]) rfl rfl rfl ?_
    refine dU rfl rfl rfl rfl ?_
    refine dU rfl rfl rfl rfl ?_
    refine dU rfl rfl rfl rfl ?_
    refine dU rfl rfl rfl rfl ?_
    refine dq (ps := [(22, pB true)]) rfl rfl rfl ?_
    refine dq (ps := [(23, pB true)]) rfl rfl rfl ?_
    refine dU rfl rfl rfl rfl ?_
    refine dU rfl rfl rfl rfl ?_
    refine dU rfl rfl rfl rfl ?_
    refine dq (ps := [(27, pB true)]) rfl rfl rfl ?_
    refine dq (ps := [(28, pB true)]) rfl rfl rfl ?_
    refine dU rfl rfl rfl rfl ?_
    refine dU rfl rfl rfl rfl ?_
    refine dU rfl rfl rfl rfl ?_
    refine dq (ps := [(32, pB true)]) rfl rfl rfl ?_
    refine dq (ps := [(33, pB true)]) rfl rfl rfl ?_
    refine dU rfl rfl rfl rfl ?_
    refine dU rfl rfl rfl rfl ?_
    refine dU rfl rfl rfl rfl ?_
    refine dU rfl rfl rfl rfl ?_
    refine dU rfl rfl rfl rfl ?_
    refine dU rfl rfl rfl rfl ?_
    refine dU rfl rfl rfl rfl ?_
    refine dU rfl rfl rfl rfl ?_
    refine dq (ps := [(42, pB true)]) rfl rfl rfl ?_
    refine DL_nil ?_
    refine W_fn (l := [(1, .box (cBitmap false a0)), (42, pB true)]) (nC rfl (nC rfl nN)) rfl ?_
    refine W_yes ⟨ltF rfl, rfl⟩ ?_
    refine W_seq ?_
    refine W_text ?_
    refine dq (ps := [(2, pB false)]) rfl rfl rfl ?_
    refine DL_nil ?_
    refine W_ret ?_
    cases h
    exact ⟨.inr rfl, leaves_of [.tmp 2] rfl (by decide) (.tmp (ltF rfl) rfl .nil)⟩
  · replace h := ite_no hb h
    refine dFaB rfl rfl (ltF rfl) rfl rfl rfl rfl rfl rfl ?_
    refine dq (ps := [(11, pI .i64 a0.Left)]) rfl rfl rfl ?_
    refine dFaB rfl rfl (ltF rfl) rfl rfl rfl rfl rfl rfl ?_
    refine dq (ps := [(13, pI .i64 a0.Bottom)]) rfl rfl rfl ?_
    refine dMin rfl rfl rfl rfl rfl ?_
    refine dq (ps := [(15, pB (decide ((if a0.Bottom < a0.Left then a0.Bottom else a0.Left) < (-1048576))))]) rfl rfl rfl ?_
    refine dq (ps := [(16, pB (decide ((if a0.Bottom < a0.Left then a0.Bottom else a0.Left) < (-1048576))))]) rfl rfl rfl ?_
    refine dq (ps := [(17, pB (decide ((if a0.Bottom < a0.Left then a0.Bottom else a0.Left) < (-1048576))))]) rfl rfl rfl ?_
    refine dS 17 rfl (fun hb => ?_) (fun hb => ?_)
    · replace h := ite_yes hb h
      refine dU rfl rfl rfl rfl ?_
      refine dU rfl rfl rfl rfl ?_
      refine dU rfl rfl rfl rfl ?_
      refine dU rfl rfl rfl rfl ?_
      refine dq (ps := [(22, pB true)]) rfl rfl rfl ?_
      refine dq (ps := [(23, pB true)]) rfl rfl rfl ?_
      refine dU rfl rfl rfl rfl ?_
      refine dU rfl rfl rfl rfl ?_
      refine dU rfl rfl rfl rfl ?_
      refine dq (ps := [(27, pB true)]) rfl rfl rfl ?_
      refine dq (ps := [(28, pB true)]) rfl rfl rfl ?_
      refine dU rfl rfl rfl rfl ?_
      refine dU rfl rfl rfl rfl ?_
      refine dU rfl rfl rfl rfl ?_
      refine dq (ps := [(32, pB true)]) rfl rfl rfl ?_
      refine dq (ps := [(33, pB true)]) rfl rfl rfl ?_
      refine dU rfl rfl rfl rfl ?_
      refine dU rfl rfl rfl rfl ?_
      refine dU rfl rfl rfl rfl ?_
      refine dU rfl rfl rfl rfl ?_
      refine dU rfl rfl rfl rfl ?_
      refine dU rfl rfl rfl rfl ?_
      refine dU rfl rfl rfl rfl ?_
      refine dU rfl rfl rfl rfl ?_
      refine dq (ps := [(42, pB true)]) rfl rfl rfl ?_
      refine DL_nil ?_
      refine W_fn (l := [(1, .box (cBitmap false a0)), (42, pB true)]) (nC rfl (nC rfl nN)) rfl ?_
      refine W_yes ⟨ltF rfl, rfl⟩ ?_
      refine W_seq ?_
      refine W_text ?_
      refine dq (ps := [(2, pB false)]) rfl rfl rfl ?_
      refine DL_nil ?_
      refine W_ret ?_
      cases h
      exact ⟨.inr rfl, leaves_of [.tmp 2] rfl (by decide) (.tmp (ltF rfl) rfl .nil)⟩
    · replace h := ite_no hb h
      refine dFaB rfl rfl (ltF rfl) rfl rfl rfl rfl rfl rfl ?_
      refine dq (ps := [(19, .val false [.t (.sl false 1 (a0.Rows.map (cS false)))])]) rfl rfl rfl ?_
      refine dLen (t := 22) (n := (a0.Rows.length : Int)) rfl (ltF rfl) rfl rfl (lenE rfl (List.length_map ..)) rfl ?_
      refine dq (ps := [(21, pB (decide ((a0.Rows.length : Int) > 128)))]) rfl rfl rfl ?_
      refine dq (ps := [(22, pB (decide ((a0.Rows.length : Int) > 128)))]) rfl rfl rfl ?_
      refine dq (ps := [(23, pB (decide ((a0.Rows.length : Int) > 128)))]) rfl rfl rfl ?_
      refine dS 23 rfl (fun hb => ?_) (fun hb => ?_)
      · replace h := ite_yes hb h
        refine dU rfl rfl rfl rfl ?_
        refine dU rfl rfl rfl rfl ?_
        refine dU rfl rfl rfl rfl ?_
        refine dq (ps := [(27, pB true)]) rfl rfl rfl ?_
        refine dq (ps := [(28, pB true)]) rfl rfl rfl ?_
        refine dU rfl rfl rfl rfl ?_
        refine dU rfl rfl rfl rfl ?_
        refine dU rfl rfl rfl rfl ?_
        refine dq (ps := [(32, pB true)]) rfl rfl rfl ?_
        refine dq (ps := [(33, pB true)]) rfl rfl rfl ?_
        refine dU rfl rfl rfl rfl ?_
        refine dU rfl rfl rfl rfl ?_
        refine dU rfl rfl rfl rfl ?_
        refine dU rfl rfl rfl rfl ?_
        refine dU rfl rfl rfl rfl ?_
        refine dU rfl rfl rfl rfl ?_
        refine dU rfl rfl rfl rfl ?_
        refine dU rfl rfl rfl rfl ?_
        refine dq (ps := [(42, pB true)]) rfl rfl rfl ?_
        refine DL_nil ?_
        refine W_fn (l := [(1, .box (cBitmap false a0)), (42, pB true)]) (nC rfl (nC rfl nN)) rfl ?_
        refine W_yes ⟨ltF rfl, rfl⟩ ?_
        refine W_seq ?_
        refine W_text ?_
        refine dq (ps := [(2, pB false)]) rfl rfl rfl ?_
        refine DL_nil ?_
        refine W_ret ?_
        cases h
        exact ⟨.inr rfl, leaves_of [.tmp 2] rfl (by decide) (.tmp (ltF rfl) rfl .nil)⟩
      · replace h := ite_no hb h
        refine dFaB rfl rfl (ltF rfl) rfl rfl rfl rfl rfl rfl ?_
        refine dq (ps := [(25, pI .i64 a0.Width)]) rfl rfl rfl ?_
        refine dq (ps := [(26, pB (decide (a0.Width < 0)))]) rfl rfl rfl ?_
        refine dq (ps := [(27, pB (decide (a0.Width < 0)))]) rfl rfl rfl ?_
        refine dq (ps := [(28, pB (decide (a0.Width < 0)))]) rfl rfl rfl ?_
        refine dS 28 rfl (fun hb => ?_) (fun hb => ?_)
        · replace h := ite_yes hb h
          refine dU rfl rfl rfl rfl ?_
          refine dU rfl rfl rfl rfl ?_
          refine dU rfl rfl rfl rfl ?_
          refine dq (ps := [(32, pB true)]) rfl rfl rfl ?_
          refine dq (ps := [(33, pB true)]) rfl rfl rfl ?_
          refine dU rfl rfl rfl rfl ?_
          refine dU rfl rfl rfl rfl ?_
          refine dU rfl rfl rfl rfl ?_
          refine dU rfl rfl rfl rfl ?_
          refine dU rfl rfl rfl rfl ?_
          refine dU rfl rfl rfl rfl ?_
          refine dU rfl rfl rfl rfl ?_
          refine dU rfl rfl rfl rfl ?_
          refine dq (ps := [(42, pB true)]) rfl rfl rfl ?_
          refine DL_nil ?_
          refine W_fn (l := [(1, .box (cBitmap false a0)), (42, pB true)]) (nC rfl (nC rfl nN)) rfl ?_
          refine W_yes ⟨ltF rfl, rfl⟩ ?_
          refine W_seq ?_
          refine W_text ?_
          refine dq (ps := [(2, pB false)]) rfl rfl rfl ?_
          refine DL_nil ?_
          refine W_ret ?_
          cases h
          exact ⟨.inr rfl, leaves_of [.tmp 2] rfl (by decide) (.tmp (ltF rfl) rfl .nil)⟩
        · replace h := ite_no hb h
          refine dFaB rfl rfl (ltF rfl) rfl rfl rfl rfl rfl rfl ?_
          refine dq (ps := [(30, pI .i64 a0.Width)]) rfl rfl rfl ?_
          refine dq (ps := [(31, pB (decide (a0.Width > 128)))]) rfl rfl rfl ?_
          refine dq (ps := [(32, pB (decide (a0.Width > 128)))]) rfl rfl rfl ?_
          refine dq (ps := [(33, pB (decide (a0.Width > 128)))]) rfl rfl rfl ?_
          refine dS 33 rfl (fun hb => ?_) (fun hb => ?_)
          · replace h := ite_yes hb h
            refine dU rfl rfl rfl rfl ?_
            refine dU rfl rfl rfl rfl ?_
            refine dU rfl rfl rfl rfl ?_
            refine dU rfl rfl rfl rfl ?_
            refine dU rfl rfl rfl rfl ?_
            refine dU rfl rfl rfl rfl ?_
            refine dU rfl rfl rfl rfl ?_
            refine dU rfl rfl rfl rfl ?_
            refine dq (ps := [(42, pB true)]) rfl rfl rfl ?_
            refine DL_nil ?_
            refine W_fn (l := [(1, .box (cBitmap false a0)), (42, pB true)]) (nC rfl (nC rfl nN)) rfl ?_
            refine W_yes ⟨ltF rfl, rfl⟩ ?_
            refine W_seq ?_
            refine W_text ?_
            refine dq (ps := [(2, pB false)]) rfl rfl rfl ?_
            refine DL_nil ?_
            refine W_ret ?_
            cases h
            exact ⟨.inr rfl, leaves_of [.tmp 2] rfl (by decide) (.tmp (ltF rfl) rfl .nil)⟩
          · replace h := ite_no hb h
            refine dFaB rfl rfl (ltF rfl) rfl rfl rfl rfl rfl rfl ?_
            refine dq (ps := [(35, pI .i64 a0.Width)]) rfl rfl rfl ?_
            refine dq (ps := [(36, pB (a0.Width == 0))]) rfl rfl rfl ?_
            refine dFaB rfl rfl (ltF rfl) rfl rfl rfl rfl rfl rfl ?_
            refine dq (ps := [(38, .val false [.t (.sl false 1 (a0.Rows.map (cS false)))])]) rfl rfl rfl ?_
            refine dLen (t := 22) (n := (a0.Rows.length : Int)) rfl (ltF rfl) rfl rfl (lenE rfl (List.length_map ..)) rfl ?_
            refine dq (ps := [(40, pB ((a0.Rows.length : Int) == 0))]) rfl rfl rfl ?_
            refine dx (ps := [(41, pB ((a0.Width == 0) != ((a0.Rows.length : Int) == 0)))]) rfl rfl rfl ?_
            refine dq (ps := [(42, pB ((a0.Width == 0) != ((a0.Rows.length : Int) == 0)))]) rfl rfl rfl ?_
            refine DL_nil ?_
            refine W_fn (l := [(1, .box (cBitmap false a0)), (42, pB ((a0.Width == 0) != ((a0.Rows.length : Int) == 0)))]) (nC rfl (nC rfl nN)) rfl ?_
            refine W_split ⟨ltF rfl, rfl⟩ (fun hb => ?_) (fun hb => ?_)
            · replace h := ite_yes hb h
              refine W_seq ?_
              refine W_text ?_
              refine dq (ps := [(2, pB false)]) rfl rfl rfl ?_
              refine DL_nil ?_
              refine W_ret ?_
              cases h
              exact ⟨.inr rfl, leaves_of [.tmp 2] rfl (by decide) (.tmp (ltF rfl) rfl .nil)⟩
            · replace h := ite_no hb h
              refine W_skip ?_
              refine W_seq ?_
              refine W_freeze (r := 1) (ys := (cBitmap false a0)) rfl (wC rfl (wC rfl (wC rfl (wC (wS (wholes_map (fun _ => (wC rfl wN)) _)) wN)))) (sC rfl (sC rfl (sC rfl (sC (sS (shrs_map (fun _ => (sC rfl sN)) _)) sN)))) ?_
              refine W_text ?_
              refine dq (ps := [(43, .val false [.t (.ptr [.sl false 1 (a0.Rows.map (cS false))])])]) rfl rfl rfl ?_
              refine dq (ps := [(44, .val false [.t (.sl false 1 (a0.Rows.map (cS false)))])]) rfl rfl rfl ?_
              refine dMF (ys := [.ptr (cBitmap false a0)]) [1] rfl rfl rfl (fun st2 h2 => Caps.get (.cons ⟨ltF rfl, (congrArg Slot.sv (h2 1 (by decide))).trans rfl⟩ rfl .nil)) rfl ?_
              obtain ⟨r, hr, h⟩ := bind_some h
              refine dCall (gn := 40) (fn := Tryd.f40) (cp := []) (lt := []) [44, 45] (vc_slices_ContainsFunc_string_iValidBitmap_1 n a0.Rows a0 _ hr) Tryd.func40 rfl rfl rfl rfl (.inl rfl) (.inl rfl) (fun st2 h2 => ⟨rfl, args_of0 (.cons (aF (ltF rfl) ((congrArg Slot.sv (h2 44 (by decide))).trans rfl) rfl) (.cons (aF (ltF rfl) ((congrArg Slot.sv (h2 45 (by decide))).trans rfl) rfl) .nil))⟩) rfl ?_
              refine dq (ps := [(47, pB (!r))]) rfl rfl rfl ?_
              refine dq (ps := [(2, pB (!r))]) rfl rfl rfl ?_
              refine DL_nil ?_
              refine W_fn (l := [(2, pB (!r))]) (nC rfl nN) rfl ?_
              refine W_ret ?_
              cases h
              exact ⟨.inr rfl, leaves_of [.tmp 2] rfl (by decide) (.tmp (ltF rfl) rfl .nil)⟩

-- iMoveBitmap: loop.example/g00883/impl.MoveBitmap
def iMoveBitmap (n : Nat) (a0 : SBitmap) (a1 : Int) (a2 : Int) : Option (SBitmap × Int) :=
  ((iValidBitmap n a0).bind fun r => (if (!r) = true then some ((SBitmap.mk 0 0 0 ([] : List ByteArray)), 1) else (if (decide ((if a2 < a1 then a2 else a1) < (-2097152))) = true then some ((SBitmap.mk 0 0 0 ([] : List ByteArray)), 2) else (if (decide ((if a2 > a1 then a2 else a1) > 2097152)) = true then some ((SBitmap.mk 0 0 0 ([] : List ByteArray)), 2) else (if a0.Rows.length * 16 ≤ 140737488355328 then ((iValidBitmap n (SBitmap.mk (w64 (a0.Left + a1)) (w64 (a0.Bottom + a2)) a0.Width a0.Rows)).bind fun r_1 => (if (!r_1) = true then some ((SBitmap.mk 0 0 0 ([] : List ByteArray)), 2) else some ((SBitmap.mk (w64 (a0.Left + a1)) (w64 (a0.Bottom + a2)) a0.Width a0.Rows), 0))) else none)))))

theorem vc_iMoveBitmap (n : Nat) (a0 : SBitmap) (a1 : Int) (a2 : Int) (r : SBitmap × Int) (h : iMoveBitmap n a0 a1 a2 = some r) : VC Tryd.prog 9 [.sh true (cBitmap false a0), .sh false ((cI .i64) false a1), .sh false ((cI .i64) false a2)] [(true, cBitmap true r.1), (false, (cI .i64) true r.2)] [] := by
  refine VC_of 44 Tryd.func9 rfl rfl rfl fun G0 w0 pv => ?_
  unfold iMoveBitmap at h
  refine W_seq ?_
  refine W_text ?_
  refine dBox (ts := (cBitmap false a0)) rfl rfl rfl rfl rfl ?_
  refine dAlloc (zs := [.sc (.int .i64 0), .sc (.int .i64 0), .sc (.int .i64 0), .sl true 1 (([] : List ByteArray).map (cS true))]) rfl rfl (zeros_of _ rfl ⟨z1 rfl, z1 rfl, z1 rfl, z2, trivial⟩) rfl ?_
  refine dq (ps := [(7, pI .i64 0)]) rfl rfl rfl ?_
  refine DL_nil ?_
  refine W_seq ?_
  refine W_seq ?_
  refine W_text ?_
  refine dLdB (sv := .val true [.t (.sc (.int .i64 a0.Left)), .t (.sc (.int .i64 a0.Bottom)), .t (.sc (.int .i64 a0.Width)), .t (.sl false 1 (a0.Rows.map (cS false)))]) rfl rfl (ltF rfl) rfl rfl rfl rfl rfl rfl rfl rfl ?_
  obtain ⟨r, hr, h⟩ := bind_some h
  refine dCall (gn := 21) (fn := Tryd.f21) (cp := []) (lt := []) [9] (vc_iValidBitmap n a0 _ hr) Tryd.func21 rfl rfl rfl rfl (.inl rfl) (.inl rfl) (fun st2 h2 => ⟨rfl, args_of0 (.cons (aF (ltF rfl) ((congrArg Slot.sv (h2 9 (by decide))).trans rfl) rfl) .nil)⟩) rfl ?_
  refine dq (ps := [(11, pB (!r))]) rfl rfl rfl ?_
  refine DL_nil ?_
  refine W_split ⟨ltF rfl, rfl⟩ (fun hb => ?_) (fun hb => ?_)
  · replace h := ite_yes hb h
    refine W_seq ?_
    refine W_text ?_
    refine dBuild (pls := [(0, 1), (1, 1), (2, 1), (3, 1)]) (zs := [.sc (.int .i64 0), .sc (.int .i64 0), .sc (.int .i64 0), .sl true 1 (([] : List ByteArray).map (cS true))]) (ts := [.sc (.int .i64 0), .sc (.int .i64 0), .sc (.int .i64 0), .sl true 1 (([] : List ByteArray).map (cS true))]) (qs := []) [] [] rfl rfl rfl (zeros_of _ rfl ⟨z1 rfl, z1 rfl, z1 rfl, z2, trivial⟩) (by decide) rfl (fun st2 h2 => .nil) rfl ?_
    refine dStB (ag := true) (ts := [.sc (.int .i64 0), .sc (.int .i64 0), .sc (.int .i64 0), .sl true 1 (([] : List ByteArray).map (cS true))]) (cs' := [.sc (.int .i64 0), .sc (.int .i64 0), .sc (.int .i64 0), .sl true 1 (([] : List ByteArray).map (cS true))]) [(12, 0)] [6, 12] rfl (ltF rfl) (by decide) rfl rfl rfl (by decide) rfl rfl (fun st2 h2 => .own (ltF rfl) ((congrArg Slot.sv (h2 12 (by decide))).trans rfl) rfl) rfl ?_
    refine dq (ps := [(7, pI .i64 1)]) rfl rfl rfl ?_
    refine DL_nil ?_
    refine W_ret ?_
    cases h
    exact ⟨.inr rfl, leaves_of [.cell 6 26, .tmp 7] rfl (by decide) (.cell (ltF rfl) rfl rfl rfl rfl (.tmp (ltF rfl) rfl .nil))⟩
  · replace h := ite_no hb h
    refine W_skip ?_
    refine W_seq ?_
    refine W_seq ?_
    refine W_text ?_
    refine dq (ps := [(13, pI .i64 a1)]) rfl rfl rfl ?_
    refine dq (ps := [(14, pI .i64 a2)]) rfl rfl rfl ?_
    refine dMin rfl rfl rfl rfl rfl ?_
    refine dq (ps := [(16, pB (decide ((if a2 < a1 then a2 else a1) < (-2097152))))]) rfl rfl rfl ?_
    refine dq (ps := [(17, pB (decide ((if a2 < a1 then a2 else a1) < (-2097152))))]) rfl rfl rfl ?_
    refine dS 17 rfl (fun hb => ?_) (fun hb => ?_)
    · replace h := ite_yes hb h
      refine dU rfl rfl rfl rfl ?_
      refine dU rfl rfl rfl rfl ?_
      refine dU rfl rfl rfl rfl ?_
      refine dU rfl rfl rfl rfl ?_
      refine dq (ps := [(22, pB true)]) rfl rfl rfl ?_
      refine DL_nil ?_
      refine W_fn (l := [(1, pI .i64 a1), (2, pI .i64 a2), (3, .box (cBitmap false a0)), (6, .box [.sc (.int .i64 0), .sc (.int .i64 0), .sc (.int .i64 0), .sl true 1 (([] : List ByteArray).map (cS true))]), (22, pB true)]) (nC rfl (nC rfl (nC rfl (nC rfl (nC rfl nN))))) rfl ?_
      refine W_yes ⟨ltF rfl, rfl⟩ ?_
      refine W_seq ?_
      refine W_text ?_
      refine dBuild (pls := [(0, 1), (1, 1), (2, 1), (3, 1)]) (zs := [.sc (.int .i64 0), .sc (.int .i64 0), .sc (.int .i64 0), .sl true 1 (([] : List ByteArray).map (cS true))]) (ts := [.sc (.int .i64 0), .sc (.int .i64 0), .sc (.int .i64 0), .sl true 1 (([] : List ByteArray).map (cS true))]) (qs := []) [] [] rfl rfl rfl (zeros_of _ rfl ⟨z1 rfl, z1 rfl, z1 rfl, z2, trivial⟩) (by decide) rfl (fun st2 h2 => .nil) rfl ?_
      refine dStB (ag := true) (ts := [.sc (.int .i64 0), .sc (.int .i64 0), .sc (.int .i64 0), .sl true 1 (([] : List ByteArray).map (cS true))]) (cs' := [.sc (.int .i64 0), .sc (.int .i64 0), .sc (.int .i64 0), .sl true 1 (([] : List ByteArray).map (cS true))]) [(23, 0)] [6, 23] rfl (ltF rfl) (by decide) rfl rfl rfl (by decide) rfl rfl (fun st2 h2 => .own (ltF rfl) ((congrArg Slot.sv (h2 23 (by decide))).trans rfl) rfl) rfl ?_
      refine dq (ps := [(7, pI .i64 2)]) rfl rfl rfl ?_
      refine DL_nil ?_
      refine W_ret ?_
      cases h
      exact ⟨.inr rfl, leaves_of [.cell 6 26, .tmp 7] rfl (by decide) (.cell (ltF rfl) rfl rfl rfl rfl (.tmp (ltF rfl) rfl .nil))⟩
    · replace h := ite_no hb h
      refine dq (ps := [(18, pI .i64 a1)]) rfl rfl rfl ?_
      refine dq (ps := [(19, pI .i64 a2)]) rfl rfl rfl ?_
      refine dMax rfl rfl rfl rfl rfl ?_
      refine dq (ps := [(21, pB (decide ((if a2 > a1 then a2 else a1) > 2097152)))]) rfl rfl rfl ?_
      refine dq (ps := [(22, pB (decide ((if a2 > a1 then a2 else a1) > 2097152)))]) rfl rfl rfl ?_
      refine DL_nil ?_
      refine W_fn (l := [(1, pI .i64 a1), (2, pI .i64 a2), (3, .box (cBitmap false a0)), (6, .box [.sc (.int .i64 0), .sc (.int .i64 0), .sc (.int .i64 0), .sl true 1 (([] : List ByteArray).map (cS true))]), (22, pB (decide ((if a2 > a1 then a2 else a1) > 2097152)))]) (nC rfl (nC rfl (nC rfl (nC rfl (nC rfl nN))))) rfl ?_
      refine W_split ⟨ltF rfl, rfl⟩ (fun hb => ?_) (fun hb => ?_)
      · replace h := ite_yes hb h
        refine W_seq ?_
        refine W_text ?_
        refine dBuild (pls := [(0, 1), (1, 1), (2, 1), (3, 1)]) (zs := [.sc (.int .i64 0), .sc (.int .i64 0), .sc (.int .i64 0), .sl true 1 (([] : List ByteArray).map (cS true))]) (ts := [.sc (.int .i64 0), .sc (.int .i64 0), .sc (.int .i64 0), .sl true 1 (([] : List ByteArray).map (cS true))]) (qs := []) [] [] rfl rfl rfl (zeros_of _ rfl ⟨z1 rfl, z1 rfl, z1 rfl, z2, trivial⟩) (by decide) rfl (fun st2 h2 => .nil) rfl ?_
        refine dStB (ag := true) (ts := [.sc (.int .i64 0), .sc (.int .i64 0), .sc (.int .i64 0), .sl true 1 (([] : List ByteArray).map (cS true))]) (cs' := [.sc (.int .i64 0), .sc (.int .i64 0), .sc (.int .i64 0), .sl true 1 (([] : List ByteArray).map (cS true))]) [(23, 0)] [6, 23] rfl (ltF rfl) (by decide) rfl rfl rfl (by decide) rfl rfl (fun st2 h2 => .own (ltF rfl) ((congrArg Slot.sv (h2 23 (by decide))).trans rfl) rfl) rfl ?_
        refine dq (ps := [(7, pI .i64 2)]) rfl rfl rfl ?_
        refine DL_nil ?_
        refine W_ret ?_
        cases h
        exact ⟨.inr rfl, leaves_of [.cell 6 26, .tmp 7] rfl (by decide) (.cell (ltF rfl) rfl rfl rfl rfl (.tmp (ltF rfl) rfl .nil))⟩
      · replace h := ite_no hb h
        refine W_skip ?_
        refine W_seq ?_
        refine W_text ?_
        refine dLdB (sv := .val true [.t (.sc (.int .i64 a0.Left)), .t (.sc (.int .i64 a0.Bottom)), .t (.sc (.int .i64 a0.Width)), .t (.sl false 1 (a0.Rows.map (cS false)))]) rfl rfl (ltF rfl) rfl rfl rfl rfl rfl rfl rfl rfl ?_
        refine dAlloc (zs := [.sc (.int .i64 0), .sc (.int .i64 0), .sc (.int .i64 0), .sl true 1 (([] : List ByteArray).map (cS true))]) rfl rfl (zeros_of _ rfl ⟨z1 rfl, z1 rfl, z1 rfl, z2, trivial⟩) rfl ?_
        refine dStB (ag := true) (ts := [.sc (.int .i64 a0.Left), .sc (.int .i64 a0.Bottom), .sc (.int .i64 a0.Width), .sl false 1 (a0.Rows.map (cS false))]) (cs' := (cBitmap false a0)) [] [8, 24] rfl (ltF rfl) (by decide) rfl rfl rfl (by decide) rfl rfl (fun st2 h2 => .free (⟨ltF rfl, (congrArg Slot.sv (h2 24 (by decide))).trans rfl⟩) rfl) rfl ?_
        refine DL_nil ?_
        refine W_seq ?_
        refine W_drawn rfl ?_
        refine dFaB (R' := [3]) rfl rfl (ltF rfl) rfl rfl rfl rfl rfl rfl ?_
        refine dq (R' := [25, 3]) (ps := [(26, pI .i64 a0.Left)]) rfl rfl rfl ?_
        refine dq (R' := [1]) (ps := [(27, pI .i64 a1)]) rfl rfl rfl ?_
        refine dq (R' := [26, 27]) (ps := [(28, pI .i64 (w64 (a0.Left + a1)))]) rfl rfl rfl ?_
        refine dFaB (R' := [3]) rfl rfl (ltF rfl) rfl rfl rfl rfl rfl rfl ?_
        refine dq (R' := [29, 3]) (ps := [(30, pI .i64 a0.Bottom)]) rfl rfl rfl ?_
        refine dq (R' := [2]) (ps := [(31, pI .i64 a2)]) rfl rfl rfl ?_
        refine dq (R' := [30, 31]) (ps := [(32, pI .i64 (w64 (a0.Bottom + a2)))]) rfl rfl rfl ?_
        refine dFaB (R' := [3]) rfl rfl (ltF rfl) rfl rfl rfl rfl rfl rfl ?_
        refine dq (R' := [33, 3]) (ps := [(34, .val false [.t (.sl false 1 (a0.Rows.map (cS false)))])]) rfl rfl rfl ?_
        obtain ⟨hp, h⟩ := ite_some h
        refine dAppN (sy := none) (zs := [.sc (.string (ByteArray.mk #[]))]) (ys' := (a0.Rows.map (cS true))) [34] rfl rfl (fun st2 h2 => .shd ⟨ltF rfl, (congrArg Slot.sv (h2 34 (by decide))).trans rfl⟩) (by decide) rfl rfl (zeros_of _ rfl ⟨z1 rfl, trivial⟩) rfl rfl rfl rfl (here_map (fun _ => rfl) _) (by rw [List.length_map]; exact hp) (app_map0 (fun _ => rfl) _) rfl ?_
        refine dFaB (R' := [8]) rfl rfl (ltF rfl) rfl rfl rfl rfl rfl rfl ?_
        refine dSt (v := 2) (ag := false) (ts := [.sc (.int .i64 (w64 (a0.Left + a1)))]) (cs' := [.sc (.int .i64 (w64 (a0.Left + a1))), .sc (.int .i64 a0.Bottom), .sc (.int .i64 a0.Width), .sl false 1 (a0.Rows.map (cS false))]) [] [36, 8, 28] rfl (ltF rfl) (by decide) (by decide) rfl rfl rfl rfl rfl (by decide) rfl rfl (fun st2 h2 => .free (⟨ltF rfl, (congrArg Slot.sv (h2 28 (by decide))).trans rfl⟩) rfl) rfl ?_
        refine dFaB (R' := [8]) rfl rfl (ltF rfl) rfl rfl rfl rfl rfl rfl ?_
        refine dSt (v := 3) (ag := false) (ts := [.sc (.int .i64 (w64 (a0.Bottom + a2)))]) (cs' := [.sc (.int .i64 (w64 (a0.Left + a1))), .sc (.int .i64 (w64 (a0.Bottom + a2))), .sc (.int .i64 a0.Width), .sl false 1 (a0.Rows.map (cS false))]) [] [37, 8, 32] rfl (ltF rfl) (by decide) (by decide) rfl rfl rfl rfl rfl (by decide) rfl rfl (fun st2 h2 => .free (⟨ltF rfl, (congrArg Slot.sv (h2 32 (by decide))).trans rfl⟩) rfl) rfl ?_
        refine dFaB (R' := [8]) rfl rfl (ltF rfl) rfl rfl rfl rfl rfl rfl ?_
        refine dSt (v := 4) (ag := false) (ts := [.sl true 1 (a0.Rows.map (cS true))]) (cs' := [.sc (.int .i64 (w64 (a0.Left + a1))), .sc (.int .i64 (w64 (a0.Bottom + a2))), .sc (.int .i64 a0.Width), .sl true 1 (a0.Rows.map (cS true))]) [(35, 3)] [38, 8, 35] rfl (ltF rfl) (by decide) (by decide) rfl rfl rfl rfl rfl (by decide) rfl rfl (fun st2 h2 => .own (ltF rfl) ((congrArg Slot.sv (h2 35 (by decide))).trans rfl) rfl) rfl ?_
        refine DL_nil ⟨[([3], [25]), ([25, 3], [26]), ([1], [27]), ([26, 27], [28]), ([3], [29]), ([29, 3], [30]), ([2], [31]), ([30, 31], [32]), ([3], [33]), ([33, 3], [34]), ([34], [35]), ([8], [36]), ([36, 8, 28], [8]), ([8], [37]), ([37, 8, 32], [8]), ([8], [38]), ([38, 8, 35], [35, 8])], rfl, by decide +kernel, ?_⟩
        refine W_fn (l := [(6, .box [.sc (.int .i64 0), .sc (.int .i64 0), .sc (.int .i64 0), .sl true 1 (([] : List ByteArray).map (cS true))]), (8, .box [.sc (.int .i64 (w64 (a0.Left + a1))), .sc (.int .i64 (w64 (a0.Bottom + a2))), .sc (.int .i64 a0.Width), .sl true 1 (a0.Rows.map (cS true))])]) (nC rfl (nC rfl nN)) rfl ?_
        refine W_seq ?_
        refine W_seq ?_
        refine W_text ?_
        refine dLdB (sv := .val true [.t (.sc (.int .i64 (w64 (a0.Left + a1)))), .t (.sc (.int .i64 (w64 (a0.Bottom + a2)))), .t (.sc (.int .i64 a0.Width)), .ref 8 0 [(0, 3)]]) rfl rfl (ltF rfl) rfl rfl rfl rfl rfl rfl rfl rfl ?_
        obtain ⟨r_1, hr_1, h⟩ := bind_some h
        refine dCall (gn := 21) (fn := Tryd.f21) (cp := []) (lt := [(8, [(0, 3)])]) [8, 39] (vc_iValidBitmap n (SBitmap.mk (w64 (a0.Left + a1)) (w64 (a0.Bottom + a2)) a0.Width a0.Rows) _ hr_1) Tryd.func21 rfl rfl rfl rfl (.inr ⟨(rC (eC rfl eN) rN), rfl⟩) (.inl rfl) (fun st2 h2 => ⟨rfl, args_of0 (.cons (aA (ltF rfl) ((congrArg Slot.sv (h2 39 (by decide))).trans rfl) (.cons (.free rfl) (.cons (.free rfl) (.cons (.free rfl) (.cons (cA_ref (congrArg Slot.ver (h2 8 (by decide))) ((at_agree (h2 8 (by decide))).trans rfl) (wholes_map (fun _ => (wC rfl wN)) _) (shrs_map (fun _ => (sC rfl sN)) _) (by decide)) .nil))))) .nil)⟩) rfl ?_
        refine dq (ps := [(41, pB (!r_1))]) rfl rfl rfl ?_
        refine DL_nil ?_
        refine W_split ⟨ltF rfl, rfl⟩ (fun hb => ?_) (fun hb => ?_)
        · replace h := ite_yes hb h
          refine W_seq ?_
          refine W_text ?_
          refine dBuild (pls := [(0, 1), (1, 1), (2, 1), (3, 1)]) (zs := [.sc (.int .i64 0), .sc (.int .i64 0), .sc (.int .i64 0), .sl true 1 (([] : List ByteArray).map (cS true))]) (ts := [.sc (.int .i64 0), .sc (.int .i64 0), .sc (.int .i64 0), .sl true 1 (([] : List ByteArray).map (cS true))]) (qs := []) [] [] rfl rfl rfl (zeros_of _ rfl ⟨z1 rfl, z1 rfl, z1 rfl, z2, trivial⟩) (by decide) rfl (fun st2 h2 => .nil) rfl ?_
          refine dStB (ag := true) (ts := [.sc (.int .i64 0), .sc (.int .i64 0), .sc (.int .i64 0), .sl true 1 (([] : List ByteArray).map (cS true))]) (cs' := [.sc (.int .i64 0), .sc (.int .i64 0), .sc (.int .i64 0), .sl true 1 (([] : List ByteArray).map (cS true))]) [(42, 0)] [6, 42] rfl (ltF rfl) (by decide) rfl rfl rfl (by decide) rfl rfl (fun st2 h2 => .own (ltF rfl) ((congrArg Slot.sv (h2 42 (by decide))).trans rfl) rfl) rfl ?_
          refine dq (ps := [(7, pI .i64 2)]) rfl rfl rfl ?_
          refine DL_nil ?_
          refine W_ret ?_
          cases h
          exact ⟨.inr rfl, leaves_of [.cell 6 26, .tmp 7] rfl (by decide) (.cell (ltF rfl) rfl rfl rfl rfl (.tmp (ltF rfl) rfl .nil))⟩
        · replace h := ite_no hb h
          refine W_skip ?_
          refine W_seq ?_
          refine W_text ?_
          refine dLdT (ag := true) (ts := [.sc (.int .i64 (w64 (a0.Left + a1))), .sc (.int .i64 (w64 (a0.Bottom + a2))), .sc (.int .i64 a0.Width), .sl true 1 (a0.Rows.map (cS true))]) rfl rfl rfl (ltF rfl) rfl rfl rfl rfl rfl rfl rfl rfl ?_
          refine dStB (ag := true) (ts := [.sc (.int .i64 (w64 (a0.Left + a1))), .sc (.int .i64 (w64 (a0.Bottom + a2))), .sc (.int .i64 a0.Width), .sl true 1 (a0.Rows.map (cS true))]) (cs' := [.sc (.int .i64 (w64 (a0.Left + a1))), .sc (.int .i64 (w64 (a0.Bottom + a2))), .sc (.int .i64 a0.Width), .sl true 1 (a0.Rows.map (cS true))]) [(43, 0)] [6, 43] rfl (ltF rfl) (by decide) rfl rfl rfl (by decide) rfl rfl (fun st2 h2 => .own (ltF rfl) ((congrArg Slot.sv (h2 43 (by decide))).trans rfl) rfl) rfl ?_
          refine dq (ps := [(7, pI .i64 0)]) rfl rfl rfl ?_
          refine DL_nil ?_
          refine W_ret ?_
          cases h
          exact ⟨.inr rfl, leaves_of [.cell 6 26, .tmp 7] rfl (by decide) (.cell (ltF rfl) rfl rfl rfl rfl (.tmp (ltF rfl) rfl .nil))⟩

-- leqStringS: loop.example/g00883/laws.eqStringS
def leqStringS_L0 : Nat → (List ByteArray) → (List ByteArray) → Int → Option (Out (Unit) (Bool))
  | 0, _, _, _ => none
  | n + 1, a0, a1, v5 => (if (decide (v5 < (a0.length : Int))) = true then ((getI a0 v5).bind fun x => ((getI a1 v5).bind fun x_1 => (if (!(sEq x x_1)) = true then some (.ret false) else leqStringS_L0 n a0 a1 (w64 (v5 + 1))))) else some (.go ()))

theorem leqStringS_L0_ok {G0 : Nat → Own} {w0 : World} {Q : Exit → St → Prop} {a0 : List ByteArray} {a1 : List ByteArray} {out : (Out (Unit) (Bool))}
    (hQ : match out with | .go _ => ∀ st, FN st [] → Q (.exit 0) st | .brk _ _ => True | .ret r => ∀ st, Fits st [(4, .val false ((cB true r).map .t))] → Q .ret st)
    {n : Nat} {v5 : Int} (h : leqStringS_L0 n a0 a1 v5 = some out) :
    ∀ st, FN st [(0, .val false [.t (.sl false 1 (a0.map (cS false)))]), (1, .val false [.t (.sl false 1 (a1.map (cS false)))]), (5, pI .i64 v5)] → W ⟨Tryd.prog, 26, [], G0, w0⟩ (.loop (bodyAt Tryd.f22 [1, 1, 0, 1, 0, 0])) st Q := by
  intro st hst
  refine W_loop (fun n st => ∃ v5, leqStringS_L0 n a0 a1 v5 = some out ∧ FN st [(0, .val false [.t (.sl false 1 (a0.map (cS false)))]), (1, .val false [.t (.sl false 1 (a1.map (cS false)))]), (5, pI .i64 v5)]) ?_ (n := n) ⟨v5, h, hst⟩
  clear h hst st n v5
  rintro n st ⟨v5, h, hst⟩
  refine W_fn hst rfl ?_
  cases n with
  | zero => cases h
  | succ n =>
    rw [leqStringS_L0] at h
    refine W_seq ?_
    refine W_seq ?_
    refine W_text ?_
    refine dq (ps := [(11, pI .i64 v5)]) rfl rfl rfl ?_
    refine dq (ps := [(12, .val false [.t (.sl false 1 (a0.map (cS false)))])]) rfl rfl rfl ?_
    refine dLen (t := 22) (n := (a0.length : Int)) rfl (ltF rfl) rfl rfl (lenE rfl (List.length_map ..)) rfl ?_
    refine dq (ps := [(14, pB (decide (v5 < (a0.length : Int))))]) rfl rfl rfl ?_
    refine DL_nil ?_
    refine W_split ⟨ltF rfl, rfl⟩ (fun hb => ?_) (fun hb => ?_)
    · replace h := ite_yes hb h
      refine W_skip ?_
      refine W_seq ?_
      refine W_block ?_
      refine W_seq ?_
      refine W_drawn rfl ?_
      refine dq (R' := [0]) (ps := [(17, .val false [.t (.sl false 1 (a0.map (cS false)))])]) rfl rfl rfl ?_
      refine dq (R' := [5]) (ps := [(18, pI .i64 v5)]) rfl rfl rfl ?_
      obtain ⟨x, hx, h⟩ := bind_some h
      refine dIxA (R' := [17, 18]) rfl rfl rfl rfl rfl (getI_map (cS false) hx) rfl ?_
      refine dq (R' := [19]) (ps := [(20, pS x)]) rfl rfl rfl ?_
      refine dq (R' := [1]) (ps := [(21, .val false [.t (.sl false 1 (a1.map (cS false)))])]) rfl rfl rfl ?_
      refine dq (R' := [5]) (ps := [(22, pI .i64 v5)]) rfl rfl rfl ?_
      obtain ⟨x_1, hx_1, h⟩ := bind_some h
      refine dIxA (R' := [21, 22]) rfl rfl rfl rfl rfl (getI_map (cS false) hx_1) rfl ?_
      refine dq (R' := [23]) (ps := [(24, pS x_1)]) rfl rfl rfl ?_
      refine dq (R' := [20, 24]) (ps := [(25, pB (!(sEq x x_1)))]) rfl rfl rfl ?_
      refine DL_nil ⟨[([0], [17]), ([5], [18]), ([17, 18], [19]), ([19], [20]), ([1], [21]), ([5], [22]), ([21, 22], [23]), ([23], [24]), ([20, 24], [25])], rfl, by decide +kernel, ?_⟩
      refine W_fn (l := [(0, .val false [.t (.sl false 1 (a0.map (cS false)))]), (1, .val false [.t (.sl false 1 (a1.map (cS false)))]), (5, pI .i64 v5), (25, pB (!(sEq x x_1)))]) (nC rfl (nC rfl (nC rfl (nC rfl nN)))) rfl ?_
      refine W_split ⟨ltF rfl, rfl⟩ (fun hb => ?_) (fun hb => ?_)
      · replace h := ite_yes hb h
        refine W_seq ?_
        refine W_text ?_
        refine dq (ps := [(4, pB false)]) rfl rfl rfl ?_
        refine DL_nil ?_
        refine W_ret ?_
        cases h
        exact hQ _ (fC rfl rfl fN)
      · replace h := ite_no hb h
        refine W_skip ?_
        refine W_text ?_
        refine dq (ps := [(15, pI .i64 v5)]) rfl rfl rfl ?_
        refine dq (ps := [(16, pI .i64 (w64 (v5 + 1)))]) rfl rfl rfl ?_
        refine dq (ps := [(5, pI .i64 (w64 (v5 + 1)))]) rfl rfl rfl ?_
        refine DL_nil ?_
        exact ⟨n, Nat.lt_succ_self n, _,  h, (nC rfl (nC rfl (nC rfl nN)))⟩
    · replace h := ite_no hb h
      refine W_exit ?_
      cases h
      exact hQ _ nN

def leqStringS (n : Nat) (a0 : List ByteArray) (a1 : List ByteArray) : Option (Bool) :=
  (if ((a0.length : Int) != (a1.length : Int)) = true then some false else ((leqStringS_L0 n a0 a1 0).bind fun o => (match o with | .go _ => some true | .brk _ _ => none | .ret r => some r)))

theorem vc_leqStringS (n : Nat) (a0 : List ByteArray) (a1 : List ByteArray) (r : Bool) (h : leqStringS n a0 a1 = some r) : VC Tryd.prog 22 [.sh false (cLStr false a0), .sh false (cLStr false a1)] [(false, cB true r)] [] := by
  refine VC_of 26 Tryd.func22 rfl rfl rfl fun G0 w0 pv => ?_
  unfold leqStringS at h
  refine W_seq ?_
  refine W_text ?_
  refine dq (ps := [(4, pB false)]) rfl rfl rfl ?_
  refine DL_nil ?_
  refine W_seq ?_
  refine W_seq ?_
  refine W_text ?_
  refine dq (ps := [(6, .val false [.t (.sl false 1 (a0.map (cS false)))])]) rfl rfl rfl ?_
  refine dLen (t := 22) (n := (a0.length : Int)) rfl (ltF rfl) rfl rfl (lenE rfl (List.length_map ..)) rfl ?_
  refine dq (ps := [(8, .val false [.t (.sl false 1 (a1.map (cS false)))])]) rfl rfl rfl ?_
  refine dLen (t := 22) (n := (a1.length : Int)) rfl (ltF rfl) rfl rfl (lenE rfl (List.length_map ..)) rfl ?_
  refine dq (ps := [(10, pB ((a0.length : Int) != (a1.length : Int)))]) rfl rfl rfl ?_
  refine DL_nil ?_
  refine W_split ⟨ltF rfl, rfl⟩ (fun hb => ?_) (fun hb => ?_)
  · replace h := ite_yes hb h
    refine W_seq ?_
    refine W_text ?_
    refine dq (ps := [(4, pB false)]) rfl rfl rfl ?_
    refine DL_nil ?_
    refine W_ret ?_
    cases h
    exact ⟨.inr rfl, leaves_of [.tmp 4] rfl (by decide) (.tmp (ltF rfl) rfl .nil)⟩
  · replace h := ite_no hb h
    refine W_skip ?_
    refine W_seq ?_
    refine W_seq ?_
    refine W_text ?_
    refine dq (ps := [(5, pI .i64 0)]) rfl rfl rfl ?_
    refine DL_nil ?_
    refine W_block ?_
    obtain ⟨o, ho, h⟩ := bind_some h
    refine leqStringS_L0_ok ?_ ho _ (nC rfl (nC rfl (nC rfl nN)))
    rcases o with p | ⟨j, p⟩ | r
    · skip
      dsimp only at h ⊢
      intro st hst
      refine W_fn hst rfl ?_
      refine W_seq ?_
      refine W_text ?_
      refine dq (ps := [(4, pB true)]) rfl rfl rfl ?_
      refine DL_nil ?_
      refine W_ret ?_
      cases h
      exact ⟨.inr rfl, leaves_of [.tmp 4] rfl (by decide) (.tmp (ltF rfl) rfl .nil)⟩
    · exact trivial
    · dsimp only at h ⊢
      intro st hst
      cases h
      exact ⟨.inr rfl, leaves_of [.tmp 4] rfl (by decide) (.tmp (ltF rfl) (hst.at (s := 4) rfl rfl) .nil)⟩

-- leqBitmap: loop.example/g00883/laws.eqBitmap
def leqBitmap (n : Nat) (a0 : SBitmap) (a1 : SBitmap) : Option (Bool) :=
  (if (a0.Left != a1.Left) = true then some false else (if (a0.Bottom != a1.Bottom) = true then some false else (if (a0.Width != a1.Width) = true then some false else ((leqStringS n a0.Rows a1.Rows).bind fun r => (if (!r) = true then some false else some true)))))

theorem vc_leqBitmap (n : Nat) (a0 : SBitmap) (a1 : SBitmap) (r : Bool) (h : leqBitmap n a0 a1 = some r) : VC Tryd.prog 10 [.sh true (cBitmap false a0), .sh true (cBitmap false a1)] [(false, cB true r)] [] := by
  refine VC_of 26 Tryd.func10 rfl rfl rfl fun G0 w0 pv => ?_
  unfold leqBitmap at h
  refine W_seq ?_
  refine W_text ?_
  refine dBox (ts := (cBitmap false a0)) rfl rfl rfl rfl rfl ?_
  refine dBox (ts := (cBitmap false a1)) rfl rfl rfl rfl rfl ?_
  refine dq (ps := [(4, pB false)]) rfl rfl rfl ?_
  refine DL_nil ?_
  refine W_seq ?_
  refine W_seq ?_
  refine W_text ?_
  refine dFaB rfl rfl (ltF rfl) rfl rfl rfl rfl rfl rfl ?_
  refine dq (ps := [(6, pI .i64 a0.Left)]) rfl rfl rfl ?_
  refine dFaB rfl rfl (ltF rfl) rfl rfl rfl rfl rfl rfl ?_
  refine dq (ps := [(8, pI .i64 a1.Left)]) rfl rfl rfl ?_
  refine dq (ps := [(9, pB (a0.Left != a1.Left))]) rfl rfl rfl ?_
  refine DL_nil ?_
  refine W_split ⟨ltF rfl, rfl⟩ (fun hb => ?_) (fun hb => ?_)
  · replace h := ite_yes hb h
    refine W_seq ?_
    refine W_text ?_
    refine dq (ps := [(4, pB false)]) rfl rfl rfl ?_
    refine DL_nil ?_
    refine W_ret ?_
    cases h
    exact ⟨.inr rfl, leaves_of [.tmp 4] rfl (by decide) (.tmp (ltF rfl) rfl .nil)⟩
  · replace h := ite_no hb h
    refine W_skip ?_
    refine W_seq ?_
    refine W_seq ?_
    refine W_text ?_
    refine dFaB rfl rfl (ltF rfl) rfl rfl rfl rfl rfl rfl ?_
    refine dq (ps := [(11, pI .i64 a0.Bottom)]) rfl rfl rfl ?_
    refine dFaB rfl rfl (ltF rfl) rfl rfl rfl rfl rfl rfl ?_
    refine dq (ps := [(13, pI .i64 a1.Bottom)]) rfl rfl rfl ?_
    refine dq (ps := [(14, pB (a0.Bottom != a1.Bottom))]) rfl rfl rfl ?_
    refine DL_nil ?_
    refine W_split ⟨ltF rfl, rfl⟩ (fun hb => ?_) (fun hb => ?_)
    · replace h := ite_yes hb h
      refine W_seq ?_
      refine W_text ?_
      refine dq (ps := [(4, pB false)]) rfl rfl rfl ?_
      refine DL_nil ?_
      refine W_ret ?_
      cases h
      exact ⟨.inr rfl, leaves_of [.tmp 4] rfl (by decide) (.tmp (ltF rfl) rfl .nil)⟩
    · replace h := ite_no hb h
      refine W_skip ?_
      refine W_seq ?_
      refine W_seq ?_
      refine W_text ?_
      refine dFaB rfl rfl (ltF rfl) rfl rfl rfl rfl rfl rfl ?_
      refine dq (ps := [(16, pI .i64 a0.Width)]) rfl rfl rfl ?_
      refine dFaB rfl rfl (ltF rfl) rfl rfl rfl rfl rfl rfl ?_
      refine dq (ps := [(18, pI .i64 a1.Width)]) rfl rfl rfl ?_
      refine dq (ps := [(19, pB (a0.Width != a1.Width))]) rfl rfl rfl ?_
      refine DL_nil ?_
      refine W_split ⟨ltF rfl, rfl⟩ (fun hb => ?_) (fun hb => ?_)
      · replace h := ite_yes hb h
        refine W_seq ?_
        refine W_text ?_
        refine dq (ps := [(4, pB false)]) rfl rfl rfl ?_
        refine DL_nil ?_
        refine W_ret ?_
        cases h
        exact ⟨.inr rfl, leaves_of [.tmp 4] rfl (by decide) (.tmp (ltF rfl) rfl .nil)⟩
      · replace h := ite_no hb h
        refine W_skip ?_
        refine W_seq ?_
        refine W_seq ?_
        refine W_text ?_
        refine dFaB rfl rfl (ltF rfl) rfl rfl rfl rfl rfl rfl ?_
        refine dq (ps := [(21, .val false [.t (.sl false 1 (a0.Rows.map (cS false)))])]) rfl rfl rfl ?_
        refine dFaB rfl rfl (ltF rfl) rfl rfl rfl rfl rfl rfl ?_
        refine dq (ps := [(23, .val false [.t (.sl false 1 (a1.Rows.map (cS false)))])]) rfl rfl rfl ?_
        obtain ⟨r, hr, h⟩ := bind_some h
        refine dCall (gn := 22) (fn := Tryd.f22) (cp := []) (lt := []) [21, 23] (vc_leqStringS n a0.Rows a1.Rows _ hr) Tryd.func22 rfl rfl rfl rfl (.inl rfl) (.inl rfl) (fun st2 h2 => ⟨rfl, args_of0 (.cons (aF (ltF rfl) ((congrArg Slot.sv (h2 21 (by decide))).trans rfl) rfl) (.cons (aF (ltF rfl) ((congrArg Slot.sv (h2 23 (by decide))).trans rfl) rfl) .nil))⟩) rfl ?_
        refine dq (ps := [(25, pB (!r))]) rfl rfl rfl ?_
        refine DL_nil ?_
        refine W_fn (l := [(25, pB (!r))]) (nC rfl nN) rfl ?_
        refine W_split ⟨ltF rfl, rfl⟩ (fun hb => ?_) (fun hb => ?_)
        · replace h := ite_yes hb h
          refine W_seq ?_
          refine W_text ?_
          refine dq (ps := [(4, pB false)]) rfl rfl rfl ?_
          refine DL_nil ?_
          refine W_ret ?_
          cases h
          exact ⟨.inr rfl, leaves_of [.tmp 4] rfl (by decide) (.tmp (ltF rfl) rfl .nil)⟩
        · replace h := ite_no hb h
          refine W_skip ?_
          refine W_seq ?_
          refine W_text ?_
          refine dq (ps := [(4, pB true)]) rfl rfl rfl ?_
          refine DL_nil ?_
          refine W_ret ?_
          cases h
          exact ⟨.inr rfl, leaves_of [.tmp 4] rfl (by decide) (.tmp (ltF rfl) rfl .nil)⟩

-- lmarkText: loop.example/g00883/laws.markText
def lmarkText_L0 : Nat → Int → ByteArray → Option (Out (ByteArray) (ByteArray))
  | 0, _, _ => none
  | n + 1, v0, v3 => (if (decide (v0 > 0)) = true then (if (strOf ([IntKind.u8.wrap (w64 (48 + (v0.tmod 10)))])).size + v3.size ≤ 9223372036854775807 then lmarkText_L0 n (w64 (v0.tdiv 10)) ((strOf ([IntKind.u8.wrap (w64 (48 + (v0.tmod 10)))])) ++ v3) else none) else some (.go v3))

theorem lmarkText_L0_ok {G0 : Nat → Own} {w0 : World} {Q : Exit → St → Prop}  {out : (Out (ByteArray) (ByteArray))}
    (hQ : match out with | .go q3 => ∀ st, FN st [(3, pS q3)] → Q (.exit 0) st | .brk _ _ => True | .ret r => ∀ st, Fits st [(2, .val false ((cS true r).map .t))] → Q .ret st)
    {n : Nat} {v0 : Int} {v3 : ByteArray} (h : lmarkText_L0 n v0 v3 = some out) :
    ∀ st, FN st [(0, pI .i64 v0), (3, pS v3)] → W ⟨Tryd.prog, 20, [], G0, w0⟩ (.loop (bodyAt Tryd.f43 [1, 1, 1, 0, 0, 0])) st Q := by
  intro st hst
  refine W_loop (fun n st => ∃ v0 v3, lmarkText_L0 n v0 v3 = some out ∧ FN st [(0, pI .i64 v0), (3, pS v3)]) ?_ (n := n) ⟨v0, v3, h, hst⟩
  clear h hst st n v0 v3
  rintro n st ⟨v0, v3, h, hst⟩
  refine W_fn hst rfl ?_
  cases n with
  | zero => cases h
  | succ n =>
    rw [lmarkText_L0] at h
    refine W_seq ?_
    refine W_seq ?_
    refine W_text ?_
    refine dq (ps := [(6, pI .i64 v0)]) rfl rfl rfl ?_
    refine dq (ps := [(7, pB (decide (v0 > 0)))]) rfl rfl rfl ?_
    refine DL_nil ?_
    refine W_split ⟨ltF rfl, rfl⟩ (fun hb => ?_) (fun hb => ?_)
    · replace h := ite_yes hb h
      refine W_skip ?_
      refine W_block ?_
      refine W_seq ?_
      refine W_text ?_
      refine dq (ps := [(8, pI .i64 v0)]) rfl rfl rfl ?_
      refine dx (ps := [(9, pI .i64 (v0.tmod 10))]) rfl rfl rfl ?_
      refine dq (ps := [(10, pI .i64 (w64 (48 + (v0.tmod 10))))]) rfl rfl rfl ?_
      refine dx (ps := [(11, pI .u8 (IntKind.u8.wrap (w64 (48 + (v0.tmod 10)))))]) rfl rfl rfl ?_
      refine dBS (zs := [.sc (.int .u8 0)]) (ts := [.sc (.int .u8 (IntKind.u8.wrap (w64 (48 + (v0.tmod 10)))))]) (els := (([IntKind.u8.wrap (w64 (48 + (v0.tmod 10)))]).map ((cI .u8) true))) (qs := [(0, [.sc (.int .u8 (IntKind.u8.wrap (w64 (48 + (v0.tmod 10)))))])]) [11] rfl rfl rfl (zeros_of _ rfl ⟨z1 rfl, trivial⟩) rfl rfl rfl rfl rfl (fun st2 h2 => (.cons rfl (⟨ltF rfl, (congrArg Slot.sv (h2 11 (by decide))).trans rfl⟩) rfl .nil)) rfl ?_
      refine dByt (ns := [IntKind.u8.wrap (w64 (48 + (v0.tmod 10)))]) rfl rfl (ltF rfl) rfl rfl rfl rfl rfl ?_
      refine dq (ps := [(14, pS v3)]) rfl rfl rfl ?_
      obtain ⟨hp, h⟩ := ite_some h
      refine dCat rfl rfl rfl rfl hp rfl ?_
      refine dq (ps := [(3, pS ((strOf ([IntKind.u8.wrap (w64 (48 + (v0.tmod 10)))])) ++ v3))]) rfl rfl rfl ?_
      refine DL_nil ?_
      refine W_fn (l := [(0, pI .i64 v0), (3, pS ((strOf ([IntKind.u8.wrap (w64 (48 + (v0.tmod 10)))])) ++ v3))]) (nC rfl (nC rfl nN)) rfl ?_
      refine W_text ?_
      refine dq (ps := [(16, pI .i64 v0)]) rfl rfl rfl ?_
      refine dx (ps := [(17, pI .i64 (w64 (v0.tdiv 10)))]) rfl rfl rfl ?_
      refine dq (ps := [(0, pI .i64 (w64 (v0.tdiv 10)))]) rfl rfl rfl ?_
      refine DL_nil ?_
      exact ⟨n, Nat.lt_succ_self n, _, _,  h, (nC rfl (nC rfl nN))⟩
    · replace h := ite_no hb h
      refine W_exit ?_
      cases h
      exact hQ _ (nC rfl nN)

def lmarkText (n : Nat) (a0 : Int) : Option (ByteArray) :=
  (if (decide (a0 ≤ 0)) = true then some (ByteArray.mk #[109, 48]) else ((lmarkText_L0 n a0 (ByteArray.mk #[])).bind fun o => (match o with | .go q3_1 => (if (ByteArray.mk #[109]).size + q3_1.size ≤ 9223372036854775807 then some ((ByteArray.mk #[109]) ++ q3_1) else none) | .brk _ _ => none | .ret r => some r)))

theorem vc_lmarkText (n : Nat) (a0 : Int) (r : ByteArray) (h : lmarkText n a0 = some r) : VC Tryd.prog 43 [.sh false ((cI .i64) false a0)] [(false, cS true r)] [] := by
  refine VC_of 20 Tryd.func43 rfl rfl rfl fun G0 w0 pv => ?_
  unfold lmarkText at h
  refine W_seq ?_
  refine W_text ?_
  refine dq (ps := [(2, pS (ByteArray.mk #[]))]) rfl rfl rfl ?_
  refine DL_nil ?_
  refine W_seq ?_
  refine W_seq ?_
  refine W_text ?_
  refine dq (ps := [(4, pI .i64 a0)]) rfl rfl rfl ?_
  refine dq (ps := [(5, pB (decide (a0 ≤ 0)))]) rfl rfl rfl ?_
  refine DL_nil ?_
  refine W_split ⟨ltF rfl, rfl⟩ (fun hb => ?_) (fun hb => ?_)
  · replace h := ite_yes hb h
    refine W_seq ?_
    refine W_text ?_
    refine dq (ps := [(2, pS (ByteArray.mk #[109, 48]))]) rfl rfl rfl ?_
    refine DL_nil ?_
    refine W_ret ?_
    cases h
    exact ⟨.inr rfl, leaves_of [.tmp 2] rfl (by decide) (.tmp (ltF rfl) rfl .nil)⟩
  · replace h := ite_no hb h
    refine W_skip ?_
    refine W_seq ?_
    refine W_text ?_
    refine dq (ps := [(3, pS (ByteArray.mk #[]))]) rfl rfl rfl ?_
    refine DL_nil ?_
    refine W_seq ?_
    refine W_block ?_
    obtain ⟨o, ho, h⟩ := bind_some h
    refine lmarkText_L0_ok ?_ ho _ (nC rfl (nC rfl nN))
    rcases o with q3_1 | ⟨j, p⟩ | r
    · skip
      dsimp only at h ⊢
      intro st hst
      refine W_fn hst rfl ?_
      refine W_seq ?_
      refine W_text ?_
      refine dq (ps := [(18, pS q3_1)]) rfl rfl rfl ?_
      obtain ⟨hp, h⟩ := ite_some h
      refine dCat rfl rfl rfl rfl hp rfl ?_
      refine dq (ps := [(2, pS ((ByteArray.mk #[109]) ++ q3_1))]) rfl rfl rfl ?_
      refine DL_nil ?_
      refine W_ret ?_
      cases h
      exact ⟨.inr rfl, leaves_of [.tmp 2] rfl (by decide) (.tmp (ltF rfl) rfl .nil)⟩
    · exact trivial
    · dsimp only at h ⊢
      intro st hst
      cases h
      exact ⟨.inr rfl, leaves_of [.tmp 2] rfl (by decide) (.tmp (ltF rfl) (hst.at (s := 2) rfl rfl) .nil)⟩

-- lmarkStringS: loop.example/g00883/laws.markStringS
def lmarkStringS_L0 : Nat → (List ByteArray) → Int → Int → Option (Out (List ByteArray × Int) (Int × List ByteArray))
  | 0, _, _, _ => none
  | n + 1, v0, v1, v5 => (if (decide (v5 < (v0.length : Int))) = true then ((lmarkText n v1).bind fun r => ((getI v0 v5).bind fun x => lmarkStringS_L0 n (v0.set v5.toNat r) (w64 (v1 + 1)) (w64 (v5 + 1)))) else some (.go (v0, v1)))

theorem lmarkStringS_L0_ok {G0 : Nat → Own} {w0 : World} {Q : Exit → St → Prop} {pv : Nat → Value}  {out : (Out (List ByteArray × Int) (Int × List ByteArray))}
    (hQ : match out with | .go (q0, q1) => ∀ st, FN st [(0, .val false [.t (.sl true 1 (q0.map (cS true)))]), (1, pI .i64 q1)] → Q (.exit 0) st | .brk _ _ => True | .ret r => ∀ st, Fits st [(4, .val false (((cI .i64) true r.1).map .t)), (0, argSV (.mv false (cLStr true r.2)))] → Q .ret st)
    {n : Nat} {v0 : List ByteArray} {v1 : Int} {v5 : Int} (h : lmarkStringS_L0 n v0 v1 v5 = some out) :
    ∀ st, FN st [(0, .val false [.t (.sl true 1 (v0.map (cS true)))]), (1, pI .i64 v1), (5, pI .i64 v5)] → W ⟨Tryd.prog, 20, [(0, pv 0)], G0, w0⟩ (.loop (bodyAt Tryd.f23 [1, 0, 1, 0, 0])) st Q := by
  intro st hst
  refine W_loop (fun n st => ∃ v0 v1 v5, lmarkStringS_L0 n v0 v1 v5 = some out ∧ FN st [(0, .val false [.t (.sl true 1 (v0.map (cS true)))]), (1, pI .i64 v1), (5, pI .i64 v5)]) ?_ (n := n) ⟨v0, v1, v5, h, hst⟩
  clear h hst st n v0 v1 v5
  rintro n st ⟨v0, v1, v5, h, hst⟩
  refine W_fn hst rfl ?_
  cases n with
  | zero => cases h
  | succ n =>
    rw [lmarkStringS_L0] at h
    refine W_seq ?_
    refine W_seq ?_
    refine W_text ?_
    refine dq (ps := [(6, pI .i64 v5)]) rfl rfl rfl ?_
    refine dq (ps := [(7, .val false [.ref 0 0 [(0, 0)]])]) rfl rfl rfl ?_
    refine dLen (t := 22) (n := (v0.length : Int)) rfl (ltF rfl) rfl rfl (lenE rfl (List.length_map ..)) rfl ?_
    refine dq (ps := [(9, pB (decide (v5 < (v0.length : Int))))]) rfl rfl rfl ?_
    refine DL_nil ?_
    refine W_split ⟨ltF rfl, rfl⟩ (fun hb => ?_) (fun hb => ?_)
    · replace h := ite_yes hb h
      refine W_skip ?_
      refine W_seq ?_
      refine W_block ?_
      refine W_seq ?_
      refine W_text ?_
      refine dq (ps := [(12, .val false [.ref 0 0 [(0, 0)]])]) rfl rfl rfl ?_
      refine dq (ps := [(13, pI .i64 v5)]) rfl rfl rfl ?_
      refine dq (ps := [(14, pI .i64 v1)]) rfl rfl rfl ?_
      obtain ⟨r, hr, h⟩ := bind_some h
      refine dCall (gn := 43) (fn := Tryd.f43) (cp := []) (lt := []) [14] (vc_lmarkText n v1 _ hr) Tryd.func43 rfl rfl rfl rfl (.inl rfl) (.inl rfl) (fun st2 h2 => ⟨rfl, args_of0 (.cons (aF (ltF rfl) ((congrArg Slot.sv (h2 14 (by decide))).trans rfl) rfl) .nil)⟩) rfl ?_
      obtain ⟨x, hx, h⟩ := bind_some h
      refine dIxO (v := 0) rfl rfl (ltF rfl) rfl rfl rfl (getI_lt (cS true) hx) rfl rfl rfl rfl rfl ?_
      refine dStO (ag := false) (ts := [.sc (.string r)]) (sv := .val false [.t (.sl true 1 ((v0.set v5.toNat r).map (cS true)))]) [16, 0, 15] rfl (ltF rfl) (by decide) (by decide) rfl rfl rfl (getI_row (cS true) hx) rfl rfl rfl (fun st2 h2 => ⟨ltF rfl, (congrArg Slot.sv (h2 15 (by decide))).trans rfl⟩) (fun st2 h => by rw [List.map_set]; unfold St.setAt; rw [h]; rfl) rfl ?_
      refine DL_nil ?_
      refine W_fn (l := [(0, .val false [.t (.sl true 1 ((v0.set v5.toNat r).map (cS true)))]), (1, pI .i64 v1), (5, pI .i64 v5)]) (nC rfl (nC rfl (nC rfl nN))) rfl ?_
      refine W_text ?_
      refine dq (ps := [(17, pI .i64 v1)]) rfl rfl rfl ?_
      refine dq (ps := [(18, pI .i64 (w64 (v1 + 1)))]) rfl rfl rfl ?_
      refine dq (ps := [(1, pI .i64 (w64 (v1 + 1)))]) rfl rfl rfl ?_
      refine DL_nil ?_
      refine W_text ?_
      refine dq (ps := [(10, pI .i64 v5)]) rfl rfl rfl ?_
      refine dq (ps := [(11, pI .i64 (w64 (v5 + 1)))]) rfl rfl rfl ?_
      refine dq (ps := [(5, pI .i64 (w64 (v5 + 1)))]) rfl rfl rfl ?_
      refine DL_nil ?_
      exact ⟨n, Nat.lt_succ_self n, _, _, _,  h, (nC rfl (nC rfl (nC rfl nN)))⟩
    · replace h := ite_no hb h
      refine W_exit ?_
      cases h
      exact hQ _ (nC rfl (nC rfl nN))

def lmarkStringS (n : Nat) (a0 : List ByteArray) (a1 : Int) : Option (Int × List ByteArray) :=
  ((lmarkStringS_L0 n a0 a1 0).bind fun o => (match o with | .go (q0_1, q1_1) => some (q1_1, q0_1) | .brk _ _ => none | .ret r => some r))

theorem vc_lmarkStringS (n : Nat) (a0 : List ByteArray) (a1 : Int) (r : Int × List ByteArray) (h : lmarkStringS n a0 a1 = some r) : VC Tryd.prog 23 [.mv false (cLStr true a0), .sh false ((cI .i64) false a1)] [(false, (cI .i64) true r.1)] [some (.mv false (cLStr true r.2))] := by
  refine VC_of 20 Tryd.func23 rfl rfl rfl fun G0 w0 pv => ?_
  unfold lmarkStringS at h
  refine W_seq ?_
  refine W_text ?_
  refine dq (ps := [(4, pI .i64 0)]) rfl rfl rfl ?_
  refine DL_nil ?_
  refine W_seq ?_
  refine W_seq ?_
  refine W_text ?_
  refine dq (ps := [(5, pI .i64 0)]) rfl rfl rfl ?_
  refine DL_nil ?_
  refine W_block ?_
  obtain ⟨o, ho, h⟩ := bind_some h
  refine lmarkStringS_L0_ok ?_ ho _ (nC rfl (nC rfl (nC rfl nN)))
  rcases o with p | ⟨j, p⟩ | r
  · obtain ⟨q0_1, q1_1⟩ := p
    dsimp only at h ⊢
    intro st hst
    refine W_fn hst rfl ?_
    refine W_seq ?_
    refine W_text ?_
    refine dq (ps := [(19, pI .i64 q1_1)]) rfl rfl rfl ?_
    refine dq (ps := [(4, pI .i64 q1_1)]) rfl rfl rfl ?_
    refine DL_nil ?_
    refine W_ret ?_
    cases h
    exact ⟨.inr rfl, leavesF [.tmp 4] rfl (by decide) (.tmp (ltF rfl) rfl .nil) (.some rfl rfl rfl rfl (by decide) .nil)⟩
  · exact trivial
  · dsimp only at h ⊢
    intro st hst
    cases h
    exact ⟨.inr rfl, leavesF [.tmp 4] rfl (by decide) (.tmp (ltF rfl) (hst.at (s := 4) rfl rfl) .nil) (.some (hst.at (s := 0) rfl rfl) rfl rfl rfl (by decide) .nil)⟩

-- lmarkBitmap: loop.example/g00883/laws.markBitmap
def lmarkBitmap (n : Nat) (a0 : SBitmap) (a1 : Int) : Option (Int × SBitmap) :=
  ((lmarkStringS n a0.Rows a1).bind fun r => some (r.1, (SBitmap.mk a0.Left a0.Bottom a0.Width r.2)))

theorem vc_lmarkBitmap (n : Nat) (a0 : SBitmap) (a1 : Int) (r : Int × SBitmap) (h : lmarkBitmap n a0 a1 = some r) : VC Tryd.prog 11 [.mv true (cBitmap true a0), .sh false ((cI .i64) false a1)] [(false, (cI .i64) true r.1)] [some (.mv true (cBitmap true r.2))] := by
  refine VC_of 10 Tryd.func11 rfl rfl rfl fun G0 w0 pv => ?_
  unfold lmarkBitmap at h
  refine W_seq ?_
  refine W_hd (s := 0) (j := 3) rfl rfl rfl fun A0_3 n0_3 c0_3 e0_3 => ?_
  refine W_text ?_
  refine dBoxH (ts := [.sc (.int .i64 a0.Left), .sc (.int .i64 a0.Bottom), .sc (.int .i64 a0.Width), .sc (.slice A0_3 n0_3 c0_3)]) rfl rfl (ltF rfl) rfl rfl (.free rfl (.free rfl (.free rfl (.hd e0_3 .nil)))) rfl ?_
  refine dq (ps := [(4, pI .i64 0)]) rfl rfl rfl ?_
  refine DL_nil ?_
  refine W_seq ?_
  refine W_text ?_
  refine dFaB rfl rfl (ltF rfl) rfl rfl rfl rfl rfl rfl ?_
  refine dqU (d := 6) (ag := false) (cs := [.t (.sc (.slice A0_3 n0_3 c0_3))]) (cs' := [.ref 0 0 [(0, 3)]]) [5, 2, 0] rfl rfl rfl rfl (fun st2 h2 => (.up rfl ((congrArg Slot.sv ((put_ne _ _ (by decide)).trans (h2 0 (by decide)))).trans rfl) rfl e0_3 ((congrArg Slot.ver ((put_ne _ _ (by decide)).trans (h2 0 (by decide)))).trans rfl) .nil)) rfl ?_
  refine dq (ps := [(7, pI .i64 a1)]) rfl rfl rfl ?_
  obtain ⟨r, hr, h⟩ := bind_some h
  refine dCallM (gn := 23) (fn := Tryd.f23) (cp := []) (lt := []) [.row 0 [] 0 3 0 [0]] [(0, .val true [.t (.sc (.int .i64 a0.Left)), .t (.sc (.int .i64 a0.Bottom)), .t (.sc (.int .i64 a0.Width)), .t (.sl true 1 (r.2.map (cS true)))])] [0, 6, 7] (vc_lmarkStringS n a0.Rows a1 _ hr) Tryd.func23 rfl rfl rfl rfl rfl (.inl rfl) (fun st2 h2 => (.cons (newVal rfl rfl ((congrArg Slot.sv (h2 0 (by decide))).trans rfl) rfl) rfl .nil)) (fun st2 h2 => ⟨rfl, args_of0 (.cons (aMv (ltF rfl) ((congrArg Slot.sv (h2 6 (by decide))).trans rfl) (.head _) (.cons (.ref (congrArg Slot.ver (h2 0 (by decide))) rfl ((at_agree (h2 0 (by decide))).trans rfl) (by decide)) .nil)) (.cons (aF (ltF rfl) ((congrArg Slot.sv (h2 7 (by decide))).trans rfl) rfl) .nil))⟩) rfl ?_
  refine dq (ps := [(1, pI .i64 r.1)]) rfl rfl rfl ?_
  refine DL_nil ?_
  refine W_seq ?_
  refine W_text ?_
  refine dq (ps := [(9, pI .i64 r.1)]) rfl rfl rfl ?_
  refine dq (ps := [(4, pI .i64 r.1)]) rfl rfl rfl ?_
  refine DL_nil ?_
  refine W_ret ?_
  cases h
  exact ⟨.inr rfl, leavesF [.tmp 4] rfl (by decide) (.tmp (ltF rfl) rfl .nil) (.some rfl rfl rfl rfl (by decide) .nil)⟩

-- lheldStringS: loop.example/g00883/laws.heldStringS
def lheldStringS_L0 : Nat → (List ByteArray) → Int → Int → Option (Out (Int) (Int))
  | 0, _, _, _ => none
  | n + 1, a0, v1, v5 => (if (decide (v5 < (a0.length : Int))) = true then ((getI a0 v5).bind fun x => ((lmarkText n v1).bind fun r => (if (!(sEq x r)) = true then some (.ret (-1)) else lheldStringS_L0 n a0 (w64 (v1 + 1)) (w64 (v5 + 1))))) else some (.go v1))

theorem lheldStringS_L0_ok {G0 : Nat → Own} {w0 : World} {Q : Exit → St → Prop} {a0 : List ByteArray} {out : (Out (Int) (Int))}
    (hQ : match out with | .go q1 => ∀ st, FN st [(1, pI .i64 q1)] → Q (.exit 0) st | .brk _ _ => True | .ret r => ∀ st, Fits st [(4, .val false (((cI .i64) true r).map .t))] → Q .ret st)
    {n : Nat} {v1 : Int} {v5 : Int} (h : lheldStringS_L0 n a0 v1 v5 = some out) :
    ∀ st, FN st [(0, .val false [.t (.sl false 1 (a0.map (cS false)))]), (1, pI .i64 v1), (5, pI .i64 v5)] → W ⟨Tryd.prog, 22, [], G0, w0⟩ (.loop (bodyAt Tryd.f24 [1, 0, 1, 0, 0])) st Q := by
  intro st hst
  refine W_loop (fun n st => ∃ v1 v5, lheldStringS_L0 n a0 v1 v5 = some out ∧ FN st [(0, .val false [.t (.sl false 1 (a0.map (cS false)))]), (1, pI .i64 v1), (5, pI .i64 v5)]) ?_ (n := n) ⟨v1, v5, h, hst⟩
  clear h hst st n v1 v5
  rintro n st ⟨v1, v5, h, hst⟩
  refine W_fn hst rfl ?_
  cases n with
  | zero => cases h
  | succ n =>
    rw [lheldStringS_L0] at h
    refine W_seq ?_
    refine W_seq ?_
    refine W_text ?_
    refine dq (ps := [(6, pI .i64 v5)]) rfl rfl rfl ?_
    refine dq (ps := [(7, .val false [.t (.sl false 1 (a0.map (cS false)))])]) rfl rfl rfl ?_
    refine dLen (t := 22) (n := (a0.length : Int)) rfl (ltF rfl) rfl rfl (lenE rfl (List.length_map ..)) rfl ?_
    refine dq (ps := [(9, pB (decide (v5 < (a0.length : Int))))]) rfl rfl rfl ?_
    refine DL_nil ?_
    refine W_split ⟨ltF rfl, rfl⟩ (fun hb => ?_) (fun hb => ?_)
    · replace h := ite_yes hb h
      refine W_skip ?_
      refine W_seq ?_
      refine W_block ?_
      refine W_seq ?_
      refine W_seq ?_
      refine W_drawn rfl ?_
      refine dq (R' := [0]) (ps := [(12, .val false [.t (.sl false 1 (a0.map (cS false)))])]) rfl rfl rfl ?_
      refine dq (R' := [5]) (ps := [(13, pI .i64 v5)]) rfl rfl rfl ?_
      obtain ⟨x, hx, h⟩ := bind_some h
      refine dIxA (R' := [12, 13]) rfl rfl rfl rfl rfl (getI_map (cS false) hx) rfl ?_
      refine dq (R' := [14]) (ps := [(15, pS x)]) rfl rfl rfl ?_
      refine dq (R' := [1]) (ps := [(16, pI .i64 v1)]) rfl rfl rfl ?_
      obtain ⟨r, hr, h⟩ := bind_some h
      refine dCall (gn := 43) (fn := Tryd.f43) (cp := []) (lt := []) [16] (vc_lmarkText n v1 _ hr) Tryd.func43 rfl rfl rfl rfl (.inl rfl) (.inl rfl) (fun st2 h2 => ⟨rfl, args_of0 (.cons (aF (ltF rfl) ((congrArg Slot.sv (h2 16 (by decide))).trans rfl) rfl) .nil)⟩) rfl ?_
      refine dq (R' := [15, 17]) (ps := [(18, pB (!(sEq x r)))]) rfl rfl rfl ?_
      refine DL_nil ⟨[([0], [12]), ([5], [13]), ([12, 13], [14]), ([14], [15]), ([1], [16]), ([16], [17]), ([15, 17], [18])], rfl, by decide +kernel, ?_⟩
      refine W_fn (l := [(0, .val false [.t (.sl false 1 (a0.map (cS false)))]), (1, pI .i64 v1), (5, pI .i64 v5), (18, pB (!(sEq x r)))]) (nC rfl (nC rfl (nC rfl (nC rfl nN)))) rfl ?_
      refine W_split ⟨ltF rfl, rfl⟩ (fun hb => ?_) (fun hb => ?_)
      · replace h := ite_yes hb h
        refine W_seq ?_
        refine W_text ?_
        refine dq (ps := [(4, pI .i64 (-1))]) rfl rfl rfl ?_
        refine DL_nil ?_
        refine W_ret ?_
        cases h
        exact hQ _ (fC rfl rfl fN)
      · replace h := ite_no hb h
        refine W_skip ?_
        refine W_text ?_
        refine dq (ps := [(19, pI .i64 v1)]) rfl rfl rfl ?_
        refine dq (ps := [(20, pI .i64 (w64 (v1 + 1)))]) rfl rfl rfl ?_
        refine dq (ps := [(1, pI .i64 (w64 (v1 + 1)))]) rfl rfl rfl ?_
        refine DL_nil ?_
        refine W_text ?_
        refine dq (ps := [(10, pI .i64 v5)]) rfl rfl rfl ?_
        refine dq (ps := [(11, pI .i64 (w64 (v5 + 1)))]) rfl rfl rfl ?_
        refine dq (ps := [(5, pI .i64 (w64 (v5 + 1)))]) rfl rfl rfl ?_
        refine DL_nil ?_
        exact ⟨n, Nat.lt_succ_self n, _, _,  h, (nC rfl (nC rfl (nC rfl nN)))⟩
    · replace h := ite_no hb h
      refine W_exit ?_
      cases h
      exact hQ _ (nC rfl nN)

def lheldStringS (n : Nat) (a0 : List ByteArray) (a1 : Int) : Option (Int) :=
  ((lheldStringS_L0 n a0 a1 0).bind fun o => (match o with | .go q1_1 => some q1_1 | .brk _ _ => none | .ret r => some r))

theorem vc_lheldStringS (n : Nat) (a0 : List ByteArray) (a1 : Int) (r : Int) (h : lheldStringS n a0 a1 = some r) : VC Tryd.prog 24 [.sh false (cLStr false a0), .sh false ((cI .i64) false a1)] [(false, (cI .i64) true r)] [] := by
  refine VC_of 22 Tryd.func24 rfl rfl rfl fun G0 w0 pv => ?_
  unfold lheldStringS at h
  refine W_seq ?_
  refine W_text ?_
  refine dq (ps := [(4, pI .i64 0)]) rfl rfl rfl ?_
  refine DL_nil ?_
  refine W_seq ?_
  refine W_seq ?_
  refine W_text ?_
  refine dq (ps := [(5, pI .i64 0)]) rfl rfl rfl ?_
  refine DL_nil ?_
  refine W_block ?_
  obtain ⟨o, ho, h⟩ := bind_some h
  refine lheldStringS_L0_ok ?_ ho _ (nC rfl (nC rfl (nC rfl nN)))
  rcases o with q1_1 | ⟨j, p⟩ | r
  · skip
    dsimp only at h ⊢
    intro st hst
    refine W_fn hst rfl ?_
    refine W_seq ?_
    refine W_text ?_
    refine dq (ps := [(21, pI .i64 q1_1)]) rfl rfl rfl ?_
    refine dq (ps := [(4, pI .i64 q1_1)]) rfl rfl rfl ?_
    refine DL_nil ?_
    refine W_ret ?_
    cases h
    exact ⟨.inr rfl, leaves_of [.tmp 4] rfl (by decide) (.tmp (ltF rfl) rfl .nil)⟩
  · exact trivial
  · dsimp only at h ⊢
    intro st hst
    cases h
    exact ⟨.inr rfl, leaves_of [.tmp 4] rfl (by decide) (.tmp (ltF rfl) (hst.at (s := 4) rfl rfl) .nil)⟩

-- lheldBitmap: loop.example/g00883/laws.heldBitmap
def lheldBitmap (n : Nat) (a0 : SBitmap) (a1 : Int) : Option (Int) :=
  ((lheldStringS n a0.Rows a1).bind fun r => (if (decide (r < 0)) = true then some (-1) else some r))

theorem vc_lheldBitmap (n : Nat) (a0 : SBitmap) (a1 : Int) (r : Int) (h : lheldBitmap n a0 a1 = some r) : VC Tryd.prog 12 [.sh true (cBitmap false a0), .sh false ((cI .i64) false a1)] [(false, (cI .i64) true r)] [] := by
  refine VC_of 12 Tryd.func12 rfl rfl rfl fun G0 w0 pv => ?_
  unfold lheldBitmap at h
  refine W_seq ?_
  refine W_text ?_
  refine dBox (ts := (cBitmap false a0)) rfl rfl rfl rfl rfl ?_
  refine dq (ps := [(4, pI .i64 0)]) rfl rfl rfl ?_
  refine DL_nil ?_
  refine W_seq ?_
  refine W_text ?_
  refine dFaB rfl rfl (ltF rfl) rfl rfl rfl rfl rfl rfl ?_
  refine dq (ps := [(6, .val false [.t (.sl false 1 (a0.Rows.map (cS false)))])]) rfl rfl rfl ?_
  refine dq (ps := [(7, pI .i64 a1)]) rfl rfl rfl ?_
  obtain ⟨r, hr, h⟩ := bind_some h
  refine dCall (gn := 24) (fn := Tryd.f24) (cp := []) (lt := []) [6, 7] (vc_lheldStringS n a0.Rows a1 _ hr) Tryd.func24 rfl rfl rfl rfl (.inl rfl) (.inl rfl) (fun st2 h2 => ⟨rfl, args_of0 (.cons (aF (ltF rfl) ((congrArg Slot.sv (h2 6 (by decide))).trans rfl) rfl) (.cons (aF (ltF rfl) ((congrArg Slot.sv (h2 7 (by decide))).trans rfl) rfl) .nil))⟩) rfl ?_
  refine dq (ps := [(1, pI .i64 r)]) rfl rfl rfl ?_
  refine DL_nil ?_
  refine W_seq ?_
  refine W_seq ?_
  refine W_text ?_
  refine dq (ps := [(9, pI .i64 r)]) rfl rfl rfl ?_
  refine dq (ps := [(10, pB (decide (r < 0)))]) rfl rfl rfl ?_
  refine DL_nil ?_
  refine W_split ⟨ltF rfl, rfl⟩ (fun hb => ?_) (fun hb => ?_)
  · replace h := ite_yes hb h
    refine W_seq ?_
    refine W_text ?_
    refine dq (ps := [(4, pI .i64 (-1))]) rfl rfl rfl ?_
    refine DL_nil ?_
    refine W_ret ?_
    cases h
    exact ⟨.inr rfl, leaves_of [.tmp 4] rfl (by decide) (.tmp (ltF rfl) rfl .nil)⟩
  · replace h := ite_no hb h
    refine W_skip ?_
    refine W_seq ?_
    refine W_text ?_
    refine dq (ps := [(11, pI .i64 r)]) rfl rfl rfl ?_
    refine dq (ps := [(4, pI .i64 r)]) rfl rfl rfl ?_
    refine DL_nil ?_
    refine W_ret ?_
    cases h
    exact ⟨.inr rfl, leaves_of [.tmp 4] rfl (by decide) (.tmp (ltF rfl) rfl .nil)⟩

-- lFnExactMoveBitmap: loop.example/g00883/laws.FnExactMoveBitmap
def lFnExactMoveBitmap (n : Nat) (a0 : SBitmap) (a1 : Int) (a2 : Int) : Option (Bool) :=
  ((lszBitmap n a0 1048576).bind fun r => (if (decide (r < 0)) = true then some true else ((ltoBitmap n a0).bind fun r_1 => ((sMoveBitmap n r_1 a1 a2).bind fun r_2 => ((ltoBitmap n a0).bind fun r_3 => ((iMoveBitmap n r_3 a1 a2).bind fun r_4 => ((leqBitmap n r_4.1 r_2.1).bind fun r_5 => (if (!r_5) = true then some false else (if (r_4.2 != r_2.2) = true then some false else ((ltoBitmap n a0).bind fun r_6 => ((leqBitmap n r_3 r_6).bind fun r_7 => (if (!r_7) = true then some false else ((lmarkBitmap n r_3 1).bind fun r_8 => (if (decide (r_8.1 < 0)) = true then some false else ((leqBitmap n r_4.1 r_2.1).bind fun r_9 => (if (!r_9) = true then some false else (if (r_4.2 != r_2.2) = true then some false else ((lmarkBitmap n r_4.1 1).bind fun r_10 => ((lheldBitmap n (SBitmap.mk r_4.1.Left r_4.1.Bottom r_4.1.Width r_10.2.Rows) 1).bind fun r_11 => (if (decide (r_11 < 0)) = true then some false else (if (r_11 != r_10.1) = true then some false else ((ltoBitmap n a0).bind fun r_12 => ((iMoveBitmap n r_12 a1 a2).bind fun r_13 => ((leqBitmap n r_13.1 r_2.1).bind fun r_14 => (if (!r_14) = true then some false else (if (r_13.2 != r_2.2) = true then some false else ((lheldBitmap n (SBitmap.mk r_4.1.Left r_4.1.Bottom r_4.1.Width r_10.2.Rows) 1).bind fun r_15 => (if (decide (r_15 < 0)) = true then some false else (if (r_15 != r_10.1) = true then some false else some true)))))))))))))))))))))))))))))

theorem vc_lFnExactMoveBitmap (n : Nat) (a0 : SBitmap) (a1 : Int) (a2 : Int) (r : Bool) (h : lFnExactMoveBitmap n a0 a1 a2 = some r) : VC Tryd.prog 3 [.sh true (cBitmap false a0), .sh false ((cI .i64) false a1), .sh false ((cI .i64) false a2)] [(false, cB true r)] [] := by
  refine VC_of 106 Tryd.func3 rfl rfl rfl fun G0 w0 pv => ?_
  unfold lFnExactMoveBitmap at h
  refine W_seq ?_
  refine W_text ?_
  refine dBox (ts := (cBitmap false a0)) rfl rfl rfl rfl rfl ?_
  refine dq (ps := [(6, pB false)]) rfl rfl rfl ?_
  refine DL_nil ?_
  refine W_seq ?_
  refine W_text ?_
  refine dq (ps := [(7, pI .i64 1048576)]) rfl rfl rfl ?_
  refine DL_nil ?_
  refine W_seq ?_
  refine W_text ?_
  refine dLdB (sv := .val true [.t (.sc (.int .i64 a0.Left)), .t (.sc (.int .i64 a0.Bottom)), .t (.sc (.int .i64 a0.Width)), .t (.sl false 1 (a0.Rows.map (cS false)))]) rfl rfl (ltF rfl) rfl rfl rfl rfl rfl rfl rfl rfl ?_
  refine dq (ps := [(19, pI .i64 1048576)]) rfl rfl rfl ?_
  obtain ⟨r, hr, h⟩ := bind_some h
  refine dCall (gn := 6) (fn := Tryd.f6) (cp := []) (lt := []) [18, 19] (vc_lszBitmap n a0 1048576 _ hr) Tryd.func6 rfl rfl rfl rfl (.inl rfl) (.inl rfl) (fun st2 h2 => ⟨rfl, args_of0 (.cons (aF (ltF rfl) ((congrArg Slot.sv (h2 18 (by decide))).trans rfl) rfl) (.cons (aF (ltF rfl) ((congrArg Slot.sv (h2 19 (by decide))).trans rfl) rfl) .nil))⟩) rfl ?_
  refine dq (ps := [(7, pI .i64 r)]) rfl rfl rfl ?_
  refine DL_nil ?_
  refine W_seq ?_
  refine W_seq ?_
  refine W_text ?_
  refine dq (ps := [(21, pI .i64 r)]) rfl rfl rfl ?_
  refine dq (ps := [(22, pB (decide (r < 0)))]) rfl rfl rfl ?_
  refine DL_nil ?_
  refine W_split ⟨ltF rfl, rfl⟩ (fun hb => ?_) (fun hb => ?_)
  · replace h := ite_yes hb h
    refine W_seq ?_
    refine W_text ?_
    refine dq (ps := [(6, pB true)]) rfl rfl rfl ?_
    refine DL_nil ?_
    refine W_ret ?_
    cases h
    exact ⟨.inr rfl, leaves_of [.tmp 6] rfl (by decide) (.tmp (ltF rfl) rfl .nil)⟩
  · replace h := ite_no hb h
    refine W_skip ?_
    refine W_seq ?_
    refine W_text ?_
    refine dLdB (sv := .val true [.t (.sc (.int .i64 a0.Left)), .t (.sc (.int .i64 a0.Bottom)), .t (.sc (.int .i64 a0.Width)), .t (.sl false 1 (a0.Rows.map (cS false)))]) rfl rfl (ltF rfl) rfl rfl rfl rfl rfl rfl rfl rfl ?_
    obtain ⟨r_1, hr_1, h⟩ := bind_some h
    refine dCall (gn := 8) (fn := Tryd.f8) (cp := []) (lt := []) [24] (vc_ltoBitmap n a0 _ hr_1) Tryd.func8 rfl rfl rfl rfl (.inl rfl) (.inl rfl) (fun st2 h2 => ⟨rfl, args_of0 (.cons (aF (ltF rfl) ((congrArg Slot.sv (h2 24 (by decide))).trans rfl) rfl) .nil)⟩) rfl ?_
    refine dq (ps := [(26, pI .i64 a1)]) rfl rfl rfl ?_
    refine dq (ps := [(27, pI .i64 a2)]) rfl rfl rfl ?_
    obtain ⟨r_2, hr_2, h⟩ := bind_some h
    refine dCall (gn := 7) (fn := Tryd.f7) (cp := []) (lt := [(25, [(0, 3)])]) [25, 26, 27] (vc_sMoveBitmap n r_1 a1 a2 _ hr_2) Tryd.func7 rfl rfl rfl rfl (.inr ⟨(rC (eC rfl (eC rfl (eC rfl (eC (eS (deeps_map (fun _ => (eC rfl eN)) _)) eN)))) (rC (eC rfl eN) rN)), rfl⟩) (.inl rfl) (fun st2 h2 => ⟨rfl, args_of0 (.cons (aA (ltF rfl) ((congrArg Slot.sv (h2 25 (by decide))).trans rfl) (.cons (.free rfl) (.cons (.free rfl) (.cons (.free rfl) (.cons (cA_own (wholes_map (fun _ => (wC rfl wN)) _) (shrs_map (fun _ => (sC rfl sN)) _) (by decide)) .nil))))) (.cons (aF (ltF rfl) ((congrArg Slot.sv (h2 26 (by decide))).trans rfl) rfl) (.cons (aF (ltF rfl) ((congrArg Slot.sv (h2 27 (by decide))).trans rfl) rfl) .nil)))⟩) rfl ?_
    refine dTkM (sv := .tup [(true, [.t (.sc (.int .i64 r_2.1.Left)), .t (.sc (.int .i64 r_2.1.Bottom)), .t (.sc (.int .i64 r_2.1.Width)), .t (.sl true 1 (r_2.1.Rows.map (cS true)))]), (false, [.t (.sc (.int .i64 r_2.2))])]) rfl rfl rfl (ltF rfl) rfl rfl rfl ?_
    refine dExtOwn (ag := true) (ts := (cBitmap true r_2.1)) rfl rfl rfl (ltF rfl) rfl rfl rfl rfl ?_
    refine dExt (ag := false) (ts := [.sc (.int .i64 r_2.2)]) rfl rfl (ltF rfl) rfl rfl rfl rfl ?_
    refine dAlloc (zs := [.sc (.int .i64 0), .sc (.int .i64 0), .sc (.int .i64 0), .sl true 1 (([] : List ByteArray).map (cS true))]) rfl rfl (zeros_of _ rfl ⟨z1 rfl, z1 rfl, z1 rfl, z2, trivial⟩) rfl ?_
    refine dStB (ag := true) (ts := [.sc (.int .i64 r_2.1.Left), .sc (.int .i64 r_2.1.Bottom), .sc (.int .i64 r_2.1.Width), .sl true 1 (r_2.1.Rows.map (cS true))]) (cs' := (cBitmap true r_2.1)) [(29, 0)] [8, 29] rfl (ltF rfl) (by decide) rfl rfl rfl (by decide) rfl rfl (fun st2 h2 => .own (ltF rfl) ((congrArg Slot.sv (h2 29 (by decide))).trans rfl) rfl) rfl ?_
    refine dq (ps := [(9, pI .i64 r_2.2)]) rfl rfl rfl ?_
    refine DL_nil ?_
    refine W_fn (l := [(1, pI .i64 a1), (2, pI .i64 a2), (3, .box (cBitmap false a0)), (8, .box (cBitmap true r_2.1)), (9, pI .i64 r_2.2)]) (nC rfl (nC rfl (nC rfl (nC rfl (nC rfl nN))))) rfl ?_
    refine W_seq ?_
    refine W_text ?_
    refine dLdB (sv := .val true [.t (.sc (.int .i64 a0.Left)), .t (.sc (.int .i64 a0.Bottom)), .t (.sc (.int .i64 a0.Width)), .t (.sl false 1 (a0.Rows.map (cS false)))]) rfl rfl (ltF rfl) rfl rfl rfl rfl rfl rfl rfl rfl ?_
    obtain ⟨r_3, hr_3, h⟩ := bind_some h
    refine dCall (gn := 8) (fn := Tryd.f8) (cp := []) (lt := []) [31] (vc_ltoBitmap n a0 _ hr_3) Tryd.func8 rfl rfl rfl rfl (.inl rfl) (.inl rfl) (fun st2 h2 => ⟨rfl, args_of0 (.cons (aF (ltF rfl) ((congrArg Slot.sv (h2 31 (by decide))).trans rfl) rfl) .nil)⟩) rfl ?_
    refine dAlloc (zs := [.sc (.int .i64 0), .sc (.int .i64 0), .sc (.int .i64 0), .sl true 1 (([] : List ByteArray).map (cS true))]) rfl rfl (zeros_of _ rfl ⟨z1 rfl, z1 rfl, z1 rfl, z2, trivial⟩) rfl ?_
    refine dStB (ag := true) (ts := [.sc (.int .i64 r_3.Left), .sc (.int .i64 r_3.Bottom), .sc (.int .i64 r_3.Width), .sl true 1 (r_3.Rows.map (cS true))]) (cs' := (cBitmap true r_3)) [(32, 0)] [10, 32] rfl (ltF rfl) (by decide) rfl rfl rfl (by decide) rfl rfl (fun st2 h2 => .own (ltF rfl) ((congrArg Slot.sv (h2 32 (by decide))).trans rfl) rfl) rfl ?_
    refine DL_nil ?_
    refine W_seq ?_
    refine W_text ?_
    refine dLdB (sv := .val true [.t (.sc (.int .i64 r_3.Left)), .t (.sc (.int .i64 r_3.Bottom)), .t (.sc (.int .i64 r_3.Width)), .ref 10 2 [(0, 3)]]) rfl rfl (ltF rfl) rfl rfl rfl rfl rfl rfl rfl rfl ?_
    refine dq (ps := [(35, pI .i64 a1)]) rfl rfl rfl ?_
    refine dq (ps := [(36, pI .i64 a2)]) rfl rfl rfl ?_
    obtain ⟨r_4, hr_4, h⟩ := bind_some h
    refine dCall (gn := 9) (fn := Tryd.f9) (cp := []) (lt := [(10, [(0, 3)])]) [10, 34, 35, 36] (vc_iMoveBitmap n r_3 a1 a2 _ hr_4) Tryd.func9 rfl rfl rfl rfl (.inr ⟨(rC (eC rfl (eC rfl (eC rfl (eC (eS (deeps_map (fun _ => (eC rfl eN)) _)) eN)))) (rC (eC rfl eN) rN)), rfl⟩) (.inl rfl) (fun st2 h2 => ⟨rfl, args_of0 (.cons (aA (ltF rfl) ((congrArg Slot.sv (h2 34 (by decide))).trans rfl) (.cons (.free rfl) (.cons (.free rfl) (.cons (.free rfl) (.cons (cA_ref (congrArg Slot.ver (h2 10 (by decide))) ((at_agree (h2 10 (by decide))).trans rfl) (wholes_map (fun _ => (wC rfl wN)) _) (shrs_map (fun _ => (sC rfl sN)) _) (by decide)) .nil))))) (.cons (aF (ltF rfl) ((congrArg Slot.sv (h2 35 (by decide))).trans rfl) rfl) (.cons (aF (ltF rfl) ((congrArg Slot.sv (h2 36 (by decide))).trans rfl) rfl) .nil)))⟩) rfl ?_
    refine dTkM (sv := .tup [(true, [.t (.sc (.int .i64 r_4.1.Left)), .t (.sc (.int .i64 r_4.1.Bottom)), .t (.sc (.int .i64 r_4.1.Width)), .t (.sl true 1 (r_4.1.Rows.map (cS true)))]), (false, [.t (.sc (.int .i64 r_4.2))])]) rfl rfl rfl (ltF rfl) rfl rfl rfl ?_
    refine dExtOwn (ag := true) (ts := (cBitmap true r_4.1)) rfl rfl rfl (ltF rfl) rfl rfl rfl rfl ?_
    refine dExt (ag := false) (ts := [.sc (.int .i64 r_4.2)]) rfl rfl (ltF rfl) rfl rfl rfl rfl ?_
    refine dAlloc (zs := [.sc (.int .i64 0), .sc (.int .i64 0), .sc (.int .i64 0), .sl true 1 (([] : List ByteArray).map (cS true))]) rfl rfl (zeros_of _ rfl ⟨z1 rfl, z1 rfl, z1 rfl, z2, trivial⟩) rfl ?_
    refine dStB (ag := true) (ts := [.sc (.int .i64 r_4.1.Left), .sc (.int .i64 r_4.1.Bottom), .sc (.int .i64 r_4.1.Width), .sl true 1 (r_4.1.Rows.map (cS true))]) (cs' := (cBitmap true r_4.1)) [(38, 0)] [11, 38] rfl (ltF rfl) (by decide) rfl rfl rfl (by decide) rfl rfl (fun st2 h2 => .own (ltF rfl) ((congrArg Slot.sv (h2 38 (by decide))).trans rfl) rfl) rfl ?_
    refine dq (ps := [(12, pI .i64 r_4.2)]) rfl rfl rfl ?_
    refine DL_nil ?_
    refine W_fn (l := [(1, pI .i64 a1), (2, pI .i64 a2), (3, .box (cBitmap false a0)), (8, .box (cBitmap true r_2.1)), (9, pI .i64 r_2.2), (10, .box (cBitmap true r_3)), (11, .box (cBitmap true r_4.1)), (12, pI .i64 r_4.2)]) (nC rfl (nC rfl (nC rfl (nC rfl (nC rfl (nC rfl (nC rfl (nC rfl nN)))))))) rfl ?_
    refine W_seq ?_
    refine W_seq ?_
    refine W_text ?_
    refine dLdB (sv := .val true [.t (.sc (.int .i64 r_4.1.Left)), .t (.sc (.int .i64 r_4.1.Bottom)), .t (.sc (.int .i64 r_4.1.Width)), .ref 11 0 [(0, 3)]]) rfl rfl (ltF rfl) rfl rfl rfl rfl rfl rfl rfl rfl ?_
    refine dLdB (sv := .val true [.t (.sc (.int .i64 r_2.1.Left)), .t (.sc (.int .i64 r_2.1.Bottom)), .t (.sc (.int .i64 r_2.1.Width)), .ref 8 0 [(0, 3)]]) rfl rfl (ltF rfl) rfl rfl rfl rfl rfl rfl rfl rfl ?_
    obtain ⟨r_5, hr_5, h⟩ := bind_some h
    refine dCall (gn := 10) (fn := Tryd.f10) (cp := []) (lt := [(11, [(0, 3)]), (8, [(0, 3)])]) [11, 40, 8, 41] (vc_leqBitmap n r_4.1 r_2.1 _ hr_5) Tryd.func10 rfl rfl rfl rfl (.inr ⟨(rC (eC rfl eN) rN), rfl⟩) (.inl rfl) (fun st2 h2 => ⟨rfl, args_of0 (.cons (aA (ltF rfl) ((congrArg Slot.sv (h2 40 (by decide))).trans rfl) (.cons (.free rfl) (.cons (.free rfl) (.cons (.free rfl) (.cons (cA_ref (congrArg Slot.ver (h2 11 (by decide))) ((at_agree (h2 11 (by decide))).trans rfl) (wholes_map (fun _ => (wC rfl wN)) _) (shrs_map (fun _ => (sC rfl sN)) _) (by decide)) .nil))))) (.cons (aA (ltF rfl) ((congrArg Slot.sv (h2 41 (by decide))).trans rfl) (.cons (.free rfl) (.cons (.free rfl) (.cons (.free rfl) (.cons (cA_ref (congrArg Slot.ver (h2 8 (by decide))) ((at_agree (h2 8 (by decide))).trans rfl) (wholes_map (fun _ => (wC rfl wN)) _) (shrs_map (fun _ => (sC rfl sN)) _) (by decide)) .nil))))) .nil))⟩) rfl ?_
    refine dq (ps := [(43, pB (!r_5))]) rfl rfl rfl ?_
    refine dq (ps := [(44, pB (!r_5))]) rfl rfl rfl ?_
    refine dS 44 rfl (fun hb => ?_) (fun hb => ?_)
    · replace h := ite_yes hb h
      refine dU rfl rfl rfl rfl ?_
      refine dU rfl rfl rfl rfl ?_
      refine dU rfl rfl rfl rfl ?_
      refine dq (ps := [(48, pB true)]) rfl rfl rfl ?_
      refine DL_nil ?_
      refine W_fn (l := [(1, pI .i64 a1), (2, pI .i64 a2), (3, .box (cBitmap false a0)), (8, .box (cBitmap true r_2.1)), (9, pI .i64 r_2.2), (10, .box (cBitmap true r_3)), (11, .box (cBitmap true r_4.1)), (12, pI .i64 r_4.2), (48, pB true)]) (nC rfl (nC rfl (nC rfl (nC rfl (nC rfl (nC rfl (nC rfl (nC rfl (nC rfl nN))))))))) rfl ?_
      refine W_yes ⟨ltF rfl, rfl⟩ ?_
      refine W_seq ?_
      refine W_text ?_
      refine dq (ps := [(6, pB false)]) rfl rfl rfl ?_
      refine DL_nil ?_
      refine W_ret ?_
      cases h
      exact ⟨.inr rfl, leaves_of [.tmp 6] rfl (by decide) (.tmp (ltF rfl) rfl .nil)⟩
    · replace h := ite_no hb h
      refine dq (ps := [(45, pI .i64 r_4.2)]) rfl rfl rfl ?_
      refine dq (ps := [(46, pI .i64 r_2.2)]) rfl rfl rfl ?_
      refine dq (ps := [(47, pB (r_4.2 != r_2.2))]) rfl rfl rfl ?_
      refine dq (ps := [(48, pB (r_4.2 != r_2.2))]) rfl rfl rfl ?_
      refine DL_nil ?_
      refine W_fn (l := [(1, pI .i64 a1), (2, pI .i64 a2), (3, .box (cBitmap false a0)), (8, .box (cBitmap true r_2.1)), (9, pI .i64 r_2.2), (10, .box (cBitmap true r_3)), (11, .box (cBitmap true r_4.1)), (12, pI .i64 r_4.2), (48, pB (r_4.2 != r_2.2))]) (nC rfl (nC rfl (nC rfl (nC rfl (nC rfl (nC rfl (nC rfl (nC rfl (nC rfl nN))))))))) rfl ?_
      refine W_split ⟨ltF rfl, rfl⟩ (fun hb => ?_) (fun hb => ?_)
      · replace h := ite_yes hb h
        refine W_seq ?_
        refine W_text ?_
        refine dq (ps := [(6, pB false)]) rfl rfl rfl ?_
        refine DL_nil ?_
        refine W_ret ?_
        cases h
        exact ⟨.inr rfl, leaves_of [.tmp 6] rfl (by decide) (.tmp (ltF rfl) rfl .nil)⟩
      · replace h := ite_no hb h
        refine W_skip ?_
        refine W_seq ?_
        refine W_seq ?_
        refine W_drawn rfl ?_
        refine dLdB (R' := [10]) (sv := .val true [.t (.sc (.int .i64 r_3.Left)), .t (.sc (.int .i64 r_3.Bottom)), .t (.sc (.int .i64 r_3.Width)), .ref 10 0 [(0, 3)]]) rfl rfl (ltF rfl) rfl rfl rfl rfl rfl rfl rfl rfl ?_
        refine dLdB (R' := [3]) (sv := .val true [.t (.sc (.int .i64 a0.Left)), .t (.sc (.int .i64 a0.Bottom)), .t (.sc (.int .i64 a0.Width)), .t (.sl false 1 (a0.Rows.map (cS false)))]) rfl rfl (ltF rfl) rfl rfl rfl rfl rfl rfl rfl rfl ?_
        obtain ⟨r_6, hr_6, h⟩ := bind_some h
        refine dCall (gn := 8) (fn := Tryd.f8) (cp := []) (lt := []) [50] (vc_ltoBitmap n a0 _ hr_6) Tryd.func8 rfl rfl rfl rfl (.inl rfl) (.inl rfl) (fun st2 h2 => ⟨rfl, args_of0 (.cons (aF (ltF rfl) ((congrArg Slot.sv (h2 50 (by decide))).trans rfl) rfl) .nil)⟩) rfl ?_
        obtain ⟨r_7, hr_7, h⟩ := bind_some h
        refine dCall (gn := 10) (fn := Tryd.f10) (cp := []) (lt := [(10, [(0, 3)]), (51, [(0, 3)])]) [10, 49, 51] (vc_leqBitmap n r_3 r_6 _ hr_7) Tryd.func10 rfl rfl rfl rfl (.inr ⟨(rC (eC rfl eN) rN), rfl⟩) (.inl rfl) (fun st2 h2 => ⟨rfl, args_of0 (.cons (aA (ltF rfl) ((congrArg Slot.sv (h2 49 (by decide))).trans rfl) (.cons (.free rfl) (.cons (.free rfl) (.cons (.free rfl) (.cons (cA_ref (congrArg Slot.ver (h2 10 (by decide))) ((at_agree (h2 10 (by decide))).trans rfl) (wholes_map (fun _ => (wC rfl wN)) _) (shrs_map (fun _ => (sC rfl sN)) _) (by decide)) .nil))))) (.cons (aA (ltF rfl) ((congrArg Slot.sv (h2 51 (by decide))).trans rfl) (.cons (.free rfl) (.cons (.free rfl) (.cons (.free rfl) (.cons (cA_own (wholes_map (fun _ => (wC rfl wN)) _) (shrs_map (fun _ => (sC rfl sN)) _) (by decide)) .nil))))) .nil))⟩) rfl ?_
        refine dq (R' := [52]) (ps := [(53, pB (!r_7))]) rfl rfl rfl ?_
        refine DL_nil ⟨[([10], [49]), ([3], [50]), ([50], [51]), ([10, 49, 51], [52]), ([52], [53])], rfl, by decide +kernel, ?_⟩
        refine W_split ⟨ltF rfl, rfl⟩ (fun hb => ?_) (fun hb => ?_)
        · replace h := ite_yes hb h
          refine W_seq ?_
          refine W_text ?_
          refine dq (ps := [(6, pB false)]) rfl rfl rfl ?_
          refine DL_nil ?_
          refine W_ret ?_
          cases h
          exact ⟨.inr rfl, leaves_of [.tmp 6] rfl (by decide) (.tmp (ltF rfl) rfl .nil)⟩
        · replace h := ite_no hb h
          refine W_skip ?_
          refine W_seq ?_
          refine W_text ?_
          refine dq (ps := [(13, pI .i64 1)]) rfl rfl rfl ?_
          refine DL_nil ?_
          refine W_seq ?_
          refine W_text ?_
          refine dLdT (ag := true) (ts := (cBitmap true r_3)) rfl rfl rfl (ltF rfl) rfl rfl rfl rfl rfl rfl rfl rfl ?_
          refine dq (ps := [(55, pI .i64 1)]) rfl rfl rfl ?_
          obtain ⟨r_8, hr_8, h⟩ := bind_some h
          refine dCallM (gn := 11) (fn := Tryd.f11) (cp := []) (lt := []) [.row 54 [] 0 0 0 [3]] [(54, .val true [.t (.sc (.int .i64 r_3.Left)), .t (.sc (.int .i64 r_3.Bottom)), .t (.sc (.int .i64 r_3.Width)), .t (.sl true 1 (r_8.2.Rows.map (cS true)))])] [54, 55] (vc_lmarkBitmap n r_3 1 _ hr_8) Tryd.func11 rfl rfl rfl rfl rfl (.inl rfl) (fun st2 h2 => (.cons (newVal rfl rfl ((congrArg Slot.sv (h2 54 (by decide))).trans rfl) rfl) rfl .nil)) (fun st2 h2 => ⟨rfl, args_of0 (.cons (aMv (ltF rfl) ((congrArg Slot.sv (h2 54 (by decide))).trans rfl) (.head _) (.cons (.free rfl (by decide)) (.cons (.free rfl (by decide)) (.cons (.free rfl (by decide)) (.cons (.own ⟨rfl, rfl, rfl, rfl⟩ (by decide)) .nil))))) (.cons (aF (ltF rfl) ((congrArg Slot.sv (h2 55 (by decide))).trans rfl) rfl) .nil))⟩) rfl ?_
          refine dq (ps := [(13, pI .i64 r_8.1)]) rfl rfl rfl ?_
          refine DL_nil ?_
          refine W_seq ?_
          refine W_seq ?_
          refine W_text ?_
          refine dq (ps := [(57, pI .i64 r_8.1)]) rfl rfl rfl ?_
          refine dq (ps := [(58, pB (decide (r_8.1 < 0)))]) rfl rfl rfl ?_
          refine dq (ps := [(59, pB (decide (r_8.1 < 0)))]) rfl rfl rfl ?_
          refine dS 59 rfl (fun hb => ?_) (fun hb => ?_)
          · replace h := ite_yes hb h
            refine dU rfl rfl rfl rfl ?_
            refine dU rfl rfl rfl rfl ?_
            refine dU rfl rfl rfl rfl ?_
            refine dU rfl rfl rfl rfl ?_
            refine dq (ps := [(64, pB true)]) rfl rfl rfl ?_
            refine dq (ps := [(65, pB true)]) rfl rfl rfl ?_
            refine dU rfl rfl rfl rfl ?_
            refine dU rfl rfl rfl rfl ?_
            refine dU rfl rfl rfl rfl ?_
            refine dq (ps := [(69, pB true)]) rfl rfl rfl ?_
            refine DL_nil ?_
            refine W_fn (l := [(1, pI .i64 a1), (2, pI .i64 a2), (3, .box (cBitmap false a0)), (8, .box (cBitmap true r_2.1)), (9, pI .i64 r_2.2), (11, .box (cBitmap true r_4.1)), (69, pB true)]) (nC rfl (nC rfl (nC rfl (nC rfl (nC rfl (nC rfl (nC rfl nN))))))) rfl ?_
            refine W_yes ⟨ltF rfl, rfl⟩ ?_
            refine W_seq ?_
            refine W_text ?_
            refine dq (ps := [(6, pB false)]) rfl rfl rfl ?_
            refine DL_nil ?_
            refine W_ret ?_
            cases h
            exact ⟨.inr rfl, leaves_of [.tmp 6] rfl (by decide) (.tmp (ltF rfl) rfl .nil)⟩
          · replace h := ite_no hb h
            refine dLdB (sv := .val true [.t (.sc (.int .i64 r_4.1.Left)), .t (.sc (.int .i64 r_4.1.Bottom)), .t (.sc (.int .i64 r_4.1.Width)), .ref 11 0 [(0, 3)]]) rfl rfl (ltF rfl) rfl rfl rfl rfl rfl rfl rfl rfl ?_
            refine dLdB (sv := .val true [.t (.sc (.int .i64 r_2.1.Left)), .t (.sc (.int .i64 r_2.1.Bottom)), .t (.sc (.int .i64 r_2.1.Width)), .ref 8 0 [(0, 3)]]) rfl rfl (ltF rfl) rfl rfl rfl rfl rfl rfl rfl rfl ?_
            obtain ⟨r_9, hr_9, h⟩ := bind_some h
            refine dCall (gn := 10) (fn := Tryd.f10) (cp := []) (lt := [(11, [(0, 3)]), (8, [(0, 3)])]) [11, 60, 8, 61] (vc_leqBitmap n r_4.1 r_2.1 _ hr_9) Tryd.func10 rfl rfl rfl rfl (.inr ⟨(rC (eC rfl eN) rN), rfl⟩) (.inl rfl) (fun st2 h2 => ⟨rfl, args_of0 (.cons (aA (ltF rfl) ((congrArg Slot.sv (h2 60 (by decide))).trans rfl) (.cons (.free rfl) (.cons (.free rfl) (.cons (.free rfl) (.cons (cA_ref (congrArg Slot.ver (h2 11 (by decide))) ((at_agree (h2 11 (by decide))).trans rfl) (wholes_map (fun _ => (wC rfl wN)) _) (shrs_map (fun _ => (sC rfl sN)) _) (by decide)) .nil))))) (.cons (aA (ltF rfl) ((congrArg Slot.sv (h2 61 (by decide))).trans rfl) (.cons (.free rfl) (.cons (.free rfl) (.cons (.free rfl) (.cons (cA_ref (congrArg Slot.ver (h2 8 (by decide))) ((at_agree (h2 8 (by decide))).trans rfl) (wholes_map (fun _ => (wC rfl wN)) _) (shrs_map (fun _ => (sC rfl sN)) _) (by decide)) .nil))))) .nil))⟩) rfl ?_
            refine dq (ps := [(63, pB (!r_9))]) rfl rfl rfl ?_
            refine dq (ps := [(64, pB (!r_9))]) rfl rfl rfl ?_
            refine dq (ps := [(65, pB (!r_9))]) rfl rfl rfl ?_
            refine dS 65 rfl (fun hb => ?_) (fun hb => ?_)
            · replace h := ite_yes hb h
              refine dU rfl rfl rfl rfl ?_
              refine dU rfl rfl rfl rfl ?_
              refine dU rfl rfl rfl rfl ?_
              refine dq (ps := [(69, pB true)]) rfl rfl rfl ?_
              refine DL_nil ?_
              refine W_fn (l := [(1, pI .i64 a1), (2, pI .i64 a2), (3, .box (cBitmap false a0)), (8, .box (cBitmap true r_2.1)), (9, pI .i64 r_2.2), (11, .box (cBitmap true r_4.1)), (69, pB true)]) (nC rfl (nC rfl (nC rfl (nC rfl (nC rfl (nC rfl (nC rfl nN))))))) rfl ?_
              refine W_yes ⟨ltF rfl, rfl⟩ ?_
              refine W_seq ?_
              refine W_text ?_
              refine dq (ps := [(6, pB false)]) rfl rfl rfl ?_
              refine DL_nil ?_
              refine W_ret ?_
              cases h
              exact ⟨.inr rfl, leaves_of [.tmp 6] rfl (by decide) (.tmp (ltF rfl) rfl .nil)⟩
            · replace h := ite_no hb h
              refine dq (ps := [(66, pI .i64 r_4.2)]) rfl rfl rfl ?_
              refine dq (ps := [(67, pI .i64 r_2.2)]) rfl rfl rfl ?_
              refine dq (ps := [(68, pB (r_4.2 != r_2.2))]) rfl rfl rfl ?_
              refine dq (ps := [(69, pB (r_4.2 != r_2.2))]) rfl rfl rfl ?_
              refine DL_nil ?_
              refine W_fn (l := [(1, pI .i64 a1), (2, pI .i64 a2), (3, .box (cBitmap false a0)), (8, .box (cBitmap true r_2.1)), (9, pI .i64 r_2.2), (11, .box (cBitmap true r_4.1)), (69, pB (r_4.2 != r_2.2))]) (nC rfl (nC rfl (nC rfl (nC rfl (nC rfl (nC rfl (nC rfl nN))))))) rfl ?_
              refine W_split ⟨ltF rfl, rfl⟩ (fun hb => ?_) (fun hb => ?_)
              · replace h := ite_yes hb h
                refine W_seq ?_
                refine W_text ?_
                refine dq (ps := [(6, pB false)]) rfl rfl rfl ?_
                refine DL_nil ?_
                refine W_ret ?_
                cases h
                exact ⟨.inr rfl, leaves_of [.tmp 6] rfl (by decide) (.tmp (ltF rfl) rfl .nil)⟩
              · replace h := ite_no hb h
                refine W_skip ?_
                refine W_seq ?_
                refine W_text ?_
                refine dq (ps := [(14, pI .i64 1)]) rfl rfl rfl ?_
                refine DL_nil ?_
                refine W_seq ?_
                refine W_text ?_
                refine dLdB (sv := .val true [.t (.sc (.int .i64 r_4.1.Left)), .t (.sc (.int .i64 r_4.1.Bottom)), .t (.sc (.int .i64 r_4.1.Width)), .ref 11 0 [(0, 3)]]) rfl rfl (ltF rfl) rfl rfl rfl rfl rfl rfl rfl rfl ?_
                refine dq (ps := [(71, pI .i64 1)]) rfl rfl rfl ?_
                obtain ⟨r_10, hr_10, h⟩ := bind_some h
                refine dCallM (gn := 11) (fn := Tryd.f11) (cp := []) (lt := []) [.row 11 [] 0 0 0 [3]] [(11, .box [.sc (.int .i64 r_4.1.Left), .sc (.int .i64 r_4.1.Bottom), .sc (.int .i64 r_4.1.Width), .sl true 1 (r_10.2.Rows.map (cS true))])] [11, 70, 71] (vc_lmarkBitmap n r_4.1 1 _ hr_10) Tryd.func11 rfl rfl rfl rfl rfl (.inl rfl) (fun st2 h2 => (.cons (newBx rfl rfl ((congrArg Slot.sv (h2 11 (by decide))).trans rfl) rfl) rfl .nil)) (fun st2 h2 => ⟨rfl, args_of0 (.cons (aMv (ltF rfl) ((congrArg Slot.sv (h2 70 (by decide))).trans rfl) (.head _) (.cons (.free rfl (by decide)) (.cons (.free rfl (by decide)) (.cons (.free rfl (by decide)) (.cons (.ref (congrArg Slot.ver (h2 11 (by decide))) rfl ((at_agree (h2 11 (by decide))).trans rfl) (by decide)) .nil))))) (.cons (aF (ltF rfl) ((congrArg Slot.sv (h2 71 (by decide))).trans rfl) rfl) .nil))⟩) rfl ?_
                refine dq (ps := [(14, pI .i64 r_10.1)]) rfl rfl rfl ?_
                refine DL_nil ?_
                refine W_seq ?_
                refine W_text ?_
                refine dq (ps := [(15, pI .i64 1)]) rfl rfl rfl ?_
                refine DL_nil ?_
                refine W_seq ?_
                refine W_text ?_
                refine dLdB (sv := .val true [.t (.sc (.int .i64 r_4.1.Left)), .t (.sc (.int .i64 r_4.1.Bottom)), .t (.sc (.int .i64 r_4.1.Width)), .ref 11 1 [(0, 3)]]) rfl rfl (ltF rfl) rfl rfl rfl rfl rfl rfl rfl rfl ?_
                refine dq (ps := [(74, pI .i64 1)]) rfl rfl rfl ?_
                obtain ⟨r_11, hr_11, h⟩ := bind_some h
                refine dCall (gn := 12) (fn := Tryd.f12) (cp := []) (lt := [(11, [(0, 3)])]) [11, 73, 74] (vc_lheldBitmap n (SBitmap.mk r_4.1.Left r_4.1.Bottom r_4.1.Width r_10.2.Rows) 1 _ hr_11) Tryd.func12 rfl rfl rfl rfl (.inr ⟨(rC (eC rfl eN) rN), rfl⟩) (.inl rfl) (fun st2 h2 => ⟨rfl, args_of0 (.cons (aA (ltF rfl) ((congrArg Slot.sv (h2 73 (by decide))).trans rfl) (.cons (.free rfl) (.cons (.free rfl) (.cons (.free rfl) (.cons (cA_ref (congrArg Slot.ver (h2 11 (by decide))) ((at_agree (h2 11 (by decide))).trans rfl) (wholes_map (fun _ => (wC rfl wN)) _) (shrs_map (fun _ => (sC rfl sN)) _) (by decide)) .nil))))) (.cons (aF (ltF rfl) ((congrArg Slot.sv (h2 74 (by decide))).trans rfl) rfl) .nil))⟩) rfl ?_
                refine dq (ps := [(15, pI .i64 r_11)]) rfl rfl rfl ?_
                refine DL_nil ?_
                refine W_seq ?_
                refine W_seq ?_
                refine W_text ?_
                refine dq (ps := [(76, pI .i64 r_11)]) rfl rfl rfl ?_
                refine dq (ps := [(77, pB (decide (r_11 < 0)))]) rfl rfl rfl ?_
                refine DL_nil ?_
                refine W_split ⟨ltF rfl, rfl⟩ (fun hb => ?_) (fun hb => ?_)
                · replace h := ite_yes hb h
                  refine W_seq ?_
                  refine W_text ?_
                  refine dq (ps := [(6, pB false)]) rfl rfl rfl ?_
                  refine DL_nil ?_
                  refine W_ret ?_
                  cases h
                  exact ⟨.inr rfl, leaves_of [.tmp 6] rfl (by decide) (.tmp (ltF rfl) rfl .nil)⟩
                · replace h := ite_no hb h
                  refine W_skip ?_
                  refine W_seq ?_
                  refine W_seq ?_
                  refine W_text ?_
                  refine dq (ps := [(78, pI .i64 r_11)]) rfl rfl rfl ?_
                  refine dq (ps := [(79, pI .i64 r_10.1)]) rfl rfl rfl ?_
                  refine dq (ps := [(80, pB (r_11 != r_10.1))]) rfl rfl rfl ?_
                  refine DL_nil ?_
                  refine W_split ⟨ltF rfl, rfl⟩ (fun hb => ?_) (fun hb => ?_)
                  · replace h := ite_yes hb h
                    refine W_seq ?_
                    refine W_text ?_
                    refine dq (ps := [(6, pB false)]) rfl rfl rfl ?_
                    refine DL_nil ?_
                    refine W_ret ?_
                    cases h
                    exact ⟨.inr rfl, leaves_of [.tmp 6] rfl (by decide) (.tmp (ltF rfl) rfl .nil)⟩
                  · replace h := ite_no hb h
                    refine W_skip ?_
                    refine W_seq ?_
                    refine W_text ?_
                    refine dLdB (sv := .val true [.t (.sc (.int .i64 a0.Left)), .t (.sc (.int .i64 a0.Bottom)), .t (.sc (.int .i64 a0.Width)), .t (.sl false 1 (a0.Rows.map (cS false)))]) rfl rfl (ltF rfl) rfl rfl rfl rfl rfl rfl rfl rfl ?_
                    obtain ⟨r_12, hr_12, h⟩ := bind_some h
                    refine dCall (gn := 8) (fn := Tryd.f8) (cp := []) (lt := []) [82] (vc_ltoBitmap n a0 _ hr_12) Tryd.func8 rfl rfl rfl rfl (.inl rfl) (.inl rfl) (fun st2 h2 => ⟨rfl, args_of0 (.cons (aF (ltF rfl) ((congrArg Slot.sv (h2 82 (by decide))).trans rfl) rfl) .nil)⟩) rfl ?_
                    refine dq (ps := [(84, pI .i64 a1)]) rfl rfl rfl ?_
                    refine dq (ps := [(85, pI .i64 a2)]) rfl rfl rfl ?_
                    obtain ⟨r_13, hr_13, h⟩ := bind_some h
                    refine dCall (gn := 9) (fn := Tryd.f9) (cp := []) (lt := [(83, [(0, 3)])]) [83, 84, 85] (vc_iMoveBitmap n r_12 a1 a2 _ hr_13) Tryd.func9 rfl rfl rfl rfl (.inr ⟨(rC (eC rfl (eC rfl (eC rfl (eC (eS (deeps_map (fun _ => (eC rfl eN)) _)) eN)))) (rC (eC rfl eN) rN)), rfl⟩) (.inl rfl) (fun st2 h2 => ⟨rfl, args_of0 (.cons (aA (ltF rfl) ((congrArg Slot.sv (h2 83 (by decide))).trans rfl) (.cons (.free rfl) (.cons (.free rfl) (.cons (.free rfl) (.cons (cA_own (wholes_map (fun _ => (wC rfl wN)) _) (shrs_map (fun _ => (sC rfl sN)) _) (by decide)) .nil))))) (.cons (aF (ltF rfl) ((congrArg Slot.sv (h2 84 (by decide))).trans rfl) rfl) (.cons (aF (ltF rfl) ((congrArg Slot.sv (h2 85 (by decide))).trans rfl) rfl) .nil)))⟩) rfl ?_
                    refine dTkM (sv := .tup [(true, [.t (.sc (.int .i64 r_13.1.Left)), .t (.sc (.int .i64 r_13.1.Bottom)), .t (.sc (.int .i64 r_13.1.Width)), .t (.sl true 1 (r_13.1.Rows.map (cS true)))]), (false, [.t (.sc (.int .i64 r_13.2))])]) rfl rfl rfl (ltF rfl) rfl rfl rfl ?_
                    refine dExtOwn (ag := true) (ts := (cBitmap true r_13.1)) rfl rfl rfl (ltF rfl) rfl rfl rfl rfl ?_
                    refine dExt (ag := false) (ts := [.sc (.int .i64 r_13.2)]) rfl rfl (ltF rfl) rfl rfl rfl rfl ?_
                    refine dAlloc (zs := [.sc (.int .i64 0), .sc (.int .i64 0), .sc (.int .i64 0), .sl true 1 (([] : List ByteArray).map (cS true))]) rfl rfl (zeros_of _ rfl ⟨z1 rfl, z1 rfl, z1 rfl, z2, trivial⟩) rfl ?_
                    refine dStB (ag := true) (ts := [.sc (.int .i64 r_13.1.Left), .sc (.int .i64 r_13.1.Bottom), .sc (.int .i64 r_13.1.Width), .sl true 1 (r_13.1.Rows.map (cS true))]) (cs' := (cBitmap true r_13.1)) [(87, 0)] [16, 87] rfl (ltF rfl) (by decide) rfl rfl rfl (by decide) rfl rfl (fun st2 h2 => .own (ltF rfl) ((congrArg Slot.sv (h2 87 (by decide))).trans rfl) rfl) rfl ?_
                    refine dq (ps := [(17, pI .i64 r_13.2)]) rfl rfl rfl ?_
                    refine DL_nil ?_
                    refine W_fn (l := [(8, .box (cBitmap true r_2.1)), (9, pI .i64 r_2.2), (11, .box [.sc (.int .i64 r_4.1.Left), .sc (.int .i64 r_4.1.Bottom), .sc (.int .i64 r_4.1.Width), .sl true 1 (r_10.2.Rows.map (cS true))]), (14, pI .i64 r_10.1), (16, .box (cBitmap true r_13.1)), (17, pI .i64 r_13.2)]) (nC rfl (nC rfl (nC rfl (nC rfl (nC rfl (nC rfl nN)))))) rfl ?_
                    refine W_seq ?_
                    refine W_seq ?_
                    refine W_text ?_
                    refine dLdT (ag := true) (ts := (cBitmap true r_13.1)) rfl rfl rfl (ltF rfl) rfl rfl rfl rfl rfl rfl rfl rfl ?_
                    refine dLdT (ag := true) (ts := (cBitmap true r_2.1)) rfl rfl rfl (ltF rfl) rfl rfl rfl rfl rfl rfl rfl rfl ?_
                    obtain ⟨r_14, hr_14, h⟩ := bind_some h
                    refine dCall (gn := 10) (fn := Tryd.f10) (cp := []) (lt := [(89, [(0, 3)]), (90, [(0, 3)])]) [89, 90] (vc_leqBitmap n r_13.1 r_2.1 _ hr_14) Tryd.func10 rfl rfl rfl rfl (.inr ⟨(rC (eC rfl eN) rN), rfl⟩) (.inl rfl) (fun st2 h2 => ⟨rfl, args_of0 (.cons (aA (ltF rfl) ((congrArg Slot.sv (h2 89 (by decide))).trans rfl) (.cons (.free rfl) (.cons (.free rfl) (.cons (.free rfl) (.cons (cA_own (wholes_map (fun _ => (wC rfl wN)) _) (shrs_map (fun _ => (sC rfl sN)) _) (by decide)) .nil))))) (.cons (aA (ltF rfl) ((congrArg Slot.sv (h2 90 (by decide))).trans rfl) (.cons (.free rfl) (.cons (.free rfl) (.cons (.free rfl) (.cons (cA_own (wholes_map (fun _ => (wC rfl wN)) _) (shrs_map (fun _ => (sC rfl sN)) _) (by decide)) .nil))))) .nil))⟩) rfl ?_
                    refine dq (ps := [(92, pB (!r_14))]) rfl rfl rfl ?_
                    refine dq (ps := [(93, pB (!r_14))]) rfl rfl rfl ?_
                    refine dS 93 rfl (fun hb => ?_) (fun hb => ?_)
                    · replace h := ite_yes hb h
                      refine dU rfl rfl rfl rfl ?_
                      refine dU rfl rfl rfl rfl ?_
                      refine dU rfl rfl rfl rfl ?_
                      refine dq (ps := [(97, pB true)]) rfl rfl rfl ?_
                      refine DL_nil ?_
                      refine W_fn (l := [(11, .box [.sc (.int .i64 r_4.1.Left), .sc (.int .i64 r_4.1.Bottom), .sc (.int .i64 r_4.1.Width), .sl true 1 (r_10.2.Rows.map (cS true))]), (14, pI .i64 r_10.1), (97, pB true)]) (nC rfl (nC rfl (nC rfl nN))) rfl ?_
                      refine W_yes ⟨ltF rfl, rfl⟩ ?_
                      refine W_seq ?_
                      refine W_text ?_
                      refine dq (ps := [(6, pB false)]) rfl rfl rfl ?_
                      refine DL_nil ?_
                      refine W_ret ?_
                      cases h
                      exact ⟨.inr rfl, leaves_of [.tmp 6] rfl (by decide) (.tmp (ltF rfl) rfl .nil)⟩
                    · replace h := ite_no hb h
                      refine dq (ps := [(94, pI .i64 r_13.2)]) rfl rfl rfl ?_
                      refine dq (ps := [(95, pI .i64 r_2.2)]) rfl rfl rfl ?_
                      refine dq (ps := [(96, pB (r_13.2 != r_2.2))]) rfl rfl rfl ?_
                      refine dq (ps := [(97, pB (r_13.2 != r_2.2))]) rfl rfl rfl ?_
                      refine DL_nil ?_
                      refine W_fn (l := [(11, .box [.sc (.int .i64 r_4.1.Left), .sc (.int .i64 r_4.1.Bottom), .sc (.int .i64 r_4.1.Width), .sl true 1 (r_10.2.Rows.map (cS true))]), (14, pI .i64 r_10.1), (97, pB (r_13.2 != r_2.2))]) (nC rfl (nC rfl (nC rfl nN))) rfl ?_
                      refine W_split ⟨ltF rfl, rfl⟩ (fun hb => ?_) (fun hb => ?_)
                      · replace h := ite_yes hb h
                        refine W_seq ?_
                        refine W_text ?_
                        refine dq (ps := [(6, pB false)]) rfl rfl rfl ?_
                        refine DL_nil ?_
                        refine W_ret ?_
                        cases h
                        exact ⟨.inr rfl, leaves_of [.tmp 6] rfl (by decide) (.tmp (ltF rfl) rfl .nil)⟩
                      · replace h := ite_no hb h
                        refine W_skip ?_
                        refine W_seq ?_
                        refine W_text ?_
                        refine dq (ps := [(15, pI .i64 1)]) rfl rfl rfl ?_
                        refine DL_nil ?_
                        refine W_seq ?_
                        refine W_text ?_
                        refine dLdT (ag := true) (ts := [.sc (.int .i64 r_4.1.Left), .sc (.int .i64 r_4.1.Bottom), .sc (.int .i64 r_4.1.Width), .sl true 1 (r_10.2.Rows.map (cS true))]) rfl rfl rfl (ltF rfl) rfl rfl rfl rfl rfl rfl rfl rfl ?_
                        refine dq (ps := [(99, pI .i64 1)]) rfl rfl rfl ?_
                        obtain ⟨r_15, hr_15, h⟩ := bind_some h
                        refine dCall (gn := 12) (fn := Tryd.f12) (cp := []) (lt := [(98, [(0, 3)])]) [98, 99] (vc_lheldBitmap n (SBitmap.mk r_4.1.Left r_4.1.Bottom r_4.1.Width r_10.2.Rows) 1 _ hr_15) Tryd.func12 rfl rfl rfl rfl (.inr ⟨(rC (eC rfl eN) rN), rfl⟩) (.inl rfl) (fun st2 h2 => ⟨rfl, args_of0 (.cons (aA (ltF rfl) ((congrArg Slot.sv (h2 98 (by decide))).trans rfl) (.cons (.free rfl) (.cons (.free rfl) (.cons (.free rfl) (.cons (cA_own (wholes_map (fun _ => (wC rfl wN)) _) (shrs_map (fun _ => (sC rfl sN)) _) (by decide)) .nil))))) (.cons (aF (ltF rfl) ((congrArg Slot.sv (h2 99 (by decide))).trans rfl) rfl) .nil))⟩) rfl ?_
                        refine dq (ps := [(15, pI .i64 r_15)]) rfl rfl rfl ?_
                        refine DL_nil ?_
                        refine W_seq ?_
                        refine W_seq ?_
                        refine W_text ?_
                        refine dq (ps := [(101, pI .i64 r_15)]) rfl rfl rfl ?_
                        refine dq (ps := [(102, pB (decide (r_15 < 0)))]) rfl rfl rfl ?_
                        refine DL_nil ?_
                        refine W_split ⟨ltF rfl, rfl⟩ (fun hb => ?_) (fun hb => ?_)
                        · replace h := ite_yes hb h
                          refine W_seq ?_
                          refine W_text ?_
                          refine dq (ps := [(6, pB false)]) rfl rfl rfl ?_
                          refine DL_nil ?_
                          refine W_ret ?_
                          cases h
                          exact ⟨.inr rfl, leaves_of [.tmp 6] rfl (by decide) (.tmp (ltF rfl) rfl .nil)⟩
                        · replace h := ite_no hb h
                          refine W_skip ?_
                          refine W_seq ?_
                          refine W_seq ?_
                          refine W_text ?_
                          refine dq (ps := [(103, pI .i64 r_15)]) rfl rfl rfl ?_
                          refine dq (ps := [(104, pI .i64 r_10.1)]) rfl rfl rfl ?_
                          refine dq (ps := [(105, pB (r_15 != r_10.1))]) rfl rfl rfl ?_
                          refine DL_nil ?_
                          refine W_split ⟨ltF rfl, rfl⟩ (fun hb => ?_) (fun hb => ?_)
                          · replace h := ite_yes hb h
                            refine W_seq ?_
                            refine W_text ?_
                            refine dq (ps := [(6, pB false)]) rfl rfl rfl ?_
                            refine DL_nil ?_
                            refine W_ret ?_
                            cases h
                            exact ⟨.inr rfl, leaves_of [.tmp 6] rfl (by decide) (.tmp (ltF rfl) rfl .nil)⟩
                          · replace h := ite_no hb h
                            refine W_skip ?_
                            refine W_seq ?_
                            refine W_text ?_
                            refine dq (ps := [(6, pB true)]) rfl rfl rfl ?_
                            refine DL_nil ?_
                            refine W_ret ?_
                            cases h
                            exact ⟨.inr rfl, leaves_of [.tmp 6] rfl (by decide) (.tmp (ltF rfl) rfl .nil)⟩

-- sl34Two: loop.example/g00883/spec.l34Two
def sl34Two (n : Nat) (a0 : SBitmap) (a1 : SBitmap) : Option (Int) :=
  ((sl22Ok n a0).bind fun r => (if (!r) = true then some 1 else ((sl22Ok n a1).bind fun r_1 => (if (!r_1) = true then some 1 else some 0))))

theorem vc_sl34Two (n : Nat) (a0 : SBitmap) (a1 : SBitmap) (r : Int) (h : sl34Two n a0 a1 = some r) : VC Tryd.prog 25 [.sh false [.ptr (cBitmap false a0)], .sh false [.ptr (cBitmap false a1)]] [(false, (cI .i64) true r)] [] := by
  refine VC_of 13 Tryd.func25 rfl rfl rfl fun G0 w0 pv => ?_
  unfold sl34Two at h
  refine W_seq ?_
  refine W_text ?_
  refine dq (ps := [(4, pI .i64 0)]) rfl rfl rfl ?_
  refine DL_nil ?_
  refine W_seq ?_
  refine W_seq ?_
  refine W_text ?_
  refine dq (ps := [(5, .val false [.t (.ptr (cBitmap false a0))])]) rfl rfl rfl ?_
  obtain ⟨r, hr, h⟩ := bind_some h
  refine dCall (gn := 18) (fn := Tryd.f18) (cp := []) (lt := []) [5] (vc_sl22Ok n a0 _ hr) Tryd.func18 rfl rfl rfl rfl (.inl rfl) (.inl rfl) (fun st2 h2 => ⟨rfl, args_of0 (.cons (aF (ltF rfl) ((congrArg Slot.sv (h2 5 (by decide))).trans rfl) rfl) .nil)⟩) rfl ?_
  refine dq (ps := [(7, pB (!r))]) rfl rfl rfl ?_
  refine dq (ps := [(8, pB (!r))]) rfl rfl rfl ?_
  refine dS 8 rfl (fun hb => ?_) (fun hb => ?_)
  · replace h := ite_yes hb h
    refine dU rfl rfl rfl rfl ?_
    refine dU rfl rfl rfl rfl ?_
    refine dU rfl rfl rfl rfl ?_
    refine dq (ps := [(12, pB true)]) rfl rfl rfl ?_
    refine DL_nil ?_
    refine W_fn (l := [(12, pB true)]) (nC rfl nN) rfl ?_
    refine W_yes ⟨ltF rfl, rfl⟩ ?_
    refine W_seq ?_
    refine W_text ?_
    refine dq (ps := [(4, pI .i64 1)]) rfl rfl rfl ?_
    refine DL_nil ?_
    refine W_ret ?_
    cases h
    exact ⟨.inr rfl, leaves_of [.tmp 4] rfl (by decide) (.tmp (ltF rfl) rfl .nil)⟩
  · replace h := ite_no hb h
    refine dq (ps := [(9, .val false [.t (.ptr (cBitmap false a1))])]) rfl rfl rfl ?_
    obtain ⟨r_1, hr_1, h⟩ := bind_some h
    refine dCall (gn := 18) (fn := Tryd.f18) (cp := []) (lt := []) [9] (vc_sl22Ok n a1 _ hr_1) Tryd.func18 rfl rfl rfl rfl (.inl rfl) (.inl rfl) (fun st2 h2 => ⟨rfl, args_of0 (.cons (aF (ltF rfl) ((congrArg Slot.sv (h2 9 (by decide))).trans rfl) rfl) .nil)⟩) rfl ?_
    refine dq (ps := [(11, pB (!r_1))]) rfl rfl rfl ?_
    refine dq (ps := [(12, pB (!r_1))]) rfl rfl rfl ?_
    refine DL_nil ?_
    refine W_fn (l := [(12, pB (!r_1))]) (nC rfl nN) rfl ?_
    refine W_split ⟨ltF rfl, rfl⟩ (fun hb => ?_) (fun hb => ?_)
    · replace h := ite_yes hb h
      refine W_seq ?_
      refine W_text ?_
      refine dq (ps := [(4, pI .i64 1)]) rfl rfl rfl ?_
      refine DL_nil ?_
      refine W_ret ?_
      cases h
      exact ⟨.inr rfl, leaves_of [.tmp 4] rfl (by decide) (.tmp (ltF rfl) rfl .nil)⟩
    · replace h := ite_no hb h
      refine W_skip ?_
      refine W_seq ?_
      refine W_text ?_
      refine dq (ps := [(4, pI .i64 0)]) rfl rfl rfl ?_
      refine DL_nil ?_
      refine W_ret ?_
      cases h
      exact ⟨.inr rfl, leaves_of [.tmp 4] rfl (by decide) (.tmp (ltF rfl) rfl .nil)⟩

-- sl22Ink: loop.example/g00883/spec.l22Ink
def sl22Ink_L1 : Nat → SBitmap → Int → Int → Int → Option (Out (Int) (Int))
  | 0, _, _, _, _ => none
  | n + 1, a0, v4, v3_1, v5 => ((getI a0.Rows v4).bind fun x => (if (decide (v5 < (x.size : Int))) = true then ((getI a0.Rows v4).bind fun x_1 => (if (0 : Int) ≤ v5 ∧ v5 < (x_1.size : Int) then (if ((byteAt x_1 v5) == 35) = true then sl22Ink_L1 n a0 v4 (w64 (v3_1 + 1)) (w64 (v5 + 1)) else sl22Ink_L1 n a0 v4 v3_1 (w64 (v5 + 1))) else none)) else some (.go v3_1)))

theorem sl22Ink_L1_ok {G0 : Nat → Own} {w0 : World} {Q : Exit → St → Prop} {a0 : SBitmap} {v4 : Int} {out : (Out (Int) (Int))}
    (hQ : match out with | .go q3_1 => ∀ st, FN st [(0, .val false [.t (.ptr (cBitmap false a0))]), (3, pI .i64 q3_1), (4, pI .i64 v4)] → Q (.exit 2) st | .brk _ _ => True | .ret r => ∀ st, Fits st [(2, .val false (((cI .i64) true r).map .t))] → Q .ret st)
    {n : Nat} {v3_1 : Int} {v5 : Int} (h : sl22Ink_L1 n a0 v4 v3_1 v5 = some out) :
    ∀ st, FN st [(0, .val false [.t (.ptr (cBitmap false a0))]), (3, pI .i64 v3_1), (4, pI .i64 v4), (5, pI .i64 v5)] → W ⟨Tryd.prog, 40, [], G0, w0⟩ (.loop (bodyAt Tryd.f26 [1, 1, 0, 1, 0, 0, 1, 0, 0, 1, 0, 0])) st Q := by
  intro st hst
  refine W_loop (fun n st => ∃ v3_1 v5, sl22Ink_L1 n a0 v4 v3_1 v5 = some out ∧ FN st [(0, .val false [.t (.ptr (cBitmap false a0))]), (3, pI .i64 v3_1), (4, pI .i64 v4), (5, pI .i64 v5)]) ?_ (n := n) ⟨v3_1, v5, h, hst⟩
  clear h hst st n v3_1 v5
  rintro n st ⟨v3_1, v5, h, hst⟩
  refine W_fn hst rfl ?_
  cases n with
  | zero => cases h
  | succ n =>
    rw [sl22Ink_L1] at h
    refine W_seq ?_
    refine W_seq ?_
    refine W_text ?_
    refine dq (ps := [(15, pI .i64 v5)]) rfl rfl rfl ?_
    refine dq (ps := [(16, .val false [.t (.ptr (cBitmap false a0))])]) rfl rfl rfl ?_
    refine dq (ps := [(17, .val false [.t (.ptr (cBitmap false a0))])]) rfl rfl rfl ?_
    refine dq (ps := [(18, .val false [.t (.ptr [.sl false 1 (a0.Rows.map (cS false))])])]) rfl rfl rfl ?_
    refine dq (ps := [(19, .val false [.t (.sl false 1 (a0.Rows.map (cS false)))])]) rfl rfl rfl ?_
    refine dq (ps := [(20, pI .i64 v4)]) rfl rfl rfl ?_
    obtain ⟨x, hx, h⟩ := bind_some h
    refine dIxA rfl rfl rfl rfl rfl (getI_map (cS false) hx) rfl ?_
    refine dq (ps := [(22, pS x)]) rfl rfl rfl ?_
    refine dLen (t := 9) (n := (x.size : Int)) rfl (ltF rfl) rfl rfl rfl rfl ?_
    refine dq (ps := [(24, pB (decide (v5 < (x.size : Int))))]) rfl rfl rfl ?_
    refine DL_nil ?_
    refine W_fn (l := [(0, .val false [.t (.ptr (cBitmap false a0))]), (3, pI .i64 v3_1), (4, pI .i64 v4), (5, pI .i64 v5), (24, pB (decide (v5 < (x.size : Int))))]) (nC rfl (nC rfl (nC rfl (nC rfl (nC rfl nN))))) rfl ?_
    refine W_split ⟨ltF rfl, rfl⟩ (fun hb => ?_) (fun hb => ?_)
    · replace h := ite_yes hb h
      refine W_skip ?_
      refine W_seq ?_
      refine W_block ?_
      refine W_seq ?_
      refine W_text ?_
      refine dq (ps := [(27, .val false [.t (.ptr (cBitmap false a0))])]) rfl rfl rfl ?_
      refine dq (ps := [(28, .val false [.t (.ptr (cBitmap false a0))])]) rfl rfl rfl ?_
      refine dq (ps := [(29, .val false [.t (.ptr [.sl false 1 (a0.Rows.map (cS false))])])]) rfl rfl rfl ?_
      refine dq (ps := [(30, .val false [.t (.sl false 1 (a0.Rows.map (cS false)))])]) rfl rfl rfl ?_
      refine dq (ps := [(31, pI .i64 v4)]) rfl rfl rfl ?_
      obtain ⟨x_1, hx_1, h⟩ := bind_some h
      refine dIxA rfl rfl rfl rfl rfl (getI_map (cS false) hx_1) rfl ?_
      refine dq (ps := [(33, pS x_1)]) rfl rfl rfl ?_
      refine dq (ps := [(34, pI .i64 v5)]) rfl rfl rfl ?_
      obtain ⟨hp, h⟩ := ite_some h
      refine dIdx rfl rfl rfl rfl rfl hp rfl ?_
      refine dq (ps := [(36, pB ((byteAt x_1 v5) == 35))]) rfl rfl rfl ?_
      refine DL_nil ?_
      refine W_fn (l := [(0, .val false [.t (.ptr (cBitmap false a0))]), (3, pI .i64 v3_1), (4, pI .i64 v4), (5, pI .i64 v5), (36, pB ((byteAt x_1 v5) == 35))]) (nC rfl (nC rfl (nC rfl (nC rfl (nC rfl nN))))) rfl ?_
      refine W_split ⟨ltF rfl, rfl⟩ (fun hb => ?_) (fun hb => ?_)
      · replace h := ite_yes hb h
        refine W_text ?_
        refine dq (ps := [(37, pI .i64 v3_1)]) rfl rfl rfl ?_
        refine dq (ps := [(38, pI .i64 (w64 (v3_1 + 1)))]) rfl rfl rfl ?_
        refine dq (ps := [(3, pI .i64 (w64 (v3_1 + 1)))]) rfl rfl rfl ?_
        refine DL_nil ?_
        refine W_text ?_
        refine dq (ps := [(25, pI .i64 v5)]) rfl rfl rfl ?_
        refine dq (ps := [(26, pI .i64 (w64 (v5 + 1)))]) rfl rfl rfl ?_
        refine dq (ps := [(5, pI .i64 (w64 (v5 + 1)))]) rfl rfl rfl ?_
        refine DL_nil ?_
        exact ⟨n, Nat.lt_succ_self n, _, _,  h, (nC rfl (nC rfl (nC rfl (nC rfl nN))))⟩
      · replace h := ite_no hb h
        refine W_skip ?_
        refine W_text ?_
        refine dq (ps := [(25, pI .i64 v5)]) rfl rfl rfl ?_
        refine dq (ps := [(26, pI .i64 (w64 (v5 + 1)))]) rfl rfl rfl ?_
        refine dq (ps := [(5, pI .i64 (w64 (v5 + 1)))]) rfl rfl rfl ?_
        refine DL_nil ?_
        exact ⟨n, Nat.lt_succ_self n, _, _,  h, (nC rfl (nC rfl (nC rfl (nC rfl nN))))⟩
    · replace h := ite_no hb h
      refine W_exit ?_
      cases h
      exact hQ _ (nC rfl (nC rfl (nC rfl nN)))

def sl22Ink_L0 : Nat → SBitmap → Int → Int → Option (Out (Int) (Int))
  | 0, _, _, _ => none
  | n + 1, a0, v3, v4 => (if (decide (v4 < (a0.Rows.length : Int))) = true then ((sl22Ink_L1 n a0 v4 v3 0).bind fun o => (match o with | .go q3_1 => sl22Ink_L0 n a0 q3_1 (w64 (v4 + 1)) | .brk _ _ => none | .ret r => some (.ret r))) else some (.go v3))

theorem sl22Ink_L0_ok {G0 : Nat → Own} {w0 : World} {Q : Exit → St → Prop} {a0 : SBitmap} {out : (Out (Int) (Int))}
    (hQ : match out with | .go q3 => ∀ st, FN st [(3, pI .i64 q3)] → Q (.exit 0) st | .brk _ _ => True | .ret r => ∀ st, Fits st [(2, .val false (((cI .i64) true r).map .t))] → Q .ret st)
    {n : Nat} {v3 : Int} {v4 : Int} (h : sl22Ink_L0 n a0 v3 v4 = some out) :
    ∀ st, FN st [(0, .val false [.t (.ptr (cBitmap false a0))]), (3, pI .i64 v3), (4, pI .i64 v4)] → W ⟨Tryd.prog, 40, [], G0, w0⟩ (.loop (bodyAt Tryd.f26 [1, 1, 0, 1, 0, 0])) st Q := by
  intro st hst
  refine W_loop (fun n st => ∃ v3 v4, sl22Ink_L0 n a0 v3 v4 = some out ∧ FN st [(0, .val false [.t (.ptr (cBitmap false a0))]), (3, pI .i64 v3), (4, pI .i64 v4)]) ?_ (n := n) ⟨v3, v4, h, hst⟩
  clear h hst st n v3 v4
  rintro n st ⟨v3, v4, h, hst⟩
  refine W_fn hst rfl ?_
  cases n with
  | zero => cases h
  | succ n =>
    rw [sl22Ink_L0] at h
    refine W_seq ?_
    refine W_seq ?_
    refine W_text ?_
    refine dq (ps := [(6, pI .i64 v4)]) rfl rfl rfl ?_
    refine dq (ps := [(7, .val false [.t (.ptr (cBitmap false a0))])]) rfl rfl rfl ?_
    refine dq (ps := [(8, .val false [.t (.ptr (cBitmap false a0))])]) rfl rfl rfl ?_
    refine dq (ps := [(9, .val false [.t (.ptr [.sl false 1 (a0.Rows.map (cS false))])])]) rfl rfl rfl ?_
    refine dq (ps := [(10, .val false [.t (.sl false 1 (a0.Rows.map (cS false)))])]) rfl rfl rfl ?_
    refine dLen (t := 22) (n := (a0.Rows.length : Int)) rfl (ltF rfl) rfl rfl (lenE rfl (List.length_map ..)) rfl ?_
    refine dq (ps := [(12, pB (decide (v4 < (a0.Rows.length : Int))))]) rfl rfl rfl ?_
    refine DL_nil ?_
    refine W_fn (l := [(0, .val false [.t (.ptr (cBitmap false a0))]), (3, pI .i64 v3), (4, pI .i64 v4), (12, pB (decide (v4 < (a0.Rows.length : Int))))]) (nC rfl (nC rfl (nC rfl (nC rfl nN)))) rfl ?_
    refine W_split ⟨ltF rfl, rfl⟩ (fun hb => ?_) (fun hb => ?_)
    · replace h := ite_yes hb h
      refine W_skip ?_
      refine W_seq ?_
      refine W_block ?_
      refine W_seq ?_
      refine W_text ?_
      refine dq (ps := [(5, pI .i64 0)]) rfl rfl rfl ?_
      refine DL_nil ?_
      refine W_block ?_
      obtain ⟨o, ho, h⟩ := bind_some h
      refine sl22Ink_L1_ok ?_ ho _ (nC rfl (nC rfl (nC rfl (nC rfl nN))))
      rcases o with q3_1 | ⟨j, p⟩ | r
      · skip
        dsimp only at h ⊢
        intro st hst
        refine W_fn hst rfl ?_
        refine W_text ?_
        refine dq (ps := [(13, pI .i64 v4)]) rfl rfl rfl ?_
        refine dq (ps := [(14, pI .i64 (w64 (v4 + 1)))]) rfl rfl rfl ?_
        refine dq (ps := [(4, pI .i64 (w64 (v4 + 1)))]) rfl rfl rfl ?_
        refine DL_nil ?_
        exact ⟨n, Nat.lt_succ_self n, _, _,  h, (nC rfl (nC rfl (nC rfl nN)))⟩
      · exact trivial
      · dsimp only at h ⊢
        intro st hst
        cases h
        exact hQ _ hst
    · replace h := ite_no hb h
      refine W_exit ?_
      cases h
      exact hQ _ (nC rfl nN)

def sl22Ink (n : Nat) (a0 : SBitmap) : Option (Int) :=
  ((sl22Ink_L0 n a0 0 0).bind fun o_1 => (match o_1 with | .go q3_2 => some q3_2 | .brk _ _ => none | .ret r => some r))

theorem vc_sl22Ink (n : Nat) (a0 : SBitmap) (r : Int) (h : sl22Ink n a0 = some r) : VC Tryd.prog 26 [.sh false [.ptr (cBitmap false a0)]] [(false, (cI .i64) true r)] [] := by
  refine VC_of 40 Tryd.func26 rfl rfl rfl fun G0 w0 pv => ?_
  unfold sl22Ink at h
  refine W_seq ?_
  refine W_text ?_
  refine dq (ps := [(2, pI .i64 0)]) rfl rfl rfl ?_
  refine DL_nil ?_
  refine W_seq ?_
  refine W_text ?_
  refine dq (ps := [(3, pI .i64 0)]) rfl rfl rfl ?_
  refine DL_nil ?_
  refine W_seq ?_
  refine W_seq ?_
  refine W_text ?_
  refine dq (ps := [(4, pI .i64 0)]) rfl rfl rfl ?_
  refine DL_nil ?_
  refine W_block ?_
  obtain ⟨o_1, ho_1, h⟩ := bind_some h
  refine sl22Ink_L0_ok ?_ ho_1 _ (nC rfl (nC rfl (nC rfl nN)))
  rcases o_1 with q3_2 | ⟨j, p⟩ | r
  · skip
    dsimp only at h ⊢
    intro st hst
    refine W_fn hst rfl ?_
    refine W_seq ?_
    refine W_text ?_
    refine dq (ps := [(39, pI .i64 q3_2)]) rfl rfl rfl ?_
    refine dq (ps := [(2, pI .i64 q3_2)]) rfl rfl rfl ?_
    refine DL_nil ?_
    refine W_ret ?_
    cases h
    exact ⟨.inr rfl, leaves_of [.tmp 2] rfl (by decide) (.tmp (ltF rfl) rfl .nil)⟩
  · exact trivial
  · dsimp only at h ⊢
    intro st hst
    cases h
    exact ⟨.inr rfl, leaves_of [.tmp 2] rfl (by decide) (.tmp (ltF rfl) (hst.at (s := 2) rfl rfl) .nil)⟩

-- sl22At: loop.example/g00883/spec.l22At
def sl22At (n : Nat) (a0 : SBitmap) (a1 : Int) (a2 : Int) : Option (Bool) :=
  ((sl00In n (w64 ((w64 ((a0.Rows.length : Int) - 1)) - (w64 (a2 - a0.Bottom)))) 0 (w64 ((a0.Rows.length : Int) - 1))).bind fun r => (if (r) = true then ((sl00In n (w64 (a1 - a0.Left)) 0 (w64 (a0.Width - 1))).bind fun r_1 => (if (r_1) = true then ((getI a0.Rows (w64 ((w64 ((a0.Rows.length : Int) - 1)) - (w64 (a2 - a0.Bottom))))).bind fun x => (if (0 : Int) ≤ w64 (a1 - a0.Left) ∧ w64 (a1 - a0.Left) < (x.size : Int) then some ((byteAt x (w64 (a1 - a0.Left))) == 35) else none)) else some false)) else some false))

theorem vc_sl22At (n : Nat) (a0 : SBitmap) (a1 : Int) (a2 : Int) (r : Bool) (h : sl22At n a0 a1 a2 = some r) : VC Tryd.prog 44 [.sh false [.ptr (cBitmap false a0)], .sh false ((cI .i64) false a1), .sh false ((cI .i64) false a2)] [(false, cB true r)] [] := by
  refine VC_of 60 Tryd.func44 rfl rfl rfl fun G0 w0 pv => ?_
  unfold sl22At at h
  refine W_seq ?_
  refine W_text ?_
  refine dq (ps := [(6, pB false)]) rfl rfl rfl ?_
  refine DL_nil ?_
  refine W_seq ?_
  refine W_drawn rfl ?_
  refine dq (R' := [0]) (ps := [(8, .val false [.t (.ptr (cBitmap false a0))])]) rfl rfl rfl ?_
  refine dq (R' := [8]) (ps := [(9, .val false [.t (.ptr (cBitmap false a0))])]) rfl rfl rfl ?_
  refine dq (R' := [9]) (ps := [(10, .val false [.t (.ptr [.sl false 1 (a0.Rows.map (cS false))])])]) rfl rfl rfl ?_
  refine dq (R' := [10]) (ps := [(11, .val false [.t (.sl false 1 (a0.Rows.map (cS false)))])]) rfl rfl rfl ?_
  refine dLen (R' := [11]) (t := 22) (n := (a0.Rows.length : Int)) rfl (ltF rfl) rfl rfl (lenE rfl (List.length_map ..)) rfl ?_
  refine dq (R' := [12]) (ps := [(13, pI .i64 (w64 ((a0.Rows.length : Int) - 1)))]) rfl rfl rfl ?_
  refine dq (R' := [2]) (ps := [(14, pI .i64 a2)]) rfl rfl rfl ?_
  refine dq (R' := [0]) (ps := [(15, .val false [.t (.ptr (cBitmap false a0))])]) rfl rfl rfl ?_
  refine dq (R' := [15]) (ps := [(16, .val false [.t (.ptr (cBitmap false a0))])]) rfl rfl rfl ?_
  refine dq (R' := [16]) (ps := [(17, .val false [.t (.ptr [.sc (.int .i64 a0.Bottom), .sc (.int .i64 a0.Width), .sl false 1 (a0.Rows.map (cS false))])])]) rfl rfl rfl ?_
  refine dq (R' := [17]) (ps := [(18, pI .i64 a0.Bottom)]) rfl rfl rfl ?_
  refine dq (R' := [14, 18]) (ps := [(19, pI .i64 (w64 (a2 - a0.Bottom)))]) rfl rfl rfl ?_
  refine dq (R' := [13, 19]) (ps := [(20, pI .i64 (w64 ((w64 ((a0.Rows.length : Int) - 1)) - (w64 (a2 - a0.Bottom)))))]) rfl rfl rfl ?_
  refine dq (R' := [20]) (ps := [(7, pI .i64 (w64 ((w64 ((a0.Rows.length : Int) - 1)) - (w64 (a2 - a0.Bottom)))))]) rfl rfl rfl ?_
  refine DL_nil ⟨[([0], [8]), ([8], [9]), ([9], [10]), ([10], [11]), ([11], [12]), ([12], [13]), ([2], [14]), ([0], [15]), ([15], [16]), ([16], [17]), ([17], [18]), ([14, 18], [19]), ([13, 19], [20]), ([20], [7])], rfl, by decide +kernel, ?_⟩
  refine W_fn (l := [(0, .val false [.t (.ptr (cBitmap false a0))]), (1, pI .i64 a1), (7, pI .i64 (w64 ((w64 ((a0.Rows.length : Int) - 1)) - (w64 (a2 - a0.Bottom)))))]) (nC rfl (nC rfl (nC rfl nN))) rfl ?_
  refine W_seq ?_
  refine W_drawn rfl ?_
  refine dq (R' := [7]) (ps := [(21, pI .i64 (w64 ((w64 ((a0.Rows.length : Int) - 1)) - (w64 (a2 - a0.Bottom)))))]) rfl rfl rfl ?_
  refine dq (R' := [0]) (ps := [(22, .val false [.t (.ptr (cBitmap false a0))])]) rfl rfl rfl ?_
  refine dq (R' := [22]) (ps := [(23, .val false [.t (.ptr (cBitmap false a0))])]) rfl rfl rfl ?_
  refine dq (R' := [23]) (ps := [(24, .val false [.t (.ptr [.sl false 1 (a0.Rows.map (cS false))])])]) rfl rfl rfl ?_
  refine dq (R' := [24]) (ps := [(25, .val false [.t (.sl false 1 (a0.Rows.map (cS false)))])]) rfl rfl rfl ?_
  refine dLen (R' := [25]) (t := 22) (n := (a0.Rows.length : Int)) rfl (ltF rfl) rfl rfl (lenE rfl (List.length_map ..)) rfl ?_
  refine dq (R' := [26]) (ps := [(27, pI .i64 (w64 ((a0.Rows.length : Int) - 1)))]) rfl rfl rfl ?_
  obtain ⟨r, hr, h⟩ := bind_some h
  refine dCall (R' := [21, 27]) (gn := 38) (fn := Tryd.f38) (cp := []) (lt := []) [21, 27] (vc_sl00In n (w64 ((w64 ((a0.Rows.length : Int) - 1)) - (w64 (a2 - a0.Bottom)))) 0 (w64 ((a0.Rows.length : Int) - 1)) _ hr) Tryd.func38 rfl rfl rfl rfl (.inl rfl) (.inl rfl) (fun st2 h2 => ⟨rfl, args_of0 (.cons (aF (ltF rfl) ((congrArg Slot.sv (h2 21 (by decide))).trans rfl) rfl) (.cons (aC rfl) (.cons (aF (ltF rfl) ((congrArg Slot.sv (h2 27 (by decide))).trans rfl) rfl) .nil)))⟩) rfl ?_
  refine dq (R' := [28]) (ps := [(29, pB r)]) rfl rfl rfl ?_
  refine dS 29 rfl (fun hb => ?_) (fun hb => ?_)
  · replace h := ite_yes hb h
    refine dq (R' := [29, 1]) (ps := [(30, pI .i64 a1)]) rfl rfl rfl ?_
    refine dq (R' := [29, 0]) (ps := [(31, .val false [.t (.ptr (cBitmap false a0))])]) rfl rfl rfl ?_
    refine dq (R' := [29, 31]) (ps := [(32, .val false [.t (.ptr (cBitmap false a0))])]) rfl rfl rfl ?_
    refine dq (R' := [29, 32]) (ps := [(33, .val false [.t (.ptr (cBitmap false a0))])]) rfl rfl rfl ?_
    refine dq (R' := [29, 33]) (ps := [(34, pI .i64 a0.Left)]) rfl rfl rfl ?_
    refine dq (R' := [29, 30, 34]) (ps := [(35, pI .i64 (w64 (a1 - a0.Left)))]) rfl rfl rfl ?_
    refine dq (R' := [29, 0]) (ps := [(36, .val false [.t (.ptr (cBitmap false a0))])]) rfl rfl rfl ?_
    refine dq (R' := [29, 36]) (ps := [(37, .val false [.t (.ptr (cBitmap false a0))])]) rfl rfl rfl ?_
    refine dq (R' := [29, 37]) (ps := [(38, .val false [.t (.ptr [.sc (.int .i64 a0.Width), .sl false 1 (a0.Rows.map (cS false))])])]) rfl rfl rfl ?_
    refine dq (R' := [29, 38]) (ps := [(39, pI .i64 a0.Width)]) rfl rfl rfl ?_
    refine dq (R' := [29, 39]) (ps := [(40, pI .i64 (w64 (a0.Width - 1)))]) rfl rfl rfl ?_
    obtain ⟨r_1, hr_1, h⟩ := bind_some h
    refine dCall (R' := [29, 35, 40]) (gn := 38) (fn := Tryd.f38) (cp := []) (lt := []) [35, 40] (vc_sl00In n (w64 (a1 - a0.Left)) 0 (w64 (a0.Width - 1)) _ hr_1) Tryd.func38 rfl rfl rfl rfl (.inl rfl) (.inl rfl) (fun st2 h2 => ⟨rfl, args_of0 (.cons (aF (ltF rfl) ((congrArg Slot.sv (h2 35 (by decide))).trans rfl) rfl) (.cons (aC rfl) (.cons (aF (ltF rfl) ((congrArg Slot.sv (h2 40 (by decide))).trans rfl) rfl) .nil)))⟩) rfl ?_
    refine dq (R' := [29, 41]) (ps := [(42, pB r_1)]) rfl rfl rfl ?_
    refine dq (R' := [42]) (ps := [(43, pB r_1)]) rfl rfl rfl ?_
    refine dS 43 rfl (fun hb => ?_) (fun hb => ?_)
    · replace h := ite_yes hb h
      refine dq (R' := [43, 0]) (ps := [(44, .val false [.t (.ptr (cBitmap false a0))])]) rfl rfl rfl ?_
      refine dq (R' := [43, 44]) (ps := [(45, .val false [.t (.ptr (cBitmap false a0))])]) rfl rfl rfl ?_
      refine dq (R' := [43, 45]) (ps := [(46, .val false [.t (.ptr [.sl false 1 (a0.Rows.map (cS false))])])]) rfl rfl rfl ?_
      refine dq (R' := [43, 46]) (ps := [(47, .val false [.t (.sl false 1 (a0.Rows.map (cS false)))])]) rfl rfl rfl ?_
      refine dq (R' := [43, 7]) (ps := [(48, pI .i64 (w64 ((w64 ((a0.Rows.length : Int) - 1)) - (w64 (a2 - a0.Bottom)))))]) rfl rfl rfl ?_
      obtain ⟨x, hx, h⟩ := bind_some h
      refine dIxA (R' := [43, 47, 48]) rfl rfl rfl rfl rfl (getI_map (cS false) hx) rfl ?_
      refine dq (R' := [43, 49]) (ps := [(50, pS x)]) rfl rfl rfl ?_
      refine dq (R' := [43, 1]) (ps := [(51, pI .i64 a1)]) rfl rfl rfl ?_
      refine dq (R' := [43, 0]) (ps := [(52, .val false [.t (.ptr (cBitmap false a0))])]) rfl rfl rfl ?_
      refine dq (R' := [43, 52]) (ps := [(53, .val false [.t (.ptr (cBitmap false a0))])]) rfl rfl rfl ?_
      refine dq (R' := [43, 53]) (ps := [(54, .val false [.t (.ptr (cBitmap false a0))])]) rfl rfl rfl ?_
      refine dq (R' := [43, 54]) (ps := [(55, pI .i64 a0.Left)]) rfl rfl rfl ?_
      refine dq (R' := [43, 51, 55]) (ps := [(56, pI .i64 (w64 (a1 - a0.Left)))]) rfl rfl rfl ?_
      obtain ⟨hp, h⟩ := ite_some h
      refine dIdx (R' := [43, 50, 56]) rfl rfl rfl rfl rfl hp rfl ?_
      refine dq (R' := [43, 57]) (ps := [(58, pB ((byteAt x (w64 (a1 - a0.Left))) == 35))]) rfl rfl rfl ?_
      refine dq (R' := [43, 58]) (ps := [(59, pB ((byteAt x (w64 (a1 - a0.Left))) == 35))]) rfl rfl rfl ?_
      refine dq (R' := [59]) (ps := [(6, pB ((byteAt x (w64 (a1 - a0.Left))) == 35))]) rfl rfl rfl ?_
      refine DL_nil ⟨[([7], [21]), ([0], [22]), ([22], [23]), ([23], [24]), ([24], [25]), ([25], [26]), ([26], [27]), ([21, 27], [28]), ([28], [29]), ([29, 1], [30]), ([29, 0], [31]), ([29, 31], [32]), ([29, 32], [33]), ([29, 33], [34]), ([29, 30, 34], [35]), ([29, 0], [36]), ([29, 36], [37]), ([29, 37], [38]), ([29, 38], [39]), ([29, 39], [40]), ([29, 35, 40], [41]), ([29, 41], [42]), ([42], [43]), ([43, 0], [44]), ([43, 44], [45]), ([43, 45], [46]), ([43, 46], [47]), ([43, 7], [48]), ([43, 47, 48], [49]), ([43, 49], [50]), ([43, 1], [51]), ([43, 0], [52]), ([43, 52], [53]), ([43, 53], [54]), ([43, 54], [55]), ([43, 51, 55], [56]), ([43, 50, 56], [57]), ([43, 57], [58]), ([43, 58], [59]), ([59], [6])], rfl, by decide +kernel, ?_⟩
      refine W_fn (l := [(6, pB ((byteAt x (w64 (a1 - a0.Left))) == 35))]) (nC rfl nN) rfl ?_
      refine W_ret ?_
      cases h
      exact ⟨.inr rfl, leaves_of [.tmp 6] rfl (by decide) (.tmp (ltF rfl) rfl .nil)⟩
    · replace h := ite_no hb h
      refine dU (R' := [43]) rfl rfl rfl rfl ?_
      refine dU (R' := [43]) rfl rfl rfl rfl ?_
      refine dU (R' := [43]) rfl rfl rfl rfl ?_
      refine dU (R' := [43]) rfl rfl rfl rfl ?_
      refine dU (R' := [43]) rfl rfl rfl rfl ?_
      refine dU (R' := [43]) rfl rfl rfl rfl ?_
      refine dU (R' := [43]) rfl rfl rfl rfl ?_
      refine dU (R' := [43]) rfl rfl rfl rfl ?_
      refine dU (R' := [43]) rfl rfl rfl rfl ?_
      refine dU (R' := [43]) rfl rfl rfl rfl ?_
      refine dU (R' := [43]) rfl rfl rfl rfl ?_
      refine dU (R' := [43]) rfl rfl rfl rfl ?_
      refine dU (R' := [43]) rfl rfl rfl rfl ?_
      refine dU (R' := [43]) rfl rfl rfl rfl ?_
      refine dU (R' := [43]) rfl rfl rfl rfl ?_
      refine dq (R' := [43, 58]) (ps := [(59, pB false)]) rfl rfl rfl ?_
      refine dq (R' := [59]) (ps := [(6, pB false)]) rfl rfl rfl ?_
      refine DL_nil ⟨[([7], [21]), ([0], [22]), ([22], [23]), ([23], [24]), ([24], [25]), ([25], [26]), ([26], [27]), ([21, 27], [28]), ([28], [29]), ([29, 1], [30]), ([29, 0], [31]), ([29, 31], [32]), ([29, 32], [33]), ([29, 33], [34]), ([29, 30, 34], [35]), ([29, 0], [36]), ([29, 36], [37]), ([29, 37], [38]), ([29, 38], [39]), ([29, 39], [40]), ([29, 35, 40], [41]), ([29, 41], [42]), ([42], [43]), ([43], [44]), ([43], [45]), ([43], [46]), ([43], [47]), ([43], [48]), ([43], [49]), ([43], [50]), ([43], [51]), ([43], [52]), ([43], [53]), ([43], [54]), ([43], [55]), ([43], [56]), ([43], [57]), ([43], [58]), ([43, 58], [59]), ([59], [6])], rfl, by decide +kernel, ?_⟩
      refine W_fn (l := [(6, pB false)]) (nC rfl nN) rfl ?_
      refine W_ret ?_
      cases h
      exact ⟨.inr rfl, leaves_of [.tmp 6] rfl (by decide) (.tmp (ltF rfl) rfl .nil)⟩
  · replace h := ite_no hb h
    refine dU (R' := [29]) rfl rfl rfl rfl ?_
    refine dU (R' := [29]) rfl rfl rfl rfl ?_
    refine dU (R' := [29]) rfl rfl rfl rfl ?_
    refine dU (R' := [29]) rfl rfl rfl rfl ?_
    refine dU (R' := [29]) rfl rfl rfl rfl ?_
    refine dU (R' := [29]) rfl rfl rfl rfl ?_
    refine dU (R' := [29]) rfl rfl rfl rfl ?_
    refine dU (R' := [29]) rfl rfl rfl rfl ?_
    refine dU (R' := [29]) rfl rfl rfl rfl ?_
    refine dU (R' := [29]) rfl rfl rfl rfl ?_
    refine dU (R' := [29]) rfl rfl rfl rfl ?_
    refine dU (R' := [29]) rfl rfl rfl rfl ?_
    refine dq (R' := [29, 41]) (ps := [(42, pB false)]) rfl rfl rfl ?_
    refine dq (R' := [42]) (ps := [(43, pB false)]) rfl rfl rfl ?_
    refine dU (R' := [43]) rfl rfl rfl rfl ?_
    refine dU (R' := [43]) rfl rfl rfl rfl ?_
    refine dU (R' := [43]) rfl rfl rfl rfl ?_
    refine dU (R' := [43]) rfl rfl rfl rfl ?_
    refine dU (R' := [43]) rfl rfl rfl rfl ?_
    refine dU (R' := [43]) rfl rfl rfl rfl ?_
    refine dU (R' := [43]) rfl rfl rfl rfl ?_
    refine dU (R' := [43]) rfl rfl rfl rfl ?_
    refine dU (R' := [43]) rfl rfl rfl rfl ?_
    refine dU (R' := [43]) rfl rfl rfl rfl ?_
    refine dU (R' := [43]) rfl rfl rfl rfl ?_
    refine dU (R' := [43]) rfl rfl rfl rfl ?_
    refine dU (R' := [43]) rfl rfl rfl rfl ?_
    refine dU (R' := [43]) rfl rfl rfl rfl ?_
    refine dU (R' := [43]) rfl rfl rfl rfl ?_
    refine dq (R' := [43, 58]) (ps := [(59, pB false)]) rfl rfl rfl ?_
    refine dq (R' := [59]) (ps := [(6, pB false)]) rfl rfl rfl ?_
    refine DL_nil ⟨[([7], [21]), ([0], [22]), ([22], [23]), ([23], [24]), ([24], [25]), ([25], [26]), ([26], [27]), ([21, 27], [28]), ([28], [29]), ([29], [30]), ([29], [31]), ([29], [32]), ([29], [33]), ([29], [34]), ([29], [35]), ([29], [36]), ([29], [37]), ([29], [38]), ([29], [39]), ([29], [40]), ([29], [41]), ([29, 41], [42]), ([42], [43]), ([43], [44]), ([43], [45]), ([43], [46]), ([43], [47]), ([43], [48]), ([43], [49]), ([43], [50]), ([43], [51]), ([43], [52]), ([43], [53]), ([43], [54]), ([43], [55]), ([43], [56]), ([43], [57]), ([43], [58]), ([43, 58], [59]), ([59], [6])], rfl, by decide +kernel, ?_⟩
    refine W_fn (l := [(6, pB false)]) (nC rfl nN) rfl ?_
    refine W_ret ?_
    cases h
    exact ⟨.inr rfl, leaves_of [.tmp 6] rfl (by decide) (.tmp (ltF rfl) rfl .nil)⟩

-- sl22Only: loop.example/g00883/spec.l22Only
def sl22Only_L1 : Nat → SBitmap → Int → SBitmap → Int → Int → Option (Out (Int) (Int))
  | 0, _, _, _, _, _ => none
  | n + 1, a0, v6, a1, v5_1, v7 => (if (decide (v7 < a0.Width)) = true then ((getI a0.Rows v6).bind fun x => (if (0 : Int) ≤ v7 ∧ v7 < (x.size : Int) then (if ((byteAt x v7) == 35) = true then ((sl22At n a1 (w64 (a0.Left + v7)) (w64 (a0.Bottom + (w64 ((w64 ((a0.Rows.length : Int) - 1)) - v6))))).bind fun r => (if (!r) = true then sl22Only_L1 n a0 v6 a1 (w64 (v5_1 + 1)) (w64 (v7 + 1)) else sl22Only_L1 n a0 v6 a1 v5_1 (w64 (v7 + 1)))) else sl22Only_L1 n a0 v6 a1 v5_1 (w64 (v7 + 1))) else none)) else some (.go v5_1))

theorem sl22Only_L1_ok {G0 : Nat → Own} {w0 : World} {Q : Exit → St → Prop} {a0 : SBitmap} {v6 : Int} {a1 : SBitmap} {out : (Out (Int) (Int))}
    (hQ : match out with | .go q5_1 => ∀ st, FN st [(0, .val false [.t (.ptr (cBitmap false a0))]), (1, .val false [.t (.ptr (cBitmap false a1))]), (5, pI .i64 q5_1), (6, pI .i64 v6)] → Q (.exit 2) st | .brk _ _ => True | .ret r => ∀ st, Fits st [(4, .val false (((cI .i64) true r).map .t))] → Q .ret st)
    {n : Nat} {v5_1 : Int} {v7 : Int} (h : sl22Only_L1 n a0 v6 a1 v5_1 v7 = some out) :
    ∀ st, FN st [(0, .val false [.t (.ptr (cBitmap false a0))]), (1, .val false [.t (.ptr (cBitmap false a1))]), (5, pI .i64 v5_1), (6, pI .i64 v6), (7, pI .i64 v7)] → W ⟨Tryd.prog, 64, [], G0, w0⟩ (.loop (bodyAt Tryd.f27 [1, 1, 0, 1, 0, 0, 1, 0, 0, 1, 0, 0])) st Q := by
  intro st hst
  refine W_loop (fun n st => ∃ v5_1 v7, sl22Only_L1 n a0 v6 a1 v5_1 v7 = some out ∧ FN st [(0, .val false [.t (.ptr (cBitmap false a0))]), (1, .val false [.t (.ptr (cBitmap false a1))]), (5, pI .i64 v5_1), (6, pI .i64 v6), (7, pI .i64 v7)]) ?_ (n := n) ⟨v5_1, v7, h, hst⟩
  clear h hst st n v5_1 v7
  rintro n st ⟨v5_1, v7, h, hst⟩
  refine W_fn hst rfl ?_
  cases n with
  | zero => cases h
  | succ n =>
    rw [sl22Only_L1] at h
    refine W_seq ?_
    refine W_seq ?_
    refine W_text ?_
    refine dq (ps := [(18, pI .i64 v7)]) rfl rfl rfl ?_
    refine dq (ps := [(19, .val false [.t (.ptr (cBitmap false a0))])]) rfl rfl rfl ?_
    refine dq (ps := [(20, .val false [.t (.ptr (cBitmap false a0))])]) rfl rfl rfl ?_
    refine dq (ps := [(21, .val false [.t (.ptr [.sc (.int .i64 a0.Width), .sl false 1 (a0.Rows.map (cS false))])])]) rfl rfl rfl ?_
    refine dq (ps := [(22, pI .i64 a0.Width)]) rfl rfl rfl ?_
    refine dq (ps := [(23, pB (decide (v7 < a0.Width)))]) rfl rfl rfl ?_
    refine DL_nil ?_
    refine W_fn (l := [(0, .val false [.t (.ptr (cBitmap false a0))]), (1, .val false [.t (.ptr (cBitmap false a1))]), (5, pI .i64 v5_1), (6, pI .i64 v6), (7, pI .i64 v7), (23, pB (decide (v7 < a0.Width)))]) (nC rfl (nC rfl (nC rfl (nC rfl (nC rfl (nC rfl nN)))))) rfl ?_
    refine W_split ⟨ltF rfl, rfl⟩ (fun hb => ?_) (fun hb => ?_)
    · replace h := ite_yes hb h
      refine W_skip ?_
      refine W_seq ?_
      refine W_block ?_
      refine W_seq ?_
      refine W_drawn rfl ?_
      refine dq (R' := [0]) (ps := [(26, .val false [.t (.ptr (cBitmap false a0))])]) rfl rfl rfl ?_
      refine dq (R' := [26]) (ps := [(27, .val false [.t (.ptr (cBitmap false a0))])]) rfl rfl rfl ?_
      refine dq (R' := [27]) (ps := [(28, .val false [.t (.ptr [.sc (.int .i64 a0.Bottom), .sc (.int .i64 a0.Width), .sl false 1 (a0.Rows.map (cS false))])])]) rfl rfl rfl ?_
      refine dq (R' := [28]) (ps := [(29, pI .i64 a0.Bottom)]) rfl rfl rfl ?_
      refine dq (R' := [0]) (ps := [(30, .val false [.t (.ptr (cBitmap false a0))])]) rfl rfl rfl ?_
      refine dq (R' := [30]) (ps := [(31, .val false [.t (.ptr (cBitmap false a0))])]) rfl rfl rfl ?_
      refine dq (R' := [31]) (ps := [(32, .val false [.t (.ptr [.sl false 1 (a0.Rows.map (cS false))])])]) rfl rfl rfl ?_
      refine dq (R' := [32]) (ps := [(33, .val false [.t (.sl false 1 (a0.Rows.map (cS false)))])]) rfl rfl rfl ?_
      refine dLen (t := 22) (n := (a0.Rows.length : Int)) rfl (ltF rfl) rfl rfl (lenE rfl (List.length_map ..)) rfl ?_
      refine dq (R' := [34]) (ps := [(35, pI .i64 (w64 ((a0.Rows.length : Int) - 1)))]) rfl rfl rfl ?_
      refine dq (R' := [6]) (ps := [(36, pI .i64 v6)]) rfl rfl rfl ?_
      refine dq (R' := [35, 36]) (ps := [(37, pI .i64 (w64 ((w64 ((a0.Rows.length : Int) - 1)) - v6)))]) rfl rfl rfl ?_
      refine dq (R' := [29, 37]) (ps := [(38, pI .i64 (w64 (a0.Bottom + (w64 ((w64 ((a0.Rows.length : Int) - 1)) - v6)))))]) rfl rfl rfl ?_
      refine dq (R' := [38]) (ps := [(8, pI .i64 (w64 (a0.Bottom + (w64 ((w64 ((a0.Rows.length : Int) - 1)) - v6)))))]) rfl rfl rfl ?_
      refine DL_nil ⟨[([0], [26]), ([26], [27]), ([27], [28]), ([28], [29]), ([0], [30]), ([30], [31]), ([31], [32]), ([32], [33]), ([33], [34]), ([34], [35]), ([6], [36]), ([35, 36], [37]), ([29, 37], [38]), ([38], [8])], rfl, by decide +kernel, ?_⟩
      refine W_fn (l := [(0, .val false [.t (.ptr (cBitmap false a0))]), (1, .val false [.t (.ptr (cBitmap false a1))]), (5, pI .i64 v5_1), (6, pI .i64 v6), (7, pI .i64 v7), (8, pI .i64 (w64 (a0.Bottom + (w64 ((w64 ((a0.Rows.length : Int) - 1)) - v6)))))]) (nC rfl (nC rfl (nC rfl (nC rfl (nC rfl (nC rfl nN)))))) rfl ?_
      refine W_seq ?_
      refine W_text ?_
      refine dq (ps := [(39, .val false [.t (.ptr (cBitmap false a0))])]) rfl rfl rfl ?_
      refine dq (ps := [(40, .val false [.t (.ptr (cBitmap false a0))])]) rfl rfl rfl ?_
      refine dq (ps := [(41, .val false [.t (.ptr [.sl false 1 (a0.Rows.map (cS false))])])]) rfl rfl rfl ?_
      refine dq (ps := [(42, .val false [.t (.sl false 1 (a0.Rows.map (cS false)))])]) rfl rfl rfl ?_
      refine dq (ps := [(43, pI .i64 v6)]) rfl rfl rfl ?_
      obtain ⟨x, hx, h⟩ := bind_some h
      refine dIxA rfl rfl rfl rfl rfl (getI_map (cS false) hx) rfl ?_
      refine dq (ps := [(45, pS x)]) rfl rfl rfl ?_
      refine dq (ps := [(46, pI .i64 v7)]) rfl rfl rfl ?_
      obtain ⟨hp, h⟩ := ite_some h
      refine dIdx rfl rfl rfl rfl rfl hp rfl ?_
      refine dq (ps := [(48, pB ((byteAt x v7) == 35))]) rfl rfl rfl ?_
      refine dq (ps := [(49, pB ((byteAt x v7) == 35))]) rfl rfl rfl ?_
      refine dS 49 rfl (fun hb => ?_) (fun hb => ?_)
      · replace h := ite_yes hb h
        refine dq (ps := [(50, .val false [.t (.ptr (cBitmap false a1))])]) rfl rfl rfl ?_
        refine dq (ps := [(51, .val false [.t (.ptr (cBitmap false a0))])]) rfl rfl rfl ?_
        refine dq (ps := [(52, .val false [.t (.ptr (cBitmap false a0))])]) rfl rfl rfl ?_
        refine dq (ps := [(53, .val false [.t (.ptr (cBitmap false a0))])]) rfl rfl rfl ?_
        refine dq (ps := [(54, pI .i64 a0.Left)]) rfl rfl rfl ?_
        refine dq (ps := [(55, pI .i64 v7)]) rfl rfl rfl ?_
        refine dq (ps := [(56, pI .i64 (w64 (a0.Left + v7)))]) rfl rfl rfl ?_
        refine dq (ps := [(57, pI .i64 (w64 (a0.Bottom + (w64 ((w64 ((a0.Rows.length : Int) - 1)) - v6)))))]) rfl rfl rfl ?_
        obtain ⟨r, hr, h⟩ := bind_some h
        refine dCall (gn := 44) (fn := Tryd.f44) (cp := []) (lt := []) [50, 56, 57] (vc_sl22At n a1 (w64 (a0.Left + v7)) (w64 (a0.Bottom + (w64 ((w64 ((a0.Rows.length : Int) - 1)) - v6)))) _ hr) Tryd.func44 rfl rfl rfl rfl (.inl rfl) (.inl rfl) (fun st2 h2 => ⟨rfl, args_of0 (.cons (aF (ltF rfl) ((congrArg Slot.sv (h2 50 (by decide))).trans rfl) rfl) (.cons (aF (ltF rfl) ((congrArg Slot.sv (h2 56 (by decide))).trans rfl) rfl) (.cons (aF (ltF rfl) ((congrArg Slot.sv (h2 57 (by decide))).trans rfl) rfl) .nil)))⟩) rfl ?_
        refine dq (ps := [(59, pB (!r))]) rfl rfl rfl ?_
        refine dq (ps := [(60, pB (!r))]) rfl rfl rfl ?_
        refine DL_nil ?_
        refine W_fn (l := [(0, .val false [.t (.ptr (cBitmap false a0))]), (1, .val false [.t (.ptr (cBitmap false a1))]), (5, pI .i64 v5_1), (6, pI .i64 v6), (7, pI .i64 v7), (50, .val false [.t (.ptr (cBitmap false a1))]), (51, .val false [.t (.ptr (cBitmap false a0))]), (52, .val false [.t (.ptr (cBitmap false a0))]), (53, .val false [.t (.ptr (cBitmap false a0))]), (54, pI .i64 a0.Left), (55, pI .i64 v7), (56, pI .i64 (w64 (a0.Left + v7))), (57, pI .i64 (w64 (a0.Bottom + (w64 ((w64 ((a0.Rows.length : Int) - 1)) - v6))))), (58, pB r), (59, pB (!r)), (60, pB (!r))]) (nC rfl (nC rfl (nC rfl (nC rfl (nC rfl (nC rfl (nC rfl (nC rfl (nC rfl (nC rfl (nC rfl (nC rfl (nC rfl (nC rfl (nC rfl (nC rfl nN)))))))))))))))) rfl ?_
        refine W_split ⟨ltF rfl, rfl⟩ (fun hb => ?_) (fun hb => ?_)
        · replace h := ite_yes hb h
          refine W_text ?_
          refine dq (ps := [(61, pI .i64 v5_1)]) rfl rfl rfl ?_
          refine dq (ps := [(62, pI .i64 (w64 (v5_1 + 1)))]) rfl rfl rfl ?_
          refine dq (ps := [(5, pI .i64 (w64 (v5_1 + 1)))]) rfl rfl rfl ?_
          refine DL_nil ?_
          refine W_text ?_
          refine dq (ps := [(24, pI .i64 v7)]) rfl rfl rfl ?_
          refine dq (ps := [(25, pI .i64 (w64 (v7 + 1)))]) rfl rfl rfl ?_
          refine dq (ps := [(7, pI .i64 (w64 (v7 + 1)))]) rfl rfl rfl ?_
          refine DL_nil ?_
          exact ⟨n, Nat.lt_succ_self n, _, _,  h, (nC rfl (nC rfl (nC rfl (nC rfl (nC rfl nN)))))⟩
        · replace h := ite_no hb h
          refine W_skip ?_
          refine W_text ?_
          refine dq (ps := [(24, pI .i64 v7)]) rfl rfl rfl ?_
          refine dq (ps := [(25, pI .i64 (w64 (v7 + 1)))]) rfl rfl rfl ?_
          refine dq (ps := [(7, pI .i64 (w64 (v7 + 1)))]) rfl rfl rfl ?_
          refine DL_nil ?_
          exact ⟨n, Nat.lt_succ_self n, _, _,  h, (nC rfl (nC rfl (nC rfl (nC rfl (nC rfl nN)))))⟩
      · replace h := ite_no hb h
        refine dU rfl rfl rfl rfl ?_
        refine dU rfl rfl rfl rfl ?_
        refine dU rfl rfl rfl rfl ?_
        refine dU rfl rfl rfl rfl ?_
        refine dU rfl rfl rfl rfl ?_
        refine dU rfl rfl rfl rfl ?_
        refine dU rfl rfl rfl rfl ?_
        refine dU rfl rfl rfl rfl ?_
        refine dU rfl rfl rfl rfl ?_
        refine dU rfl rfl rfl rfl ?_
        refine dq (ps := [(60, pB false)]) rfl rfl rfl ?_
        refine DL_nil ?_
        refine W_fn (l := [(0, .val false [.t (.ptr (cBitmap false a0))]), (1, .val false [.t (.ptr (cBitmap false a1))]), (5, pI .i64 v5_1), (6, pI .i64 v6), (7, pI .i64 v7), (50, .tup []), (51, .tup []), (52, .tup []), (53, .tup []), (54, .tup []), (55, .tup []), (56, .tup []), (57, .tup []), (58, .tup []), (59, .tup []), (60, pB false)]) (nC rfl (nC rfl (nC rfl (nC rfl (nC rfl (nC rfl (nC rfl (nC rfl (nC rfl (nC rfl (nC rfl (nC rfl (nC rfl (nC rfl (nC rfl (nC rfl nN)))))))))))))))) rfl ?_
        refine W_no ⟨ltF rfl, rfl⟩ ?_
        refine W_skip ?_
        refine W_text ?_
        refine dq (ps := [(24, pI .i64 v7)]) rfl rfl rfl ?_
        refine dq (ps := [(25, pI .i64 (w64 (v7 + 1)))]) rfl rfl rfl ?_
        refine dq (ps := [(7, pI .i64 (w64 (v7 + 1)))]) rfl rfl rfl ?_
        refine DL_nil ?_
        exact ⟨n, Nat.lt_succ_self n, _, _,  h, (nC rfl (nC rfl (nC rfl (nC rfl (nC rfl nN)))))⟩
    · replace h := ite_no hb h
      refine W_exit ?_
      cases h
      exact hQ _ (nC rfl (nC rfl (nC rfl (nC rfl nN))))

def sl22Only_L0 : Nat → SBitmap → SBitmap → Int → Int → Option (Out (Int) (Int))
  | 0, _, _, _, _ => none
  | n + 1, a0, a1, v5, v6 => (if (decide (v6 < (a0.Rows.length : Int))) = true then ((sl22Only_L1 n a0 v6 a1 v5 0).bind fun o => (match o with | .go q5_1 => sl22Only_L0 n a0 a1 q5_1 (w64 (v6 + 1)) | .brk _ _ => none | .ret r => some (.ret r))) else some (.go v5))

theorem sl22Only_L0_ok {G0 : Nat → Own} {w0 : World} {Q : Exit → St → Prop} {a0 : SBitmap} {a1 : SBitmap} {out : (Out (Int) (Int))}
    (hQ : match out with | .go q5 => ∀ st, FN st [(5, pI .i64 q5)] → Q (.exit 0) st | .brk _ _ => True | .ret r => ∀ st, Fits st [(4, .val false (((cI .i64) true r).map .t))] → Q .ret st)
    {n : Nat} {v5 : Int} {v6 : Int} (h : sl22Only_L0 n a0 a1 v5 v6 = some out) :
    ∀ st, FN st [(0, .val false [.t (.ptr (cBitmap false a0))]), (1, .val false [.t (.ptr (cBitmap false a1))]), (5, pI .i64 v5), (6, pI .i64 v6)] → W ⟨Tryd.prog, 64, [], G0, w0⟩ (.loop (bodyAt Tryd.f27 [1, 1, 0, 1, 0, 0])) st Q := by
  intro st hst
  refine W_loop (fun n st => ∃ v5 v6, sl22Only_L0 n a0 a1 v5 v6 = some out ∧ FN st [(0, .val false [.t (.ptr (cBitmap false a0))]), (1, .val false [.t (.ptr (cBitmap false a1))]), (5, pI .i64 v5), (6, pI .i64 v6)]) ?_ (n := n) ⟨v5, v6, h, hst⟩
  clear h hst st n v5 v6
  rintro n st ⟨v5, v6, h, hst⟩
  refine W_fn hst rfl ?_
  cases n with
  | zero => cases h
  | succ n =>
    rw [sl22Only_L0] at h
    refine W_seq ?_
    refine W_seq ?_
    refine W_text ?_
    refine dq (ps := [(9, pI .i64 v6)]) rfl rfl rfl ?_
    refine dq (ps := [(10, .val false [.t (.ptr (cBitmap false a0))])]) rfl rfl rfl ?_
    refine dq (ps := [(11, .val false [.t (.ptr (cBitmap false a0))])]) rfl rfl rfl ?_
    refine dq (ps := [(12, .val false [.t (.ptr [.sl false 1 (a0.Rows.map (cS false))])])]) rfl rfl rfl ?_
    refine dq (ps := [(13, .val false [.t (.sl false 1 (a0.Rows.map (cS false)))])]) rfl rfl rfl ?_
    refine dLen (t := 22) (n := (a0.Rows.length : Int)) rfl (ltF rfl) rfl rfl (lenE rfl (List.length_map ..)) rfl ?_
    refine dq (ps := [(15, pB (decide (v6 < (a0.Rows.length : Int))))]) rfl rfl rfl ?_
    refine DL_nil ?_
    refine W_fn (l := [(0, .val false [.t (.ptr (cBitmap false a0))]), (1, .val false [.t (.ptr (cBitmap false a1))]), (5, pI .i64 v5), (6, pI .i64 v6), (15, pB (decide (v6 < (a0.Rows.length : Int))))]) (nC rfl (nC rfl (nC rfl (nC rfl (nC rfl nN))))) rfl ?_
    refine W_split ⟨ltF rfl, rfl⟩ (fun hb => ?_) (fun hb => ?_)
    · replace h := ite_yes hb h
      refine W_skip ?_
      refine W_seq ?_
      refine W_block ?_
      refine W_seq ?_
      refine W_text ?_
      refine dq (ps := [(7, pI .i64 0)]) rfl rfl rfl ?_
      refine DL_nil ?_
      refine W_block ?_
      obtain ⟨o, ho, h⟩ := bind_some h
      refine sl22Only_L1_ok ?_ ho _ (nC rfl (nC rfl (nC rfl (nC rfl (nC rfl nN)))))
      rcases o with q5_1 | ⟨j, p⟩ | r
      · skip
        dsimp only at h ⊢
        intro st hst
        refine W_fn hst rfl ?_
        refine W_text ?_
        refine dq (ps := [(16, pI .i64 v6)]) rfl rfl rfl ?_
        refine dq (ps := [(17, pI .i64 (w64 (v6 + 1)))]) rfl rfl rfl ?_
        refine dq (ps := [(6, pI .i64 (w64 (v6 + 1)))]) rfl rfl rfl ?_
        refine DL_nil ?_
        exact ⟨n, Nat.lt_succ_self n, _, _,  h, (nC rfl (nC rfl (nC rfl (nC rfl nN))))⟩
      · exact trivial
      · dsimp only at h ⊢
        intro st hst
        cases h
        exact hQ _ hst
    · replace h := ite_no hb h
      refine W_exit ?_
      cases h
      exact hQ _ (nC rfl nN)

def sl22Only (n : Nat) (a0 : SBitmap) (a1 : SBitmap) : Option (Int) :=
  ((sl22Only_L0 n a0 a1 0 0).bind fun o_1 => (match o_1 with | .go q5_2 => some q5_2 | .brk _ _ => none | .ret r => some r))

theorem vc_sl22Only (n : Nat) (a0 : SBitmap) (a1 : SBitmap) (r : Int) (h : sl22Only n a0 a1 = some r) : VC Tryd.prog 27 [.sh false [.ptr (cBitmap false a0)], .sh false [.ptr (cBitmap false a1)]] [(false, (cI .i64) true r)] [] := by
  refine VC_of 64 Tryd.func27 rfl rfl rfl fun G0 w0 pv => ?_
  unfold sl22Only at h
  refine W_seq ?_
  refine W_text ?_
  refine dq (ps := [(4, pI .i64 0)]) rfl rfl rfl ?_
  refine DL_nil ?_
  refine W_seq ?_
  refine W_text ?_
  refine dq (ps := [(5, pI .i64 0)]) rfl rfl rfl ?_
  refine DL_nil ?_
  refine W_seq ?_
  refine W_seq ?_
  refine W_text ?_
  refine dq (ps := [(6, pI .i64 0)]) rfl rfl rfl ?_
  refine DL_nil ?_
  refine W_block ?_
  obtain ⟨o_1, ho_1, h⟩ := bind_some h
  refine sl22Only_L0_ok ?_ ho_1 _ (nC rfl (nC rfl (nC rfl (nC rfl nN))))
  rcases o_1 with q5_2 | ⟨j, p⟩ | r
  · skip
    dsimp only at h ⊢
    intro st hst
    refine W_fn hst rfl ?_
    refine W_seq ?_
    refine W_text ?_
    refine dq (ps := [(63, pI .i64 q5_2)]) rfl rfl rfl ?_
    refine dq (ps := [(4, pI .i64 q5_2)]) rfl rfl rfl ?_
    refine DL_nil ?_
    refine W_ret ?_
    cases h
    exact ⟨.inr rfl, leaves_of [.tmp 4] rfl (by decide) (.tmp (ltF rfl) rfl .nil)⟩
  · exact trivial
  · dsimp only at h ⊢
    intro st hst
    cases h
    exact ⟨.inr rfl, leaves_of [.tmp 4] rfl (by decide) (.tmp (ltF rfl) (hst.at (s := 4) rfl rfl) .nil)⟩

-- sCommonInk: loop.example/g00883/spec.CommonInk
def sCommonInk (n : Nat) (a0 : SBitmap) (a1 : SBitmap) : Option (Int × Int) :=
  ((sl34Two n a0 a1).bind fun r => (if (r != 0) = true then some (0, r) else ((sl22Ink n a0).bind fun r_1 => ((sl22Only n a0 a1).bind fun r_2 => some (w64 (r_1 - r_2), 0)))))

theorem vc_sCommonInk (n : Nat) (a0 : SBitmap) (a1 : SBitmap) (r : Int × Int) (h : sCommonInk n a0 a1 = some r) : VC Tryd.prog 13 [.sh true (cBitmap false a0), .sh true (cBitmap false a1)] [(false, (cI .i64) true r.1), (false, (cI .i64) true r.2)] [] := by
  refine VC_of 14 Tryd.func13 rfl rfl rfl fun G0 w0 pv => ?_
  unfold sCommonInk at h
  refine W_seq ?_
  refine W_text ?_
  refine dBox (ts := (cBitmap false a0)) rfl rfl rfl rfl rfl ?_
  refine dBox (ts := (cBitmap false a1)) rfl rfl rfl rfl rfl ?_
  refine dq (ps := [(4, pI .i64 0)]) rfl rfl rfl ?_
  refine dq (ps := [(5, pI .i64 0)]) rfl rfl rfl ?_
  refine DL_nil ?_
  refine W_seq ?_
  refine W_text ?_
  obtain ⟨r, hr, h⟩ := bind_some h
  refine dCall (gn := 25) (fn := Tryd.f25) (cp := []) (lt := [(2, []), (3, [])]) [2, 3] (vc_sl34Two n a0 a1 _ hr) Tryd.func25 rfl rfl rfl rfl (.inr ⟨(rC (eC rfl eN) rN), rfl⟩) (.inl rfl) (fun st2 h2 => ⟨rfl, args_of0 (.cons (aB (n := 4) (ltF rfl) ((congrArg Slot.sv (h2 2 (by decide))).trans rfl) rfl (wC rfl (wC rfl (wC rfl (wC (wS (wholes_map (fun _ => (wC rfl wN)) _)) wN)))) (sC rfl (sC rfl (sC rfl (sC (sS (shrs_map (fun _ => (sC rfl sN)) _)) sN)))) (by decide)) (.cons (aB (n := 4) (ltF rfl) ((congrArg Slot.sv (h2 3 (by decide))).trans rfl) rfl (wC rfl (wC rfl (wC rfl (wC (wS (wholes_map (fun _ => (wC rfl wN)) _)) wN)))) (sC rfl (sC rfl (sC rfl (sC (sS (shrs_map (fun _ => (sC rfl sN)) _)) sN)))) (by decide)) .nil))⟩) rfl ?_
  refine dq (ps := [(6, pI .i64 r)]) rfl rfl rfl ?_
  refine DL_nil ?_
  refine W_seq ?_
  refine W_seq ?_
  refine W_text ?_
  refine dq (ps := [(8, pI .i64 r)]) rfl rfl rfl ?_
  refine dq (ps := [(9, pB (r != 0))]) rfl rfl rfl ?_
  refine DL_nil ?_
  refine W_split ⟨ltF rfl, rfl⟩ (fun hb => ?_) (fun hb => ?_)
  · replace h := ite_yes hb h
    refine W_seq ?_
    refine W_text ?_
    refine dq (ps := [(10, pI .i64 r)]) rfl rfl rfl ?_
    refine dq (ps := [(4, pI .i64 0)]) rfl rfl rfl ?_
    refine dq (ps := [(5, pI .i64 r)]) rfl rfl rfl ?_
    refine DL_nil ?_
    refine W_ret ?_
    cases h
    exact ⟨.inr rfl, leaves_of [.tmp 4, .tmp 5] rfl (by decide) (.tmp (ltF rfl) rfl (.tmp (ltF rfl) rfl .nil))⟩
  · replace h := ite_no hb h
    refine W_skip ?_
    refine W_seq ?_
    refine W_text ?_
    obtain ⟨r_1, hr_1, h⟩ := bind_some h
    refine dCall (gn := 26) (fn := Tryd.f26) (cp := []) (lt := [(2, [])]) [2] (vc_sl22Ink n a0 _ hr_1) Tryd.func26 rfl rfl rfl rfl (.inr ⟨(rC (eC rfl eN) rN), rfl⟩) (.inl rfl) (fun st2 h2 => ⟨rfl, args_of0 (.cons (aB (n := 4) (ltF rfl) ((congrArg Slot.sv (h2 2 (by decide))).trans rfl) rfl (wC rfl (wC rfl (wC rfl (wC (wS (wholes_map (fun _ => (wC rfl wN)) _)) wN)))) (sC rfl (sC rfl (sC rfl (sC (sS (shrs_map (fun _ => (sC rfl sN)) _)) sN)))) (by decide)) .nil)⟩) rfl ?_
    obtain ⟨r_2, hr_2, h⟩ := bind_some h
    refine dCall (gn := 27) (fn := Tryd.f27) (cp := []) (lt := [(2, []), (3, [])]) [2, 3] (vc_sl22Only n a0 a1 _ hr_2) Tryd.func27 rfl rfl rfl rfl (.inr ⟨(rC (eC rfl eN) rN), rfl⟩) (.inl rfl) (fun st2 h2 => ⟨rfl, args_of0 (.cons (aB (n := 4) (ltF rfl) ((congrArg Slot.sv (h2 2 (by decide))).trans rfl) rfl (wC rfl (wC rfl (wC rfl (wC (wS (wholes_map (fun _ => (wC rfl wN)) _)) wN)))) (sC rfl (sC rfl (sC rfl (sC (sS (shrs_map (fun _ => (sC rfl sN)) _)) sN)))) (by decide)) (.cons (aB (n := 4) (ltF rfl) ((congrArg Slot.sv (h2 3 (by decide))).trans rfl) rfl (wC rfl (wC rfl (wC rfl (wC (wS (wholes_map (fun _ => (wC rfl wN)) _)) wN)))) (sC rfl (sC rfl (sC rfl (sC (sS (shrs_map (fun _ => (sC rfl sN)) _)) sN)))) (by decide)) .nil))⟩) rfl ?_
    refine dq (ps := [(13, pI .i64 (w64 (r_1 - r_2)))]) rfl rfl rfl ?_
    refine dq (ps := [(4, pI .i64 (w64 (r_1 - r_2)))]) rfl rfl rfl ?_
    refine dq (ps := [(5, pI .i64 0)]) rfl rfl rfl ?_
    refine DL_nil ?_
    refine W_ret ?_
    cases h
    exact ⟨.inr rfl, leaves_of [.tmp 4, .tmp 5] rfl (by decide) (.tmp (ltF rfl) rfl (.tmp (ltF rfl) rfl .nil))⟩

structure SPixelArea where
  left : Int
  bottom : Int
  width : Int
  height : Int

def cPixelArea (m : Bool) (x : SPixelArea) : List T := [.sc (.int .i64 x.left), .sc (.int .i64 x.bottom), .sc (.int .i64 x.width), .sc (.int .i64 x.height)]

-- ibitmapFrame: loop.example/g00883/impl.bitmapFrame
def ibitmapFrame (n : Nat) (a0 : SBitmap) : Option (SPixelArea) :=
  some (SPixelArea.mk a0.Left a0.Bottom a0.Width (a0.Rows.length : Int))

theorem vc_ibitmapFrame (n : Nat) (a0 : SBitmap) (r : SPixelArea) (h : ibitmapFrame n a0 = some r) : VC Tryd.prog 45 [.sh true (cBitmap false a0)] [(true, cPixelArea true r)] [] := by
  refine VC_of 13 Tryd.func45 rfl rfl rfl fun G0 w0 pv => ?_
  unfold ibitmapFrame at h
  refine W_seq ?_
  refine W_text ?_
  refine dBox (ts := (cBitmap false a0)) rfl rfl rfl rfl rfl ?_
  refine dAlloc (zs := [.sc (.int .i64 0), .sc (.int .i64 0), .sc (.int .i64 0), .sc (.int .i64 0)]) rfl rfl (zeros_of _ rfl ⟨z1 rfl, z1 rfl, z1 rfl, z1 rfl, trivial⟩) rfl ?_
  refine DL_nil ?_
  refine W_seq ?_
  refine W_text ?_
  refine dFaB rfl rfl (ltF rfl) rfl rfl rfl rfl rfl rfl ?_
  refine dq (ps := [(4, pI .i64 a0.Left)]) rfl rfl rfl ?_
  refine dFaB rfl rfl (ltF rfl) rfl rfl rfl rfl rfl rfl ?_
  refine dq (ps := [(6, pI .i64 a0.Bottom)]) rfl rfl rfl ?_
  refine dFaB rfl rfl (ltF rfl) rfl rfl rfl rfl rfl rfl ?_
  refine dq (ps := [(8, pI .i64 a0.Width)]) rfl rfl rfl ?_
  refine dFaB rfl rfl (ltF rfl) rfl rfl rfl rfl rfl rfl ?_
  refine dq (ps := [(10, .val false [.t (.sl false 1 (a0.Rows.map (cS false)))])]) rfl rfl rfl ?_
  refine dLen (t := 22) (n := (a0.Rows.length : Int)) rfl (ltF rfl) rfl rfl (lenE rfl (List.length_map ..)) rfl ?_
  refine dBuild (pls := [(0, 1), (1, 1), (2, 1), (3, 1)]) (zs := [.sc (.int .i64 0), .sc (.int .i64 0), .sc (.int .i64 0), .sc (.int .i64 0)]) (ts := [.sc (.int .i64 a0.Left), .sc (.int .i64 a0.Bottom), .sc (.int .i64 a0.Width), .sc (.int .i64 (a0.Rows.length : Int))]) (qs := [(0, [.sc (.int .i64 a0.Left)]), (1, [.sc (.int .i64 a0.Bottom)]), (2, [.sc (.int .i64 a0.Width)]), (3, [.sc (.int .i64 (a0.Rows.length : Int))])]) [] [4, 6, 8, 11] rfl rfl rfl (zeros_of _ rfl ⟨z1 rfl, z1 rfl, z1 rfl, z1 rfl, trivial⟩) (by decide) rfl (fun st2 h2 => (.cons rfl (.free (⟨ltF rfl, (congrArg Slot.sv (h2 4 (by decide))).trans rfl⟩) rfl) rfl (.cons rfl (.free (⟨ltF rfl, (congrArg Slot.sv (h2 6 (by decide))).trans rfl⟩) rfl) rfl (.cons rfl (.free (⟨ltF rfl, (congrArg Slot.sv (h2 8 (by decide))).trans rfl⟩) rfl) rfl (.cons rfl (.free (⟨ltF rfl, (congrArg Slot.sv (h2 11 (by decide))).trans rfl⟩) rfl) rfl .nil))))) rfl ?_
  refine dStB (ag := true) (ts := [.sc (.int .i64 a0.Left), .sc (.int .i64 a0.Bottom), .sc (.int .i64 a0.Width), .sc (.int .i64 (a0.Rows.length : Int))]) (cs' := [.sc (.int .i64 a0.Left), .sc (.int .i64 a0.Bottom), .sc (.int .i64 a0.Width), .sc (.int .i64 (a0.Rows.length : Int))]) [] [2, 12] rfl (ltF rfl) (by decide) rfl rfl rfl (by decide) rfl rfl (fun st2 h2 => .free (⟨ltF rfl, (congrArg Slot.sv (h2 12 (by decide))).trans rfl⟩) rfl) rfl ?_
  refine DL_nil ?_
  refine W_fn (l := [(2, .box [.sc (.int .i64 a0.Left), .sc (.int .i64 a0.Bottom), .sc (.int .i64 a0.Width), .sc (.int .i64 (a0.Rows.length : Int))])]) (nC rfl nN) rfl ?_
  refine W_ret ?_
  cases h
  exact ⟨.inr rfl, leaves_of [.cell 2 53] rfl (by decide) (.cell (ltF rfl) rfl rfl rfl rfl .nil)⟩

-- ipixelAt: loop.example/g00883/impl.pixelAt
def ipixelAt (n : Nat) (a0 : SBitmap) (a1 : Int) (a2 : Int) : Option (Bool) :=
  (if (decide ((w64 (a1 - a0.Left)) ≥ 0)) = true then (if (decide ((w64 (a1 - a0.Left)) < a0.Width)) = true then (if (decide ((w64 (a2 - a0.Bottom)) ≥ 0)) = true then (if (decide ((w64 (a2 - a0.Bottom)) < (a0.Rows.length : Int))) = true then ((getI a0.Rows (w64 ((w64 ((a0.Rows.length : Int) - 1)) - (w64 (a2 - a0.Bottom))))).bind fun x => (if (0 : Int) ≤ w64 (a1 - a0.Left) ∧ w64 (a1 - a0.Left) < (x.size : Int) then some ((byteAt x (w64 (a1 - a0.Left))) == 35) else none)) else some false) else some false) else some false) else some false)

theorem vc_ipixelAt (n : Nat) (a0 : SBitmap) (a1 : Int) (a2 : Int) (r : Bool) (h : ipixelAt n a0 a1 a2 = some r) : VC Tryd.prog 35 [.sh true (cBitmap false a0), .sh false ((cI .i64) false a1), .sh false ((cI .i64) false a2)] [(false, cB true r)] [] := by
  refine VC_of 49 Tryd.func35 rfl rfl rfl fun G0 w0 pv => ?_
  unfold ipixelAt at h
  refine W_seq ?_
  refine W_text ?_
  refine dBox (ts := (cBitmap false a0)) rfl rfl rfl rfl rfl ?_
  refine dq (ps := [(6, pB false)]) rfl rfl rfl ?_
  refine DL_nil ?_
  refine W_seq ?_
  refine W_drawn rfl ?_
  refine dq (R' := [1]) (ps := [(8, pI .i64 a1)]) rfl rfl rfl ?_
  refine dFaB (R' := [3]) rfl rfl (ltF rfl) rfl rfl rfl rfl rfl rfl ?_
  refine dq (R' := [9, 3]) (ps := [(10, pI .i64 a0.Left)]) rfl rfl rfl ?_
  refine dq (R' := [8, 10]) (ps := [(11, pI .i64 (w64 (a1 - a0.Left)))]) rfl rfl rfl ?_
  refine dq (R' := [2]) (ps := [(12, pI .i64 a2)]) rfl rfl rfl ?_
  refine dFaB (R' := [3]) rfl rfl (ltF rfl) rfl rfl rfl rfl rfl rfl ?_
  refine dq (R' := [13, 3]) (ps := [(14, pI .i64 a0.Bottom)]) rfl rfl rfl ?_
  refine dq (R' := [12, 14]) (ps := [(15, pI .i64 (w64 (a2 - a0.Bottom)))]) rfl rfl rfl ?_
  refine dq (R' := [11]) (ps := [(1, pI .i64 (w64 (a1 - a0.Left)))]) rfl rfl rfl ?_
  refine dq (R' := [15]) (ps := [(2, pI .i64 (w64 (a2 - a0.Bottom)))]) rfl rfl rfl ?_
  refine DL_nil ⟨[([1], [8]), ([3], [9]), ([9, 3], [10]), ([8, 10], [11]), ([2], [12]), ([3], [13]), ([13, 3], [14]), ([12, 14], [15]), ([11], [1]), ([15], [2])], rfl, by decide +kernel, ?_⟩
  refine W_fn (l := [(1, pI .i64 (w64 (a1 - a0.Left))), (2, pI .i64 (w64 (a2 - a0.Bottom))), (3, .box (cBitmap false a0))]) (nC rfl (nC rfl (nC rfl nN))) rfl ?_
  refine W_seq ?_
  refine W_text ?_
  refine dFaB rfl rfl (ltF rfl) rfl rfl rfl rfl rfl rfl ?_
  refine dq (ps := [(17, .val false [.t (.sl false 1 (a0.Rows.map (cS false)))])]) rfl rfl rfl ?_
  refine dLen (t := 22) (n := (a0.Rows.length : Int)) rfl (ltF rfl) rfl rfl (lenE rfl (List.length_map ..)) rfl ?_
  refine dq (ps := [(7, pI .i64 (a0.Rows.length : Int))]) rfl rfl rfl ?_
  refine DL_nil ?_
  refine W_seq ?_
  refine W_text ?_
  refine dq (ps := [(19, pI .i64 (w64 (a1 - a0.Left)))]) rfl rfl rfl ?_
  refine dq (ps := [(20, pB (decide ((w64 (a1 - a0.Left)) ≥ 0)))]) rfl rfl rfl ?_
  refine dq (ps := [(21, pB (decide ((w64 (a1 - a0.Left)) ≥ 0)))]) rfl rfl rfl ?_
  refine dS 21 rfl (fun hb => ?_) (fun hb => ?_)
  · replace h := ite_yes hb h
    refine dq (ps := [(22, pI .i64 (w64 (a1 - a0.Left)))]) rfl rfl rfl ?_
    refine dFaB rfl rfl (ltF rfl) rfl rfl rfl rfl rfl rfl ?_
    refine dq (ps := [(24, pI .i64 a0.Width)]) rfl rfl rfl ?_
    refine dq (ps := [(25, pB (decide ((w64 (a1 - a0.Left)) < a0.Width)))]) rfl rfl rfl ?_
    refine dq (ps := [(26, pB (decide ((w64 (a1 - a0.Left)) < a0.Width)))]) rfl rfl rfl ?_
    refine dq (ps := [(27, pB (decide ((w64 (a1 - a0.Left)) < a0.Width)))]) rfl rfl rfl ?_
    refine dS 27 rfl (fun hb => ?_) (fun hb => ?_)
    · replace h := ite_yes hb h
      refine dq (ps := [(28, pI .i64 (w64 (a2 - a0.Bottom)))]) rfl rfl rfl ?_
      refine dq (ps := [(29, pB (decide ((w64 (a2 - a0.Bottom)) ≥ 0)))]) rfl rfl rfl ?_
      refine dq (ps := [(30, pB (decide ((w64 (a2 - a0.Bottom)) ≥ 0)))]) rfl rfl rfl ?_
      refine dq (ps := [(31, pB (decide ((w64 (a2 - a0.Bottom)) ≥ 0)))]) rfl rfl rfl ?_
      refine dS 31 rfl (fun hb => ?_) (fun hb => ?_)
      · replace h := ite_yes hb h
        refine dq (ps := [(32, pI .i64 (w64 (a2 - a0.Bottom)))]) rfl rfl rfl ?_
        refine dq (ps := [(33, pI .i64 (a0.Rows.length : Int))]) rfl rfl rfl ?_
        refine dq (ps := [(34, pB (decide ((w64 (a2 - a0.Bottom)) < (a0.Rows.length : Int))))]) rfl rfl rfl ?_
        refine dq (ps := [(35, pB (decide ((w64 (a2 - a0.Bottom)) < (a0.Rows.length : Int))))]) rfl rfl rfl ?_
        refine dq (ps := [(36, pB (decide ((w64 (a2 - a0.Bottom)) < (a0.Rows.length : Int))))]) rfl rfl rfl ?_
        refine dS 36 rfl (fun hb => ?_) (fun hb => ?_)
        · replace h := ite_yes hb h
          refine dFaB rfl rfl (ltF rfl) rfl rfl rfl rfl rfl rfl ?_
          refine dq (ps := [(38, .val false [.t (.sl false 1 (a0.Rows.map (cS false)))])]) rfl rfl rfl ?_
          refine dq (ps := [(39, pI .i64 (a0.Rows.length : Int))]) rfl rfl rfl ?_
          refine dq (ps := [(40, pI .i64 (w64 ((a0.Rows.length : Int) - 1)))]) rfl rfl rfl ?_
          refine dq (ps := [(41, pI .i64 (w64 (a2 - a0.Bottom)))]) rfl rfl rfl ?_
          refine dq (ps := [(42, pI .i64 (w64 ((w64 ((a0.Rows.length : Int) - 1)) - (w64 (a2 - a0.Bottom)))))]) rfl rfl rfl ?_
          obtain ⟨x, hx, h⟩ := bind_some h
          refine dIxA rfl rfl rfl rfl rfl (getI_map (cS false) hx) rfl ?_
          refine dq (ps := [(44, pS x)]) rfl rfl rfl ?_
          refine dq (ps := [(45, pI .i64 (w64 (a1 - a0.Left)))]) rfl rfl rfl ?_
          obtain ⟨hp, h⟩ := ite_some h
          refine dIdx rfl rfl rfl rfl rfl hp rfl ?_
          refine dq (ps := [(47, pB ((byteAt x (w64 (a1 - a0.Left))) == 35))]) rfl rfl rfl ?_
          refine dq (ps := [(48, pB ((byteAt x (w64 (a1 - a0.Left))) == 35))]) rfl rfl rfl ?_
          refine dq (ps := [(6, pB ((byteAt x (w64 (a1 - a0.Left))) == 35))]) rfl rfl rfl ?_
          refine DL_nil ?_
          refine W_fn (l := [(6, pB ((byteAt x (w64 (a1 - a0.Left))) == 35))]) (nC rfl nN) rfl ?_
          refine W_ret ?_
          cases h
          exact ⟨.inr rfl, leaves_of [.tmp 6] rfl (by decide) (.tmp (ltF rfl) rfl .nil)⟩
        · replace h := ite_no hb h
          refine dU rfl rfl rfl rfl ?_
          refine dU rfl rfl rfl rfl ?_
          refine dU rfl rfl rfl rfl ?_
          refine dU rfl rfl rfl rfl ?_
          refine dU rfl rfl rfl rfl ?_
          refine dU rfl rfl rfl rfl ?_
          refine dU rfl rfl rfl rfl ?_
          refine dU rfl rfl rfl rfl ?_
          refine dU rfl rfl rfl rfl ?_
          refine dU rfl rfl rfl rfl ?_
          refine dU rfl rfl rfl rfl ?_
          refine dq (ps := [(48, pB false)]) rfl rfl rfl ?_
          refine dq (ps := [(6, pB false)]) rfl rfl rfl ?_
          refine DL_nil ?_
          refine W_fn (l := [(6, pB false)]) (nC rfl nN) rfl ?_
          refine W_ret ?_
          cases h
          exact ⟨.inr rfl, leaves_of [.tmp 6] rfl (by decide) (.tmp (ltF rfl) rfl .nil)⟩
      · replace h := ite_no hb h
        refine dU rfl rfl rfl rfl ?_
        refine dU rfl rfl rfl rfl ?_
        refine dU rfl rfl rfl rfl ?_
        refine dq (ps := [(35, pB false)]) rfl rfl rfl ?_
        refine dq (ps := [(36, pB false)]) rfl rfl rfl ?_
        refine dU rfl rfl rfl rfl ?_
        refine dU rfl rfl rfl rfl ?_
        refine dU rfl rfl rfl rfl ?_
        refine dU rfl rfl rfl rfl ?_
        refine dU rfl rfl rfl rfl ?_
        refine dU rfl rfl rfl rfl ?_
        refine dU rfl rfl rfl rfl ?_
        refine dU rfl rfl rfl rfl ?_
        refine dU rfl rfl rfl rfl ?_
        refine dU rfl rfl rfl rfl ?_
        refine dU rfl rfl rfl rfl ?_
        refine dq (ps := [(48, pB false)]) rfl rfl rfl ?_
        refine dq (ps := [(6, pB false)]) rfl rfl rfl ?_
        refine DL_nil ?_
        refine W_fn (l := [(6, pB false)]) (nC rfl nN) rfl ?_
        refine W_ret ?_
        cases h
        exact ⟨.inr rfl, leaves_of [.tmp 6] rfl (by decide) (.tmp (ltF rfl) rfl .nil)⟩
    · replace h := ite_no hb h
      refine dU rfl rfl rfl rfl ?_
      refine dU rfl rfl rfl rfl ?_
      refine dq (ps := [(30, pB false)]) rfl rfl rfl ?_
      refine dq (ps := [(31, pB false)]) rfl rfl rfl ?_
      refine dU rfl rfl rfl rfl ?_
      refine dU rfl rfl rfl rfl ?_
      refine dU rfl rfl rfl rfl ?_
      refine dq (ps := [(35, pB false)]) rfl rfl rfl ?_
      refine dq (ps := [(36, pB false)]) rfl rfl rfl ?_
      refine dU rfl rfl rfl rfl ?_
      refine dU rfl rfl rfl rfl ?_
      refine dU rfl rfl rfl rfl ?_
      refine dU rfl rfl rfl rfl ?_
      refine dU rfl rfl rfl rfl ?_
      refine dU rfl rfl rfl rfl ?_
      refine dU rfl rfl rfl rfl ?_
      refine dU rfl rfl rfl rfl ?_
      refine dU rfl rfl rfl rfl ?_
      refine dU rfl rfl rfl rfl ?_
      refine dU rfl rfl rfl rfl ?_
      refine dq (ps := [(48, pB false)]) rfl rfl rfl ?_
      refine dq (ps := [(6, pB false)]) rfl rfl rfl ?_
      refine DL_nil ?_
      refine W_fn (l := [(6, pB false)]) (nC rfl nN) rfl ?_
      refine W_ret ?_
      cases h
      exact ⟨.inr rfl, leaves_of [.tmp 6] rfl (by decide) (.tmp (ltF rfl) rfl .nil)⟩
  · replace h := ite_no hb h
    refine dU rfl rfl rfl rfl ?_
    refine dU rfl rfl rfl rfl ?_
    refine dU rfl rfl rfl rfl ?_
    refine dU rfl rfl rfl rfl ?_
    refine dq (ps := [(26, pB false)]) rfl rfl rfl ?_
    refine dq (ps := [(27, pB false)]) rfl rfl rfl ?_
    refine dU rfl rfl rfl rfl ?_
    refine dU rfl rfl rfl rfl ?_
    refine dq (ps := [(30, pB false)]) rfl rfl rfl ?_
    refine dq (ps := [(31, pB false)]) rfl rfl rfl ?_
    refine dU rfl rfl rfl rfl ?_
    refine dU rfl rfl rfl rfl ?_
    refine dU rfl rfl rfl rfl ?_
    refine dq (ps := [(35, pB false)]) rfl rfl rfl ?_
    refine dq (ps := [(36, pB false)]) rfl rfl rfl ?_
    refine dU rfl rfl rfl rfl ?_
    refine dU rfl rfl rfl rfl ?_
    refine dU rfl rfl rfl rfl ?_
    refine dU rfl rfl rfl rfl ?_
    refine dU rfl rfl rfl rfl ?_
    refine dU rfl rfl rfl rfl ?_
    refine dU rfl rfl rfl rfl ?_
    refine dU rfl rfl rfl rfl ?_
    refine dU rfl rfl rfl rfl ?_
    refine dU rfl rfl rfl rfl ?_
    refine dU rfl rfl rfl rfl ?_
    refine dq (ps := [(48, pB false)]) rfl rfl rfl ?_
    refine dq (ps := [(6, pB false)]) rfl rfl rfl ?_
    refine DL_nil ?_
    refine W_fn (l := [(6, pB false)]) (nC rfl nN) rfl ?_
    refine W_ret ?_
    cases h
    exact ⟨.inr rfl, leaves_of [.tmp 6] rfl (by decide) (.tmp (ltF rfl) rfl .nil)⟩

-- itruth: loop.example/g00883/impl.truth
def itruth (n : Nat) (a0 : Bool) : Option (Int) :=
  (if (a0) = true then some 1 else some 0)

theorem vc_itruth (n : Nat) (a0 : Bool) (r : Int) (h : itruth n a0 = some r) : VC Tryd.prog 46 [.sh false (cB false a0)] [(false, (cI .i64) true r)] [] := by
  refine VC_of 4 Tryd.func46 rfl rfl rfl fun G0 w0 pv => ?_
  unfold itruth at h
  refine W_seq ?_
  refine W_text ?_
  refine dq (ps := [(2, pI .i64 0)]) rfl rfl rfl ?_
  refine DL_nil ?_
  refine W_seq ?_
  refine W_seq ?_
  refine W_text ?_
  refine dq (ps := [(3, pB a0)]) rfl rfl rfl ?_
  refine DL_nil ?_
  refine W_split ⟨ltF rfl, rfl⟩ (fun hb => ?_) (fun hb => ?_)
  · replace h := ite_yes hb h
    refine W_seq ?_
    refine W_text ?_
    refine dq (ps := [(2, pI .i64 1)]) rfl rfl rfl ?_
    refine DL_nil ?_
    refine W_ret ?_
    cases h
    exact ⟨.inr rfl, leaves_of [.tmp 2] rfl (by decide) (.tmp (ltF rfl) rfl .nil)⟩
  · replace h := ite_no hb h
    refine W_skip ?_
    refine W_seq ?_
    refine W_text ?_
    refine dq (ps := [(2, pI .i64 0)]) rfl rfl rfl ?_
    refine DL_nil ?_
    refine W_ret ?_
    cases h
    exact ⟨.inr rfl, leaves_of [.tmp 2] rfl (by decide) (.tmp (ltF rfl) rfl .nil)⟩

-- icommonInk: loop.example/g00883/impl.commonInk
def icommonInk_L1 : Nat → SPixelArea → SBitmap → Int → SBitmap → Int → Int → Option (Out (Int) (Int))
  | 0, _, _, _, _, _, _ => none
  | n + 1, r, a0, v7, a1, v5_1, v8 => (if (decide (v8 < (w64 (r.left + r.width)))) = true then ((ipixelAt n a0 v8 v7).bind fun r_1 => (if (r_1) = true then ((ipixelAt n a1 v8 v7).bind fun r_2 => ((itruth n r_2).bind fun r_3 => icommonInk_L1 n r a0 v7 a1 (w64 (v5_1 + r_3)) (w64 (v8 + 1)))) else ((itruth n false).bind fun r_4 => icommonInk_L1 n r a0 v7 a1 (w64 (v5_1 + r_4)) (w64 (v8 + 1))))) else some (.go v5_1))

theorem icommonInk_L1_ok {G0 : Nat → Own} {w0 : World} {Q : Exit → St → Prop} {r : SPixelArea} {a0 : SBitmap} {v7 : Int} {a1 : SBitmap} {out : (Out (Int) (Int))}
    (hQ : match out with | .go q5_1 => ∀ st, FN st [(2, .box (cBitmap false a0)), (3, .box (cBitmap false a1)), (5, pI .i64 q5_1), (6, .box (cPixelArea true r)), (7, pI .i64 v7)] → Q (.exit 2) st | .brk _ _ => True | .ret r => ∀ st, Fits st [(4, .val false (((cI .i64) true r).map .t))] → Q .ret st)
    {n : Nat} {v5_1 : Int} {v8 : Int} (h : icommonInk_L1 n r a0 v7 a1 v5_1 v8 = some out) :
    ∀ st, FN st [(2, .box (cBitmap false a0)), (3, .box (cBitmap false a1)), (5, pI .i64 v5_1), (6, .box (cPixelArea true r)), (7, pI .i64 v7), (8, pI .i64 v8)] → W ⟨Tryd.prog, 47, [], G0, w0⟩ (.loop (bodyAt Tryd.f28 [1, 1, 1, 0, 1, 0, 0, 1, 0, 0, 1, 0, 0])) st Q := by
  intro st hst
  refine W_loop (fun n st => ∃ v5_1 v8, icommonInk_L1 n r a0 v7 a1 v5_1 v8 = some out ∧ FN st [(2, .box (cBitmap false a0)), (3, .box (cBitmap false a1)), (5, pI .i64 v5_1), (6, .box (cPixelArea true r)), (7, pI .i64 v7), (8, pI .i64 v8)]) ?_ (n := n) ⟨v5_1, v8, h, hst⟩
  clear h hst st n v5_1 v8
  rintro n st ⟨v5_1, v8, h, hst⟩
  refine W_fn hst rfl ?_
  cases n with
  | zero => cases h
  | succ n =>
    rw [icommonInk_L1] at h
    refine W_seq ?_
    refine W_seq ?_
    refine W_text ?_
    refine dq (ps := [(24, pI .i64 v8)]) rfl rfl rfl ?_
    refine dFaB rfl rfl (ltF rfl) rfl rfl rfl rfl rfl rfl ?_
    refine dq (ps := [(26, pI .i64 r.left)]) rfl rfl rfl ?_
    refine dFaB rfl rfl (ltF rfl) rfl rfl rfl rfl rfl rfl ?_
    refine dq (ps := [(28, pI .i64 r.width)]) rfl rfl rfl ?_
    refine dq (ps := [(29, pI .i64 (w64 (r.left + r.width)))]) rfl rfl rfl ?_
    refine dq (ps := [(30, pB (decide (v8 < (w64 (r.left + r.width)))))]) rfl rfl rfl ?_
    refine DL_nil ?_
    refine W_fn (l := [(2, .box (cBitmap false a0)), (3, .box (cBitmap false a1)), (5, pI .i64 v5_1), (6, .box (cPixelArea true r)), (7, pI .i64 v7), (8, pI .i64 v8), (30, pB (decide (v8 < (w64 (r.left + r.width)))))]) (nC rfl (nC rfl (nC rfl (nC rfl (nC rfl (nC rfl (nC rfl nN))))))) rfl ?_
    refine W_split ⟨ltF rfl, rfl⟩ (fun hb => ?_) (fun hb => ?_)
    · replace h := ite_yes hb h
      refine W_skip ?_
      refine W_seq ?_
      refine W_block ?_
      refine W_text ?_
      refine dq (ps := [(33, pI .i64 v5_1)]) rfl rfl rfl ?_
      refine dLdB (sv := .val true [.t (.sc (.int .i64 a0.Left)), .t (.sc (.int .i64 a0.Bottom)), .t (.sc (.int .i64 a0.Width)), .t (.sl false 1 (a0.Rows.map (cS false)))]) rfl rfl (ltF rfl) rfl rfl rfl rfl rfl rfl rfl rfl ?_
      refine dq (ps := [(35, pI .i64 v8)]) rfl rfl rfl ?_
      refine dq (ps := [(36, pI .i64 v7)]) rfl rfl rfl ?_
      obtain ⟨r_1, hr_1, h⟩ := bind_some h
      refine dCall (gn := 35) (fn := Tryd.f35) (cp := []) (lt := []) [34, 35, 36] (vc_ipixelAt n a0 v8 v7 _ hr_1) Tryd.func35 rfl rfl rfl rfl (.inl rfl) (.inl rfl) (fun st2 h2 => ⟨rfl, args_of0 (.cons (aF (ltF rfl) ((congrArg Slot.sv (h2 34 (by decide))).trans rfl) rfl) (.cons (aF (ltF rfl) ((congrArg Slot.sv (h2 35 (by decide))).trans rfl) rfl) (.cons (aF (ltF rfl) ((congrArg Slot.sv (h2 36 (by decide))).trans rfl) rfl) .nil)))⟩) rfl ?_
      refine dq (ps := [(38, pB r_1)]) rfl rfl rfl ?_
      refine dS 38 rfl (fun hb => ?_) (fun hb => ?_)
      · replace h := ite_yes hb h
        refine dLdB (sv := .val true [.t (.sc (.int .i64 a1.Left)), .t (.sc (.int .i64 a1.Bottom)), .t (.sc (.int .i64 a1.Width)), .t (.sl false 1 (a1.Rows.map (cS false)))]) rfl rfl (ltF rfl) rfl rfl rfl rfl rfl rfl rfl rfl ?_
        refine dq (ps := [(40, pI .i64 v8)]) rfl rfl rfl ?_
        refine dq (ps := [(41, pI .i64 v7)]) rfl rfl rfl ?_
        obtain ⟨r_2, hr_2, h⟩ := bind_some h
        refine dCall (gn := 35) (fn := Tryd.f35) (cp := []) (lt := []) [39, 40, 41] (vc_ipixelAt n a1 v8 v7 _ hr_2) Tryd.func35 rfl rfl rfl rfl (.inl rfl) (.inl rfl) (fun st2 h2 => ⟨rfl, args_of0 (.cons (aF (ltF rfl) ((congrArg Slot.sv (h2 39 (by decide))).trans rfl) rfl) (.cons (aF (ltF rfl) ((congrArg Slot.sv (h2 40 (by decide))).trans rfl) rfl) (.cons (aF (ltF rfl) ((congrArg Slot.sv (h2 41 (by decide))).trans rfl) rfl) .nil)))⟩) rfl ?_
        refine dq (ps := [(43, pB r_2)]) rfl rfl rfl ?_
        obtain ⟨r_3, hr_3, h⟩ := bind_some h
        refine dCall (gn := 46) (fn := Tryd.f46) (cp := []) (lt := []) [43] (vc_itruth n r_2 _ hr_3) Tryd.func46 rfl rfl rfl rfl (.inl rfl) (.inl rfl) (fun st2 h2 => ⟨rfl, args_of0 (.cons (aF (ltF rfl) ((congrArg Slot.sv (h2 43 (by decide))).trans rfl) rfl) .nil)⟩) rfl ?_
        refine dq (ps := [(45, pI .i64 (w64 (v5_1 + r_3)))]) rfl rfl rfl ?_
        refine dq (ps := [(5, pI .i64 (w64 (v5_1 + r_3)))]) rfl rfl rfl ?_
        refine DL_nil ?_
        refine W_fn (l := [(2, .box (cBitmap false a0)), (3, .box (cBitmap false a1)), (5, pI .i64 (w64 (v5_1 + r_3))), (6, .box (cPixelArea true r)), (7, pI .i64 v7), (8, pI .i64 v8), (39, .val true ((cBitmap false a1).map .t)), (40, pI .i64 v8), (41, pI .i64 v7), (42, pB r_2)]) (nC rfl (nC rfl (nC rfl (nC rfl (nC rfl (nC rfl (nC rfl (nC rfl (nC rfl (nC rfl nN)))))))))) rfl ?_
        refine W_text ?_
        refine dq (ps := [(31, pI .i64 v8)]) rfl rfl rfl ?_
        refine dq (ps := [(32, pI .i64 (w64 (v8 + 1)))]) rfl rfl rfl ?_
        refine dq (ps := [(8, pI .i64 (w64 (v8 + 1)))]) rfl rfl rfl ?_
        refine DL_nil ?_
        exact ⟨n, Nat.lt_succ_self n, _, _,  h, (nC rfl (nC rfl (nC rfl (nC rfl (nC rfl (nC rfl nN))))))⟩
      · replace h := ite_no hb h
        refine dU rfl rfl rfl rfl ?_
        refine dU rfl rfl rfl rfl ?_
        refine dU rfl rfl rfl rfl ?_
        refine dU rfl rfl rfl rfl ?_
        refine dq (ps := [(43, pB false)]) rfl rfl rfl ?_
        obtain ⟨r_4, hr_4, h⟩ := bind_some h
        refine dCall (gn := 46) (fn := Tryd.f46) (cp := []) (lt := []) [43] (vc_itruth n false _ hr_4) Tryd.func46 rfl rfl rfl rfl (.inl rfl) (.inl rfl) (fun st2 h2 => ⟨rfl, args_of0 (.cons (aF (ltF rfl) ((congrArg Slot.sv (h2 43 (by decide))).trans rfl) rfl) .nil)⟩) rfl ?_
        refine dq (ps := [(45, pI .i64 (w64 (v5_1 + r_4)))]) rfl rfl rfl ?_
        refine dq (ps := [(5, pI .i64 (w64 (v5_1 + r_4)))]) rfl rfl rfl ?_
        refine DL_nil ?_
        refine W_fn (l := [(2, .box (cBitmap false a0)), (3, .box (cBitmap false a1)), (5, pI .i64 (w64 (v5_1 + r_4))), (6, .box (cPixelArea true r)), (7, pI .i64 v7), (8, pI .i64 v8), (39, .tup []), (40, .tup []), (41, .tup []), (42, .tup [])]) (nC rfl (nC rfl (nC rfl (nC rfl (nC rfl (nC rfl (nC rfl (nC rfl (nC rfl (nC rfl nN)))))))))) rfl ?_
        refine W_text ?_
        refine dq (ps := [(31, pI .i64 v8)]) rfl rfl rfl ?_
        refine dq (ps := [(32, pI .i64 (w64 (v8 + 1)))]) rfl rfl rfl ?_
        refine dq (ps := [(8, pI .i64 (w64 (v8 + 1)))]) rfl rfl rfl ?_
        refine DL_nil ?_
        exact ⟨n, Nat.lt_succ_self n, _, _,  h, (nC rfl (nC rfl (nC rfl (nC rfl (nC rfl (nC rfl nN))))))⟩
    · replace h := ite_no hb h
      refine W_exit ?_
      cases h
      exact hQ _ (nC rfl (nC rfl (nC rfl (nC rfl (nC rfl nN)))))

def icommonInk_L0 : Nat → SPixelArea → SBitmap → SBitmap → Int → Int → Option (Out (Int) (Int))
  | 0, _, _, _, _, _ => none
  | n + 1, r, a0, a1, v5, v7 => (if (decide (v7 < (w64 (r.bottom + r.height)))) = true then ((icommonInk_L1 n r a0 v7 a1 v5 r.left).bind fun o => (match o with | .go q5_1 => icommonInk_L0 n r a0 a1 q5_1 (w64 (v7 + 1)) | .brk _ _ => none | .ret r => some (.ret r))) else some (.go v5))

theorem icommonInk_L0_ok {G0 : Nat → Own} {w0 : World} {Q : Exit → St → Prop} {r : SPixelArea} {a0 : SBitmap} {a1 : SBitmap} {out : (Out (Int) (Int))}
    (hQ : match out with | .go q5 => ∀ st, FN st [(5, pI .i64 q5)] → Q (.exit 0) st | .brk _ _ => True | .ret r => ∀ st, Fits st [(4, .val false (((cI .i64) true r).map .t))] → Q .ret st)
    {n : Nat} {v5 : Int} {v7 : Int} (h : icommonInk_L0 n r a0 a1 v5 v7 = some out) :
    ∀ st, FN st [(2, .box (cBitmap false a0)), (3, .box (cBitmap false a1)), (5, pI .i64 v5), (6, .box (cPixelArea true r)), (7, pI .i64 v7)] → W ⟨Tryd.prog, 47, [], G0, w0⟩ (.loop (bodyAt Tryd.f28 [1, 1, 1, 0, 1, 0, 0])) st Q := by
  intro st hst
  refine W_loop (fun n st => ∃ v5 v7, icommonInk_L0 n r a0 a1 v5 v7 = some out ∧ FN st [(2, .box (cBitmap false a0)), (3, .box (cBitmap false a1)), (5, pI .i64 v5), (6, .box (cPixelArea true r)), (7, pI .i64 v7)]) ?_ (n := n) ⟨v5, v7, h, hst⟩
  clear h hst st n v5 v7
  rintro n st ⟨v5, v7, h, hst⟩
  refine W_fn hst rfl ?_
  cases n with
  | zero => cases h
  | succ n =>
    rw [icommonInk_L0] at h
    refine W_seq ?_
    refine W_seq ?_
    refine W_text ?_
    refine dq (ps := [(13, pI .i64 v7)]) rfl rfl rfl ?_
    refine dFaB rfl rfl (ltF rfl) rfl rfl rfl rfl rfl rfl ?_
    refine dq (ps := [(15, pI .i64 r.bottom)]) rfl rfl rfl ?_
    refine dFaB rfl rfl (ltF rfl) rfl rfl rfl rfl rfl rfl ?_
    refine dq (ps := [(17, pI .i64 r.height)]) rfl rfl rfl ?_
    refine dq (ps := [(18, pI .i64 (w64 (r.bottom + r.height)))]) rfl rfl rfl ?_
    refine dq (ps := [(19, pB (decide (v7 < (w64 (r.bottom + r.height)))))]) rfl rfl rfl ?_
    refine DL_nil ?_
    refine W_fn (l := [(2, .box (cBitmap false a0)), (3, .box (cBitmap false a1)), (5, pI .i64 v5), (6, .box (cPixelArea true r)), (7, pI .i64 v7), (19, pB (decide (v7 < (w64 (r.bottom + r.height)))))]) (nC rfl (nC rfl (nC rfl (nC rfl (nC rfl (nC rfl nN)))))) rfl ?_
    refine W_split ⟨ltF rfl, rfl⟩ (fun hb => ?_) (fun hb => ?_)
    · replace h := ite_yes hb h
      refine W_skip ?_
      refine W_seq ?_
      refine W_block ?_
      refine W_seq ?_
      refine W_text ?_
      refine dFaB rfl rfl (ltF rfl) rfl rfl rfl rfl rfl rfl ?_
      refine dq (ps := [(23, pI .i64 r.left)]) rfl rfl rfl ?_
      refine dq (ps := [(8, pI .i64 r.left)]) rfl rfl rfl ?_
      refine DL_nil ?_
      refine W_block ?_
      obtain ⟨o, ho, h⟩ := bind_some h
      refine icommonInk_L1_ok ?_ ho _ (nC rfl (nC rfl (nC rfl (nC rfl (nC rfl (nC rfl nN))))))
      rcases o with q5_1 | ⟨j, p⟩ | r
      · skip
        dsimp only at h ⊢
        intro st hst
        refine W_fn hst rfl ?_
        refine W_text ?_
        refine dq (ps := [(20, pI .i64 v7)]) rfl rfl rfl ?_
        refine dq (ps := [(21, pI .i64 (w64 (v7 + 1)))]) rfl rfl rfl ?_
        refine dq (ps := [(7, pI .i64 (w64 (v7 + 1)))]) rfl rfl rfl ?_
        refine DL_nil ?_
        exact ⟨n, Nat.lt_succ_self n, _, _,  h, (nC rfl (nC rfl (nC rfl (nC rfl (nC rfl nN)))))⟩
      · exact trivial
      · dsimp only at h ⊢
        intro st hst
        cases h
        exact hQ _ hst
    · replace h := ite_no hb h
      refine W_exit ?_
      cases h
      exact hQ _ (nC rfl nN)

def icommonInk (n : Nat) (a0 : SBitmap) (a1 : SBitmap) : Option (Int) :=
  ((ibitmapFrame n a0).bind fun r => ((icommonInk_L0 n r a0 a1 0 r.bottom).bind fun o_1 => (match o_1 with | .go q5_2 => some q5_2 | .brk _ _ => none | .ret r => some r)))

theorem vc_icommonInk (n : Nat) (a0 : SBitmap) (a1 : SBitmap) (r : Int) (h : icommonInk n a0 a1 = some r) : VC Tryd.prog 28 [.sh true (cBitmap false a0), .sh true (cBitmap false a1)] [(false, (cI .i64) true r)] [] := by
  refine VC_of 47 Tryd.func28 rfl rfl rfl fun G0 w0 pv => ?_
  unfold icommonInk at h
  refine W_seq ?_
  refine W_text ?_
  refine dBox (ts := (cBitmap false a0)) rfl rfl rfl rfl rfl ?_
  refine dBox (ts := (cBitmap false a1)) rfl rfl rfl rfl rfl ?_
  refine dq (ps := [(4, pI .i64 0)]) rfl rfl rfl ?_
  refine DL_nil ?_
  refine W_seq ?_
  refine W_text ?_
  refine dq (ps := [(5, pI .i64 0)]) rfl rfl rfl ?_
  refine DL_nil ?_
  refine W_seq ?_
  refine W_text ?_
  refine dLdB (sv := .val true [.t (.sc (.int .i64 a0.Left)), .t (.sc (.int .i64 a0.Bottom)), .t (.sc (.int .i64 a0.Width)), .t (.sl false 1 (a0.Rows.map (cS false)))]) rfl rfl (ltF rfl) rfl rfl rfl rfl rfl rfl rfl rfl ?_
  obtain ⟨r, hr, h⟩ := bind_some h
  refine dCall (gn := 45) (fn := Tryd.f45) (cp := []) (lt := []) [9] (vc_ibitmapFrame n a0 _ hr) Tryd.func45 rfl rfl rfl rfl (.inl rfl) (.inl rfl) (fun st2 h2 => ⟨rfl, args_of0 (.cons (aF (ltF rfl) ((congrArg Slot.sv (h2 9 (by decide))).trans rfl) rfl) .nil)⟩) rfl ?_
  refine dAlloc (zs := [.sc (.int .i64 0), .sc (.int .i64 0), .sc (.int .i64 0), .sc (.int .i64 0)]) rfl rfl (zeros_of _ rfl ⟨z1 rfl, z1 rfl, z1 rfl, z1 rfl, trivial⟩) rfl ?_
  refine dStB (ag := true) (ts := [.sc (.int .i64 r.left), .sc (.int .i64 r.bottom), .sc (.int .i64 r.width), .sc (.int .i64 r.height)]) (cs' := (cPixelArea true r)) [] [6, 10] rfl (ltF rfl) (by decide) rfl rfl rfl (by decide) rfl rfl (fun st2 h2 => .free (⟨ltF rfl, (congrArg Slot.sv (h2 10 (by decide))).trans rfl⟩) rfl) rfl ?_
  refine DL_nil ?_
  refine W_seq ?_
  refine W_seq ?_
  refine W_text ?_
  refine dFaB rfl rfl (ltF rfl) rfl rfl rfl rfl rfl rfl ?_
  refine dq (ps := [(12, pI .i64 r.bottom)]) rfl rfl rfl ?_
  refine dq (ps := [(7, pI .i64 r.bottom)]) rfl rfl rfl ?_
  refine DL_nil ?_
  refine W_block ?_
  obtain ⟨o_1, ho_1, h⟩ := bind_some h
  refine icommonInk_L0_ok ?_ ho_1 _ (nC rfl (nC rfl (nC rfl (nC rfl (nC rfl nN)))))
  rcases o_1 with q5_2 | ⟨j, p⟩ | r
  · skip
    dsimp only at h ⊢
    intro st hst
    refine W_fn hst rfl ?_
    refine W_seq ?_
    refine W_text ?_
    refine dq (ps := [(46, pI .i64 q5_2)]) rfl rfl rfl ?_
    refine dq (ps := [(4, pI .i64 q5_2)]) rfl rfl rfl ?_
    refine DL_nil ?_
    refine W_ret ?_
    cases h
    exact ⟨.inr rfl, leaves_of [.tmp 4] rfl (by decide) (.tmp (ltF rfl) rfl .nil)⟩
  · exact trivial
  · dsimp only at h ⊢
    intro st hst
    cases h
    exact ⟨.inr rfl, leaves_of [.tmp 4] rfl (by decide) (.tmp (ltF rfl) (hst.at (s := 4) rfl rfl) .nil)⟩

-- iCommonInk: loop.example/g00883/impl.CommonInk
def iCommonInk (n : Nat) (a0 : SBitmap) (a1 : SBitmap) : Option (Int × Int) :=
  ((iValidBitmap n a0).bind fun r => (if (!r) = true then some (0, 1) else ((iValidBitmap n a1).bind fun r_1 => (if (!r_1) = true then some (0, 1) else ((icommonInk n a0 a1).bind fun r_2 => some (r_2, 0))))))

theorem vc_iCommonInk (n : Nat) (a0 : SBitmap) (a1 : SBitmap) (r : Int × Int) (h : iCommonInk n a0 a1 = some r) : VC Tryd.prog 14 [.sh true (cBitmap false a0), .sh true (cBitmap false a1)] [(false, (cI .i64) true r.1), (false, (cI .i64) true r.2)] [] := by
  refine VC_of 17 Tryd.func14 rfl rfl rfl fun G0 w0 pv => ?_
  unfold iCommonInk at h
  refine W_seq ?_
  refine W_text ?_
  refine dBox (ts := (cBitmap false a0)) rfl rfl rfl rfl rfl ?_
  refine dBox (ts := (cBitmap false a1)) rfl rfl rfl rfl rfl ?_
  refine dq (ps := [(4, pI .i64 0)]) rfl rfl rfl ?_
  refine dq (ps := [(5, pI .i64 0)]) rfl rfl rfl ?_
  refine DL_nil ?_
  refine W_seq ?_
  refine W_seq ?_
  refine W_text ?_
  refine dLdB (sv := .val true [.t (.sc (.int .i64 a0.Left)), .t (.sc (.int .i64 a0.Bottom)), .t (.sc (.int .i64 a0.Width)), .t (.sl false 1 (a0.Rows.map (cS false)))]) rfl rfl (ltF rfl) rfl rfl rfl rfl rfl rfl rfl rfl ?_
  obtain ⟨r, hr, h⟩ := bind_some h
  refine dCall (gn := 21) (fn := Tryd.f21) (cp := []) (lt := []) [6] (vc_iValidBitmap n a0 _ hr) Tryd.func21 rfl rfl rfl rfl (.inl rfl) (.inl rfl) (fun st2 h2 => ⟨rfl, args_of0 (.cons (aF (ltF rfl) ((congrArg Slot.sv (h2 6 (by decide))).trans rfl) rfl) .nil)⟩) rfl ?_
  refine dq (ps := [(8, pB (!r))]) rfl rfl rfl ?_
  refine dq (ps := [(9, pB (!r))]) rfl rfl rfl ?_
  refine dS 9 rfl (fun hb => ?_) (fun hb => ?_)
  · replace h := ite_yes hb h
    refine dU rfl rfl rfl rfl ?_
    refine dU rfl rfl rfl rfl ?_
    refine dU rfl rfl rfl rfl ?_
    refine dq (ps := [(13, pB true)]) rfl rfl rfl ?_
    refine DL_nil ?_
    refine W_fn (l := [(2, .box (cBitmap false a0)), (3, .box (cBitmap false a1)), (13, pB true)]) (nC rfl (nC rfl (nC rfl nN))) rfl ?_
    refine W_yes ⟨ltF rfl, rfl⟩ ?_
    refine W_seq ?_
    refine W_text ?_
    refine dq (ps := [(4, pI .i64 0)]) rfl rfl rfl ?_
    refine dq (ps := [(5, pI .i64 1)]) rfl rfl rfl ?_
    refine DL_nil ?_
    refine W_ret ?_
    cases h
    exact ⟨.inr rfl, leaves_of [.tmp 4, .tmp 5] rfl (by decide) (.tmp (ltF rfl) rfl (.tmp (ltF rfl) rfl .nil))⟩
  · replace h := ite_no hb h
    refine dLdB (sv := .val true [.t (.sc (.int .i64 a1.Left)), .t (.sc (.int .i64 a1.Bottom)), .t (.sc (.int .i64 a1.Width)), .t (.sl false 1 (a1.Rows.map (cS false)))]) rfl rfl (ltF rfl) rfl rfl rfl rfl rfl rfl rfl rfl ?_
    obtain ⟨r_1, hr_1, h⟩ := bind_some h
    refine dCall (gn := 21) (fn := Tryd.f21) (cp := []) (lt := []) [10] (vc_iValidBitmap n a1 _ hr_1) Tryd.func21 rfl rfl rfl rfl (.inl rfl) (.inl rfl) (fun st2 h2 => ⟨rfl, args_of0 (.cons (aF (ltF rfl) ((congrArg Slot.sv (h2 10 (by decide))).trans rfl) rfl) .nil)⟩) rfl ?_
    refine dq (ps := [(12, pB (!r_1))]) rfl rfl rfl ?_
    refine dq (ps := [(13, pB (!r_1))]) rfl rfl rfl ?_
    refine DL_nil ?_
    refine W_fn (l := [(2, .box (cBitmap false a0)), (3, .box (cBitmap false a1)), (13, pB (!r_1))]) (nC rfl (nC rfl (nC rfl nN))) rfl ?_
    refine W_split ⟨ltF rfl, rfl⟩ (fun hb => ?_) (fun hb => ?_)
    · replace h := ite_yes hb h
      refine W_seq ?_
      refine W_text ?_
      refine dq (ps := [(4, pI .i64 0)]) rfl rfl rfl ?_
      refine dq (ps := [(5, pI .i64 1)]) rfl rfl rfl ?_
      refine DL_nil ?_
      refine W_ret ?_
      cases h
      exact ⟨.inr rfl, leaves_of [.tmp 4, .tmp 5] rfl (by decide) (.tmp (ltF rfl) rfl (.tmp (ltF rfl) rfl .nil))⟩
    · replace h := ite_no hb h
      refine W_skip ?_
      refine W_seq ?_
      refine W_text ?_
      refine dLdB (sv := .val true [.t (.sc (.int .i64 a0.Left)), .t (.sc (.int .i64 a0.Bottom)), .t (.sc (.int .i64 a0.Width)), .t (.sl false 1 (a0.Rows.map (cS false)))]) rfl rfl (ltF rfl) rfl rfl rfl rfl rfl rfl rfl rfl ?_
      refine dLdB (sv := .val true [.t (.sc (.int .i64 a1.Left)), .t (.sc (.int .i64 a1.Bottom)), .t (.sc (.int .i64 a1.Width)), .t (.sl false 1 (a1.Rows.map (cS false)))]) rfl rfl (ltF rfl) rfl rfl rfl rfl rfl rfl rfl rfl ?_
      obtain ⟨r_2, hr_2, h⟩ := bind_some h
      refine dCall (gn := 28) (fn := Tryd.f28) (cp := []) (lt := []) [14, 15] (vc_icommonInk n a0 a1 _ hr_2) Tryd.func28 rfl rfl rfl rfl (.inl rfl) (.inl rfl) (fun st2 h2 => ⟨rfl, args_of0 (.cons (aF (ltF rfl) ((congrArg Slot.sv (h2 14 (by decide))).trans rfl) rfl) (.cons (aF (ltF rfl) ((congrArg Slot.sv (h2 15 (by decide))).trans rfl) rfl) .nil))⟩) rfl ?_
      refine dq (ps := [(4, pI .i64 r_2)]) rfl rfl rfl ?_
      refine dq (ps := [(5, pI .i64 0)]) rfl rfl rfl ?_
      refine DL_nil ?_
      refine W_ret ?_
      cases h
      exact ⟨.inr rfl, leaves_of [.tmp 4, .tmp 5] rfl (by decide) (.tmp (ltF rfl) rfl (.tmp (ltF rfl) rfl .nil))⟩

-- lFnExactCommonInk: loop.example/g00883/laws.FnExactCommonInk
def lFnExactCommonInk (n : Nat) (a0 : SBitmap) (a1 : SBitmap) : Option (Bool) :=
  ((lszBitmap n a0 1048576).bind fun r => (if (decide (r < 0)) = true then some true else ((lszBitmap n a1 r).bind fun r_1 => (if (decide (r_1 < 0)) = true then some true else ((ltoBitmap n a0).bind fun r_2 => ((ltoBitmap n a1).bind fun r_3 => ((sCommonInk n r_2 r_3).bind fun r_4 => ((ltoBitmap n a0).bind fun r_5 => ((ltoBitmap n a1).bind fun r_6 => ((iCommonInk n r_5 r_6).bind fun r_7 => (if (r_7.1 != r_4.1) = true then some false else (if (r_7.2 != r_4.2) = true then some false else ((ltoBitmap n a0).bind fun r_8 => ((leqBitmap n r_5 r_8).bind fun r_9 => (if (!r_9) = true then some false else ((ltoBitmap n a1).bind fun r_10 => ((leqBitmap n r_6 r_10).bind fun r_11 => (if (!r_11) = true then some false else some true))))))))))))))))))

theorem vc_lFnExactCommonInk (n : Nat) (a0 : SBitmap) (a1 : SBitmap) (r : Bool) (h : lFnExactCommonInk n a0 a1 = some r) : VC Tryd.prog 4 [.sh true (cBitmap false a0), .sh true (cBitmap false a1)] [(false, cB true r)] [] := by
  refine VC_of 58 Tryd.func4 rfl rfl rfl fun G0 w0 pv => ?_
  unfold lFnExactCommonInk at h
  refine W_seq ?_
  refine W_text ?_
  refine dBox (ts := (cBitmap false a0)) rfl rfl rfl rfl rfl ?_
  refine dBox (ts := (cBitmap false a1)) rfl rfl rfl rfl rfl ?_
  refine dq (ps := [(4, pB false)]) rfl rfl rfl ?_
  refine DL_nil ?_
  refine W_seq ?_
  refine W_text ?_
  refine dq (ps := [(5, pI .i64 1048576)]) rfl rfl rfl ?_
  refine DL_nil ?_
  refine W_seq ?_
  refine W_text ?_
  refine dLdB (sv := .val true [.t (.sc (.int .i64 a0.Left)), .t (.sc (.int .i64 a0.Bottom)), .t (.sc (.int .i64 a0.Width)), .t (.sl false 1 (a0.Rows.map (cS false)))]) rfl rfl (ltF rfl) rfl rfl rfl rfl rfl rfl rfl rfl ?_
  refine dq (ps := [(13, pI .i64 1048576)]) rfl rfl rfl ?_
  obtain ⟨r, hr, h⟩ := bind_some h
  refine dCall (gn := 6) (fn := Tryd.f6) (cp := []) (lt := []) [12, 13] (vc_lszBitmap n a0 1048576 _ hr) Tryd.func6 rfl rfl rfl rfl (.inl rfl) (.inl rfl) (fun st2 h2 => ⟨rfl, args_of0 (.cons (aF (ltF rfl) ((congrArg Slot.sv (h2 12 (by decide))).trans rfl) rfl) (.cons (aF (ltF rfl) ((congrArg Slot.sv (h2 13 (by decide))).trans rfl) rfl) .nil))⟩) rfl ?_
  refine dq (ps := [(5, pI .i64 r)]) rfl rfl rfl ?_
  refine DL_nil ?_
  refine W_seq ?_
  refine W_seq ?_
  refine W_text ?_
  refine dq (ps := [(15, pI .i64 r)]) rfl rfl rfl ?_
  refine dq (ps := [(16, pB (decide (r < 0)))]) rfl rfl rfl ?_
  refine DL_nil ?_
  refine W_split ⟨ltF rfl, rfl⟩ (fun hb => ?_) (fun hb => ?_)
  · replace h := ite_yes hb h
    refine W_seq ?_
    refine W_text ?_
    refine dq (ps := [(4, pB true)]) rfl rfl rfl ?_
    refine DL_nil ?_
    refine W_ret ?_
    cases h
    exact ⟨.inr rfl, leaves_of [.tmp 4] rfl (by decide) (.tmp (ltF rfl) rfl .nil)⟩
  · replace h := ite_no hb h
    refine W_skip ?_
    refine W_seq ?_
    refine W_text ?_
    refine dLdB (sv := .val true [.t (.sc (.int .i64 a1.Left)), .t (.sc (.int .i64 a1.Bottom)), .t (.sc (.int .i64 a1.Width)), .t (.sl false 1 (a1.Rows.map (cS false)))]) rfl rfl (ltF rfl) rfl rfl rfl rfl rfl rfl rfl rfl ?_
    refine dq (ps := [(18, pI .i64 r)]) rfl rfl rfl ?_
    obtain ⟨r_1, hr_1, h⟩ := bind_some h
    refine dCall (gn := 6) (fn := Tryd.f6) (cp := []) (lt := []) [17, 18] (vc_lszBitmap n a1 r _ hr_1) Tryd.func6 rfl rfl rfl rfl (.inl rfl) (.inl rfl) (fun st2 h2 => ⟨rfl, args_of0 (.cons (aF (ltF rfl) ((congrArg Slot.sv (h2 17 (by decide))).trans rfl) rfl) (.cons (aF (ltF rfl) ((congrArg Slot.sv (h2 18 (by decide))).trans rfl) rfl) .nil))⟩) rfl ?_
    refine dq (ps := [(5, pI .i64 r_1)]) rfl rfl rfl ?_
    refine DL_nil ?_
    refine W_seq ?_
    refine W_seq ?_
    refine W_text ?_
    refine dq (ps := [(20, pI .i64 r_1)]) rfl rfl rfl ?_
    refine dq (ps := [(21, pB (decide (r_1 < 0)))]) rfl rfl rfl ?_
    refine DL_nil ?_
    refine W_split ⟨ltF rfl, rfl⟩ (fun hb => ?_) (fun hb => ?_)
    · replace h := ite_yes hb h
      refine W_seq ?_
      refine W_text ?_
      refine dq (ps := [(4, pB true)]) rfl rfl rfl ?_
      refine DL_nil ?_
      refine W_ret ?_
      cases h
      exact ⟨.inr rfl, leaves_of [.tmp 4] rfl (by decide) (.tmp (ltF rfl) rfl .nil)⟩
    · replace h := ite_no hb h
      refine W_skip ?_
      refine W_seq ?_
      refine W_drawn rfl ?_
      refine dLdB (R' := [2]) (sv := .val true [.t (.sc (.int .i64 a0.Left)), .t (.sc (.int .i64 a0.Bottom)), .t (.sc (.int .i64 a0.Width)), .t (.sl false 1 (a0.Rows.map (cS false)))]) rfl rfl (ltF rfl) rfl rfl rfl rfl rfl rfl rfl rfl ?_
      obtain ⟨r_2, hr_2, h⟩ := bind_some h
      refine dCall (gn := 8) (fn := Tryd.f8) (cp := []) (lt := []) [23] (vc_ltoBitmap n a0 _ hr_2) Tryd.func8 rfl rfl rfl rfl (.inl rfl) (.inl rfl) (fun st2 h2 => ⟨rfl, args_of0 (.cons (aF (ltF rfl) ((congrArg Slot.sv (h2 23 (by decide))).trans rfl) rfl) .nil)⟩) rfl ?_
      refine dLdB (R' := [3]) (sv := .val true [.t (.sc (.int .i64 a1.Left)), .t (.sc (.int .i64 a1.Bottom)), .t (.sc (.int .i64 a1.Width)), .t (.sl false 1 (a1.Rows.map (cS false)))]) rfl rfl (ltF rfl) rfl rfl rfl rfl rfl rfl rfl rfl ?_
      obtain ⟨r_3, hr_3, h⟩ := bind_some h
      refine dCall (gn := 8) (fn := Tryd.f8) (cp := []) (lt := []) [25] (vc_ltoBitmap n a1 _ hr_3) Tryd.func8 rfl rfl rfl rfl (.inl rfl) (.inl rfl) (fun st2 h2 => ⟨rfl, args_of0 (.cons (aF (ltF rfl) ((congrArg Slot.sv (h2 25 (by decide))).trans rfl) rfl) .nil)⟩) rfl ?_
      obtain ⟨r_4, hr_4, h⟩ := bind_some h
      refine dCall (gn := 13) (fn := Tryd.f13) (cp := []) (lt := [(24, [(0, 3)]), (26, [(0, 3)])]) [24, 26] (vc_sCommonInk n r_2 r_3 _ hr_4) Tryd.func13 rfl rfl rfl rfl (.inr ⟨(rC (eC rfl eN) (rC (eC rfl eN) rN)), rfl⟩) (.inl rfl) (fun st2 h2 => ⟨rfl, args_of0 (.cons (aA (ltF rfl) ((congrArg Slot.sv (h2 24 (by decide))).trans rfl) (.cons (.free rfl) (.cons (.free rfl) (.cons (.free rfl) (.cons (cA_own (wholes_map (fun _ => (wC rfl wN)) _) (shrs_map (fun _ => (sC rfl sN)) _) (by decide)) .nil))))) (.cons (aA (ltF rfl) ((congrArg Slot.sv (h2 26 (by decide))).trans rfl) (.cons (.free rfl) (.cons (.free rfl) (.cons (.free rfl) (.cons (cA_own (wholes_map (fun _ => (wC rfl wN)) _) (shrs_map (fun _ => (sC rfl sN)) _) (by decide)) .nil))))) .nil))⟩) rfl ?_
      refine dTkM (R' := [27]) (sv := .tup [(false, [.t (.sc (.int .i64 r_4.1))]), (false, [.t (.sc (.int .i64 r_4.2))])]) rfl rfl rfl (ltF rfl) rfl rfl rfl ?_
      refine dExt (R' := [22]) (ag := false) (ts := [.sc (.int .i64 r_4.1)]) rfl rfl (ltF rfl) rfl rfl rfl rfl ?_
      refine dExt (R' := [22]) (ag := false) (ts := [.sc (.int .i64 r_4.2)]) rfl rfl (ltF rfl) rfl rfl rfl rfl ?_
      refine dq (R' := [28]) (ps := [(6, pI .i64 r_4.1)]) rfl rfl rfl ?_
      refine dq (R' := [29]) (ps := [(7, pI .i64 r_4.2)]) rfl rfl rfl ?_
      refine DL_nil ⟨[([2], [23]), ([23], [24]), ([3], [25]), ([25], [26]), ([24, 26], [27]), ([27], [27, 22]), ([22], [28]), ([22], [29]), ([28], [6]), ([29], [7])], rfl, by decide +kernel, ?_⟩
      refine W_fn (l := [(2, .box (cBitmap false a0)), (3, .box (cBitmap false a1)), (6, pI .i64 r_4.1), (7, pI .i64 r_4.2)]) (nC rfl (nC rfl (nC rfl (nC rfl nN)))) rfl ?_
      refine W_seq ?_
      refine W_text ?_
      refine dLdB (sv := .val true [.t (.sc (.int .i64 a0.Left)), .t (.sc (.int .i64 a0.Bottom)), .t (.sc (.int .i64 a0.Width)), .t (.sl false 1 (a0.Rows.map (cS false)))]) rfl rfl (ltF rfl) rfl rfl rfl rfl rfl rfl rfl rfl ?_
      obtain ⟨r_5, hr_5, h⟩ := bind_some h
      refine dCall (gn := 8) (fn := Tryd.f8) (cp := []) (lt := []) [30] (vc_ltoBitmap n a0 _ hr_5) Tryd.func8 rfl rfl rfl rfl (.inl rfl) (.inl rfl) (fun st2 h2 => ⟨rfl, args_of0 (.cons (aF (ltF rfl) ((congrArg Slot.sv (h2 30 (by decide))).trans rfl) rfl) .nil)⟩) rfl ?_
      refine dAlloc (zs := [.sc (.int .i64 0), .sc (.int .i64 0), .sc (.int .i64 0), .sl true 1 (([] : List ByteArray).map (cS true))]) rfl rfl (zeros_of _ rfl ⟨z1 rfl, z1 rfl, z1 rfl, z2, trivial⟩) rfl ?_
      refine dStB (ag := true) (ts := [.sc (.int .i64 r_5.Left), .sc (.int .i64 r_5.Bottom), .sc (.int .i64 r_5.Width), .sl true 1 (r_5.Rows.map (cS true))]) (cs' := (cBitmap true r_5)) [(31, 0)] [8, 31] rfl (ltF rfl) (by decide) rfl rfl rfl (by decide) rfl rfl (fun st2 h2 => .own (ltF rfl) ((congrArg Slot.sv (h2 31 (by decide))).trans rfl) rfl) rfl ?_
      refine DL_nil ?_
      refine W_seq ?_
      refine W_text ?_
      refine dLdB (sv := .val true [.t (.sc (.int .i64 a1.Left)), .t (.sc (.int .i64 a1.Bottom)), .t (.sc (.int .i64 a1.Width)), .t (.sl false 1 (a1.Rows.map (cS false)))]) rfl rfl (ltF rfl) rfl rfl rfl rfl rfl rfl rfl rfl ?_
      obtain ⟨r_6, hr_6, h⟩ := bind_some h
      refine dCall (gn := 8) (fn := Tryd.f8) (cp := []) (lt := []) [32] (vc_ltoBitmap n a1 _ hr_6) Tryd.func8 rfl rfl rfl rfl (.inl rfl) (.inl rfl) (fun st2 h2 => ⟨rfl, args_of0 (.cons (aF (ltF rfl) ((congrArg Slot.sv (h2 32 (by decide))).trans rfl) rfl) .nil)⟩) rfl ?_
      refine dAlloc (zs := [.sc (.int .i64 0), .sc (.int .i64 0), .sc (.int .i64 0), .sl true 1 (([] : List ByteArray).map (cS true))]) rfl rfl (zeros_of _ rfl ⟨z1 rfl, z1 rfl, z1 rfl, z2, trivial⟩) rfl ?_
      refine dStB (ag := true) (ts := [.sc (.int .i64 r_6.Left), .sc (.int .i64 r_6.Bottom), .sc (.int .i64 r_6.Width), .sl true 1 (r_6.Rows.map (cS true))]) (cs' := (cBitmap true r_6)) [(33, 0)] [9, 33] rfl (ltF rfl) (by decide) rfl rfl rfl (by decide) rfl rfl (fun st2 h2 => .own (ltF rfl) ((congrArg Slot.sv (h2 33 (by decide))).trans rfl) rfl) rfl ?_
      refine DL_nil ?_
      refine W_seq ?_
      refine W_text ?_
      refine dLdB (sv := .val true [.t (.sc (.int .i64 r_5.Left)), .t (.sc (.int .i64 r_5.Bottom)), .t (.sc (.int .i64 r_5.Width)), .ref 8 2 [(0, 3)]]) rfl rfl (ltF rfl) rfl rfl rfl rfl rfl rfl rfl rfl ?_
      refine dLdB (sv := .val true [.t (.sc (.int .i64 r_6.Left)), .t (.sc (.int .i64 r_6.Bottom)), .t (.sc (.int .i64 r_6.Width)), .ref 9 2 [(0, 3)]]) rfl rfl (ltF rfl) rfl rfl rfl rfl rfl rfl rfl rfl ?_
      obtain ⟨r_7, hr_7, h⟩ := bind_some h
      refine dCall (gn := 14) (fn := Tryd.f14) (cp := []) (lt := [(8, [(0, 3)]), (9, [(0, 3)])]) [8, 35, 9, 36] (vc_iCommonInk n r_5 r_6 _ hr_7) Tryd.func14 rfl rfl rfl rfl (.inr ⟨(rC (eC rfl eN) (rC (eC rfl eN) rN)), rfl⟩) (.inl rfl) (fun st2 h2 => ⟨rfl, args_of0 (.cons (aA (ltF rfl) ((congrArg Slot.sv (h2 35 (by decide))).trans rfl) (.cons (.free rfl) (.cons (.free rfl) (.cons (.free rfl) (.cons (cA_ref (congrArg Slot.ver (h2 8 (by decide))) ((at_agree (h2 8 (by decide))).trans rfl) (wholes_map (fun _ => (wC rfl wN)) _) (shrs_map (fun _ => (sC rfl sN)) _) (by decide)) .nil))))) (.cons (aA (ltF rfl) ((congrArg Slot.sv (h2 36 (by decide))).trans rfl) (.cons (.free rfl) (.cons (.free rfl) (.cons (.free rfl) (.cons (cA_ref (congrArg Slot.ver (h2 9 (by decide))) ((at_agree (h2 9 (by decide))).trans rfl) (wholes_map (fun _ => (wC rfl wN)) _) (shrs_map (fun _ => (sC rfl sN)) _) (by decide)) .nil))))) .nil))⟩) rfl ?_
      refine dTkM (sv := .tup [(false, [.t (.sc (.int .i64 r_7.1))]), (false, [.t (.sc (.int .i64 r_7.2))])]) rfl rfl rfl (ltF rfl) rfl rfl rfl ?_
      refine dExt (ag := false) (ts := [.sc (.int .i64 r_7.1)]) rfl rfl (ltF rfl) rfl rfl rfl rfl ?_
      refine dExt (ag := false) (ts := [.sc (.int .i64 r_7.2)]) rfl rfl (ltF rfl) rfl rfl rfl rfl ?_
      refine dq (ps := [(10, pI .i64 r_7.1)]) rfl rfl rfl ?_
      refine dq (ps := [(11, pI .i64 r_7.2)]) rfl rfl rfl ?_
      refine DL_nil ?_
      refine W_fn (l := [(2, .box (cBitmap false a0)), (3, .box (cBitmap false a1)), (6, pI .i64 r_4.1), (7, pI .i64 r_4.2), (8, .box (cBitmap true r_5)), (9, .box (cBitmap true r_6)), (10, pI .i64 r_7.1), (11, pI .i64 r_7.2)]) (nC rfl (nC rfl (nC rfl (nC rfl (nC rfl (nC rfl (nC rfl (nC rfl nN)))))))) rfl ?_
      refine W_seq ?_
      refine W_seq ?_
      refine W_text ?_
      refine dq (ps := [(40, pI .i64 r_7.1)]) rfl rfl rfl ?_
      refine dq (ps := [(41, pI .i64 r_4.1)]) rfl rfl rfl ?_
      refine dq (ps := [(42, pB (r_7.1 != r_4.1))]) rfl rfl rfl ?_
      refine dq (ps := [(43, pB (r_7.1 != r_4.1))]) rfl rfl rfl ?_
      refine dS 43 rfl (fun hb => ?_) (fun hb => ?_)
      · replace h := ite_yes hb h
        refine dU rfl rfl rfl rfl ?_
        refine dU rfl rfl rfl rfl ?_
        refine dU rfl rfl rfl rfl ?_
        refine dq (ps := [(47, pB true)]) rfl rfl rfl ?_
        refine DL_nil ?_
        refine W_fn (l := [(2, .box (cBitmap false a0)), (3, .box (cBitmap false a1)), (8, .box (cBitmap true r_5)), (9, .box (cBitmap true r_6)), (47, pB true)]) (nC rfl (nC rfl (nC rfl (nC rfl (nC rfl nN))))) rfl ?_
        refine W_yes ⟨ltF rfl, rfl⟩ ?_
        refine W_seq ?_
        refine W_text ?_
        refine dq (ps := [(4, pB false)]) rfl rfl rfl ?_
        refine DL_nil ?_
        refine W_ret ?_
        cases h
        exact ⟨.inr rfl, leaves_of [.tmp 4] rfl (by decide) (.tmp (ltF rfl) rfl .nil)⟩
      · replace h := ite_no hb h
        refine dq (ps := [(44, pI .i64 r_7.2)]) rfl rfl rfl ?_
        refine dq (ps := [(45, pI .i64 r_4.2)]) rfl rfl rfl ?_
        refine dq (ps := [(46, pB (r_7.2 != r_4.2))]) rfl rfl rfl ?_
        refine dq (ps := [(47, pB (r_7.2 != r_4.2))]) rfl rfl rfl ?_
        refine DL_nil ?_
        refine W_fn (l := [(2, .box (cBitmap false a0)), (3, .box (cBitmap false a1)), (8, .box (cBitmap true r_5)), (9, .box (cBitmap true r_6)), (47, pB (r_7.2 != r_4.2))]) (nC rfl (nC rfl (nC rfl (nC rfl (nC rfl nN))))) rfl ?_
        refine W_split ⟨ltF rfl, rfl⟩ (fun hb => ?_) (fun hb => ?_)
        · replace h := ite_yes hb h
          refine W_seq ?_
          refine W_text ?_
          refine dq (ps := [(4, pB false)]) rfl rfl rfl ?_
          refine DL_nil ?_
          refine W_ret ?_
          cases h
          exact ⟨.inr rfl, leaves_of [.tmp 4] rfl (by decide) (.tmp (ltF rfl) rfl .nil)⟩
        · replace h := ite_no hb h
          refine W_skip ?_
          refine W_seq ?_
          refine W_seq ?_
          refine W_drawn rfl ?_
          refine dLdT (R' := [8]) (ag := true) (ts := (cBitmap true r_5)) rfl rfl rfl (ltF rfl) rfl rfl rfl rfl rfl rfl rfl rfl ?_
          refine dLdB (R' := [2]) (sv := .val true [.t (.sc (.int .i64 a0.Left)), .t (.sc (.int .i64 a0.Bottom)), .t (.sc (.int .i64 a0.Width)), .t (.sl false 1 (a0.Rows.map (cS false)))]) rfl rfl (ltF rfl) rfl rfl rfl rfl rfl rfl rfl rfl ?_
          obtain ⟨r_8, hr_8, h⟩ := bind_some h
          refine dCall (gn := 8) (fn := Tryd.f8) (cp := []) (lt := []) [49] (vc_ltoBitmap n a0 _ hr_8) Tryd.func8 rfl rfl rfl rfl (.inl rfl) (.inl rfl) (fun st2 h2 => ⟨rfl, args_of0 (.cons (aF (ltF rfl) ((congrArg Slot.sv (h2 49 (by decide))).trans rfl) rfl) .nil)⟩) rfl ?_
          obtain ⟨r_9, hr_9, h⟩ := bind_some h
          refine dCall (gn := 10) (fn := Tryd.f10) (cp := []) (lt := [(48, [(0, 3)]), (50, [(0, 3)])]) [48, 50] (vc_leqBitmap n r_5 r_8 _ hr_9) Tryd.func10 rfl rfl rfl rfl (.inr ⟨(rC (eC rfl eN) rN), rfl⟩) (.inl rfl) (fun st2 h2 => ⟨rfl, args_of0 (.cons (aA (ltF rfl) ((congrArg Slot.sv (h2 48 (by decide))).trans rfl) (.cons (.free rfl) (.cons (.free rfl) (.cons (.free rfl) (.cons (cA_own (wholes_map (fun _ => (wC rfl wN)) _) (shrs_map (fun _ => (sC rfl sN)) _) (by decide)) .nil))))) (.cons (aA (ltF rfl) ((congrArg Slot.sv (h2 50 (by decide))).trans rfl) (.cons (.free rfl) (.cons (.free rfl) (.cons (.free rfl) (.cons (cA_own (wholes_map (fun _ => (wC rfl wN)) _) (shrs_map (fun _ => (sC rfl sN)) _) (by decide)) .nil))))) .nil))⟩) rfl ?_
          refine dq (R' := [51]) (ps := [(52, pB (!r_9))]) rfl rfl rfl ?_
          refine DL_nil ⟨[([8], [8, 48]), ([2], [49]), ([49], [50]), ([48, 50], [51]), ([51], [52])], rfl, by decide +kernel, ?_⟩
          refine W_split ⟨ltF rfl, rfl⟩ (fun hb => ?_) (fun hb => ?_)
          · replace h := ite_yes hb h
            refine W_seq ?_
            refine W_text ?_
            refine dq (ps := [(4, pB false)]) rfl rfl rfl ?_
            refine DL_nil ?_
            refine W_ret ?_
            cases h
            exact ⟨.inr rfl, leaves_of [.tmp 4] rfl (by decide) (.tmp (ltF rfl) rfl .nil)⟩
          · replace h := ite_no hb h
            refine W_skip ?_
            refine W_seq ?_
            refine W_seq ?_
            refine W_drawn rfl ?_
            refine dLdT (R' := [9]) (ag := true) (ts := (cBitmap true r_6)) rfl rfl rfl (ltF rfl) rfl rfl rfl rfl rfl rfl rfl rfl ?_
            refine dLdB (R' := [3]) (sv := .val true [.t (.sc (.int .i64 a1.Left)), .t (.sc (.int .i64 a1.Bottom)), .t (.sc (.int .i64 a1.Width)), .t (.sl false 1 (a1.Rows.map (cS false)))]) rfl rfl (ltF rfl) rfl rfl rfl rfl rfl rfl rfl rfl ?_
            obtain ⟨r_10, hr_10, h⟩ := bind_some h
            refine dCall (gn := 8) (fn := Tryd.f8) (cp := []) (lt := []) [54] (vc_ltoBitmap n a1 _ hr_10) Tryd.func8 rfl rfl rfl rfl (.inl rfl) (.inl rfl) (fun st2 h2 => ⟨rfl, args_of0 (.cons (aF (ltF rfl) ((congrArg Slot.sv (h2 54 (by decide))).trans rfl) rfl) .nil)⟩) rfl ?_
            obtain ⟨r_11, hr_11, h⟩ := bind_some h
            refine dCall (gn := 10) (fn := Tryd.f10) (cp := []) (lt := [(53, [(0, 3)]), (55, [(0, 3)])]) [53, 55] (vc_leqBitmap n r_6 r_10 _ hr_11) Tryd.func10 rfl rfl rfl rfl (.inr ⟨(rC (eC rfl eN) rN), rfl⟩) (.inl rfl) (fun st2 h2 => ⟨rfl, args_of0 (.cons (aA (ltF rfl) ((congrArg Slot.sv (h2 53 (by decide))).trans rfl) (.cons (.free rfl) (.cons (.free rfl) (.cons (.free rfl) (.cons (cA_own (wholes_map (fun _ => (wC rfl wN)) _) (shrs_map (fun _ => (sC rfl sN)) _) (by decide)) .nil))))) (.cons (aA (ltF rfl) ((congrArg Slot.sv (h2 55 (by decide))).trans rfl) (.cons (.free rfl) (.cons (.free rfl) (.cons (.free rfl) (.cons (cA_own (wholes_map (fun _ => (wC rfl wN)) _) (shrs_map (fun _ => (sC rfl sN)) _) (by decide)) .nil))))) .nil))⟩) rfl ?_
            refine dq (R' := [56]) (ps := [(57, pB (!r_11))]) rfl rfl rfl ?_
            refine DL_nil ⟨[([9], [9, 53]), ([3], [54]), ([54], [55]), ([53, 55], [56]), ([56], [57])], rfl, by decide +kernel, ?_⟩
            refine W_split ⟨ltF rfl, rfl⟩ (fun hb => ?_) (fun hb => ?_)
            · replace h := ite_yes hb h
              refine W_seq ?_
              refine W_text ?_
              refine dq (ps := [(4, pB false)]) rfl rfl rfl ?_
              refine DL_nil ?_
              refine W_ret ?_
              cases h
              exact ⟨.inr rfl, leaves_of [.tmp 4] rfl (by decide) (.tmp (ltF rfl) rfl .nil)⟩
            · replace h := ite_no hb h
              refine W_skip ?_
              refine W_seq ?_
              refine W_text ?_
              refine dq (ps := [(4, pB true)]) rfl rfl rfl ?_
              refine DL_nil ?_
              refine W_ret ?_
              cases h
              exact ⟨.inr rfl, leaves_of [.tmp 4] rfl (by decide) (.tmp (ltF rfl) rfl .nil)⟩

end Go.V
