/- The typed functions and their contracts. Conditions: none. -/
import Derived.Test.YtdligmjpeclkcaaDoorVh
import Derived.Test.YtdligmjpeclkcaaDoorProg
import Derived.Test.YtdligmjpeclkcaaDoorS
import Derived.Shelf.Strings.SlTrimAscii
import Derived.Test.YtdligmjpeclkcaaDoorGa
set_option maxRecDepth 100000
set_option linter.unusedVariables false
set_option maxHeartbeats 1000000
namespace Go.V
open Go Go.RowKit Go.Proofs
-- leqStringS: loop.example/g00883/laws.eqStringS
def leqStringS_L0 : Nat → (List ByteArray) → (List ByteArray) → Int → Option (Out (Unit) (Bool))
  | 0, _, _, _ => none
  | n + 1, a0, a1, v5 => (if (decide (v5 < (a0.length : Int))) = true then ((getI a0 v5).bind fun x => ((getI a1 v5).bind fun x_1 => (if (!(sEq x x_1)) = true then some (.ret false) else leqStringS_L0 n a0 a1 (w64 (v5 + 1))))) else some (.go ()))

theorem leqStringS_L0_ok {G0 : Nat → Own} {w0 : World} {Q : Exit → St → Prop} {a0 : List ByteArray} {a1 : List ByteArray} {out : (Out (Unit) (Bool))}
    (hQ : match out with | .go _ => ∀ st, FN st [] → Q (.exit 0) st | .brk _ _ => True | .ret r => ∀ st, Fits st [(4, .val false ((cB true r).map .t))] → Q .ret st)
    {n : Nat} {v5 : Int} (h : leqStringS_L0 n a0 a1 v5 = some out) :
    ∀ st, FN st [(0, .val false [.t (.sl false 1 (a0.map (cS false)))]), (1, .val false [.t (.sl false 1 (a1.map (cS false)))]), (5, pI .i64 v5)] → W ⟨Tryd.prog, 26, [], G0, w0⟩ (.loop (bodyAt Tryd.f34 [1, 1, 0, 1, 0, 0])) st Q := by
  intro st hst
  refine W_loop (fun n st => ∃ v5, leqStringS_L0 n a0 a1 v5 = some out ∧ FN st [(0, .val false [.t (.sl false 1 (a0.map (cS false)))]), (1, .val false [.t (.sl false 1 (a1.map (cS false)))]), (5, pI .i64 v5)]) ?_ (n := n) ⟨v5, h, hst⟩
  clear h hst st n v5
  rintro n st ⟨v5, h, hst⟩
  refine W_fn hst rfl ?_
  cases n with
  | zero => cases h
  | succ n =>
    rw [leqStringS_L0] at h
    refine W_seq ?_
    refine W_seq ?_
    refine W_text ?_
    refine dq (ps := [(11, pI .i64 v5)]) rfl rfl rfl ?_
    refine dq (ps := [(12, .val false [.t (.sl false 1 (a0.map (cS false)))])]) rfl rfl rfl ?_
    refine dLen (t := 22) (n := (a0.length : Int)) rfl (ltF rfl) rfl rfl (lenE rfl (List.length_map ..)) rfl ?_
    refine dq (ps := [(14, pB (decide (v5 < (a0.length : Int))))]) rfl rfl rfl ?_
    refine DL_nil ?_
    refine W_split ⟨ltF rfl, rfl⟩ (fun hb => ?_) (fun hb => ?_)
    · replace h := ite_yes hb h
      refine W_skip ?_
      refine W_seq ?_
      refine W_block ?_
      refine W_seq ?_
      refine W_drawn rfl ?_
      refine dq (R' := [0]) (ps := [(17, .val false [.t (.sl false 1 (a0.map (cS false)))])]) rfl rfl rfl ?_
      refine dq (R' := [5]) (ps := [(18, pI .i64 v5)]) rfl rfl rfl ?_
      obtain ⟨x, hx, h⟩ := bind_some h
      refine dIxA (R' := [17, 18]) rfl rfl rfl rfl rfl (getI_map (cS false) hx) rfl ?_
      refine dq (R' := [19]) (ps := [(20, pS x)]) rfl rfl rfl ?_
      refine dq (R' := [1]) (ps := [(21, .val false [.t (.sl false 1 (a1.map (cS false)))])]) rfl rfl rfl ?_
      refine dq (R' := [5]) (ps := [(22, pI .i64 v5)]) rfl rfl rfl ?_
      obtain ⟨x_1, hx_1, h⟩ := bind_some h
      refine dIxA (R' := [21, 22]) rfl rfl rfl rfl rfl (getI_map (cS false) hx_1) rfl ?_
      refine dq (R' := [23]) (ps := [(24, pS x_1)]) rfl rfl rfl ?_
      refine dq (R' := [20, 24]) (ps := [(25, pB (!(sEq x x_1)))]) rfl rfl rfl ?_
      refine DL_nil ⟨[([0], [17]), ([5], [18]), ([17, 18], [19]), ([19], [20]), ([1], [21]), ([5], [22]), ([21, 22], [23]), ([23], [24]), ([20, 24], [25])], rfl, by decide +kernel, ?_⟩
      refine W_fn (l := [(0, .val false [.t (.sl false 1 (a0.map (cS false)))]), (1, .val false [.t (.sl false 1 (a1.map (cS false)))]), (5, pI .i64 v5), (25, pB (!(sEq x x_1)))]) (nC rfl (nC rfl (nC rfl (nC rfl nN)))) rfl ?_
      refine W_split ⟨ltF rfl, rfl⟩ (fun hb => ?_) (fun hb => ?_)
      · replace h := ite_yes hb h
        refine W_seq ?_
        refine W_text ?_
        refine dq (ps := [(4, pB false)]) rfl rfl rfl ?_
        refine DL_nil ?_
        refine W_ret ?_
        cases h
        exact hQ _ (fC rfl rfl fN)
      · replace h := ite_no hb h
        refine W_skip ?_
        refine W_text ?_
        refine dq (ps := [(15, pI .i64 v5)]) rfl rfl rfl ?_
        refine dq (ps := [(16, pI .i64 (w64 (v5 + 1)))]) rfl rfl rfl ?_
        refine dq (ps := [(5, pI .i64 (w64 (v5 + 1)))]) rfl rfl rfl ?_
        refine DL_nil ?_
        exact ⟨n, Nat.lt_succ_self n, _,  h, (nC rfl (nC rfl (nC rfl nN)))⟩
    · replace h := ite_no hb h
      refine W_exit ?_
      cases h
      exact hQ _ nN

def leqStringS (n : Nat) (a0 : List ByteArray) (a1 : List ByteArray) : Option (Bool) :=
  (if ((a0.length : Int) != (a1.length : Int)) = true then some false else ((leqStringS_L0 n a0 a1 0).bind fun o => (match o with | .go _ => some true | .brk _ _ => none | .ret r => some r)))

theorem vc_leqStringS (n : Nat) (a0 : List ByteArray) (a1 : List ByteArray) (r : Bool) (h : leqStringS n a0 a1 = some r) : VC Tryd.prog 34 [.sh false (cLStr false a0), .sh false (cLStr false a1)] [(false, cB true r)] [] := by
  refine VC_of 26 Tryd.func34 rfl rfl rfl fun G0 w0 pv => ?_
  unfold leqStringS at h
  refine W_seq ?_
  refine W_text ?_
  refine dq (ps := [(4, pB false)]) rfl rfl rfl ?_
  refine DL_nil ?_
  refine W_seq ?_
  refine W_seq ?_
  refine W_text ?_
  refine dq (ps := [(6, .val false [.t (.sl false 1 (a0.map (cS false)))])]) rfl rfl rfl ?_
  refine dLen (t := 22) (n := (a0.length : Int)) rfl (ltF rfl) rfl rfl (lenE rfl (List.length_map ..)) rfl ?_
  refine dq (ps := [(8, .val false [.t (.sl false 1 (a1.map (cS false)))])]) rfl rfl rfl ?_
  refine dLen (t := 22) (n := (a1.length : Int)) rfl (ltF rfl) rfl rfl (lenE rfl (List.length_map ..)) rfl ?_
  refine dq (ps := [(10, pB ((a0.length : Int) != (a1.length : Int)))]) rfl rfl rfl ?_
  refine DL_nil ?_
  refine W_split ⟨ltF rfl, rfl⟩ (fun hb => ?_) (fun hb => ?_)
  · replace h := ite_yes hb h
    refine W_seq ?_
    refine W_text ?_
    refine dq (ps := [(4, pB false)]) rfl rfl rfl ?_
    refine DL_nil ?_
    refine W_ret ?_
    cases h
    exact ⟨.inr rfl, leaves_of [.tmp 4] rfl (by decide) (.tmp (ltF rfl) rfl .nil)⟩
  · replace h := ite_no hb h
    refine W_skip ?_
    refine W_seq ?_
    refine W_seq ?_
    refine W_text ?_
    refine dq (ps := [(5, pI .i64 0)]) rfl rfl rfl ?_
    refine DL_nil ?_
    refine W_block ?_
    obtain ⟨o, ho, h⟩ := bind_some h
    refine leqStringS_L0_ok ?_ ho _ (nC rfl (nC rfl (nC rfl nN)))
    rcases o with p | ⟨j, p⟩ | r
    · skip
      dsimp only at h ⊢
      intro st hst
      refine W_fn hst rfl ?_
      refine W_seq ?_
      refine W_text ?_
      refine dq (ps := [(4, pB true)]) rfl rfl rfl ?_
      refine DL_nil ?_
      refine W_ret ?_
      cases h
      exact ⟨.inr rfl, leaves_of [.tmp 4] rfl (by decide) (.tmp (ltF rfl) rfl .nil)⟩
    · exact trivial
    · dsimp only at h ⊢
      intro st hst
      cases h
      exact ⟨.inr rfl, leaves_of [.tmp 4] rfl (by decide) (.tmp (ltF rfl) (hst.at (s := 4) rfl rfl) .nil)⟩

-- leqBitmap: loop.example/g00883/laws.eqBitmap
def leqBitmap (n : Nat) (a0 : SBitmap) (a1 : SBitmap) : Option (Bool) :=
  (if (a0.Left != a1.Left) = true then some false else (if (a0.Bottom != a1.Bottom) = true then some false else (if (a0.Width != a1.Width) = true then some false else ((leqStringS n a0.Rows a1.Rows).bind fun r => (if (!r) = true then some false else some true)))))

theorem vc_leqBitmap (n : Nat) (a0 : SBitmap) (a1 : SBitmap) (r : Bool) (h : leqBitmap n a0 a1 = some r) : VC Tryd.prog 10 [.sh true (cBitmap false a0), .sh true (cBitmap false a1)] [(false, cB true r)] [] := by
  refine VC_of 26 Tryd.func10 rfl rfl rfl fun G0 w0 pv => ?_
  unfold leqBitmap at h
  refine W_seq ?_
  refine W_text ?_
  refine dBox (ts := (cBitmap false a0)) rfl rfl rfl rfl rfl ?_
  refine dBox (ts := (cBitmap false a1)) rfl rfl rfl rfl rfl ?_
  refine dq (ps := [(4, pB false)]) rfl rfl rfl ?_
  refine DL_nil ?_
  refine W_seq ?_
  refine W_seq ?_
  refine W_text ?_
  refine dFaB rfl rfl (ltF rfl) rfl rfl rfl rfl rfl rfl ?_
  refine dq (ps := [(6, pI .i64 a0.Left)]) rfl rfl rfl ?_
  refine dFaB rfl rfl (ltF rfl) rfl rfl rfl rfl rfl rfl ?_
  refine dq (ps := [(8, pI .i64 a1.Left)]) rfl rfl rfl ?_
  refine dq (ps := [(9, pB (a0.Left != a1.Left))]) rfl rfl rfl ?_
  refine DL_nil ?_
  refine W_split ⟨ltF rfl, rfl⟩ (fun hb => ?_) (fun hb => ?_)
  · replace h := ite_yes hb h
    refine W_seq ?_
    refine W_text ?_
    refine dq (ps := [(4, pB false)]) rfl rfl rfl ?_
    refine DL_nil ?_
    refine W_ret ?_
    cases h
    exact ⟨.inr rfl, leaves_of [.tmp 4] rfl (by decide) (.tmp (ltF rfl) rfl .nil)⟩
  · replace h := ite_no hb h
    refine W_skip ?_
    refine W_seq ?_
    refine W_seq ?_
    refine W_text ?_
    refine dFaB rfl rfl (ltF rfl) rfl rfl rfl rfl rfl rfl ?_
    refine dq (ps := [(11, pI .i64 a0.Bottom)]) rfl rfl rfl ?_
    refine dFaB rfl rfl (ltF rfl) rfl rfl rfl rfl rfl rfl ?_
    refine dq (ps := [(13, pI .i64 a1.Bottom)]) rfl rfl rfl ?_
    refine dq (ps := [(14, pB (a0.Bottom != a1.Bottom))]) rfl rfl rfl ?_
    refine DL_nil ?_
    refine W_split ⟨ltF rfl, rfl⟩ (fun hb => ?_) (fun hb => ?_)
    · replace h := ite_yes hb h
      refine W_seq ?_
      refine W_text ?_
      refine dq (ps := [(4, pB false)]) rfl rfl rfl ?_
      refine DL_nil ?_
      refine W_ret ?_
      cases h
      exact ⟨.inr rfl, leaves_of [.tmp 4] rfl (by decide) (.tmp (ltF rfl) rfl .nil)⟩
    · replace h := ite_no hb h
      refine W_skip ?_
      refine W_seq ?_
      refine W_seq ?_
      refine W_text ?_
      refine dFaB rfl rfl (ltF rfl) rfl rfl rfl rfl rfl rfl ?_
      refine dq (ps := [(16, pI .i64 a0.Width)]) rfl rfl rfl ?_
      refine dFaB rfl rfl (ltF rfl) rfl rfl rfl rfl rfl rfl ?_
      refine dq (ps := [(18, pI .i64 a1.Width)]) rfl rfl rfl ?_
      refine dq (ps := [(19, pB (a0.Width != a1.Width))]) rfl rfl rfl ?_
      refine DL_nil ?_
      refine W_split ⟨ltF rfl, rfl⟩ (fun hb => ?_) (fun hb => ?_)
      · replace h := ite_yes hb h
        refine W_seq ?_
        refine W_text ?_
        refine dq (ps := [(4, pB false)]) rfl rfl rfl ?_
        refine DL_nil ?_
        refine W_ret ?_
        cases h
        exact ⟨.inr rfl, leaves_of [.tmp 4] rfl (by decide) (.tmp (ltF rfl) rfl .nil)⟩
      · replace h := ite_no hb h
        refine W_skip ?_
        refine W_seq ?_
        refine W_seq ?_
        refine W_text ?_
        refine dFaB rfl rfl (ltF rfl) rfl rfl rfl rfl rfl rfl ?_
        refine dq (ps := [(21, .val false [.t (.sl false 1 (a0.Rows.map (cS false)))])]) rfl rfl rfl ?_
        refine dFaB rfl rfl (ltF rfl) rfl rfl rfl rfl rfl rfl ?_
        refine dq (ps := [(23, .val false [.t (.sl false 1 (a1.Rows.map (cS false)))])]) rfl rfl rfl ?_
        obtain ⟨r, hr, h⟩ := bind_some h
        refine dCall (gn := 34) (fn := Tryd.f34) (cp := []) (lt := []) [21, 23] (vc_leqStringS n a0.Rows a1.Rows _ hr) Tryd.func34 rfl rfl rfl rfl (.inl rfl) (.inl rfl) (fun st2 h2 => ⟨rfl, args_of0 (.cons (aF (ltF rfl) ((congrArg Slot.sv (h2 21 (by decide))).trans rfl) rfl) (.cons (aF (ltF rfl) ((congrArg Slot.sv (h2 23 (by decide))).trans rfl) rfl) .nil))⟩) rfl ?_
        refine dq (ps := [(25, pB (!r))]) rfl rfl rfl ?_
        refine DL_nil ?_
        refine W_fn (l := [(25, pB (!r))]) (nC rfl nN) rfl ?_
        refine W_split ⟨ltF rfl, rfl⟩ (fun hb => ?_) (fun hb => ?_)
        · replace h := ite_yes hb h
          refine W_seq ?_
          refine W_text ?_
          refine dq (ps := [(4, pB false)]) rfl rfl rfl ?_
          refine DL_nil ?_
          refine W_ret ?_
          cases h
          exact ⟨.inr rfl, leaves_of [.tmp 4] rfl (by decide) (.tmp (ltF rfl) rfl .nil)⟩
        · replace h := ite_no hb h
          refine W_skip ?_
          refine W_seq ?_
          refine W_text ?_
          refine dq (ps := [(4, pB true)]) rfl rfl rfl ?_
          refine DL_nil ?_
          refine W_ret ?_
          cases h
          exact ⟨.inr rfl, leaves_of [.tmp 4] rfl (by decide) (.tmp (ltF rfl) rfl .nil)⟩

-- lmarkText: loop.example/g00883/laws.markText
def lmarkText_L0 : Nat → Int → ByteArray → Option (Out (ByteArray) (ByteArray))
  | 0, _, _ => none
  | n + 1, v0, v3 => (if (decide (v0 > 0)) = true then (if (strOf ([IntKind.u8.wrap (w64 (48 + (v0.tmod 10)))])).size + v3.size ≤ 9223372036854775807 then lmarkText_L0 n (w64 (v0.tdiv 10)) ((strOf ([IntKind.u8.wrap (w64 (48 + (v0.tmod 10)))])) ++ v3) else none) else some (.go v3))

theorem lmarkText_L0_ok {G0 : Nat → Own} {w0 : World} {Q : Exit → St → Prop}  {out : (Out (ByteArray) (ByteArray))}
    (hQ : match out with | .go q3 => ∀ st, FN st [(3, pS q3)] → Q (.exit 0) st | .brk _ _ => True | .ret r => ∀ st, Fits st [(2, .val false ((cS true r).map .t))] → Q .ret st)
    {n : Nat} {v0 : Int} {v3 : ByteArray} (h : lmarkText_L0 n v0 v3 = some out) :
    ∀ st, FN st [(0, pI .i64 v0), (3, pS v3)] → W ⟨Tryd.prog, 20, [], G0, w0⟩ (.loop (bodyAt Tryd.f65 [1, 1, 1, 0, 0, 0])) st Q := by
  intro st hst
  refine W_loop (fun n st => ∃ v0 v3, lmarkText_L0 n v0 v3 = some out ∧ FN st [(0, pI .i64 v0), (3, pS v3)]) ?_ (n := n) ⟨v0, v3, h, hst⟩
  clear h hst st n v0 v3
  rintro n st ⟨v0, v3, h, hst⟩
  refine W_fn hst rfl ?_
  cases n with
  | zero => cases h
  | succ n =>
    rw [lmarkText_L0] at h
    refine W_seq ?_
    refine W_seq ?_
    refine W_text ?_
    refine dq (ps := [(6, pI .i64 v0)]) rfl rfl rfl ?_
    refine dq (ps := [(7, pB (decide (v0 > 0)))]) rfl rfl rfl ?_
    refine DL_nil ?_
    refine W_split ⟨ltF rfl, rfl⟩ (fun hb => ?_) (fun hb => ?_)
    · replace h := ite_yes hb h
      refine W_skip ?_
      refine W_block ?_
      refine W_seq ?_
      refine W_text ?_
      refine dq (ps := [(8, pI .i64 v0)]) rfl rfl rfl ?_
      refine dx (ps := [(9, pI .i64 (v0.tmod 10))]) rfl rfl rfl ?_
      refine dq (ps := [(10, pI .i64 (w64 (48 + (v0.tmod 10))))]) rfl rfl rfl ?_
      refine dx (ps := [(11, pI .u8 (IntKind.u8.wrap (w64 (48 + (v0.tmod 10)))))]) rfl rfl rfl ?_
      refine dBS (zs := [.sc (.int .u8 0)]) (ts := [.sc (.int .u8 (IntKind.u8.wrap (w64 (48 + (v0.tmod 10)))))]) (els := (([IntKind.u8.wrap (w64 (48 + (v0.tmod 10)))]).map ((cI .u8) true))) (qs := [(0, [.sc (.int .u8 (IntKind.u8.wrap (w64 (48 + (v0.tmod 10)))))])]) [11] rfl rfl rfl (zeros_of _ rfl ⟨z1 rfl, trivial⟩) rfl rfl rfl rfl rfl (fun st2 h2 => (.cons rfl (⟨ltF rfl, (congrArg Slot.sv (h2 11 (by decide))).trans rfl⟩) rfl .nil)) rfl ?_
      refine dByt (ns := [IntKind.u8.wrap (w64 (48 + (v0.tmod 10)))]) rfl rfl (ltF rfl) rfl rfl rfl rfl rfl ?_
      refine dq (ps := [(14, pS v3)]) rfl rfl rfl ?_
      obtain ⟨hp, h⟩ := ite_some h
      refine dCat rfl rfl rfl rfl hp rfl ?_
      refine dq (ps := [(3, pS ((strOf ([IntKind.u8.wrap (w64 (48 + (v0.tmod 10)))])) ++ v3))]) rfl rfl rfl ?_
      refine DL_nil ?_
      refine W_fn (l := [(0, pI .i64 v0), (3, pS ((strOf ([IntKind.u8.wrap (w64 (48 + (v0.tmod 10)))])) ++ v3))]) (nC rfl (nC rfl nN)) rfl ?_
      refine W_text ?_
      refine dq (ps := [(16, pI .i64 v0)]) rfl rfl rfl ?_
      refine dx (ps := [(17, pI .i64 (w64 (v0.tdiv 10)))]) rfl rfl rfl ?_
      refine dq (ps := [(0, pI .i64 (w64 (v0.tdiv 10)))]) rfl rfl rfl ?_
      refine DL_nil ?_
      exact ⟨n, Nat.lt_succ_self n, _, _,  h, (nC rfl (nC rfl nN))⟩
    · replace h := ite_no hb h
      refine W_exit ?_
      cases h
      exact hQ _ (nC rfl nN)

def lmarkText (n : Nat) (a0 : Int) : Option (ByteArray) :=
  (if (decide (a0 ≤ 0)) = true then some (ByteArray.mk #[109, 48]) else ((lmarkText_L0 n a0 (ByteArray.mk #[])).bind fun o => (match o with | .go q3_1 => (if (ByteArray.mk #[109]).size + q3_1.size ≤ 9223372036854775807 then some ((ByteArray.mk #[109]) ++ q3_1) else none) | .brk _ _ => none | .ret r => some r)))

theorem vc_lmarkText (n : Nat) (a0 : Int) (r : ByteArray) (h : lmarkText n a0 = some r) : VC Tryd.prog 65 [.sh false ((cI .i64) false a0)] [(false, cS true r)] [] := by
  refine VC_of 20 Tryd.func65 rfl rfl rfl fun G0 w0 pv => ?_
  unfold lmarkText at h
  refine W_seq ?_
  refine W_text ?_
  refine dq (ps := [(2, pS (ByteArray.mk #[]))]) rfl rfl rfl ?_
  refine DL_nil ?_
  refine W_seq ?_
  refine W_seq ?_
  refine W_text ?_
  refine dq (ps := [(4, pI .i64 a0)]) rfl rfl rfl ?_
  refine dq (ps := [(5, pB (decide (a0 ≤ 0)))]) rfl rfl rfl ?_
  refine DL_nil ?_
  refine W_split ⟨ltF rfl, rfl⟩ (fun hb => ?_) (fun hb => ?_)
  · replace h := ite_yes hb h
    refine W_seq ?_
    refine W_text ?_
    refine dq (ps := [(2, pS (ByteArray.mk #[109, 48]))]) rfl rfl rfl ?_
    refine DL_nil ?_
    refine W_ret ?_
    cases h
    exact ⟨.inr rfl, leaves_of [.tmp 2] rfl (by decide) (.tmp (ltF rfl) rfl .nil)⟩
  · replace h := ite_no hb h
    refine W_skip ?_
    refine W_seq ?_
    refine W_text ?_
    refine dq (ps := [(3, pS (ByteArray.mk #[]))]) rfl rfl rfl ?_
    refine DL_nil ?_
    refine W_seq ?_
    refine W_block ?_
    obtain ⟨o, ho, h⟩ := bind_some h
    refine lmarkText_L0_ok ?_ ho _ (nC rfl (nC rfl nN))
    rcases o with q3_1 | ⟨j, p⟩ | r
    · skip
      dsimp only at h ⊢
      intro st hst
      refine W_fn hst rfl ?_
      refine W_seq ?_
      refine W_text ?_
      refine dq (ps := [(18, pS q3_1)]) rfl rfl rfl ?_
      obtain ⟨hp, h⟩ := ite_some h
      refine dCat rfl rfl rfl rfl hp rfl ?_
      refine dq (ps := [(2, pS ((ByteArray.mk #[109]) ++ q3_1))]) rfl rfl rfl ?_
      refine DL_nil ?_
      refine W_ret ?_
      cases h
      exact ⟨.inr rfl, leaves_of [.tmp 2] rfl (by decide) (.tmp (ltF rfl) rfl .nil)⟩
    · exact trivial
    · dsimp only at h ⊢
      intro st hst
      cases h
      exact ⟨.inr rfl, leaves_of [.tmp 2] rfl (by decide) (.tmp (ltF rfl) (hst.at (s := 2) rfl rfl) .nil)⟩

-- lmarkStringS: loop.example/g00883/laws.markStringS
def lmarkStringS_L0 : Nat → (List ByteArray) → Int → Int → Option (Out (List ByteArray × Int) (Int × List ByteArray))
  | 0, _, _, _ => none
  | n + 1, v0, v1, v5 => (if (decide (v5 < (v0.length : Int))) = true then ((lmarkText n v1).bind fun r => ((getI v0 v5).bind fun x => lmarkStringS_L0 n (v0.set v5.toNat r) (w64 (v1 + 1)) (w64 (v5 + 1)))) else some (.go (v0, v1)))

theorem lmarkStringS_L0_ok {G0 : Nat → Own} {w0 : World} {Q : Exit → St → Prop} {pv : Nat → Value}  {out : (Out (List ByteArray × Int) (Int × List ByteArray))}
    (hQ : match out with | .go (q0, q1) => ∀ st, FN st [(0, .val false [.t (.sl true 1 (q0.map (cS true)))]), (1, pI .i64 q1)] → Q (.exit 0) st | .brk _ _ => True | .ret r => ∀ st, Fits st [(4, .val false (((cI .i64) true r.1).map .t)), (0, argSV (.mv false (cLStr true r.2)))] → Q .ret st)
    {n : Nat} {v0 : List ByteArray} {v1 : Int} {v5 : Int} (h : lmarkStringS_L0 n v0 v1 v5 = some out) :
    ∀ st, FN st [(0, .val false [.t (.sl true 1 (v0.map (cS true)))]), (1, pI .i64 v1), (5, pI .i64 v5)] → W ⟨Tryd.prog, 20, [(0, pv 0)], G0, w0⟩ (.loop (bodyAt Tryd.f35 [1, 0, 1, 0, 0])) st Q := by
  intro st hst
  refine W_loop (fun n st => ∃ v0 v1 v5, lmarkStringS_L0 n v0 v1 v5 = some out ∧ FN st [(0, .val false [.t (.sl true 1 (v0.map (cS true)))]), (1, pI .i64 v1), (5, pI .i64 v5)]) ?_ (n := n) ⟨v0, v1, v5, h, hst⟩
  clear h hst st n v0 v1 v5
  rintro n st ⟨v0, v1, v5, h, hst⟩
  refine W_fn hst rfl ?_
  cases n with
  | zero => cases h
  | succ n =>
    rw [lmarkStringS_L0] at h
    refine W_seq ?_
    refine W_seq ?_
    refine W_text ?_
    refine dq (ps := [(6, pI .i64 v5)]) rfl rfl rfl ?_
    refine dq (ps := [(7, .val false [.ref 0 0 [(0, 0)]])]) rfl rfl rfl ?_
    refine dLen (t := 22) (n := (v0.length : Int)) rfl (ltF rfl) rfl rfl (lenE rfl (List.length_map ..)) rfl ?_
    refine dq (ps := [(9, pB (decide (v5 < (v0.length : Int))))]) rfl rfl rfl ?_
    refine DL_nil ?_
    refine W_split ⟨ltF rfl, rfl⟩ (fun hb => ?_) (fun hb => ?_)
    · replace h := ite_yes hb h
      refine W_skip ?_
      refine W_seq ?_
      refine W_block ?_
      refine W_seq ?_
      refine W_text ?_
      refine dq (ps := [(12, .val false [.ref 0 0 [(0, 0)]])]) rfl rfl rfl ?_
      refine dq (ps := [(13, pI .i64 v5)]) rfl rfl rfl ?_
      refine dq (ps := [(14, pI .i64 v1)]) rfl rfl rfl ?_
      obtain ⟨r, hr, h⟩ := bind_some h
      refine dCall (gn := 65) (fn := Tryd.f65) (cp := []) (lt := []) [14] (vc_lmarkText n v1 _ hr) Tryd.func65 rfl rfl rfl rfl (.inl rfl) (.inl rfl) (fun st2 h2 => ⟨rfl, args_of0 (.cons (aF (ltF rfl) ((congrArg Slot.sv (h2 14 (by decide))).trans rfl) rfl) .nil)⟩) rfl ?_
      obtain ⟨x, hx, h⟩ := bind_some h
      refine dIxO (v := 0) rfl rfl (ltF rfl) rfl rfl rfl (getI_lt (cS true) hx) rfl rfl rfl rfl rfl ?_
      refine dStO (ag := false) (ts := [.sc (.string r)]) (sv := .val false [.t (.sl true 1 ((v0.set v5.toNat r).map (cS true)))]) [16, 0, 15] rfl (ltF rfl) (by decide) (by decide) rfl rfl rfl (getI_row (cS true) hx) rfl rfl rfl (fun st2 h2 => ⟨ltF rfl, (congrArg Slot.sv (h2 15 (by decide))).trans rfl⟩) (fun st2 h => by rw [List.map_set]; unfold St.setAt; rw [h]; rfl) rfl ?_
      refine DL_nil ?_
      refine W_fn (l := [(0, .val false [.t (.sl true 1 ((v0.set v5.toNat r).map (cS true)))]), (1, pI .i64 v1), (5, pI .i64 v5)]) (nC rfl (nC rfl (nC rfl nN))) rfl ?_
      refine W_text ?_
      refine dq (ps := [(17, pI .i64 v1)]) rfl rfl rfl ?_
      refine dq (ps := [(18, pI .i64 (w64 (v1 + 1)))]) rfl rfl rfl ?_
      refine dq (ps := [(1, pI .i64 (w64 (v1 + 1)))]) rfl rfl rfl ?_
      refine DL_nil ?_
      refine W_text ?_
      refine dq (ps := [(10, pI .i64 v5)]) rfl rfl rfl ?_
      refine dq (ps := [(11, pI .i64 (w64 (v5 + 1)))]) rfl rfl rfl ?_
      refine dq (ps := [(5, pI .i64 (w64 (v5 + 1)))]) rfl rfl rfl ?_
      refine DL_nil ?_
      exact ⟨n, Nat.lt_succ_self n, _, _, _,  h, (nC rfl (nC rfl (nC rfl nN)))⟩
    · replace h := ite_no hb h
      refine W_exit ?_
      cases h
      exact hQ _ (nC rfl (nC rfl nN))

def lmarkStringS (n : Nat) (a0 : List ByteArray) (a1 : Int) : Option (Int × List ByteArray) :=
  ((lmarkStringS_L0 n a0 a1 0).bind fun o => (match o with | .go (q0_1, q1_1) => some (q1_1, q0_1) | .brk _ _ => none | .ret r => some r))

theorem vc_lmarkStringS (n : Nat) (a0 : List ByteArray) (a1 : Int) (r : Int × List ByteArray) (h : lmarkStringS n a0 a1 = some r) : VC Tryd.prog 35 [.mv false (cLStr true a0), .sh false ((cI .i64) false a1)] [(false, (cI .i64) true r.1)] [some (.mv false (cLStr true r.2))] := by
  refine VC_of 20 Tryd.func35 rfl rfl rfl fun G0 w0 pv => ?_
  unfold lmarkStringS at h
  refine W_seq ?_
  refine W_text ?_
  refine dq (ps := [(4, pI .i64 0)]) rfl rfl rfl ?_
  refine DL_nil ?_
  refine W_seq ?_
  refine W_seq ?_
  refine W_text ?_
  refine dq (ps := [(5, pI .i64 0)]) rfl rfl rfl ?_
  refine DL_nil ?_
  refine W_block ?_
  obtain ⟨o, ho, h⟩ := bind_some h
  refine lmarkStringS_L0_ok ?_ ho _ (nC rfl (nC rfl (nC rfl nN)))
  rcases o with p | ⟨j, p⟩ | r
  · obtain ⟨q0_1, q1_1⟩ := p
    dsimp only at h ⊢
    intro st hst
    refine W_fn hst rfl ?_
    refine W_seq ?_
    refine W_text ?_
    refine dq (ps := [(19, pI .i64 q1_1)]) rfl rfl rfl ?_
    refine dq (ps := [(4, pI .i64 q1_1)]) rfl rfl rfl ?_
    refine DL_nil ?_
    refine W_ret ?_
    cases h
    exact ⟨.inr rfl, leavesF [.tmp 4] rfl (by decide) (.tmp (ltF rfl) rfl .nil) (.some rfl rfl rfl rfl (by decide) .nil)⟩
  · exact trivial
  · dsimp only at h ⊢
    intro st hst
    cases h
    exact ⟨.inr rfl, leavesF [.tmp 4] rfl (by decide) (.tmp (ltF rfl) (hst.at (s := 4) rfl rfl) .nil) (.some (hst.at (s := 0) rfl rfl) rfl rfl rfl (by decide) .nil)⟩

-- lmarkBitmap: loop.example/g00883/laws.markBitmap
def lmarkBitmap (n : Nat) (a0 : SBitmap) (a1 : Int) : Option (Int × SBitmap) :=
  ((lmarkStringS n a0.Rows a1).bind fun r => some (r.1, (SBitmap.mk a0.Left a0.Bottom a0.Width r.2)))

theorem vc_lmarkBitmap (n : Nat) (a0 : SBitmap) (a1 : Int) (r : Int × SBitmap) (h : lmarkBitmap n a0 a1 = some r) : VC Tryd.prog 11 [.mv true (cBitmap true a0), .sh false ((cI .i64) false a1)] [(false, (cI .i64) true r.1)] [some (.mv true (cBitmap true r.2))] := by
  refine VC_of 10 Tryd.func11 rfl rfl rfl fun G0 w0 pv => ?_
  unfold lmarkBitmap at h
  refine W_seq ?_
  refine W_hd (s := 0) (j := 3) rfl rfl rfl fun A0_3 n0_3 c0_3 e0_3 => ?_
  refine W_text ?_
  refine dBoxH (ts := [.sc (.int .i64 a0.Left), .sc (.int .i64 a0.Bottom), .sc (.int .i64 a0.Width), .sc (.slice A0_3 n0_3 c0_3)]) rfl rfl (ltF rfl) rfl rfl (.free rfl (.free rfl (.free rfl (.hd e0_3 .nil)))) rfl ?_
  refine dq (ps := [(4, pI .i64 0)]) rfl rfl rfl ?_
  refine DL_nil ?_
  refine W_seq ?_
  refine W_text ?_
  refine dFaB rfl rfl (ltF rfl) rfl rfl rfl rfl rfl rfl ?_
  refine dqU (d := 6) (ag := false) (cs := [.t (.sc (.slice A0_3 n0_3 c0_3))]) (cs' := [.ref 0 0 [(0, 3)]]) [5, 2, 0] rfl rfl rfl rfl (fun st2 h2 => (.up rfl ((congrArg Slot.sv ((put_ne _ _ (by decide)).trans (h2 0 (by decide)))).trans rfl) rfl e0_3 ((congrArg Slot.ver ((put_ne _ _ (by decide)).trans (h2 0 (by decide)))).trans rfl) .nil)) rfl ?_
  refine dq (ps := [(7, pI .i64 a1)]) rfl rfl rfl ?_
  obtain ⟨r, hr, h⟩ := bind_some h
  refine dCallM (gn := 35) (fn := Tryd.f35) (cp := []) (lt := []) [.row 0 [] 0 3 0 [0]] [(0, .val true [.t (.sc (.int .i64 a0.Left)), .t (.sc (.int .i64 a0.Bottom)), .t (.sc (.int .i64 a0.Width)), .t (.sl true 1 (r.2.map (cS true)))])] [0, 6, 7] (vc_lmarkStringS n a0.Rows a1 _ hr) Tryd.func35 rfl rfl rfl rfl rfl (.inl rfl) (fun st2 h2 => (.cons (newVal rfl rfl ((congrArg Slot.sv (h2 0 (by decide))).trans rfl) rfl) rfl .nil)) (fun st2 h2 => ⟨rfl, args_of0 (.cons (aMv (ltF rfl) ((congrArg Slot.sv (h2 6 (by decide))).trans rfl) (.head _) (.cons (.ref (congrArg Slot.ver (h2 0 (by decide))) rfl ((at_agree (h2 0 (by decide))).trans rfl) (by decide)) .nil)) (.cons (aF (ltF rfl) ((congrArg Slot.sv (h2 7 (by decide))).trans rfl) rfl) .nil))⟩) rfl ?_
  refine dq (ps := [(1, pI .i64 r.1)]) rfl rfl rfl ?_
  refine DL_nil ?_
  refine W_seq ?_
  refine W_text ?_
  refine dq (ps := [(9, pI .i64 r.1)]) rfl rfl rfl ?_
  refine dq (ps := [(4, pI .i64 r.1)]) rfl rfl rfl ?_
  refine DL_nil ?_
  refine W_ret ?_
  cases h
  exact ⟨.inr rfl, leavesF [.tmp 4] rfl (by decide) (.tmp (ltF rfl) rfl .nil) (.some rfl rfl rfl rfl (by decide) .nil)⟩

-- lheldStringS: loop.example/g00883/laws.heldStringS
def lheldStringS_L0 : Nat → (List ByteArray) → Int → Int → Option (Out (Int) (Int))
  | 0, _, _, _ => none
  | n + 1, a0, v1, v5 => (if (decide (v5 < (a0.length : Int))) = true then ((getI a0 v5).bind fun x => ((lmarkText n v1).bind fun r => (if (!(sEq x r)) = true then some (.ret (-1)) else lheldStringS_L0 n a0 (w64 (v1 + 1)) (w64 (v5 + 1))))) else some (.go v1))

theorem lheldStringS_L0_ok {G0 : Nat → Own} {w0 : World} {Q : Exit → St → Prop} {a0 : List ByteArray} {out : (Out (Int) (Int))}
    (hQ : match out with | .go q1 => ∀ st, FN st [(1, pI .i64 q1)] → Q (.exit 0) st | .brk _ _ => True | .ret r => ∀ st, Fits st [(4, .val false (((cI .i64) true r).map .t))] → Q .ret st)
    {n : Nat} {v1 : Int} {v5 : Int} (h : lheldStringS_L0 n a0 v1 v5 = some out) :
    ∀ st, FN st [(0, .val false [.t (.sl false 1 (a0.map (cS false)))]), (1, pI .i64 v1), (5, pI .i64 v5)] → W ⟨Tryd.prog, 22, [], G0, w0⟩ (.loop (bodyAt Tryd.f36 [1, 0, 1, 0, 0])) st Q := by
  intro st hst
  refine W_loop (fun n st => ∃ v1 v5, lheldStringS_L0 n a0 v1 v5 = some out ∧ FN st [(0, .val false [.t (.sl false 1 (a0.map (cS false)))]), (1, pI .i64 v1), (5, pI .i64 v5)]) ?_ (n := n) ⟨v1, v5, h, hst⟩
  clear h hst st n v1 v5
  rintro n st ⟨v1, v5, h, hst⟩
  refine W_fn hst rfl ?_
  cases n with
  | zero => cases h
  | succ n =>
    rw [lheldStringS_L0] at h
    refine W_seq ?_
    refine W_seq ?_
    refine W_text ?_
    refine dq (ps := [(6, pI .i64 v5)]) rfl rfl rfl ?_
    refine dq (ps := [(7, .val false [.t (.sl false 1 (a0.map (cS false)))])]) rfl rfl rfl ?_
    refine dLen (t := 22) (n := (a0.length : Int)) rfl (ltF rfl) rfl rfl (lenE rfl (List.length_map ..)) rfl ?_
    refine dq (ps := [(9, pB (decide (v5 < (a0.length : Int))))]) rfl rfl rfl ?_
    refine DL_nil ?_
    refine W_split ⟨ltF rfl, rfl⟩ (fun hb => ?_) (fun hb => ?_)
    · replace h := ite_yes hb h
      refine W_skip ?_
      refine W_seq ?_
      refine W_block ?_
      refine W_seq ?_
      refine W_seq ?_
      refine W_drawn rfl ?_
      refine dq (R' := [0]) (ps := [(12, .val false [.t (.sl false 1 (a0.map (cS false)))])]) rfl rfl rfl ?_
      refine dq (R' := [5]) (ps := [(13, pI .i64 v5)]) rfl rfl rfl ?_
      obtain ⟨x, hx, h⟩ := bind_some h
      refine dIxA (R' := [12, 13]) rfl rfl rfl rfl rfl (getI_map (cS false) hx) rfl ?_
      refine dq (R' := [14]) (ps := [(15, pS x)]) rfl rfl rfl ?_
      refine dq (R' := [1]) (ps := [(16, pI .i64 v1)]) rfl rfl rfl ?_
      obtain ⟨r, hr, h⟩ := bind_some h
      refine dCall (gn := 65) (fn := Tryd.f65) (cp := []) (lt := []) [16] (vc_lmarkText n v1 _ hr) Tryd.func65 rfl rfl rfl rfl (.inl rfl) (.inl rfl) (fun st2 h2 => ⟨rfl, args_of0 (.cons (aF (ltF rfl) ((congrArg Slot.sv (h2 16 (by decide))).trans rfl) rfl) .nil)⟩) rfl ?_
      refine dq (R' := [15, 17]) (ps := [(18, pB (!(sEq x r)))]) rfl rfl rfl ?_
      refine DL_nil ⟨[([0], [12]), ([5], [13]), ([12, 13], [14]), ([14], [15]), ([1], [16]), ([16], [17]), ([15, 17], [18])], rfl, by decide +kernel, ?_⟩
      refine W_fn (l := [(0, .val false [.t (.sl false 1 (a0.map (cS false)))]), (1, pI .i64 v1), (5, pI .i64 v5), (18, pB (!(sEq x r)))]) (nC rfl (nC rfl (nC rfl (nC rfl nN)))) rfl ?_
      refine W_split ⟨ltF rfl, rfl⟩ (fun hb => ?_) (fun hb => ?_)
      · replace h := ite_yes hb h
        refine W_seq ?_
        refine W_text ?_
        refine dq (ps := [(4, pI .i64 (-1))]) rfl rfl rfl ?_
        refine DL_nil ?_
        refine W_ret ?_
        cases h
        exact hQ _ (fC rfl rfl fN)
      · replace h := ite_no hb h
        refine W_skip ?_
        refine W_text ?_
        refine dq (ps := [(19, pI .i64 v1)]) rfl rfl rfl ?_
        refine dq (ps := [(20, pI .i64 (w64 (v1 + 1)))]) rfl rfl rfl ?_
        refine dq (ps := [(1, pI .i64 (w64 (v1 + 1)))]) rfl rfl rfl ?_
        refine DL_nil ?_
        refine W_text ?_
        refine dq (ps := [(10, pI .i64 v5)]) rfl rfl rfl ?_
        refine dq (ps := [(11, pI .i64 (w64 (v5 + 1)))]) rfl rfl rfl ?_
        refine dq (ps := [(5, pI .i64 (w64 (v5 + 1)))]) rfl rfl rfl ?_
        refine DL_nil ?_
        exact ⟨n, Nat.lt_succ_self n, _, _,  h, (nC rfl (nC rfl (nC rfl nN)))⟩
    · replace h := ite_no hb h
      refine W_exit ?_
      cases h
      exact hQ _ (nC rfl nN)

def lheldStringS (n : Nat) (a0 : List ByteArray) (a1 : Int) : Option (Int) :=
  ((lheldStringS_L0 n a0 a1 0).bind fun o => (match o with | .go q1_1 => some q1_1 | .brk _ _ => none | .ret r => some r))

theorem vc_lheldStringS (n : Nat) (a0 : List ByteArray) (a1 : Int) (r : Int) (h : lheldStringS n a0 a1 = some r) : VC Tryd.prog 36 [.sh false (cLStr false a0), .sh false ((cI .i64) false a1)] [(false, (cI .i64) true r)] [] := by
  refine VC_of 22 Tryd.func36 rfl rfl rfl fun G0 w0 pv => ?_
  unfold lheldStringS at h
  refine W_seq ?_
  refine W_text ?_
  refine dq (ps := [(4, pI .i64 0)]) rfl rfl rfl ?_
  refine DL_nil ?_
  refine W_seq ?_
  refine W_seq ?_
  refine W_text ?_
  refine dq (ps := [(5, pI .i64 0)]) rfl rfl rfl ?_
  refine DL_nil ?_
  refine W_block ?_
  obtain ⟨o, ho, h⟩ := bind_some h
  refine lheldStringS_L0_ok ?_ ho _ (nC rfl (nC rfl (nC rfl nN)))
  rcases o with q1_1 | ⟨j, p⟩ | r
  · skip
    dsimp only at h ⊢
    intro st hst
    refine W_fn hst rfl ?_
    refine W_seq ?_
    refine W_text ?_
    refine dq (ps := [(21, pI .i64 q1_1)]) rfl rfl rfl ?_
    refine dq (ps := [(4, pI .i64 q1_1)]) rfl rfl rfl ?_
    refine DL_nil ?_
    refine W_ret ?_
    cases h
    exact ⟨.inr rfl, leaves_of [.tmp 4] rfl (by decide) (.tmp (ltF rfl) rfl .nil)⟩
  · exact trivial
  · dsimp only at h ⊢
    intro st hst
    cases h
    exact ⟨.inr rfl, leaves_of [.tmp 4] rfl (by decide) (.tmp (ltF rfl) (hst.at (s := 4) rfl rfl) .nil)⟩

-- lheldBitmap: loop.example/g00883/laws.heldBitmap
def lheldBitmap (n : Nat) (a0 : SBitmap) (a1 : Int) : Option (Int) :=
  ((lheldStringS n a0.Rows a1).bind fun r => (if (decide (r < 0)) = true then some (-1) else some r))

theorem vc_lheldBitmap (n : Nat) (a0 : SBitmap) (a1 : Int) (r : Int) (h : lheldBitmap n a0 a1 = some r) : VC Tryd.prog 12 [.sh true (cBitmap false a0), .sh false ((cI .i64) false a1)] [(false, (cI .i64) true r)] [] := by
  refine VC_of 12 Tryd.func12 rfl rfl rfl fun G0 w0 pv => ?_
  unfold lheldBitmap at h
  refine W_seq ?_
  refine W_text ?_
  refine dBox (ts := (cBitmap false a0)) rfl rfl rfl rfl rfl ?_
  refine dq (ps := [(4, pI .i64 0)]) rfl rfl rfl ?_
  refine DL_nil ?_
  refine W_seq ?_
  refine W_text ?_
  refine dFaB rfl rfl (ltF rfl) rfl rfl rfl rfl rfl rfl ?_
  refine dq (ps := [(6, .val false [.t (.sl false 1 (a0.Rows.map (cS false)))])]) rfl rfl rfl ?_
  refine dq (ps := [(7, pI .i64 a1)]) rfl rfl rfl ?_
  obtain ⟨r, hr, h⟩ := bind_some h
  refine dCall (gn := 36) (fn := Tryd.f36) (cp := []) (lt := []) [6, 7] (vc_lheldStringS n a0.Rows a1 _ hr) Tryd.func36 rfl rfl rfl rfl (.inl rfl) (.inl rfl) (fun st2 h2 => ⟨rfl, args_of0 (.cons (aF (ltF rfl) ((congrArg Slot.sv (h2 6 (by decide))).trans rfl) rfl) (.cons (aF (ltF rfl) ((congrArg Slot.sv (h2 7 (by decide))).trans rfl) rfl) .nil))⟩) rfl ?_
  refine dq (ps := [(1, pI .i64 r)]) rfl rfl rfl ?_
  refine DL_nil ?_
  refine W_seq ?_
  refine W_seq ?_
  refine W_text ?_
  refine dq (ps := [(9, pI .i64 r)]) rfl rfl rfl ?_
  refine dq (ps := [(10, pB (decide (r < 0)))]) rfl rfl rfl ?_
  refine DL_nil ?_
  refine W_split ⟨ltF rfl, rfl⟩ (fun hb => ?_) (fun hb => ?_)
  · replace h := ite_yes hb h
    refine W_seq ?_
    refine W_text ?_
    refine dq (ps := [(4, pI .i64 (-1))]) rfl rfl rfl ?_
    refine DL_nil ?_
    refine W_ret ?_
    cases h
    exact ⟨.inr rfl, leaves_of [.tmp 4] rfl (by decide) (.tmp (ltF rfl) rfl .nil)⟩
  · replace h := ite_no hb h
    refine W_skip ?_
    refine W_seq ?_
    refine W_text ?_
    refine dq (ps := [(11, pI .i64 r)]) rfl rfl rfl ?_
    refine dq (ps := [(4, pI .i64 r)]) rfl rfl rfl ?_
    refine DL_nil ?_
    refine W_ret ?_
    cases h
    exact ⟨.inr rfl, leaves_of [.tmp 4] rfl (by decide) (.tmp (ltF rfl) rfl .nil)⟩

-- lFnExactCropBitmap: loop.example/g00883/laws.FnExactCropBitmap
def lFnExactCropBitmap (n : Nat) (a0 : SBitmap) : Option (Bool) :=
  ((lszBitmap n a0 1048576).bind fun r => (if (decide (r < 0)) = true then some true else ((ltoBitmap n a0).bind fun r_1 => ((sCropBitmap n r_1).bind fun r_2 => ((ltoBitmap n a0).bind fun r_3 => ((iCropBitmap n r_3).bind fun r_4 => ((leqBitmap n r_4.1 r_2.1).bind fun r_5 => (if (!r_5) = true then some false else (if (r_4.2 != r_2.2) = true then some false else ((ltoBitmap n a0).bind fun r_6 => ((leqBitmap n r_3 r_6).bind fun r_7 => (if (!r_7) = true then some false else ((lmarkBitmap n r_3 1).bind fun r_8 => (if (decide (r_8.1 < 0)) = true then some false else ((leqBitmap n r_4.1 r_2.1).bind fun r_9 => (if (!r_9) = true then some false else (if (r_4.2 != r_2.2) = true then some false else ((lmarkBitmap n r_4.1 1).bind fun r_10 => ((lheldBitmap n (SBitmap.mk r_4.1.Left r_4.1.Bottom r_4.1.Width r_10.2.Rows) 1).bind fun r_11 => (if (decide (r_11 < 0)) = true then some false else (if (r_11 != r_10.1) = true then some false else ((ltoBitmap n a0).bind fun r_12 => ((iCropBitmap n r_12).bind fun r_13 => ((leqBitmap n r_13.1 r_2.1).bind fun r_14 => (if (!r_14) = true then some false else (if (r_13.2 != r_2.2) = true then some false else ((lheldBitmap n (SBitmap.mk r_4.1.Left r_4.1.Bottom r_4.1.Width r_10.2.Rows) 1).bind fun r_15 => (if (decide (r_15 < 0)) = true then some false else (if (r_15 != r_10.1) = true then some false else some true)))))))))))))))))))))))))))))

theorem vc_lFnExactCropBitmap (n : Nat) (a0 : SBitmap) (r : Bool) (h : lFnExactCropBitmap n a0 = some r) : VC Tryd.prog 3 [.sh true (cBitmap false a0)] [(false, cB true r)] [] := by
  refine VC_of 96 Tryd.func3 rfl rfl rfl fun G0 w0 pv => ?_
  unfold lFnExactCropBitmap at h
  refine W_seq ?_
  refine W_text ?_
  refine dBox (ts := (cBitmap false a0)) rfl rfl rfl rfl rfl ?_
  refine dq (ps := [(2, pB false)]) rfl rfl rfl ?_
  refine DL_nil ?_
  refine W_seq ?_
  refine W_text ?_
  refine dq (ps := [(3, pI .i64 1048576)]) rfl rfl rfl ?_
  refine DL_nil ?_
  refine W_seq ?_
  refine W_text ?_
  refine dLdB (sv := .val true [.t (.sc (.int .i64 a0.Left)), .t (.sc (.int .i64 a0.Bottom)), .t (.sc (.int .i64 a0.Width)), .t (.sl false 1 (a0.Rows.map (cS false)))]) rfl rfl (ltF rfl) rfl rfl rfl rfl rfl rfl rfl rfl ?_
  refine dq (ps := [(15, pI .i64 1048576)]) rfl rfl rfl ?_
  obtain ⟨r, hr, h⟩ := bind_some h
  refine dCall (gn := 6) (fn := Tryd.f6) (cp := []) (lt := []) [14, 15] (vc_lszBitmap n a0 1048576 _ hr) Tryd.func6 rfl rfl rfl rfl (.inl rfl) (.inl rfl) (fun st2 h2 => ⟨rfl, args_of0 (.cons (aF (ltF rfl) ((congrArg Slot.sv (h2 14 (by decide))).trans rfl) rfl) (.cons (aF (ltF rfl) ((congrArg Slot.sv (h2 15 (by decide))).trans rfl) rfl) .nil))⟩) rfl ?_
  refine dq (ps := [(3, pI .i64 r)]) rfl rfl rfl ?_
  refine DL_nil ?_
  refine W_seq ?_
  refine W_seq ?_
  refine W_text ?_
  refine dq (ps := [(17, pI .i64 r)]) rfl rfl rfl ?_
  refine dq (ps := [(18, pB (decide (r < 0)))]) rfl rfl rfl ?_
  refine DL_nil ?_
  refine W_split ⟨ltF rfl, rfl⟩ (fun hb => ?_) (fun hb => ?_)
  · replace h := ite_yes hb h
    refine W_seq ?_
    refine W_text ?_
    refine dq (ps := [(2, pB true)]) rfl rfl rfl ?_
    refine DL_nil ?_
    refine W_ret ?_
    cases h
    exact ⟨.inr rfl, leaves_of [.tmp 2] rfl (by decide) (.tmp (ltF rfl) rfl .nil)⟩
  · replace h := ite_no hb h
    refine W_skip ?_
    refine W_seq ?_
    refine W_text ?_
    refine dLdB (sv := .val true [.t (.sc (.int .i64 a0.Left)), .t (.sc (.int .i64 a0.Bottom)), .t (.sc (.int .i64 a0.Width)), .t (.sl false 1 (a0.Rows.map (cS false)))]) rfl rfl (ltF rfl) rfl rfl rfl rfl rfl rfl rfl rfl ?_
    obtain ⟨r_1, hr_1, h⟩ := bind_some h
    refine dCall (gn := 8) (fn := Tryd.f8) (cp := []) (lt := []) [20] (vc_ltoBitmap n a0 _ hr_1) Tryd.func8 rfl rfl rfl rfl (.inl rfl) (.inl rfl) (fun st2 h2 => ⟨rfl, args_of0 (.cons (aF (ltF rfl) ((congrArg Slot.sv (h2 20 (by decide))).trans rfl) rfl) .nil)⟩) rfl ?_
    obtain ⟨r_2, hr_2, h⟩ := bind_some h
    refine dCall (gn := 7) (fn := Tryd.f7) (cp := []) (lt := [(21, [(0, 3)])]) [21] (vc_sCropBitmap n r_1 _ hr_2) Tryd.func7 rfl rfl rfl rfl (.inr ⟨(rC (eC rfl (eC rfl (eC rfl (eC (eS (deeps_map (fun _ => (eC rfl eN)) _)) eN)))) (rC (eC rfl eN) rN)), rfl⟩) (.inl rfl) (fun st2 h2 => ⟨rfl, args_of0 (.cons (aA (ltF rfl) ((congrArg Slot.sv (h2 21 (by decide))).trans rfl) (.cons (.free rfl) (.cons (.free rfl) (.cons (.free rfl) (.cons (cA_own (wholes_map (fun _ => (wC rfl wN)) _) (shrs_map (fun _ => (sC rfl sN)) _) (by decide)) .nil))))) .nil)⟩) rfl ?_
    refine dTkM (sv := .tup [(true, [.t (.sc (.int .i64 r_2.1.Left)), .t (.sc (.int .i64 r_2.1.Bottom)), .t (.sc (.int .i64 r_2.1.Width)), .t (.sl true 1 (r_2.1.Rows.map (cS true)))]), (false, [.t (.sc (.int .i64 r_2.2))])]) rfl rfl rfl (ltF rfl) rfl rfl rfl ?_
    refine dExtOwn (ag := true) (ts := (cBitmap true r_2.1)) rfl rfl rfl (ltF rfl) rfl rfl rfl rfl ?_
    refine dExt (ag := false) (ts := [.sc (.int .i64 r_2.2)]) rfl rfl (ltF rfl) rfl rfl rfl rfl ?_
    refine dAlloc (zs := [.sc (.int .i64 0), .sc (.int .i64 0), .sc (.int .i64 0), .sl true 1 (([] : List ByteArray).map (cS true))]) rfl rfl (zeros_of _ rfl ⟨z1 rfl, z1 rfl, z1 rfl, z2, trivial⟩) rfl ?_
    refine dStB (ag := true) (ts := [.sc (.int .i64 r_2.1.Left), .sc (.int .i64 r_2.1.Bottom), .sc (.int .i64 r_2.1.Width), .sl true 1 (r_2.1.Rows.map (cS true))]) (cs' := (cBitmap true r_2.1)) [(23, 0)] [4, 23] rfl (ltF rfl) (by decide) rfl rfl rfl (by decide) rfl rfl (fun st2 h2 => .own (ltF rfl) ((congrArg Slot.sv (h2 23 (by decide))).trans rfl) rfl) rfl ?_
    refine dq (ps := [(5, pI .i64 r_2.2)]) rfl rfl rfl ?_
    refine DL_nil ?_
    refine W_fn (l := [(1, .box (cBitmap false a0)), (4, .box (cBitmap true r_2.1)), (5, pI .i64 r_2.2)]) (nC rfl (nC rfl (nC rfl nN))) rfl ?_
    refine W_seq ?_
    refine W_text ?_
    refine dLdB (sv := .val true [.t (.sc (.int .i64 a0.Left)), .t (.sc (.int .i64 a0.Bottom)), .t (.sc (.int .i64 a0.Width)), .t (.sl false 1 (a0.Rows.map (cS false)))]) rfl rfl (ltF rfl) rfl rfl rfl rfl rfl rfl rfl rfl ?_
    obtain ⟨r_3, hr_3, h⟩ := bind_some h
    refine dCall (gn := 8) (fn := Tryd.f8) (cp := []) (lt := []) [25] (vc_ltoBitmap n a0 _ hr_3) Tryd.func8 rfl rfl rfl rfl (.inl rfl) (.inl rfl) (fun st2 h2 => ⟨rfl, args_of0 (.cons (aF (ltF rfl) ((congrArg Slot.sv (h2 25 (by decide))).trans rfl) rfl) .nil)⟩) rfl ?_
    refine dAlloc (zs := [.sc (.int .i64 0), .sc (.int .i64 0), .sc (.int .i64 0), .sl true 1 (([] : List ByteArray).map (cS true))]) rfl rfl (zeros_of _ rfl ⟨z1 rfl, z1 rfl, z1 rfl, z2, trivial⟩) rfl ?_
    refine dStB (ag := true) (ts := [.sc (.int .i64 r_3.Left), .sc (.int .i64 r_3.Bottom), .sc (.int .i64 r_3.Width), .sl true 1 (r_3.Rows.map (cS true))]) (cs' := (cBitmap true r_3)) [(26, 0)] [6, 26] rfl (ltF rfl) (by decide) rfl rfl rfl (by decide) rfl rfl (fun st2 h2 => .own (ltF rfl) ((congrArg Slot.sv (h2 26 (by decide))).trans rfl) rfl) rfl ?_
    refine DL_nil ?_
    refine W_seq ?_
    refine W_text ?_
    refine dLdB (sv := .val true [.t (.sc (.int .i64 r_3.Left)), .t (.sc (.int .i64 r_3.Bottom)), .t (.sc (.int .i64 r_3.Width)), .ref 6 2 [(0, 3)]]) rfl rfl (ltF rfl) rfl rfl rfl rfl rfl rfl rfl rfl ?_
    obtain ⟨r_4, hr_4, h⟩ := bind_some h
    refine dCall (gn := 9) (fn := Tryd.f9) (cp := []) (lt := [(6, [(0, 3)])]) [6, 28] (vc_iCropBitmap n r_3 _ hr_4) Tryd.func9 rfl rfl rfl rfl (.inr ⟨(rC (eC rfl (eC rfl (eC rfl (eC (eS (deeps_map (fun _ => (eC rfl eN)) _)) eN)))) (rC (eC rfl eN) rN)), rfl⟩) (.inl rfl) (fun st2 h2 => ⟨rfl, args_of0 (.cons (aA (ltF rfl) ((congrArg Slot.sv (h2 28 (by decide))).trans rfl) (.cons (.free rfl) (.cons (.free rfl) (.cons (.free rfl) (.cons (cA_ref (congrArg Slot.ver (h2 6 (by decide))) ((at_agree (h2 6 (by decide))).trans rfl) (wholes_map (fun _ => (wC rfl wN)) _) (shrs_map (fun _ => (sC rfl sN)) _) (by decide)) .nil))))) .nil)⟩) rfl ?_
    refine dTkM (sv := .tup [(true, [.t (.sc (.int .i64 r_4.1.Left)), .t (.sc (.int .i64 r_4.1.Bottom)), .t (.sc (.int .i64 r_4.1.Width)), .t (.sl true 1 (r_4.1.Rows.map (cS true)))]), (false, [.t (.sc (.int .i64 r_4.2))])]) rfl rfl rfl (ltF rfl) rfl rfl rfl ?_
    refine dExtOwn (ag := true) (ts := (cBitmap true r_4.1)) rfl rfl rfl (ltF rfl) rfl rfl rfl rfl ?_
    refine dExt (ag := false) (ts := [.sc (.int .i64 r_4.2)]) rfl rfl (ltF rfl) rfl rfl rfl rfl ?_
    refine dAlloc (zs := [.sc (.int .i64 0), .sc (.int .i64 0), .sc (.int .i64 0), .sl true 1 (([] : List ByteArray).map (cS true))]) rfl rfl (zeros_of _ rfl ⟨z1 rfl, z1 rfl, z1 rfl, z2, trivial⟩) rfl ?_
    refine dStB (ag := true) (ts := [.sc (.int .i64 r_4.1.Left), .sc (.int .i64 r_4.1.Bottom), .sc (.int .i64 r_4.1.Width), .sl true 1 (r_4.1.Rows.map (cS true))]) (cs' := (cBitmap true r_4.1)) [(30, 0)] [7, 30] rfl (ltF rfl) (by decide) rfl rfl rfl (by decide) rfl rfl (fun st2 h2 => .own (ltF rfl) ((congrArg Slot.sv (h2 30 (by decide))).trans rfl) rfl) rfl ?_
    refine dq (ps := [(8, pI .i64 r_4.2)]) rfl rfl rfl ?_
    refine DL_nil ?_
    refine W_fn (l := [(1, .box (cBitmap false a0)), (4, .box (cBitmap true r_2.1)), (5, pI .i64 r_2.2), (6, .box (cBitmap true r_3)), (7, .box (cBitmap true r_4.1)), (8, pI .i64 r_4.2)]) (nC rfl (nC rfl (nC rfl (nC rfl (nC rfl (nC rfl nN)))))) rfl ?_
    refine W_seq ?_
    refine W_seq ?_
    refine W_text ?_
    refine dLdB (sv := .val true [.t (.sc (.int .i64 r_4.1.Left)), .t (.sc (.int .i64 r_4.1.Bottom)), .t (.sc (.int .i64 r_4.1.Width)), .ref 7 0 [(0, 3)]]) rfl rfl (ltF rfl) rfl rfl rfl rfl rfl rfl rfl rfl ?_
    refine dLdB (sv := .val true [.t (.sc (.int .i64 r_2.1.Left)), .t (.sc (.int .i64 r_2.1.Bottom)), .t (.sc (.int .i64 r_2.1.Width)), .ref 4 0 [(0, 3)]]) rfl rfl (ltF rfl) rfl rfl rfl rfl rfl rfl rfl rfl ?_
    obtain ⟨r_5, hr_5, h⟩ := bind_some h
    refine dCall (gn := 10) (fn := Tryd.f10) (cp := []) (lt := [(7, [(0, 3)]), (4, [(0, 3)])]) [7, 32, 4, 33] (vc_leqBitmap n r_4.1 r_2.1 _ hr_5) Tryd.func10 rfl rfl rfl rfl (.inr ⟨(rC (eC rfl eN) rN), rfl⟩) (.inl rfl) (fun st2 h2 => ⟨rfl, args_of0 (.cons (aA (ltF rfl) ((congrArg Slot.sv (h2 32 (by decide))).trans rfl) (.cons (.free rfl) (.cons (.free rfl) (.cons (.free rfl) (.cons (cA_ref (congrArg Slot.ver (h2 7 (by decide))) ((at_agree (h2 7 (by decide))).trans rfl) (wholes_map (fun _ => (wC rfl wN)) _) (shrs_map (fun _ => (sC rfl sN)) _) (by decide)) .nil))))) (.cons (aA (ltF rfl) ((congrArg Slot.sv (h2 33 (by decide))).trans rfl) (.cons (.free rfl) (.cons (.free rfl) (.cons (.free rfl) (.cons (cA_ref (congrArg Slot.ver (h2 4 (by decide))) ((at_agree (h2 4 (by decide))).trans rfl) (wholes_map (fun _ => (wC rfl wN)) _) (shrs_map (fun _ => (sC rfl sN)) _) (by decide)) .nil))))) .nil))⟩) rfl ?_
    refine dq (ps := [(35, pB (!r_5))]) rfl rfl rfl ?_
    refine dq (ps := [(36, pB (!r_5))]) rfl rfl rfl ?_
    refine dS 36 rfl (fun hb => ?_) (fun hb => ?_)
    · replace h := ite_yes hb h
      refine dU rfl rfl rfl rfl ?_
      refine dU rfl rfl rfl rfl ?_
      refine dU rfl rfl rfl rfl ?_
      refine dq (ps := [(40, pB true)]) rfl rfl rfl ?_
      refine DL_nil ?_
      refine W_fn (l := [(1, .box (cBitmap false a0)), (4, .box (cBitmap true r_2.1)), (5, pI .i64 r_2.2), (6, .box (cBitmap true r_3)), (7, .box (cBitmap true r_4.1)), (8, pI .i64 r_4.2), (40, pB true)]) (nC rfl (nC rfl (nC rfl (nC rfl (nC rfl (nC rfl (nC rfl nN))))))) rfl ?_
      refine W_yes ⟨ltF rfl, rfl⟩ ?_
      refine W_seq ?_
      refine W_text ?_
      refine dq (ps := [(2, pB false)]) rfl rfl rfl ?_
      refine DL_nil ?_
      refine W_ret ?_
      cases h
      exact ⟨.inr rfl, leaves_of [.tmp 2] rfl (by decide) (.tmp (ltF rfl) rfl .nil)⟩
    · replace h := ite_no hb h
      refine dq (ps := [(37, pI .i64 r_4.2)]) rfl rfl rfl ?_
      refine dq (ps := [(38, pI .i64 r_2.2)]) rfl rfl rfl ?_
      refine dq (ps := [(39, pB (r_4.2 != r_2.2))]) rfl rfl rfl ?_
      refine dq (ps := [(40, pB (r_4.2 != r_2.2))]) rfl rfl rfl ?_
      refine DL_nil ?_
      refine W_fn (l := [(1, .box (cBitmap false a0)), (4, .box (cBitmap true r_2.1)), (5, pI .i64 r_2.2), (6, .box (cBitmap true r_3)), (7, .box (cBitmap true r_4.1)), (8, pI .i64 r_4.2), (40, pB (r_4.2 != r_2.2))]) (nC rfl (nC rfl (nC rfl (nC rfl (nC rfl (nC rfl (nC rfl nN))))))) rfl ?_
      refine W_split ⟨ltF rfl, rfl⟩ (fun hb => ?_) (fun hb => ?_)
      · replace h := ite_yes hb h
        refine W_seq ?_
        refine W_text ?_
        refine dq (ps := [(2, pB false)]) rfl rfl rfl ?_
        refine DL_nil ?_
        refine W_ret ?_
        cases h
        exact ⟨.inr rfl, leaves_of [.tmp 2] rfl (by decide) (.tmp (ltF rfl) rfl .nil)⟩
      · replace h := ite_no hb h
        refine W_skip ?_
        refine W_seq ?_
        refine W_seq ?_
        refine W_drawn rfl ?_
        refine dLdB (R' := [6]) (sv := .val true [.t (.sc (.int .i64 r_3.Left)), .t (.sc (.int .i64 r_3.Bottom)), .t (.sc (.int .i64 r_3.Width)), .ref 6 0 [(0, 3)]]) rfl rfl (ltF rfl) rfl rfl rfl rfl rfl rfl rfl rfl ?_
        refine dLdB (R' := [1]) (sv := .val true [.t (.sc (.int .i64 a0.Left)), .t (.sc (.int .i64 a0.Bottom)), .t (.sc (.int .i64 a0.Width)), .t (.sl false 1 (a0.Rows.map (cS false)))]) rfl rfl (ltF rfl) rfl rfl rfl rfl rfl rfl rfl rfl ?_
        obtain ⟨r_6, hr_6, h⟩ := bind_some h
        refine dCall (gn := 8) (fn := Tryd.f8) (cp := []) (lt := []) [42] (vc_ltoBitmap n a0 _ hr_6) Tryd.func8 rfl rfl rfl rfl (.inl rfl) (.inl rfl) (fun st2 h2 => ⟨rfl, args_of0 (.cons (aF (ltF rfl) ((congrArg Slot.sv (h2 42 (by decide))).trans rfl) rfl) .nil)⟩) rfl ?_
        obtain ⟨r_7, hr_7, h⟩ := bind_some h
        refine dCall (gn := 10) (fn := Tryd.f10) (cp := []) (lt := [(6, [(0, 3)]), (43, [(0, 3)])]) [6, 41, 43] (vc_leqBitmap n r_3 r_6 _ hr_7) Tryd.func10 rfl rfl rfl rfl (.inr ⟨(rC (eC rfl eN) rN), rfl⟩) (.inl rfl) (fun st2 h2 => ⟨rfl, args_of0 (.cons (aA (ltF rfl) ((congrArg Slot.sv (h2 41 (by decide))).trans rfl) (.cons (.free rfl) (.cons (.free rfl) (.cons (.free rfl) (.cons (cA_ref (congrArg Slot.ver (h2 6 (by decide))) ((at_agree (h2 6 (by decide))).trans rfl) (wholes_map (fun _ => (wC rfl wN)) _) (shrs_map (fun _ => (sC rfl sN)) _) (by decide)) .nil))))) (.cons (aA (ltF rfl) ((congrArg Slot.sv (h2 43 (by decide))).trans rfl) (.cons (.free rfl) (.cons (.free rfl) (.cons (.free rfl) (.cons (cA_own (wholes_map (fun _ => (wC rfl wN)) _) (shrs_map (fun _ => (sC rfl sN)) _) (by decide)) .nil))))) .nil))⟩) rfl ?_
        refine dq (R' := [44]) (ps := [(45, pB (!r_7))]) rfl rfl rfl ?_
        refine DL_nil ⟨[([6], [41]), ([1], [42]), ([42], [43]), ([6, 41, 43], [44]), ([44], [45])], rfl, by decide +kernel, ?_⟩
        refine W_split ⟨ltF rfl, rfl⟩ (fun hb => ?_) (fun hb => ?_)
        · replace h := ite_yes hb h
          refine W_seq ?_
          refine W_text ?_
          refine dq (ps := [(2, pB false)]) rfl rfl rfl ?_
          refine DL_nil ?_
          refine W_ret ?_
          cases h
          exact ⟨.inr rfl, leaves_of [.tmp 2] rfl (by decide) (.tmp (ltF rfl) rfl .nil)⟩
        · replace h := ite_no hb h
          refine W_skip ?_
          refine W_seq ?_
          refine W_text ?_
          refine dq (ps := [(9, pI .i64 1)]) rfl rfl rfl ?_
          refine DL_nil ?_
          refine W_seq ?_
          refine W_text ?_
          refine dLdT (ag := true) (ts := (cBitmap true r_3)) rfl rfl rfl (ltF rfl) rfl rfl rfl rfl rfl rfl rfl rfl ?_
          refine dq (ps := [(47, pI .i64 1)]) rfl rfl rfl ?_
          obtain ⟨r_8, hr_8, h⟩ := bind_some h
          refine dCallM (gn := 11) (fn := Tryd.f11) (cp := []) (lt := []) [.row 46 [] 0 0 0 [3]] [(46, .val true [.t (.sc (.int .i64 r_3.Left)), .t (.sc (.int .i64 r_3.Bottom)), .t (.sc (.int .i64 r_3.Width)), .t (.sl true 1 (r_8.2.Rows.map (cS true)))])] [46, 47] (vc_lmarkBitmap n r_3 1 _ hr_8) Tryd.func11 rfl rfl rfl rfl rfl (.inl rfl) (fun st2 h2 => (.cons (newVal rfl rfl ((congrArg Slot.sv (h2 46 (by decide))).trans rfl) rfl) rfl .nil)) (fun st2 h2 => ⟨rfl, args_of0 (.cons (aMv (ltF rfl) ((congrArg Slot.sv (h2 46 (by decide))).trans rfl) (.head _) (.cons (.free rfl (by decide)) (.cons (.free rfl (by decide)) (.cons (.free rfl (by decide)) (.cons (.own ⟨rfl, rfl, rfl, rfl⟩ (by decide)) .nil))))) (.cons (aF (ltF rfl) ((congrArg Slot.sv (h2 47 (by decide))).trans rfl) rfl) .nil))⟩) rfl ?_
          refine dq (ps := [(9, pI .i64 r_8.1)]) rfl rfl rfl ?_
          refine DL_nil ?_
          refine W_seq ?_
          refine W_seq ?_
          refine W_text ?_
          refine dq (ps := [(49, pI .i64 r_8.1)]) rfl rfl rfl ?_
          refine dq (ps := [(50, pB (decide (r_8.1 < 0)))]) rfl rfl rfl ?_
          refine dq (ps := [(51, pB (decide (r_8.1 < 0)))]) rfl rfl rfl ?_
          refine dS 51 rfl (fun hb => ?_) (fun hb => ?_)
          · replace h := ite_yes hb h
            refine dU rfl rfl rfl rfl ?_
            refine dU rfl rfl rfl rfl ?_
            refine dU rfl rfl rfl rfl ?_
            refine dU rfl rfl rfl rfl ?_
            refine dq (ps := [(56, pB true)]) rfl rfl rfl ?_
            refine dq (ps := [(57, pB true)]) rfl rfl rfl ?_
            refine dU rfl rfl rfl rfl ?_
            refine dU rfl rfl rfl rfl ?_
            refine dU rfl rfl rfl rfl ?_
            refine dq (ps := [(61, pB true)]) rfl rfl rfl ?_
            refine DL_nil ?_
            refine W_fn (l := [(1, .box (cBitmap false a0)), (4, .box (cBitmap true r_2.1)), (5, pI .i64 r_2.2), (7, .box (cBitmap true r_4.1)), (61, pB true)]) (nC rfl (nC rfl (nC rfl (nC rfl (nC rfl nN))))) rfl ?_
            refine W_yes ⟨ltF rfl, rfl⟩ ?_
            refine W_seq ?_
            refine W_text ?_
            refine dq (ps := [(2, pB false)]) rfl rfl rfl ?_
            refine DL_nil ?_
            refine W_ret ?_
            cases h
            exact ⟨.inr rfl, leaves_of [.tmp 2] rfl (by decide) (.tmp (ltF rfl) rfl .nil)⟩
          · replace h := ite_no hb h
            refine dLdB (sv := .val true [.t (.sc (.int .i64 r_4.1.Left)), .t (.sc (.int .i64 r_4.1.Bottom)), .t (.sc (.int .i64 r_4.1.Width)), .ref 7 0 [(0, 3)]]) rfl rfl (ltF rfl) rfl rfl rfl rfl rfl rfl rfl rfl ?_
            refine dLdB (sv := .val true [.t (.sc (.int .i64 r_2.1.Left)), .t (.sc (.int .i64 r_2.1.Bottom)), .t (.sc (.int .i64 r_2.1.Width)), .ref 4 0 [(0, 3)]]) rfl rfl (ltF rfl) rfl rfl rfl rfl rfl rfl rfl rfl ?_
            obtain ⟨r_9, hr_9, h⟩ := bind_some h
            refine dCall (gn := 10) (fn := Tryd.f10) (cp := []) (lt := [(7, [(0, 3)]), (4, [(0, 3)])]) [7, 52, 4, 53] (vc_leqBitmap n r_4.1 r_2.1 _ hr_9) Tryd.func10 rfl rfl rfl rfl (.inr ⟨(rC (eC rfl eN) rN), rfl⟩) (.inl rfl) (fun st2 h2 => ⟨rfl, args_of0 (.cons (aA (ltF rfl) ((congrArg Slot.sv (h2 52 (by decide))).trans rfl) (.cons (.free rfl) (.cons (.free rfl) (.cons (.free rfl) (.cons (cA_ref (congrArg Slot.ver (h2 7 (by decide))) ((at_agree (h2 7 (by decide))).trans rfl) (wholes_map (fun _ => (wC rfl wN)) _) (shrs_map (fun _ => (sC rfl sN)) _) (by decide)) .nil))))) (.cons (aA (ltF rfl) ((congrArg Slot.sv (h2 53 (by decide))).trans rfl) (.cons (.free rfl) (.cons (.free rfl) (.cons (.free rfl) (.cons (cA_ref (congrArg Slot.ver (h2 4 (by decide))) ((at_agree (h2 4 (by decide))).trans rfl) (wholes_map (fun _ => (wC rfl wN)) _) (shrs_map (fun _ => (sC rfl sN)) _) (by decide)) .nil))))) .nil))⟩) rfl ?_
            refine dq (ps := [(55, pB (!r_9))]) rfl rfl rfl ?_
            refine dq (ps := [(56, pB (!r_9))]) rfl rfl rfl ?_
            refine dq (ps := [(57, pB (!r_9))]) rfl rfl rfl ?_
            refine dS 57 rfl (fun hb => ?_) (fun hb => ?_)
            · replace h := ite_yes hb h
              refine dU rfl rfl rfl rfl ?_
              refine dU rfl rfl rfl rfl ?_
              refine dU rfl rfl rfl rfl ?_
              refine dq (ps := [(61, pB true)]) rfl rfl rfl ?_
              refine DL_nil ?_
              refine W_fn (l := [(1, .box (cBitmap false a0)), (4, .box (cBitmap true r_2.1)), (5, pI .i64 r_2.2), (7, .box (cBitmap true r_4.1)), (61, pB true)]) (nC rfl (nC rfl (nC rfl (nC rfl (nC rfl nN))))) rfl ?_
              refine W_yes ⟨ltF rfl, rfl⟩ ?_
              refine W_seq ?_
              refine W_text ?_
              refine dq (ps := [(2, pB false)]) rfl rfl rfl ?_
              refine DL_nil ?_
              refine W_ret ?_
              cases h
              exact ⟨.inr rfl, leaves_of [.tmp 2] rfl (by decide) (.tmp (ltF rfl) rfl .nil)⟩
            · replace h := ite_no hb h
              refine dq (ps := [(58, pI .i64 r_4.2)]) rfl rfl rfl ?_
              refine dq (ps := [(59, pI .i64 r_2.2)]) rfl rfl rfl ?_
              refine dq (ps := [(60, pB (r_4.2 != r_2.2))]) rfl rfl rfl ?_
              refine dq (ps := [(61, pB (r_4.2 != r_2.2))]) rfl rfl rfl ?_
              refine DL_nil ?_
              refine W_fn (l := [(1, .box (cBitmap false a0)), (4, .box (cBitmap true r_2.1)), (5, pI .i64 r_2.2), (7, .box (cBitmap true r_4.1)), (61, pB (r_4.2 != r_2.2))]) (nC rfl (nC rfl (nC rfl (nC rfl (nC rfl nN))))) rfl ?_
              refine W_split ⟨ltF rfl, rfl⟩ (fun hb => ?_) (fun hb => ?_)
              · replace h := ite_yes hb h
                refine W_seq ?_
                refine W_text ?_
                refine dq (ps := [(2, pB false)]) rfl rfl rfl ?_
                refine DL_nil ?_
                refine W_ret ?_
                cases h
                exact ⟨.inr rfl, leaves_of [.tmp 2] rfl (by decide) (.tmp (ltF rfl) rfl .nil)⟩
              · replace h := ite_no hb h
                refine W_skip ?_
                refine W_seq ?_
                refine W_text ?_
                refine dq (ps := [(10, pI .i64 1)]) rfl rfl rfl ?_
                refine DL_nil ?_
                refine W_seq ?_
                refine W_text ?_
                refine dLdB (sv := .val true [.t (.sc (.int .i64 r_4.1.Left)), .t (.sc (.int .i64 r_4.1.Bottom)), .t (.sc (.int .i64 r_4.1.Width)), .ref 7 0 [(0, 3)]]) rfl rfl (ltF rfl) rfl rfl rfl rfl rfl rfl rfl rfl ?_
                refine dq (ps := [(63, pI .i64 1)]) rfl rfl rfl ?_
                obtain ⟨r_10, hr_10, h⟩ := bind_some h
                refine dCallM (gn := 11) (fn := Tryd.f11) (cp := []) (lt := []) [.row 7 [] 0 0 0 [3]] [(7, .box [.sc (.int .i64 r_4.1.Left), .sc (.int .i64 r_4.1.Bottom), .sc (.int .i64 r_4.1.Width), .sl true 1 (r_10.2.Rows.map (cS true))])] [7, 62, 63] (vc_lmarkBitmap n r_4.1 1 _ hr_10) Tryd.func11 rfl rfl rfl rfl rfl (.inl rfl) (fun st2 h2 => (.cons (newBx rfl rfl ((congrArg Slot.sv (h2 7 (by decide))).trans rfl) rfl) rfl .nil)) (fun st2 h2 => ⟨rfl, args_of0 (.cons (aMv (ltF rfl) ((congrArg Slot.sv (h2 62 (by decide))).trans rfl) (.head _) (.cons (.free rfl (by decide)) (.cons (.free rfl (by decide)) (.cons (.free rfl (by decide)) (.cons (.ref (congrArg Slot.ver (h2 7 (by decide))) rfl ((at_agree (h2 7 (by decide))).trans rfl) (by decide)) .nil))))) (.cons (aF (ltF rfl) ((congrArg Slot.sv (h2 63 (by decide))).trans rfl) rfl) .nil))⟩) rfl ?_
                refine dq (ps := [(10, pI .i64 r_10.1)]) rfl rfl rfl ?_
                refine DL_nil ?_
                refine W_seq ?_
                refine W_text ?_
                refine dq (ps := [(11, pI .i64 1)]) rfl rfl rfl ?_
                refine DL_nil ?_
                refine W_seq ?_
                refine W_text ?_
                refine dLdB (sv := .val true [.t (.sc (.int .i64 r_4.1.Left)), .t (.sc (.int .i64 r_4.1.Bottom)), .t (.sc (.int .i64 r_4.1.Width)), .ref 7 1 [(0, 3)]]) rfl rfl (ltF rfl) rfl rfl rfl rfl rfl rfl rfl rfl ?_
                refine dq (ps := [(66, pI .i64 1)]) rfl rfl rfl ?_
                obtain ⟨r_11, hr_11, h⟩ := bind_some h
                refine dCall (gn := 12) (fn := Tryd.f12) (cp := []) (lt := [(7, [(0, 3)])]) [7, 65, 66] (vc_lheldBitmap n (SBitmap.mk r_4.1.Left r_4.1.Bottom r_4.1.Width r_10.2.Rows) 1 _ hr_11) Tryd.func12 rfl rfl rfl rfl (.inr ⟨(rC (eC rfl eN) rN), rfl⟩) (.inl rfl) (fun st2 h2 => ⟨rfl, args_of0 (.cons (aA (ltF rfl) ((congrArg Slot.sv (h2 65 (by decide))).trans rfl) (.cons (.free rfl) (.cons (.free rfl) (.cons (.free rfl) (.cons (cA_ref (congrArg Slot.ver (h2 7 (by decide))) ((at_agree (h2 7 (by decide))).trans rfl) (wholes_map (fun _ => (wC rfl wN)) _) (shrs_map (fun _ => (sC rfl sN)) _) (by decide)) .nil))))) (.cons (aF (ltF rfl) ((congrArg Slot.sv (h2 66 (by decide))).trans rfl) rfl) .nil))⟩) rfl ?_
                refine dq (ps := [(11, pI .i64 r_11)]) rfl rfl rfl ?_
                refine DL_nil ?_
                refine W_seq ?_
                refine W_seq ?_
                refine W_text ?_
                refine dq (ps := [(68, pI .i64 r_11)]) rfl rfl rfl ?_
                refine dq (ps := [(69, pB (decide (r_11 < 0)))]) rfl rfl rfl ?_
                refine DL_nil ?_
                refine W_split ⟨ltF rfl, rfl⟩ (fun hb => ?_) (fun hb => ?_)
                · replace h := ite_yes hb h
                  refine W_seq ?_
                  refine W_text ?_
                  refine dq (ps := [(2, pB false)]) rfl rfl rfl ?_
                  refine DL_nil ?_
                  refine W_ret ?_
                  cases h
                  exact ⟨.inr rfl, leaves_of [.tmp 2] rfl (by decide) (.tmp (ltF rfl) rfl .nil)⟩
                · replace h := ite_no hb h
                  refine W_skip ?_
                  refine W_seq ?_
                  refine W_seq ?_
                  refine W_text ?_
                  refine dq (ps := [(70, pI .i64 r_11)]) rfl rfl rfl ?_
                  refine dq (ps := [(71, pI .i64 r_10.1)]) rfl rfl rfl ?_
                  refine dq (ps := [(72, pB (r_11 != r_10.1))]) rfl rfl rfl ?_
                  refine DL_nil ?_
                  refine W_split ⟨ltF rfl, rfl⟩ (fun hb => ?_) (fun hb => ?_)
                  · replace h := ite_yes hb h
                    refine W_seq ?_
                    refine W_text ?_
                    refine dq (ps := [(2, pB false)]) rfl rfl rfl ?_
                    refine DL_nil ?_
                    refine W_ret ?_
                    cases h
                    exact ⟨.inr rfl, leaves_of [.tmp 2] rfl (by decide) (.tmp (ltF rfl) rfl .nil)⟩
                  · replace h := ite_no hb h
                    refine W_skip ?_
                    refine W_seq ?_
                    refine W_text ?_
                    refine dLdB (sv := .val true [.t (.sc (.int .i64 a0.Left)), .t (.sc (.int .i64 a0.Bottom)), .t (.sc (.int .i64 a0.Width)), .t (.sl false 1 (a0.Rows.map (cS false)))]) rfl rfl (ltF rfl) rfl rfl rfl rfl rfl rfl rfl rfl ?_
                    obtain ⟨r_12, hr_12, h⟩ := bind_some h
                    refine dCall (gn := 8) (fn := Tryd.f8) (cp := []) (lt := []) [74] (vc_ltoBitmap n a0 _ hr_12) Tryd.func8 rfl rfl rfl rfl (.inl rfl) (.inl rfl) (fun st2 h2 => ⟨rfl, args_of0 (.cons (aF (ltF rfl) ((congrArg Slot.sv (h2 74 (by decide))).trans rfl) rfl) .nil)⟩) rfl ?_
                    obtain ⟨r_13, hr_13, h⟩ := bind_some h
                    refine dCall (gn := 9) (fn := Tryd.f9) (cp := []) (lt := [(75, [(0, 3)])]) [75] (vc_iCropBitmap n r_12 _ hr_13) Tryd.func9 rfl rfl rfl rfl (.inr ⟨(rC (eC rfl (eC rfl (eC rfl (eC (eS (deeps_map (fun _ => (eC rfl eN)) _)) eN)))) (rC (eC rfl eN) rN)), rfl⟩) (.inl rfl) (fun st2 h2 => ⟨rfl, args_of0 (.cons (aA (ltF rfl) ((congrArg Slot.sv (h2 75 (by decide))).trans rfl) (.cons (.free rfl) (.cons (.free rfl) (.cons (.free rfl) (.cons (cA_own (wholes_map (fun _ => (wC rfl wN)) _) (shrs_map (fun _ => (sC rfl sN)) _) (by decide)) .nil))))) .nil)⟩) rfl ?_
                    refine dTkM (sv := .tup [(true, [.t (.sc (.int .i64 r_13.1.Left)), .t (.sc (.int .i64 r_13.1.Bottom)), .t (.sc (.int .i64 r_13.1.Width)), .t (.sl true 1 (r_13.1.Rows.map (cS true)))]), (false, [.t (.sc (.int .i64 r_13.2))])]) rfl rfl rfl (ltF rfl) rfl rfl rfl ?_
                    refine dExtOwn (ag := true) (ts := (cBitmap true r_13.1)) rfl rfl rfl (ltF rfl) rfl rfl rfl rfl ?_
                    refine dExt (ag := false) (ts := [.sc (.int .i64 r_13.2)]) rfl rfl (ltF rfl) rfl rfl rfl rfl ?_
                    refine dAlloc (zs := [.sc (.int .i64 0), .sc (.int .i64 0), .sc (.int .i64 0), .sl true 1 (([] : List ByteArray).map (cS true))]) rfl rfl (zeros_of _ rfl ⟨z1 rfl, z1 rfl, z1 rfl, z2, trivial⟩) rfl ?_
                    refine dStB (ag := true) (ts := [.sc (.int .i64 r_13.1.Left), .sc (.int .i64 r_13.1.Bottom), .sc (.int .i64 r_13.1.Width), .sl true 1 (r_13.1.Rows.map (cS true))]) (cs' := (cBitmap true r_13.1)) [(77, 0)] [12, 77] rfl (ltF rfl) (by decide) rfl rfl rfl (by decide) rfl rfl (fun st2 h2 => .own (ltF rfl) ((congrArg Slot.sv (h2 77 (by decide))).trans rfl) rfl) rfl ?_
                    refine dq (ps := [(13, pI .i64 r_13.2)]) rfl rfl rfl ?_
                    refine DL_nil ?_
                    refine W_fn (l := [(4, .box (cBitmap true r_2.1)), (5, pI .i64 r_2.2), (7, .box [.sc (.int .i64 r_4.1.Left), .sc (.int .i64 r_4.1.Bottom), .sc (.int .i64 r_4.1.Width), .sl true 1 (r_10.2.Rows.map (cS true))]), (10, pI .i64 r_10.1), (12, .box (cBitmap true r_13.1)), (13, pI .i64 r_13.2)]) (nC rfl (nC rfl (nC rfl (nC rfl (nC rfl (nC rfl nN)))))) rfl ?_
                    refine W_seq ?_
                    refine W_seq ?_
                    refine W_text ?_
                    refine dLdT (ag := true) (ts := (cBitmap true r_13.1)) rfl rfl rfl (ltF rfl) rfl rfl rfl rfl rfl rfl rfl rfl ?_
                    refine dLdT (ag := true) (ts := (cBitmap true r_2.1)) rfl rfl rfl (ltF rfl) rfl rfl rfl rfl rfl rfl rfl rfl ?_
                    obtain ⟨r_14, hr_14, h⟩ := bind_some h
                    refine dCall (gn := 10) (fn := Tryd.f10) (cp := []) (lt := [(79, [(0, 3)]), (80, [(0, 3)])]) [79, 80] (vc_leqBitmap n r_13.1 r_2.1 _ hr_14) Tryd.func10 rfl rfl rfl rfl (.inr ⟨(rC (eC rfl eN) rN), rfl⟩) (.inl rfl) (fun st2 h2 => ⟨rfl, args_of0 (.cons (aA (ltF rfl) ((congrArg Slot.sv (h2 79 (by decide))).trans rfl) (.cons (.free rfl) (.cons (.free rfl) (.cons (.free rfl) (.cons (cA_own (wholes_map (fun _ => (wC rfl wN)) _) (shrs_map (fun _ => (sC rfl sN)) _) (by decide)) .nil))))) (.cons (aA (ltF rfl) ((congrArg Slot.sv (h2 80 (by decide))).trans rfl) (.cons (.free rfl) (.cons (.free rfl) (.cons (.free rfl) (.cons (cA_own (wholes_map (fun _ => (wC rfl wN)) _) (shrs_map (fun _ => (sC rfl sN)) _) (by decide)) .nil))))) .nil))⟩) rfl ?_
                    refine dq (ps := [(82, pB (!r_14))]) rfl rfl rfl ?_
                    refine dq (ps := [(83, pB (!r_14))]) rfl rfl rfl ?_
                    refine dS 83 rfl (fun hb => ?_) (fun hb => ?_)
                    · replace h := ite_yes hb h
                      refine dU rfl rfl rfl rfl ?_
                      refine dU rfl rfl rfl rfl ?_
                      refine dU rfl rfl rfl rfl ?_
                      refine dq (ps := [(87, pB true)]) rfl rfl rfl ?_
                      refine DL_nil ?_
                      refine W_fn (l := [(7, .box [.sc (.int .i64 r_4.1.Left), .sc (.int .i64 r_4.1.Bottom), .sc (.int .i64 r_4.1.Width), .sl true 1 (r_10.2.Rows.map (cS true))]), (10, pI .i64 r_10.1), (87, pB true)]) (nC rfl (nC rfl (nC rfl nN))) rfl ?_
                      refine W_yes ⟨ltF rfl, rfl⟩ ?_
                      refine W_seq ?_
                      refine W_text ?_
                      refine dq (ps := [(2, pB false)]) rfl rfl rfl ?_
                      refine DL_nil ?_
                      refine W_ret ?_
                      cases h
                      exact ⟨.inr rfl, leaves_of [.tmp 2] rfl (by decide) (.tmp (ltF rfl) rfl .nil)⟩
                    · replace h := ite_no hb h
                      refine dq (ps := [(84, pI .i64 r_13.2)]) rfl rfl rfl ?_
                      refine dq (ps := [(85, pI .i64 r_2.2)]) rfl rfl rfl ?_
                      refine dq (ps := [(86, pB (r_13.2 != r_2.2))]) rfl rfl rfl ?_
                      refine dq (ps := [(87, pB (r_13.2 != r_2.2))]) rfl rfl rfl ?_
                      refine DL_nil ?_
                      refine W_fn (l := [(7, .box [.sc (.int .i64 r_4.1.Left), .sc (.int .i64 r_4.1.Bottom), .sc (.int .i64 r_4.1.Width), .sl true 1 (r_10.2.Rows.map (cS true))]), (10, pI .i64 r_10.1), (87, pB (r_13.2 != r_2.2))]) (nC rfl (nC rfl (nC rfl nN))) rfl ?_
                      refine W_split ⟨ltF rfl, rfl⟩ (fun hb => ?_) (fun hb => ?_)
                      · replace h := ite_yes hb h
                        refine W_seq ?_
                        refine W_text ?_
                        refine dq (ps := [(2, pB false)]) rfl rfl rfl ?_
                        refine DL_nil ?_
                        refine W_ret ?_
                        cases h
                        exact ⟨.inr rfl, leaves_of [.tmp 2] rfl (by decide) (.tmp (ltF rfl) rfl .nil)⟩
                      · replace h := ite_no hb h
                        refine W_skip ?_
                        refine W_seq ?_
                        refine W_text ?_
                        refine dq (ps := [(11, pI .i64 1)]) rfl rfl rfl ?_
                        refine DL_nil ?_
                        refine W_seq ?_
                        refine W_text ?_
                        refine dLdT (ag := true) (ts := [.sc (.int .i64 r_4.1.Left), .sc (.int .i64 r_4.1.Bottom), .sc (.int .i64 r_4.1.Width), .sl true 1 (r_10.2.Rows.map (cS true))]) rfl rfl rfl (ltF rfl) rfl rfl rfl rfl rfl rfl rfl rfl ?_
                        refine dq (ps := [(89, pI .i64 1)]) rfl rfl rfl ?_
                        obtain ⟨r_15, hr_15, h⟩ := bind_some h
                        refine dCall (gn := 12) (fn := Tryd.f12) (cp := []) (lt := [(88, [(0, 3)])]) [88, 89] (vc_lheldBitmap n (SBitmap.mk r_4.1.Left r_4.1.Bottom r_4.1.Width r_10.2.Rows) 1 _ hr_15) Tryd.func12 rfl rfl rfl rfl (.inr ⟨(rC (eC rfl eN) rN), rfl⟩) (.inl rfl) (fun st2 h2 => ⟨rfl, args_of0 (.cons (aA (ltF rfl) ((congrArg Slot.sv (h2 88 (by decide))).trans rfl) (.cons (.free rfl) (.cons (.free rfl) (.cons (.free rfl) (.cons (cA_own (wholes_map (fun _ => (wC rfl wN)) _) (shrs_map (fun _ => (sC rfl sN)) _) (by decide)) .nil))))) (.cons (aF (ltF rfl) ((congrArg Slot.sv (h2 89 (by decide))).trans rfl) rfl) .nil))⟩) rfl ?_
                        refine dq (ps := [(11, pI .i64 r_15)]) rfl rfl rfl ?_
                        refine DL_nil ?_
                        refine W_seq ?_
                        refine W_seq ?_
                        refine W_text ?_
                        refine dq (ps := [(91, pI .i64 r_15)]) rfl rfl rfl ?_
                        refine dq (ps := [(92, pB (decide (r_15 < 0)))]) rfl rfl rfl ?_
                        refine DL_nil ?_
                        refine W_split ⟨ltF rfl, rfl⟩ (fun hb => ?_) (fun hb => ?_)
                        · replace h := ite_yes hb h
                          refine W_seq ?_
                          refine W_text ?_
                          refine dq (ps := [(2, pB false)]) rfl rfl rfl ?_
                          refine DL_nil ?_
                          refine W_ret ?_
                          cases h
                          exact ⟨.inr rfl, leaves_of [.tmp 2] rfl (by decide) (.tmp (ltF rfl) rfl .nil)⟩
                        · replace h := ite_no hb h
                          refine W_skip ?_
                          refine W_seq ?_
                          refine W_seq ?_
                          refine W_text ?_
                          refine dq (ps := [(93, pI .i64 r_15)]) rfl rfl rfl ?_
                          refine dq (ps := [(94, pI .i64 r_10.1)]) rfl rfl rfl ?_
                          refine dq (ps := [(95, pB (r_15 != r_10.1))]) rfl rfl rfl ?_
                          refine DL_nil ?_
                          refine W_split ⟨ltF rfl, rfl⟩ (fun hb => ?_) (fun hb => ?_)
                          · replace h := ite_yes hb h
                            refine W_seq ?_
                            refine W_text ?_
                            refine dq (ps := [(2, pB false)]) rfl rfl rfl ?_
                            refine DL_nil ?_
                            refine W_ret ?_
                            cases h
                            exact ⟨.inr rfl, leaves_of [.tmp 2] rfl (by decide) (.tmp (ltF rfl) rfl .nil)⟩
                          · replace h := ite_no hb h
                            refine W_skip ?_
                            refine W_seq ?_
                            refine W_text ?_
                            refine dq (ps := [(2, pB true)]) rfl rfl rfl ?_
                            refine DL_nil ?_
                            refine W_ret ?_
                            cases h
                            exact ⟨.inr rfl, leaves_of [.tmp 2] rfl (by decide) (.tmp (ltF rfl) rfl .nil)⟩

end Go.V
