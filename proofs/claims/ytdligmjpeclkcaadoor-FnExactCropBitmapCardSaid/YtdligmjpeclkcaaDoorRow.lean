/- The law FnExactCropBitmap answers true at every input. Conditions: none. -/
import Derived.Test.YtdligmjpeclkcaaDoorRows
import Derived.Test.YtdligmjpeclkcaaDoorTie
import Derived.Test.YtdligmjpeclkcaaDoorCards
import Derived.Test.YtdligmjpeclkcaaDoorPj
import Derived.WalkKit
import Derived.ProofKit
import Derived.OpenShut
import Derived.ShutString
import Derived.ChangeOld
import Derived.Below
import Derived.SizedLaws
import Derived.Carry
import Derived.Lay
import Derived.SevenTiedAt
import Derived.ChangePaths2
namespace Go.Proofs.YtdligmjpeclkcaaDoor.fnExactCropBitmap
open Go.ChangeShapes Go.WideShapes Go.ChangeAt Go.RowKit Go.V
open Go.ChangeMaps (open_string shut_string)
set_option linter.unusedVariables false
theorem own : ownKnob Tryd.prog.godebug = none := by kernel_rfl
theorem laidOut : laidOutB Tryd.prog = true := by kernel_rfl
theorem rd_Bitmap_24 {H : Type} {enc : TypeId × Value → H} {w : World} : Rd enc Tryd.prog w 24 (cBitmap false) okBitmap :=
  rdMap (rdStruct Tryd.underlying24 (by kernel_rfl) (rdCons (n := 1) (rd_int (k := .i64) Tryd.underlying2) rfl (by kernel_rfl) (rdCons (n := 1) (rd_int (k := .i64) Tryd.underlying2) rfl (by kernel_rfl) (rdCons (n := 1) (rd_int (k := .i64) Tryd.underlying2) rfl (by kernel_rfl) (rdCons (n := 1) (rd_list (n := 1) Tryd.underlying22 (by kernel_rfl) rfl (fun _ => rfl) (rd_str Tryd.underlying9)) rfl (by kernel_rfl) rdNil))))) (fun p => SBitmap.mk p.1 p.2.1 p.2.2.1 p.2.2.2.1) (fun _ => rfl) (fun _ h => h)

set_option maxRecDepth 100000 in
theorem lifted (os : Os) (started : os.Started) (H : Type) (enc : TypeId × Value → H) :
    ReturnsInHanded {} Tryd.checked os 3 .any (fun w args => (Rows.fnExactCropBitmapSpec.pre enc Tryd.prog Tryd.f3 [] false w args ∧ laidMetH Tryd.prog Rows.fnExactCropBitmapRow.laid w) ∧ sizedMet enc Tryd.prog Tryd.f3 (OpenSpec.ofChange Rows.fnExactCropBitmapSpec) false w args)
      (Rows.fnExactCropBitmapSpec.post enc Tryd.prog Tryd.f3 false true false false) := by
  refine returnsInHanded_of_change_and (C := Tryd.checked) (X := fun w _ => laidMetH Tryd.prog Rows.fnExactCropBitmapRow.laid w) (fun _ _ _ hh h => h.of_heap hh) own started (by kernel_rfl) Tryd.func3
    (ChangeSpec.witness_shaped (enc := enc) (C := Tryd.checked) (os := os) (X := fun w _ => laidMetH Tryd.prog Rows.fnExactCropBitmapRow.laid w) false (World.laidAll Tryd.prog os Rows.fnExactCropBitmapRow.laid) #[.agg #[.int .i64 0, .int .i64 0, .int .i64 0, .slice none 0 0]] 8 (World.laidAll_os _ _ _)
      (World.shaped_of_ZipB (by kernel_rfl) (by kernel_rfl)) (by kernel_rfl) (by kernel_rfl) (by kernel_rfl)
      (by rw [MakeChecks.laidMetH_plain _ _ _ (by kernel_rfl)]; exact laidMet_laidAll _ (by kernel_rfl) (by kernel_rfl))) ?_
  intro W base args ds gs before hval0 hW _ _ _ _
  have hval : ∀ (j : Nat) t v, Tryd.f3.params[j]? = some t → args[j]? = some v → Value.okWide Tryd.prog W .any base t v := hval0
  have hW' := hW
  obtain ⟨p, q, hA0, hV, rfl, hfz, hnd⟩ := hW
  have hA : DataW.TrodAll enc Tryd.prog W 0 (fun _ => true) true Tryd.f3.params.toList args.toList ds p := hA0
  rw [Tryd.params3] at hA hval
  obtain ⟨v0, vs0, d0, ds0, p0, q0, hargs, rfl, rfl, k0, r0⟩ := trodAll_cons hA
  obtain ⟨rfl, rfl, rfl⟩ := trodAll_nil r0
  obtain rfl : args = #[v0] := by cases args; simp_all
  obtain ⟨rfl, rfl⟩ := trodVars_none hV
  have lt0 : ∀ x ∈ p0, x.block < W.heap.size := by obtain ⟨m, hm⟩ := k0; exact DataW.trod_lt m _ _ _ hm
  obtain ⟨c0, rfl, -⟩ := okWide_struct Tryd.underlying24 (hval 0 24 v0 rfl rfl)
  obtain ⟨x0, ok0, rc0⟩ : ∃ x : SBitmap, okBitmap x ∧ RdC W (Value.cells _).toList (cBitmap false x) := by obtain ⟨m, hm⟩ := k0; exact rd_Bitmap_24 m _ _ hm
  clear hA0 hval0
  obtain ⟨n, hn⟩ := lFnExactCropBitmap_true x0 ok0
  refine (law_of (w := W) (vc_lFnExactCropBitmap n x0 _ hn) (.cons (arg_agg rc0) .nil)).mono fun e W' ⟨he, bel⟩ => ?_
  subst he
  exact ⟨_, rfl, _, _, _, [], _, [], hW', trodAll_mk1 (shut_bool Tryd.underlying4 _), (trodAll_cons_mk (Below.trod laidOut (by kernel_rfl) (of_decide_eq_true (by kernel_rfl)) k0 bel lt0) trodAll_mk0), rfl, bel.frame _, fun h => by cases h⟩
theorem over : Rows.fnExactCropBitmapRow.holds Tryd.pinned (OpenSpec.ofChange Rows.fnExactCropBitmapSpec) :=
  OpenClaim.holds_of_wide 3 Tryd.f3 rfl rfl rfl rfl rfl rfl rfl ⟨rfl, rfl, rfl, rfl, rfl⟩ rfl rfl rfl rfl rfl (by kernel_rfl) Tryd.func3 (by kernel_rfl)
    (of_decide_eq_true (by kernel_rfl)) (by unfold Func.isWrapper; first | (rw [if_pos (by decide +kernel)]; kernel_rfl) | (rw [if_neg (by decide +kernel)]; exact ⟨rfl, rfl⟩))
    (fun os started H enc _ => lifted os started H enc)
theorem card_holds : Claim7.holds Tryd.pinned (.plain (OpenSpec.ofChange Rows.fnExactCropBitmapSpec)) Rows.fnExactCropBitmapCard :=
  Claim7.holds_tied_plain_at .later [] [.data, .pinned] true (true, "f1f6709291d866f95578292f4bc3773dbe3fe93813ce127ed996fa8efef926c6") false over (fun _ h => by cases h) (by kernel_rfl) (fun _ h => by cases h) fnExactCropBitmap_row_tie rfl ⟨rfl, rfl⟩ (by kernel_rfl) rfl
    (fun f fn hf hfn => by
      obtain rfl : f = 3 := Option.some.inj ((show Tryd.prog.funcNamed "loop.example/g00883/laws.FnExactCropBitmap" = some 3 by kernel_rfl).symm.trans hf) |>.symm
      obtain rfl : fn = Tryd.f3 := (Option.some.inj (Tryd.func3.symm.trans hfn)).symm
      exact ⟨by kernel_rfl, fun j t ht => by
        rw [Tryd.params3] at ht
        have hm : t ∈ [24] := by simpa using Array.mem_of_getElem? ht
        have hall : ([24].all fun u => !Tryd.prog.wantsStandIn u) = true := by kernel_rfl
        exact (show Tryd.prog.wantsStandIn t = false by simpa using List.all_eq_true.1 hall t hm)⟩)
    (by kernel_rfl)
end Go.Proofs.YtdligmjpeclkcaaDoor.fnExactCropBitmap
namespace Go.Proofs.YtdligmjpeclkcaaDoor
/-- The statement, for the claim. -/
theorem fnExactCropBitmap_holds : Rows.FnExactCropBitmapCardSaid := fnExactCropBitmap.card_holds
end Go.Proofs.YtdligmjpeclkcaaDoor
