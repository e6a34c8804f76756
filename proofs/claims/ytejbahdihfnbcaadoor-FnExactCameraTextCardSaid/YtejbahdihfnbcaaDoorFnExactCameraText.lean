/- The law FnExactCameraText holds: the program's text is the reference's, for all arguments; the listed tables of the library are tied by the given tie. -/
import Derived.Test.YtejbahdihfnbcaaDoorRows
import Derived.Test.YtejbahdihfnbcaaDoorCards
import Derived.Test.YtejbahdihfnbcaaDoorTie
import Derived.WalkKit
import Derived.ProofKit
import Derived.OpenShut
import Derived.LaidMore
import Derived.Stop.Joined
import Derived.SevenTiedAt
import Derived.Test.YtejbahdihfnbcaaDoorTxT
import Derived.Test.YtejbahdihfnbcaaDoorTxG
namespace Go.Proofs.YtejbahdihfnbcaaDoor.nt
open Go Go.ChangeShapes Go.WideShapes Go.ChangeAt Go.RowKit
set_option linter.unusedVariables false
namespace fnExactCameraText
open Sx
def shs : List Sh := [.agg [.f .f32, .f .f32, .f .f32, .f .f32, .f .f32, .f .f32, .f .f32, .f .f32, .f .f32, .f .f32, .f .f32]]
def kinds : List FloatKind := [.f32, .f32, .f32, .f32, .f32, .f32, .f32, .f32, .f32, .f32, .f32]
theorem shapes : shTs Tryd.prog [31] = some (shs, kinds) := by kernel_rfl
theorem walk (w : World) (scs : List Sc) (args : List Value) (hx : ArgFit kinds scs) (ha : ArgRels w shs scs args) (hT : Tab w) :
    Calls Tryd.prog 5 ⟨args⟩ w fun e w' => e = .returned (.bool true) ∧ Below w.heap.size w w' := by
  obtain ⟨d0, _, rfl, d1, _, rfl, d2, _, rfl, d3, _, rfl, d4, _, rfl, d5, _, rfl, d6, _, rfl, d7, _, rfl, d8, _, rfl, d9, _, rfl, d10, _, rfl, rfl⟩ := hx
  obtain ⟨a, a', v, vs, e1, rfl, ⟨cs, rfl, hc⟩, rfl, rfl⟩ := ha
  rw [List.append_nil] at e1
  subst e1
  obtain ⟨p0, p1, p2, p3, p4, p5, p6, p7, p8, p9, p10, rfl, g0, g1, g2, g3, g4, g5, g6, g7, g8, g9, g10⟩ := scs11_inv hc
  exact law5 g0 g1 g2 g3 g4 g5 g6 g7 g8 g9 g10 w hT

set_option maxRecDepth 100000 in
theorem lifted (os : Os) (started : os.Started) (H : Type) (enc : TypeId × Value → H) :
    ReturnsInHanded {} Tryd.checked os 5 .any (fun w args => (Rows.fnExactCameraTextSpec.pre enc Tryd.prog Tryd.f5 [] false w args ∧ laidMetH Tryd.prog lst w) ∧ sizedMet enc Tryd.prog Tryd.f5 (OpenSpec.ofChange Rows.fnExactCameraTextSpec) false w args)
      (Rows.fnExactCameraTextSpec.post enc Tryd.prog Tryd.f5 false true false false) := by
  refine returnsInHanded_of_change_and (C := Tryd.checked) (X := fun w _ => laidMetH Tryd.prog lst w) (fun _ _ _ hh h => h.of_heap hh) own started (by kernel_rfl) Tryd.func5
    (ChangeSpec.witness_shaped (enc := enc) (C := Tryd.checked) (os := os) (X := fun w _ => laidMetH Tryd.prog lst w) false (World.doorLaid Tryd.prog 4000 os) #[.agg #[.float .f32 0, .float .f32 0, .float .f32 0, .float .f32 0, .float .f32 0, .float .f32 0, .float .f32 0, .float .f32 0, .float .f32 0, .float .f32 0, .float .f32 0]] 8 rfl (World.shaped_of_RefB (by kernel_rfl) (by kernel_rfl)) (by kernel_rfl) (by kernel_rfl) (by kernel_rfl) (door_met os _)) ?_
  intro W base args ds gs before hval0 hW _ _ hL _
  have hval : ∀ (j : Nat) t v, Tryd.f5.params[j]? = some t → args[j]? = some v → Value.okWide Tryd.prog W .any base t v := hval0
  have hW' := hW
  obtain ⟨p, q, hA0, hV, rfl, hfz, hnd⟩ := hW
  have hA : DataW.TrodAll enc Tryd.prog W 0 (fun _ => true) true Tryd.f5.params.toList args.toList ds p := hA0
  rw [Tryd.params5] at hA hval
  obtain ⟨rfl, hd0, ⟨scs, hx, ha⟩, hback⟩ := args_ok shapes (fun j t v ht hj => hval j t v (by simpa using ht) (by simpa using hj)) hA
  obtain ⟨rfl, rfl⟩ := trodVars_none hV
  simp only [List.append_nil] at hW'
  obtain ⟨d0, r0, rfl, hd1⟩ := listS hd0
  have hds := list0 hd1
  subst hds
  refine (walk W scs args.toList hx (ha W) (tab_of hL)).mono fun e W' ⟨he, hb⟩ => ?_
  subst he
  exact ⟨_, rfl, post_below (pa := []) (pv := []) hW' (fun _ _ _ => (trodAll_cons_mk (shut_bool Tryd.underlying4 _) trodAll_mk0)) (fun sp _ => by rw [Tryd.params5]; exact hback _ _ _ _) (fun _ _ => rfl) rfl hb (ok_one (by kernel_rfl) rfl (okWide_bool_mk Tryd.underlying4 _))⟩
theorem over : Rows.FnExactCameraTextSaid :=
  OpenClaim.holds_of_wide 5 Tryd.f5 rfl rfl rfl rfl rfl rfl rfl ⟨rfl, rfl, rfl, rfl, rfl⟩ rfl rfl rfl rfl rfl (by kernel_rfl) Tryd.func5 (by kernel_rfl)
    (of_decide_eq_true (by kernel_rfl)) (by unfold Func.isWrapper; first | (rw [if_pos (by decide +kernel)]; kernel_rfl) | (rw [if_neg (by decide +kernel)]; exact ⟨rfl, rfl⟩))
    (fun os started H enc _ => lifted os started H enc)
theorem card_holds : Rows.FnExactCameraTextCardSaid :=
  Claim7.holds_tied_plain_at .later [] [.data, .data, .data] true (true, "1afbad7bb34289f6b241c61dc41143ef497f61b684b5a3a27b672acc30a03b5c") true
    over (fun _ h => by cases h) (by kernel_rfl) (fun _ h => by cases h) fnExactCameraText_row_tie rfl ⟨rfl, rfl⟩ (by kernel_rfl) rfl
    (fun f fn hf hfn => by
      obtain rfl : f = 5 := Option.some.inj ((show Tryd.prog.funcNamed "loop.example/g01249/laws.FnExactCameraText" = some 5 by kernel_rfl).symm.trans hf) |>.symm
      obtain rfl : fn = Tryd.f5 := (Option.some.inj (Tryd.func5.symm.trans hfn)).symm
      exact ⟨by kernel_rfl, fun j t ht => by
        rw [Tryd.params5] at ht
        have hm : t ∈ [31] := by simpa using Array.mem_of_getElem? ht
        have hall : ([31].all fun u => !Tryd.prog.wantsStandIn u) = true := by kernel_rfl
        exact (show Tryd.prog.wantsStandIn t = false by simpa using List.all_eq_true.1 hall t hm)⟩)
    (by kernel_rfl)
end fnExactCameraText
end Go.Proofs.YtejbahdihfnbcaaDoor.nt
namespace Go.Proofs.YtejbahdihfnbcaaDoor
theorem fnExactCameraText_holds : Rows.FnExactCameraTextCardSaid := nt.fnExactCameraText.card_holds
end Go.Proofs.YtejbahdihfnbcaaDoor
#print axioms Go.Proofs.YtejbahdihfnbcaaDoor.fnExactCameraText_holds
