/- The law FnExactPointText holds: the program's text is the reference's, for all arguments; the listed tables of the library are tied by the given tie. -/
import Derived.Test.YtejbahdihfnbcaaDoorRows
import Derived.Test.YtejbahdihfnbcaaDoorCards
import Derived.Test.YtejbahdihfnbcaaDoorTie
import Derived.WalkKit
import Derived.ProofKit
import Derived.OpenShut
import Derived.LaidMore
import Derived.Stop.Joined
import Derived.SevenTiedAt
import Derived.Test.YtejbahdihfnbcaaDoorTxT
import Derived.Test.YtejbahdihfnbcaaDoorTxP
namespace Go.Proofs.YtejbahdihfnbcaaDoor.nt
open Go Go.ChangeShapes Go.WideShapes Go.ChangeAt Go.RowKit
set_option linter.unusedVariables false
open Sx in
theorem PtTxt_eq (b : Bool) {x y z x' y' z' : Nat} {d0 d1 d2 : Option Nat} (h0 : FRel .f32 x d0) (h1 : FRel .f32 y d1) (h2 : FRel .f32 z d2) (g0 : FRel .f32 x' d0) (g1 : FRel .f32 y' d1) (g2 : FRel .f32 z' d2) : PtTxt b x y z = PtTxt b x' y' z' := by
  cases b
  · rfl
  · simp only [PtTxt, joined, List.map_cons, List.map_nil, Txt, cb_eq h0 g0, cb_eq h1 g1, cb_eq h2 g2]
open Sx in
set_option maxRecDepth 100000 in
set_option maxHeartbeats 1600000 in
theorem law4 {x y z : Nat} {d0 d1 d2 : Option Nat} (h0 : FRel .f32 x d0) (h1 : FRel .f32 y d1) (h2 : FRel .f32 z d2) (w : World) (hT : Tab w) :
    Calls Tryd.prog 4 #[V3 x y z] w fun e w' => e = .returned (.bool true) ∧ Below w.heap.size w w' := by
  obtain ⟨b, v2, v5⟩ := valid_same d0 d1 d2
  have V2 := Lib.hid v2
  have V5 := Lib.hid v5
  have HT := Lib.hid hT
  have h0' := Lib.hid h0
  have h1' := Lib.hid h1
  have h2' := Lib.hid h2
  clear v2 v5 hT h0 h1 h2
  unfold V3
  go_enter Tryd.func4, Tryd.ntmps4
  go_wp2_with fail
  refine (topt11 h0'.out h1'.out h2'.out _).mono ?_
  rintro e w1 ⟨x1, y1, z1, rfl, g0, g1, g2, hb1⟩
  obtain ⟨f0, f1, f2, hb3⟩ := box3 hb1
  unfold V3
  go_wp2_with fail
  refine (spt10 x1 y1 z1 (f32_lt g0) (f32_lt g1) (f32_lt g2) b (bool_of (f := 26) (s := s2) (by kernel_rfl) rfl rfl g0 g1 g2 V2.out) _).mono ?_
  rintro e w2 ⟨rfl, hb2⟩
  obtain ⟨c0, c1, c2, hb4⟩ := keep3 f0 f1 f2 hb3 hb2
  clear f0 f1 f2
  go_wp2_with fail
  refine (topt11 h0'.out h1'.out h2'.out _).mono ?_
  rintro e w3 ⟨x2, y2, z2, rfl, k0, k1, k2, hb5⟩
  have hb6 := keepB hb5 hb4
  unfold V3
  go_wp2_with fail
  refine (ipt12 x2 y2 z2 (f32_lt k0) (f32_lt k1) (f32_lt k2) b (bool_of (f := 28) (s := s5) (by kernel_rfl) rfl rfl k0 k1 k2 V5.out) _ (HT.out.below hb6)).mono ?_
  rintro e w4 ⟨rfl, hb7⟩
  rw [PtTxt_eq b k0 k1 k2 g0 g1 g2]
  go_wp2
  go_ret
  exact ⟨rfl, keepB hb7 hb6⟩

namespace fnExactPointText
open Sx
def shs : List Sh := [.agg [.f .f32, .f .f32, .f .f32]]
def kinds : List FloatKind := [.f32, .f32, .f32]
theorem shapes : shTs Tryd.prog [25] = some (shs, kinds) := by kernel_rfl
theorem walk (w : World) (scs : List Sc) (args : List Value) (hx : ArgFit kinds scs) (ha : ArgRels w shs scs args) (hT : Tab w) :
    Calls Tryd.prog 4 ⟨args⟩ w fun e w' => e = .returned (.bool true) ∧ Below w.heap.size w w' := by
  obtain ⟨d0, _, rfl, d1, _, rfl, d2, _, rfl, rfl⟩ := hx
  obtain ⟨a, a', v, vs, e1, rfl, ⟨cs, rfl, hc⟩, rfl, rfl⟩ := ha
  rw [List.append_nil] at e1
  subst e1
  obtain ⟨p, q, r, rfl, g0, g1, g2⟩ := scs3_inv hc
  exact law4 g0 g1 g2 w hT

set_option maxRecDepth 100000 in
theorem lifted (os : Os) (started : os.Started) (H : Type) (enc : TypeId × Value → H) :
    ReturnsInHanded {} Tryd.checked os 4 .any (fun w args => (Rows.fnExactPointTextSpec.pre enc Tryd.prog Tryd.f4 [] false w args ∧ laidMetH Tryd.prog lst w) ∧ sizedMet enc Tryd.prog Tryd.f4 (OpenSpec.ofChange Rows.fnExactPointTextSpec) false w args)
      (Rows.fnExactPointTextSpec.post enc Tryd.prog Tryd.f4 false true false false) := by
  refine returnsInHanded_of_change_and (C := Tryd.checked) (X := fun w _ => laidMetH Tryd.prog lst w) (fun _ _ _ hh h => h.of_heap hh) own started (by kernel_rfl) Tryd.func4
    (ChangeSpec.witness_shaped (enc := enc) (C := Tryd.checked) (os := os) (X := fun w _ => laidMetH Tryd.prog lst w) false (World.doorLaid Tryd.prog 4000 os) #[.agg #[.float .f32 0, .float .f32 0, .float .f32 0]] 8 rfl (World.shaped_of_RefB (by kernel_rfl) (by kernel_rfl)) (by kernel_rfl) (by kernel_rfl) (by kernel_rfl) (door_met os _)) ?_
  intro W base args ds gs before hval0 hW _ _ hL _
  have hval : ∀ (j : Nat) t v, Tryd.f4.params[j]? = some t → args[j]? = some v → Value.okWide Tryd.prog W .any base t v := hval0
  have hW' := hW
  obtain ⟨p, q, hA0, hV, rfl, hfz, hnd⟩ := hW
  have hA : DataW.TrodAll enc Tryd.prog W 0 (fun _ => true) true Tryd.f4.params.toList args.toList ds p := hA0
  rw [Tryd.params4] at hA hval
  obtain ⟨rfl, hd0, ⟨scs, hx, ha⟩, hback⟩ := args_ok shapes (fun j t v ht hj => hval j t v (by simpa using ht) (by simpa using hj)) hA
  obtain ⟨rfl, rfl⟩ := trodVars_none hV
  simp only [List.append_nil] at hW'
  obtain ⟨d0, r0, rfl, hd1⟩ := listS hd0
  have hds := list0 hd1
  subst hds
  refine (walk W scs args.toList hx (ha W) (tab_of hL)).mono fun e W' ⟨he, hb⟩ => ?_
  subst he
  exact ⟨_, rfl, post_below (pa := []) (pv := []) hW' (fun _ _ _ => (trodAll_cons_mk (shut_bool Tryd.underlying4 _) trodAll_mk0)) (fun sp _ => by rw [Tryd.params4]; exact hback _ _ _ _) (fun _ _ => rfl) rfl hb (ok_one (by kernel_rfl) rfl (okWide_bool_mk Tryd.underlying4 _))⟩
theorem over : Rows.FnExactPointTextSaid :=
  OpenClaim.holds_of_wide 4 Tryd.f4 rfl rfl rfl rfl rfl rfl rfl ⟨rfl, rfl, rfl, rfl, rfl⟩ rfl rfl rfl rfl rfl (by kernel_rfl) Tryd.func4 (by kernel_rfl)
    (of_decide_eq_true (by kernel_rfl)) (by unfold Func.isWrapper; first | (rw [if_pos (by decide +kernel)]; kernel_rfl) | (rw [if_neg (by decide +kernel)]; exact ⟨rfl, rfl⟩))
    (fun os started H enc _ => lifted os started H enc)
theorem card_holds : Rows.FnExactPointTextCardSaid :=
  Claim7.holds_tied_plain_at .later [] [.data, .data, .data] true (true, "1afbad7bb34289f6b241c61dc41143ef497f61b684b5a3a27b672acc30a03b5c") true
    over (fun _ h => by cases h) (by kernel_rfl) (fun _ h => by cases h) fnExactPointText_row_tie rfl ⟨rfl, rfl⟩ (by kernel_rfl) rfl
    (fun f fn hf hfn => by
      obtain rfl : f = 4 := Option.some.inj ((show Tryd.prog.funcNamed "loop.example/g01249/laws.FnExactPointText" = some 4 by kernel_rfl).symm.trans hf) |>.symm
      obtain rfl : fn = Tryd.f4 := (Option.some.inj (Tryd.func4.symm.trans hfn)).symm
      exact ⟨by kernel_rfl, fun j t ht => by
        rw [Tryd.params4] at ht
        have hm : t ∈ [25] := by simpa using Array.mem_of_getElem? ht
        have hall : ([25].all fun u => !Tryd.prog.wantsStandIn u) = true := by kernel_rfl
        exact (show Tryd.prog.wantsStandIn t = false by simpa using List.all_eq_true.1 hall t hm)⟩)
    (by kernel_rfl)
end fnExactPointText
end Go.Proofs.YtejbahdihfnbcaaDoor.nt
namespace Go.Proofs.YtejbahdihfnbcaaDoor
theorem fnExactPointText_holds : Rows.FnExactPointTextCardSaid := nt.fnExactPointText.card_holds
end Go.Proofs.YtejbahdihfnbcaaDoor
#print axioms Go.Proofs.YtejbahdihfnbcaaDoor.fnExactPointText_holds
