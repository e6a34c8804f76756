/- The law FnExactTwoViews holds: the program's function and the reference's return the same, for all arguments; no condition. -/
import Derived.Test.YtkaiihbibcjglaaRows
import Derived.WalkKit
import Derived.ProofKit
import Derived.OpenShut
import Derived.Test.YtkaiihbibcjglaaSxC
import Derived.Test.YtkaiihbibcjglaaModes
namespace Go.Proofs.Ytkaiihbibcjglaa.fnExactTwoViews
open Sx Go Go.ChangeShapes Go.WideShapes Go.RowKit
set_option linter.unusedVariables false
def shs : List Sh := [.agg [.f .f32, .f .f32, .f .f32, .f .f32, .f .f32, .f .f32, .f .f32, .f .f32, .f .f32, .f .f32, .f .f32], .val (.f .f32)]
def kinds : List FloatKind := [.f32, .f32, .f32, .f32, .f32, .f32, .f32, .f32, .f32, .f32, .f32, .f32]
theorem own : ownKnob Try.prog.godebug = none := by kernel_rfl
theorem shapes : shTs Try.prog [31, 22] = some (shs, kinds) := by kernel_rfl
theorem found : findS 4 sm = some s54 := by kernel_rfl
theorem engine : chkLaw md kinds (TTof ts s54.idx) = .ok := by kernel_rfl
theorem walk (w : World) (scs : List Sc) (args : List Value) (hx : ArgFit kinds scs) (ha : ArgRels w shs scs args) :
    Calls Try.prog 4 ⟨args⟩ w fun e w' => e = .returned (.bool true) ∧ Below w.heap.size w w' :=
  law_ok table tests rules md_ok found engine rfl hx ha
set_option maxRecDepth 100000 in
theorem lifted (os : Os) (started : os.Started) (H : Type) (enc : TypeId × Value → H) :
    ReturnsInHanded {} Try.checked os 4 .any (Rows.fnExactTwoViewsSpec.pre6 enc Try.prog Try.f4 Rows.fnExactTwoViewsRow.domain false) (Rows.fnExactTwoViewsSpec.post enc Try.prog Try.f4 false true false false) := by
  refine returnsInHanded_of_change (C := Try.checked) own started (by kernel_rfl) Try.func4
    (ChangeSpec.witness6 (enc := enc) (C := Try.checked) false ⟨#[], #[.agg #[.float .f32 0, .float .f32 0, .float .f32 0, .float .f32 0, .float .f32 0, .float .f32 0, .float .f32 0, .float .f32 0, .float .f32 0, .float .f32 0, .float .f32 0], .float .f32 0], []⟩ 8 (by kernel_rfl) (by kernel_rfl) (by kernel_rfl) (by kernel_rfl)) ?_
  intro W base args ds gs before hval0 hW hcnd _
  have hval : ∀ (j : Nat) t v, Try.f4.params[j]? = some t → args[j]? = some v → Value.okWide Try.prog W .any base t v := hval0
  have hW' := hW
  obtain ⟨p, q, hA0, hV, rfl, hfz, hnd⟩ := hW
  have hA : DataW.TrodAll enc Try.prog W 0 (fun _ => true) true Try.f4.params.toList args.toList ds p := hA0
  rw [Try.params4] at hA hval
  obtain ⟨rfl, hd0, ⟨scs, hx, ha⟩, hback⟩ := args_ok shapes (fun j t v ht hj => hval j t v (by simpa using ht) (by simpa using hj)) hA
  obtain ⟨rfl, rfl⟩ := trodVars_none hV
  simp only [List.append_nil] at hW'
  obtain ⟨d0, r0, rfl, hd1⟩ := listS hd0
  obtain ⟨d1, r1, rfl, hd2⟩ := listS hd1
  have hds := list0 hd2
  subst hds
  refine (walk W scs args.toList hx (ha W)).mono fun e W' ⟨he, hb⟩ => ?_
  subst he
  exact ⟨_, rfl, post_below (pa := []) (pv := []) hW' (fun _ _ _ => (trodAll_cons_mk (shut_bool Try.underlying4 _) trodAll_mk0)) (fun sp _ => by rw [Try.params4]; exact hback _ _ _ _) (fun _ _ => rfl) rfl hb (ok_one (by kernel_rfl) rfl (okWide_bool_mk Try.underlying4 _))⟩
theorem over : Rows.fnExactTwoViewsRow.holds Try.pinned (OpenSpec.ofChange Rows.fnExactTwoViewsSpec) :=
  OpenClaim.holds_of_wide 4 Try.f4 rfl rfl rfl rfl rfl rfl rfl ⟨rfl, rfl, rfl, rfl, rfl⟩ rfl rfl rfl rfl rfl (by kernel_rfl) Try.func4 (by kernel_rfl)
    (of_decide_eq_true (by kernel_rfl)) (by unfold Func.isWrapper; first | (rw [if_pos (by decide +kernel)]; kernel_rfl) | (rw [if_neg (by decide +kernel)]; exact ⟨rfl, rfl⟩))
    (fun os started H enc _ => lifted os started H enc)
end Go.Proofs.Ytkaiihbibcjglaa.fnExactTwoViews
namespace Go.Proofs.Ytkaiihbibcjglaa
theorem fnExactTwoViews_holds : Rows.FnExactTwoViewsSaid := fnExactTwoViews.over
end Go.Proofs.Ytkaiihbibcjglaa
#print axioms Go.Proofs.Ytkaiihbibcjglaa.fnExactTwoViews_holds
