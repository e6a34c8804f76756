/- The law FnExactReadNumber holds: the program reads of every text what the reference reads; the listed tables and error values of the library are tied by the given tie. -/
import Derived.Test.YtejbahdihfnbcaaDoorRows
import Derived.Test.YtejbahdihfnbcaaDoorCards
import Derived.Test.YtejbahdihfnbcaaDoorTie
import Derived.WalkKit
import Derived.ProofKit
import Derived.OpenShut
import Derived.LaidMore
import Derived.Stop.Joined
import Derived.SevenTiedAt
import Derived.Stop.LaidErr
import Derived.Test.YtejbahdihfnbcaaDoorTxT
import Derived.Test.YtejbahdihfnbcaaDoorTxS
namespace Go.Proofs.YtejbahdihfnbcaaDoor.nt
open Go Go.ChangeShapes Go.WideShapes Go.ChangeAt Go.WideMaps Go.WideElems Go.RowKit
open Go.ChangeMaps (open_string shut_string)
set_option linter.unusedVariables false
abbrev lst5 {H : Type} : List (String × DataW H) := [("math/bits.deBruijn32tab", Rows.laid_math_bits_deBruijn32tab), ("math/bits.deBruijn64tab", Rows.laid_math_bits_deBruijn64tab), ("internal/strconv.uint64pow10", Rows.laid_internal_strconv_uint64pow10), ("strconv.ErrRange", Rows.laid_strconv_ErrRange), ("strconv.ErrSyntax", Rows.laid_strconv_ErrSyntax)]
theorem door_met5 (os : Os) (args : Array Value) : laidMetH Tryd.prog lst5 ((World.doorLaid Tryd.prog 4000 os).forCall (fun _ _ => 0) ⟨#[], args, []⟩).memory :=
  laidMetH_of_parts3 (fuel := 8) (laidMet_of_run' 8 (by kernel_rfl) (by kernel_rfl)) (by kernel_rfl) (by kernel_rfl)
set_option maxRecDepth 100000 in
theorem tab_of5 {W : World} (h : laidMetH Tryd.prog lst5 W) : Tab W := by
  rw [MakeChecks.laidMetH_plain _ _ _ (by kernel_rfl)] at h
  obtain ⟨ps, ⟨g0, t0, cs0, f0, p0, q0, hg0, ht0, hv0, hd0, ⟨g1, t1, cs1, f1, p1, q1, hg1, ht1, hv1, hd1, _, _⟩, _⟩, _, _⟩ := h
  obtain rfl := Option.some.inj (g64.symm.trans hg1)
  obtain rfl := Option.some.inj (t64.symm.trans ht1)
  obtain ⟨xs, m1, rfl, hx1, hlen, hn3, hel⟩ := DataW.trod_array Tryd.underlying144 hd1
  have h15 := hel 15 (by decide)
  have hcell := World.var?_cell hg1 hv1 15
  have c5 : Tryd.prog.cellsOf 5 = 1 := by kernel_rfl
  rw [c5] at h15
  cases hx : xs[15]? with
  | none => exact absurd (List.getElem?_eq_none_iff.1 hx) (by omega)
  | some x =>
    rw [hx] at h15
    obtain ⟨k, e1, e2, _⟩ := DataW.trod_int Tryd.underlying5 h15
    have hd := row64 hx1
    rw [List.getElem?_map, hx, Option.map_some, e2] at hd
    have hk : k = 4 := by
      have := Option.some.inj hd
      injection this with this
      injection this with _ this
      exact this.symm
    subst hk
    have h4 : cs1[15]? = some (.int .u8 4) := by
      have := congrArg (fun l : List Value => l[0]?) e1
      simp only [Nat.mul_one, List.getElem?_take, List.getElem?_drop] at this
      simpa using this
    have hc : W.cell? ⟨6, 15, none⟩ = some (.int .u8 4) := hcell.trans h4
    refine ⟨hc, ?_⟩
    rcases Nat.lt_or_ge 6 W.heap.size with q | q
    · exact q
    · simp [World.cell?, Array.getElem?_eq_none q] at hc

theorem star : "*" ++ "errors.errorString" = "*errors.errorString" := by decide
theorem row140 (u : TypeId) (h : Tryd.prog.typeName? 3 u = some "*errors.errorString") : u = 140 :=
  typeName_ptr_named (nm := "errors.errorString") (by rw [star]; kernel_rfl) (by kernel_rfl) (by decide) u (by rw [star]; exact h)
theorem errs_of5 {W : World} (h : laidMetH Tryd.prog lst5 W) : ErrVars W := by
  rw [MakeChecks.laidMetH_plain _ _ _ (by kernel_rfl)] at h
  have gR : Tryd.prog.globalNamed "strconv.ErrRange" = some 3 := by kernel_rfl
  have gS : Tryd.prog.globalNamed "strconv.ErrSyntax" = some 2 := by kernel_rfl
  have tR : (Tryd.prog.globals[3]?).map (·.type) = some 60 := by kernel_rfl
  have tS : (Tryd.prog.globals[2]?).map (·.type) = some 60 := by kernel_rfl
  have c142 : Tryd.prog.cellsOf 142 = 1 := by kernel_rfl
  have c9 : Tryd.prog.cellsOf 9 = 1 := by kernel_rfl
  obtain ⟨a0, s0, hv0, -, -, -⟩ := laid_sentinel h.tail.tail.tail gR tR Tryd.underlying60 row140 Tryd.underlying140 Tryd.underlying142 rfl rfl Tryd.underlying9 c142 c9
  obtain ⟨a1, s1, hv1, -, -, -⟩ := laid_sentinel h.tail.tail.tail.tail gS tS Tryd.underlying60 row140 Tryd.underlying140 Tryd.underlying142 rfl rfl Tryd.underlying9 c142 c9
  have h0 : W.cell? ⟨3, 0, none⟩ = some (.iface 140 (.pointer (some a0))) := by have h0 := World.var?_cell gR hv0 0; simpa using h0
  have h1 : W.cell? ⟨2, 0, none⟩ = some (.iface 140 (.pointer (some a1))) := by have h0 := World.var?_cell gS hv1 0; simpa using h0
  refine ⟨⟨_, h1, .inr ⟨_, _, rfl⟩⟩, ⟨_, h0, .inr ⟨_, _, rfl⟩⟩, ?_⟩
  rcases Nat.lt_or_ge 3 W.heap.size with q | q
  · exact q
  · simp [World.cell?, Array.getElem?_eq_none q] at h0
namespace fnExactReadNumber
open Sx
set_option maxRecDepth 100000 in
theorem lifted (os : Os) (started : os.Started) (H : Type) (enc : TypeId × Value → H) :
    ReturnsInHanded {} Tryd.checked os 6 .any (fun w args => (Rows.fnExactReadNumberSpec.pre enc Tryd.prog Tryd.f6 [] false w args ∧ laidMetH Tryd.prog lst5 w) ∧ sizedMet enc Tryd.prog Tryd.f6 (OpenSpec.ofChange Rows.fnExactReadNumberSpec) false w args)
      (Rows.fnExactReadNumberSpec.post enc Tryd.prog Tryd.f6 false true false false) := by
  refine returnsInHanded_of_change_and (C := Tryd.checked) (X := fun w _ => laidMetH Tryd.prog lst5 w) (fun _ _ _ hh h => h.of_heap hh) own started (by kernel_rfl) Tryd.func6
    (ChangeSpec.witness_shaped (enc := enc) (C := Tryd.checked) (os := os) (X := fun w _ => laidMetH Tryd.prog lst5 w) false (World.doorLaid Tryd.prog 4000 os) #[.string ⟨#[]⟩] 8 rfl (World.shaped_of_RefB (by kernel_rfl) (by kernel_rfl)) (by kernel_rfl) (by kernel_rfl) (by kernel_rfl) (door_met5 os _)) ?_
  intro W base args ds gs before hval0 hW _ _ hL _
  have hval : ∀ (j : Nat) t v, Tryd.f6.params[j]? = some t → args[j]? = some v → Value.okWide Tryd.prog W .any base t v := hval0
  have hW' := hW
  obtain ⟨p, q, hA0, hV, rfl, hfz, hnd⟩ := hW
  have hA : DataW.TrodAll enc Tryd.prog W 0 (fun _ => true) true Tryd.f6.params.toList args.toList ds p := hA0
  rw [Tryd.params6] at hA hval
  obtain ⟨v0, d0, rfl, rfl, h0⟩ := trodAll_one hA
  obtain ⟨rfl, rfl⟩ := trodVars_none hV
  obtain ⟨t, rfl, rfl, rfl, hs⟩ := open_string Tryd.underlying9 (hval 0 9 v0 rfl rfl) h0
  clear hA0 hval0
  simp only [List.append_nil] at hW'
  refine (law6 t W (tab_of5 hL) (errs_of5 hL)).mono fun e W' ⟨he, hbel⟩ => ?_
  subst he
  exact ⟨_, rfl, post_below (pa := []) (pv := []) hW' (fun _ _ _ => (trodAll_cons_mk (shut_bool Tryd.underlying4 _) trodAll_mk0)) (fun sp _ => (trodAll_cons_mk (shut_string Tryd.underlying9 hs) trodAll_mk0)) (fun _ _ => rfl) rfl hbel (ok_one (by kernel_rfl) rfl (okWide_bool_mk Tryd.underlying4 _))⟩
theorem over : Rows.FnExactReadNumberSaid :=
  OpenClaim.holds_of_wide 6 Tryd.f6 rfl rfl rfl rfl rfl rfl rfl ⟨rfl, rfl, rfl, rfl, rfl⟩ rfl rfl rfl rfl rfl (by kernel_rfl) Tryd.func6 (by kernel_rfl)
    (of_decide_eq_true (by kernel_rfl)) (by unfold Func.isWrapper; first | (rw [if_pos (by decide +kernel)]; kernel_rfl) | (rw [if_neg (by decide +kernel)]; exact ⟨rfl, rfl⟩))
    (fun os started H enc _ => lifted os started H enc)
theorem card_holds : Rows.FnExactReadNumberCardSaid :=
  Claim7.holds_tied_plain_at .later [] [.data, .data, .data, .sentinel, .sentinel] true (true, "1afbad7bb34289f6b241c61dc41143ef497f61b684b5a3a27b672acc30a03b5c") true
    over (fun _ h => by cases h) (by kernel_rfl) (fun _ h => by cases h) fnExactReadNumber_row_tie rfl ⟨rfl, rfl⟩ (by kernel_rfl) rfl
    (fun f fn hf hfn => by
      obtain rfl : f = 6 := Option.some.inj ((show Tryd.prog.funcNamed "loop.example/g01249/laws.FnExactReadNumber" = some 6 by kernel_rfl).symm.trans hf) |>.symm
      obtain rfl : fn = Tryd.f6 := (Option.some.inj (Tryd.func6.symm.trans hfn)).symm
      exact ⟨by kernel_rfl, fun j t ht => by
        rw [Tryd.params6] at ht
        have hm : t ∈ [9] := by simpa using Array.mem_of_getElem? ht
        have hall : ([9].all fun u => !Tryd.prog.wantsStandIn u) = true := by kernel_rfl
        exact (show Tryd.prog.wantsStandIn t = false by simpa using List.all_eq_true.1 hall t hm)⟩)
    (by kernel_rfl)
end fnExactReadNumber
end Go.Proofs.YtejbahdihfnbcaaDoor.nt
namespace Go.Proofs.YtejbahdihfnbcaaDoor
theorem fnExactReadNumber_holds : Rows.FnExactReadNumberCardSaid := nt.fnExactReadNumber.card_holds
end Go.Proofs.YtejbahdihfnbcaaDoor
#print axioms Go.Proofs.YtejbahdihfnbcaaDoor.fnExactReadNumber_holds
