/- What the rows' condition on the library's tables gives: one cell of math/bits.deBruijn64tab; and a world that meets the condition. -/
import Derived.Test.YtejbahdihfnbcaaDoorRows
import Derived.WalkKit
import Derived.ProofKit
import Derived.OpenShut
import Derived.LaidMore
import Derived.Laws.Cover2
import Derived.Stop.Joined
import Derived.Test.YtejbahdihfnbcaaDoorTxB
namespace Go.Proofs.YtejbahdihfnbcaaDoor.nt
open Go Go.ChangeShapes Go.WideShapes Go.ChangeAt Go.WideMaps Go.WideElems Go.RowKit
theorem own : ownKnob Tryd.prog.godebug = none := by kernel_rfl
theorem g64 : Tryd.prog.globalNamed "math/bits.deBruijn64tab" = some 6 := by kernel_rfl
theorem t64 : (Tryd.prog.globals[6]?).map (·.type) = some 144 := by kernel_rfl
abbrev lst {H : Type} : List (String × DataW H) := [("math/bits.deBruijn32tab", Rows.laid_math_bits_deBruijn32tab), ("math/bits.deBruijn64tab", Rows.laid_math_bits_deBruijn64tab), ("internal/strconv.uint64pow10", Rows.laid_internal_strconv_uint64pow10)]
/-- The door's own heap meets the condition. -/
theorem door_met (os : Os) (args : Array Value) : laidMetH Tryd.prog lst ((World.doorLaid Tryd.prog 4000 os).forCall (fun _ _ => 0) ⟨#[], args, []⟩).memory :=
  laidMetH_of_parts3 (fuel := 8) (laidMet_of_run' 8 (by kernel_rfl) (by kernel_rfl)) (by kernel_rfl) (by kernel_rfl)
/-- What the condition gives the walk: one cell of the table. -/
theorem row64 {xs : List (DataW Unit × List MemPlace)} {p1 : List MemPlace} (hx1 : (Rows.laid_math_bits_deBruijn64tab, p1) = (DataW.agg (List.map (fun x => x.fst) xs), List.flatMap (fun x => x.snd) xs)) : (some (DataW.lit (Lit.int .u8 4)) : Option (DataW Unit)) = (List.map (fun x => x.fst) xs)[15]? := by
  have h := congrArg Prod.fst hx1
  have h2 : Rows.laid_math_bits_deBruijn64tab (H := Unit) = DataW.agg (List.map (fun x => x.fst) xs) := h
  unfold Rows.laid_math_bits_deBruijn64tab at h2
  injection h2 with h2
  rw [← h2]
  rfl
set_option maxRecDepth 100000 in
theorem tab_of {W : World} (h : laidMetH Tryd.prog lst W) : Tab W := by
  rw [MakeChecks.laidMetH_plain _ _ _ (by kernel_rfl)] at h
  obtain ⟨ps, ⟨g0, t0, cs0, f0, p0, q0, hg0, ht0, hv0, hd0, ⟨g1, t1, cs1, f1, p1, q1, hg1, ht1, hv1, hd1, _, _⟩, _⟩, _, _⟩ := h
  obtain rfl := Option.some.inj (g64.symm.trans hg1)
  obtain rfl := Option.some.inj (t64.symm.trans ht1)
  obtain ⟨xs, m1, rfl, hx1, hlen, hn3, hel⟩ := DataW.trod_array Tryd.underlying144 hd1
  have h15 := hel 15 (by decide)
  have hcell := World.var?_cell hg1 hv1 15
  have c5 : Tryd.prog.cellsOf 5 = 1 := by kernel_rfl
  rw [c5] at h15
  cases hx : xs[15]? with
  | none => exact absurd (List.getElem?_eq_none_iff.1 hx) (by omega)
  | some x =>
    rw [hx] at h15
    obtain ⟨k, e1, e2, _⟩ := DataW.trod_int Tryd.underlying5 h15
    have hd := row64 hx1
    rw [List.getElem?_map, hx, Option.map_some, e2] at hd
    have hk : k = 4 := by
      have := Option.some.inj hd
      injection this with this
      injection this with _ this
      exact this.symm
    subst hk
    have h4 : cs1[15]? = some (.int .u8 4) := by
      have := congrArg (fun l : List Value => l[0]?) e1
      simp only [Nat.mul_one, List.getElem?_take, List.getElem?_drop] at this
      simpa using this
    have hc : W.cell? ⟨6, 15, none⟩ = some (.int .u8 4) := hcell.trans h4
    refine ⟨hc, ?_⟩
    rcases Nat.lt_or_ge 6 W.heap.size with q | q
    · exact q
    · simp [World.cell?, Array.getElem?_eq_none q] at hc
end Go.Proofs.YtejbahdihfnbcaaDoor.nt
