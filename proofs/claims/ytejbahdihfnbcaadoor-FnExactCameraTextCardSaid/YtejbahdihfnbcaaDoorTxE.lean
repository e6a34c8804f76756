/- The texts of cameras: what the reference makes of eleven numbers; no condition. -/
import Derived.Test.YtejbahdihfnbcaaDoorTxP
namespace Go.Proofs.YtejbahdihfnbcaaDoor.nt
open Go.ChangeShapes Go.WideShapes Go.ChangeAt Go.RowKit
set_option linter.unusedVariables false
set_option linter.unusedSimpArgs false
theorem joined_size3 (x y z : Nat) : (joined [x, y, z]).size = 26 := by
  rw [joined3]
  simp only [ByteArray.size_append, Txt_size]
  rfl
theorem txt27j (x y z : Nat) (hx : x < 4294967296) (hy : y < 4294967296) (hz : z < 4294967296) (w : World) : Calls Tryd.prog 27 #[.agg #[.float .f32 x, .float .f32 y, .float .f32 z]] w fun e w' => e = .returned (.string (joined [x, y, z])) ∧ Below w.heap.size w w' := by
  refine (txt27 x y z hx hy hz w).mono ?_
  rintro e w' ⟨rfl, hb⟩
  exact ⟨by rw [joined3], hb⟩
section
variable (e0 e1 e2 e3 e4 e5 e6 e7 e8 e9 e10 : Nat)
/-- the eleven cells of a camera -/
def Cells (g : Nat) (w : World) : Prop := w.cell? ⟨g, 0, none⟩ = some (.float .f32 e0) ∧ w.cell? ⟨g, 1, none⟩ = some (.float .f32 e1) ∧ w.cell? ⟨g, 2, none⟩ = some (.float .f32 e2) ∧ w.cell? ⟨g, 3, none⟩ = some (.float .f32 e3) ∧ w.cell? ⟨g, 4, none⟩ = some (.float .f32 e4) ∧ w.cell? ⟨g, 5, none⟩ = some (.float .f32 e5) ∧ w.cell? ⟨g, 6, none⟩ = some (.float .f32 e6) ∧ w.cell? ⟨g, 7, none⟩ = some (.float .f32 e7) ∧ w.cell? ⟨g, 8, none⟩ = some (.float .f32 e8) ∧ w.cell? ⟨g, 9, none⟩ = some (.float .f32 e9) ∧ w.cell? ⟨g, 10, none⟩ = some (.float .f32 e10)
theorem cells_keep {g : Nat} {w w' : World} (h : Cells e0 e1 e2 e3 e4 e5 e6 e7 e8 e9 e10 g w) (hb : Below w.heap.size w w') : Cells e0 e1 e2 e3 e4 e5 e6 e7 e8 e9 e10 g w' := by
  obtain ⟨c0, c1, c2, c3, c4, c5, c6, c7, c8, c9, c10⟩ := h
  have hg := cell_lt c0
  exact ⟨by rw [hb.cell (p := ⟨g, 0, none⟩) hg]; exact c0, by rw [hb.cell (p := ⟨g, 1, none⟩) hg]; exact c1, by rw [hb.cell (p := ⟨g, 2, none⟩) hg]; exact c2, by rw [hb.cell (p := ⟨g, 3, none⟩) hg]; exact c3, by rw [hb.cell (p := ⟨g, 4, none⟩) hg]; exact c4, by rw [hb.cell (p := ⟨g, 5, none⟩) hg]; exact c5, by rw [hb.cell (p := ⟨g, 6, none⟩) hg]; exact c6, by rw [hb.cell (p := ⟨g, 7, none⟩) hg]; exact c7, by rw [hb.cell (p := ⟨g, 8, none⟩) hg]; exact c8, by rw [hb.cell (p := ⟨g, 9, none⟩) hg]; exact c9, by rw [hb.cell (p := ⟨g, 10, none⟩) hg]; exact c10⟩
def Cam : ByteArray := (⟨#[99, 97, 109, 101, 114, 97, 32]⟩ : ByteArray) ++ joined [e0, e1, e2] ++ sp ++ joined [e3, e4, e5] ++ sp ++ joined [e6, e7, e8] ++ sp ++ Txt e9 ++ sp ++ Txt e10
def CamPost (w : World) (e : Ending) (w' : World) : Prop := e = .returned (.string (Cam e0 e1 e2 e3 e4 e5 e6 e7 e8 e9 e10)) ∧ Below w.heap.size w w'
theorem keepC {g : Nat} {w w1 w2 : World} (hb : Below w1.heap.size w1 w2) (h : w1.cell? ⟨g, 0, none⟩ = some (.float .f32 e0) ∧ w1.cell? ⟨g, 1, none⟩ = some (.float .f32 e1) ∧ w1.cell? ⟨g, 2, none⟩ = some (.float .f32 e2) ∧ w1.cell? ⟨g, 3, none⟩ = some (.float .f32 e3) ∧ w1.cell? ⟨g, 4, none⟩ = some (.float .f32 e4) ∧ w1.cell? ⟨g, 5, none⟩ = some (.float .f32 e5) ∧ w1.cell? ⟨g, 6, none⟩ = some (.float .f32 e6) ∧ w1.cell? ⟨g, 7, none⟩ = some (.float .f32 e7) ∧ w1.cell? ⟨g, 8, none⟩ = some (.float .f32 e8) ∧ w1.cell? ⟨g, 9, none⟩ = some (.float .f32 e9) ∧ w1.cell? ⟨g, 10, none⟩ = some (.float .f32 e10) ∧ Below w.heap.size w w1) : w2.cell? ⟨g, 0, none⟩ = some (.float .f32 e0) ∧ w2.cell? ⟨g, 1, none⟩ = some (.float .f32 e1) ∧ w2.cell? ⟨g, 2, none⟩ = some (.float .f32 e2) ∧ w2.cell? ⟨g, 3, none⟩ = some (.float .f32 e3) ∧ w2.cell? ⟨g, 4, none⟩ = some (.float .f32 e4) ∧ w2.cell? ⟨g, 5, none⟩ = some (.float .f32 e5) ∧ w2.cell? ⟨g, 6, none⟩ = some (.float .f32 e6) ∧ w2.cell? ⟨g, 7, none⟩ = some (.float .f32 e7) ∧ w2.cell? ⟨g, 8, none⟩ = some (.float .f32 e8) ∧ w2.cell? ⟨g, 9, none⟩ = some (.float .f32 e9) ∧ w2.cell? ⟨g, 10, none⟩ = some (.float .f32 e10) ∧ Below w.heap.size w w2 := by
  obtain ⟨c0, c1, c2, c3, c4, c5, c6, c7, c8, c9, c10, d⟩ := h
  have hg := cell_lt c0
  exact ⟨by rw [hb.cell (p := ⟨g, 0, none⟩) hg]; exact c0, by rw [hb.cell (p := ⟨g, 1, none⟩) hg]; exact c1, by rw [hb.cell (p := ⟨g, 2, none⟩) hg]; exact c2, by rw [hb.cell (p := ⟨g, 3, none⟩) hg]; exact c3, by rw [hb.cell (p := ⟨g, 4, none⟩) hg]; exact c4, by rw [hb.cell (p := ⟨g, 5, none⟩) hg]; exact c5, by rw [hb.cell (p := ⟨g, 6, none⟩) hg]; exact c6, by rw [hb.cell (p := ⟨g, 7, none⟩) hg]; exact c7, by rw [hb.cell (p := ⟨g, 8, none⟩) hg]; exact c8, by rw [hb.cell (p := ⟨g, 9, none⟩) hg]; exact c9, by rw [hb.cell (p := ⟨g, 10, none⟩) hg]; exact c10, d.trans (hb.mono d.size)⟩
theorem lastC {g : Nat} {w w1 : World} (h : w1.cell? ⟨g, 0, none⟩ = some (.float .f32 e0) ∧ w1.cell? ⟨g, 1, none⟩ = some (.float .f32 e1) ∧ w1.cell? ⟨g, 2, none⟩ = some (.float .f32 e2) ∧ w1.cell? ⟨g, 3, none⟩ = some (.float .f32 e3) ∧ w1.cell? ⟨g, 4, none⟩ = some (.float .f32 e4) ∧ w1.cell? ⟨g, 5, none⟩ = some (.float .f32 e5) ∧ w1.cell? ⟨g, 6, none⟩ = some (.float .f32 e6) ∧ w1.cell? ⟨g, 7, none⟩ = some (.float .f32 e7) ∧ w1.cell? ⟨g, 8, none⟩ = some (.float .f32 e8) ∧ w1.cell? ⟨g, 9, none⟩ = some (.float .f32 e9) ∧ w1.cell? ⟨g, 10, none⟩ = some (.float .f32 e10) ∧ Below w.heap.size w w1) : Below w.heap.size w w1 := h.2.2.2.2.2.2.2.2.2.2.2
theorem startC {g : Nat} {w : World} (h : Cells e0 e1 e2 e3 e4 e5 e6 e7 e8 e9 e10 g w) : w.drew.cell? ⟨g, 0, none⟩ = some (.float .f32 e0) ∧ w.drew.cell? ⟨g, 1, none⟩ = some (.float .f32 e1) ∧ w.drew.cell? ⟨g, 2, none⟩ = some (.float .f32 e2) ∧ w.drew.cell? ⟨g, 3, none⟩ = some (.float .f32 e3) ∧ w.drew.cell? ⟨g, 4, none⟩ = some (.float .f32 e4) ∧ w.drew.cell? ⟨g, 5, none⟩ = some (.float .f32 e5) ∧ w.drew.cell? ⟨g, 6, none⟩ = some (.float .f32 e6) ∧ w.drew.cell? ⟨g, 7, none⟩ = some (.float .f32 e7) ∧ w.drew.cell? ⟨g, 8, none⟩ = some (.float .f32 e8) ∧ w.drew.cell? ⟨g, 9, none⟩ = some (.float .f32 e9) ∧ w.drew.cell? ⟨g, 10, none⟩ = some (.float .f32 e10) ∧ Below w.heap.size w w.drew := by
  obtain ⟨c0, c1, c2, c3, c4, c5, c6, c7, c8, c9, c10⟩ := h
  exact ⟨c0, c1, c2, c3, c4, c5, c6, c7, c8, c9, c10, (Below.refl _ _).drew⟩
set_option maxRecDepth 100000 in
set_option maxHeartbeats 6400000 in
theorem cam31 (h0 : e0 < 4294967296) (h1 : e1 < 4294967296) (h2 : e2 < 4294967296) (h3 : e3 < 4294967296) (h4 : e4 < 4294967296) (h5 : e5 < 4294967296) (h6 : e6 < 4294967296) (h7 : e7 < 4294967296) (h8 : e8 < 4294967296) (h9 : e9 < 4294967296) (h10 : e10 < 4294967296) (g : Nat) (w : World) (hc : Cells e0 e1 e2 e3 e4 e5 e6 e7 e8 e9 e10 g w) : Calls Tryd.prog 31 #[.pointer (some ⟨g, 0, none⟩)] w (CamPost e0 e1 e2 e3 e4 e5 e6 e7 e8 e9 e10 w) := by
  have HS := Lib.hid (startC e0 e1 e2 e3 e4 e5 e6 e7 e8 e9 e10 hc)
  have q0 : ¬ 9223372036854775807 < 7 + (joined [e0, e1, e2]).size := by simp only [joined_size3, Txt_size]; decide
  have q1 : ¬ 9223372036854775807 < 7 + (joined [e0, e1, e2]).size + 1 := by simp only [joined_size3, Txt_size]; decide
  have q2 : ¬ 9223372036854775807 < 7 + (joined [e0, e1, e2]).size + 1 + (joined [e3, e4, e5]).size := by simp only [joined_size3, Txt_size]; decide
  have q3 : ¬ 9223372036854775807 < 7 + (joined [e0, e1, e2]).size + 1 + (joined [e3, e4, e5]).size + 1 := by simp only [joined_size3, Txt_size]; decide
  have q4 : ¬ 9223372036854775807 < 7 + (joined [e0, e1, e2]).size + 1 + (joined [e3, e4, e5]).size + 1 + (joined [e6, e7, e8]).size := by simp only [joined_size3, Txt_size]; decide
  have q5 : ¬ 9223372036854775807 < 7 + (joined [e0, e1, e2]).size + 1 + (joined [e3, e4, e5]).size + 1 + (joined [e6, e7, e8]).size + 1 := by simp only [joined_size3, Txt_size]; decide
  have q6 : ¬ 9223372036854775807 < 7 + (joined [e0, e1, e2]).size + 1 + (joined [e3, e4, e5]).size + 1 + (joined [e6, e7, e8]).size + 1 + (Txt e9).size := by simp only [joined_size3, Txt_size]; decide
  have q7 : ¬ 9223372036854775807 < 7 + (joined [e0, e1, e2]).size + 1 + (joined [e3, e4, e5]).size + 1 + (joined [e6, e7, e8]).size + 1 + (Txt e9).size + 1 := by simp only [joined_size3, Txt_size]; decide
  have q8 : ¬ 9223372036854775807 < 7 + (joined [e0, e1, e2]).size + 1 + (joined [e3, e4, e5]).size + 1 + (joined [e6, e7, e8]).size + 1 + (Txt e9).size + 1 + (Txt e10).size := by simp only [joined_size3, Txt_size]; decide
  obtain ⟨c0, c1, c2, c3, c4, c5, c6, c7, c8, c9, c10⟩ := hc
  go_enter Tryd.func31, Tryd.ntmps31
  go_wp2
  go_region_held3 (fun w' => w'.cell? ⟨g, 0, none⟩ = some (.float .f32 e0) ∧ w'.cell? ⟨g, 1, none⟩ = some (.float .f32 e1) ∧ w'.cell? ⟨g, 2, none⟩ = some (.float .f32 e2) ∧ w'.cell? ⟨g, 3, none⟩ = some (.float .f32 e3) ∧ w'.cell? ⟨g, 4, none⟩ = some (.float .f32 e4) ∧ w'.cell? ⟨g, 5, none⟩ = some (.float .f32 e5) ∧ w'.cell? ⟨g, 6, none⟩ = some (.float .f32 e6) ∧ w'.cell? ⟨g, 7, none⟩ = some (.float .f32 e7) ∧ w'.cell? ⟨g, 8, none⟩ = some (.float .f32 e8) ∧ w'.cell? ⟨g, 9, none⟩ = some (.float .f32 e9) ∧ w'.cell? ⟨g, 10, none⟩ = some (.float .f32 e10) ∧ Below w.heap.size w w') (first | exact HS.out | exact keepC e0 e1 e2 e3 e4 e5 e6 e7 e8 e9 e10 hb (by assumption) | assumption)
    (first
      | (go_at_call 27; (with_reducible refine (txt27j _ _ _ (by assumption) (by assumption) (by assumption) _).mono ?_); rintro e w' ⟨rfl, hb⟩)
      | (go_at_call 22; (with_reducible refine (hex22 _ (by assumption) _).mono ?_); rintro e w' ⟨rfl, hb⟩))
  all_goals (go_wp2; go_ret; exact ⟨rfl, lastC e0 e1 e2 e3 e4 e5 e6 e7 e8 e9 e10 (g := g) (by assumption)⟩)
theorem nums2 (x y : Nat) (hx : x < 4294967296) (hy : y < 4294967296) (bk c : Nat) (w : World) (hT : Tab w)
    (h0 : w.cell? ⟨bk, 0, none⟩ = some (.float .f32 x)) (h1 : w.cell? ⟨bk, 1, none⟩ = some (.float .f32 y)) :
    Calls Tryd.prog 29 #[.slice (some ⟨bk, 0, none⟩) 2 c] w (NPost [x, y] w) :=
  nums29 [x, y] (by intro b hb; simp at hb; rcases hb with rfl | rfl <;> assumption) (by simp) (by simp) bk 0 c w hT (cell_lt h0) (by
    intro j b hj
    match j, hj with
    | 0, hj => cases hj; exact h0
    | 1, hj => cases hj; exact h1)
theorem ipt12j (x y z : Nat) (hx : x < 4294967296) (hy : y < 4294967296) (hz : z < 4294967296) (hb : BoolOk 28 (V3 x y z) true) (w : World) (hT : Tab w) :
    Calls Tryd.prog 12 #[.agg #[.float .f32 x, .float .f32 y, .float .f32 z]] w fun e w' => e = .returned (.string (joined [x, y, z])) ∧ Below w.heap.size w w' := by
  refine (ipt12 x y z hx hy hz true hb w hT).mono ?_
  rintro e w' ⟨rfl, hb⟩
  exact ⟨rfl, hb⟩
def VC : Value := .agg #[.float .f32 e0, .float .f32 e1, .float .f32 e2, .float .f32 e3, .float .f32 e4, .float .f32 e5, .float .f32 e6, .float .f32 e7, .float .f32 e8, .float .f32 e9, .float .f32 e10]
def CamTxt (b : Bool) : ByteArray := match b with | true => Cam e0 e1 e2 e3 e4 e5 e6 e7 e8 e9 e10 | false => ⟨#[]⟩
def CamPostB (b : Bool) (w : World) (e : Ending) (w' : World) : Prop := e = .returned (.string (CamTxt e0 e1 e2 e3 e4 e5 e6 e7 e8 e9 e10 b)) ∧ Below w.heap.size w w'
theorem boxC (t : TypeId) (w : World) : Cells e0 e1 e2 e3 e4 e5 e6 e7 e8 e9 e10 w.heap.size (w.alloc (Obj.cells #[.float .f32 e0, .float .f32 e1, .float .f32 e2, .float .f32 e3, .float .f32 e4, .float .f32 e5, .float .f32 e6, .float .f32 e7, .float .f32 e8, .float .f32 e9, .float .f32 e10] t)) := by
  have h : ∀ i, (w.alloc (Obj.cells #[Value.float .f32 e0, Value.float .f32 e1, Value.float .f32 e2, Value.float .f32 e3, Value.float .f32 e4, Value.float .f32 e5, Value.float .f32 e6, Value.float .f32 e7, Value.float .f32 e8, Value.float .f32 e9, Value.float .f32 e10] t)).cell? ⟨w.heap.size, i, none⟩ = #[Value.float .f32 e0, Value.float .f32 e1, Value.float .f32 e2, Value.float .f32 e3, Value.float .f32 e4, Value.float .f32 e5, Value.float .f32 e6, Value.float .f32 e7, Value.float .f32 e8, Value.float .f32 e9, Value.float .f32 e10][i]? := fun i => cell_of_row _ _ i _ t (0, 0) (heap_alloc_new w _)
  exact ⟨h 0, h 1, h 2, h 3, h 4, h 5, h 6, h 7, h 8, h 9, h 10⟩
end
end Go.Proofs.YtejbahdihfnbcaaDoor.nt
