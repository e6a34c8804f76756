/- The texts of cameras: what the program makes of a camera, valid or not, and the reference; of the library's table one cell is asked. -/
import Derived.Test.YtejbahdihfnbcaaDoorTxE
namespace Go.Proofs.YtejbahdihfnbcaaDoor.nt
open Go.ChangeShapes Go.WideShapes Go.ChangeAt Go.RowKit
set_option linter.unusedVariables false
set_option linter.unusedSimpArgs false
theorem joined2 (x y : Nat) : joined [x, y] = Txt x ++ sp ++ Txt y := by
  unfold joined Lib.join
  apply bytes_inj
  simp [List.intercalate, List.intersperse, sp, ByteArray.data_append]
theorem joined_size2 (x y : Nat) : (joined [x, y]).size = 17 := by
  rw [joined2]
  simp only [ByteArray.size_append, Txt_size]
  rfl
def Slice2 (a b : Nat) (g : Nat) (w : World) : Prop := w.cell? ⟨g, 0, none⟩ = some (.float .f32 a) ∧ w.cell? ⟨g, 1, none⟩ = some (.float .f32 b)
theorem slice2_new (a b : Nat) (t : TypeId) (w : World) : Slice2 a b w.heap.size (w.alloc (Obj.cells #[.float .f32 a, .float .f32 b] t)) :=
  ⟨cell_of_row _ _ 0 _ t (0, 0) (heap_alloc_new w _), cell_of_row _ _ 1 _ t (0, 0) (heap_alloc_new w _)⟩
theorem slice2_keep {a b g : Nat} {w w' : World} (hb : Below w.heap.size w w') (h : Slice2 a b g w) : Slice2 a b g w' := by
  obtain ⟨c0, c1⟩ := h
  have hg := cell_lt c0
  exact ⟨by rw [hb.cell (p := ⟨g, 0, none⟩) hg]; exact c0, by rw [hb.cell (p := ⟨g, 1, none⟩) hg]; exact c1⟩
theorem slice2_first {a b : Nat} {t : TypeId} {w w' : World} (hb : Below (w.alloc (Obj.cells #[.float .f32 a, .float .f32 b] t)).heap.size (w.alloc (Obj.cells #[.float .f32 a, .float .f32 b] t)) w') : Slice2 a b w.heap.size w' := slice2_keep hb (slice2_new a b t w)
theorem slice2_firstD {a b : Nat} {t : TypeId} {w w' : World} (hb : Below (w.alloc (Obj.cells #[.float .f32 a, .float .f32 b] t)).drew.heap.size (w.alloc (Obj.cells #[.float .f32 a, .float .f32 b] t)).drew w') : Slice2 a b w.heap.size w' := slice2_keep hb (slice2_new a b t w)
theorem nums2s (x y : Nat) (hx : x < 4294967296) (hy : y < 4294967296) (bk c : Nat) (w : World) (hT : Tab w) (h : Slice2 x y bk w) : Calls Tryd.prog 29 #[.slice (some ⟨bk, 0, none⟩) 2 c] w fun e w' => e = .returned (.string (joined [x, y])) ∧ Below w.heap.size w w' := by
  refine (nums2 x y hx hy bk c w hT h.1 h.2).mono ?_
  rintro e w' ⟨rfl, hb⟩
  exact ⟨rfl, hb⟩
section
variable (e0 e1 e2 e3 e4 e5 e6 e7 e8 e9 e10 : Nat)
theorem cam_eq : ((⟨#[99, 97, 109, 101, 114, 97, 32]⟩ : ByteArray) ++ joined [e0, e1, e2] ++ (⟨#[32]⟩ : ByteArray) ++ joined [e3, e4, e5] ++ (⟨#[32]⟩ : ByteArray) ++ joined [e6, e7, e8] ++ (⟨#[32]⟩ : ByteArray) ++ joined [e9, e10]) = Cam e0 e1 e2 e3 e4 e5 e6 e7 e8 e9 e10 := by
  unfold Cam
  rw [joined2]
  apply bytes_inj
  simp [sp, ByteArray.data_append]
set_option maxRecDepth 100000 in
set_option maxHeartbeats 12800000 in
theorem cam15t (h0 : e0 < 4294967296) (h1 : e1 < 4294967296) (h2 : e2 < 4294967296) (h3 : e3 < 4294967296) (h4 : e4 < 4294967296) (h5 : e5 < 4294967296) (h6 : e6 < 4294967296) (h7 : e7 < 4294967296) (h8 : e8 < 4294967296) (h9 : e9 < 4294967296) (h10 : e10 < 4294967296) (hE : BoolOk 28 (V3 e0 e1 e2) true) (hA : BoolOk 28 (V3 e3 e4 e5) true) (hU : BoolOk 28 (V3 e6 e7 e8) true) (w : World) (hV : BoolOk 32 (VC e0 e1 e2 e3 e4 e5 e6 e7 e8 e9 e10) true) (hT : Tab w) :
    Calls Tryd.prog 15 #[VC e0 e1 e2 e3 e4 e5 e6 e7 e8 e9 e10] w (CamPostB e0 e1 e2 e3 e4 e5 e6 e7 e8 e9 e10 true w) := by
  have HV := Lib.hid hV
  have HT := Lib.hid hT
  have HE := Lib.hid hE
  have HA := Lib.hid hA
  have HU := Lib.hid hU
  clear hV hT hE hA hU
  have HC := Lib.hid (boxC e0 e1 e2 e3 e4 e5 e6 e7 e8 e9 e10 34 w)
  have q0 : ¬ 9223372036854775807 < 7 + (joined [e0, e1, e2]).size := by simp only [joined_size3, joined_size2]; decide
  have q1 : ¬ 9223372036854775807 < 7 + (joined [e0, e1, e2]).size + 1 := by simp only [joined_size3, joined_size2]; decide
  have q2 : ¬ 9223372036854775807 < 7 + (joined [e0, e1, e2]).size + 1 + (joined [e3, e4, e5]).size := by simp only [joined_size3, joined_size2]; decide
  have q3 : ¬ 9223372036854775807 < 7 + (joined [e0, e1, e2]).size + 1 + (joined [e3, e4, e5]).size + 1 := by simp only [joined_size3, joined_size2]; decide
  have q4 : ¬ 9223372036854775807 < 7 + (joined [e0, e1, e2]).size + 1 + (joined [e3, e4, e5]).size + 1 + (joined [e6, e7, e8]).size := by simp only [joined_size3, joined_size2]; decide
  have q5 : ¬ 9223372036854775807 < 7 + (joined [e0, e1, e2]).size + 1 + (joined [e3, e4, e5]).size + 1 + (joined [e6, e7, e8]).size + 1 := by simp only [joined_size3, joined_size2]; decide
  have q6 : ¬ 9223372036854775807 < 7 + (joined [e0, e1, e2]).size + 1 + (joined [e3, e4, e5]).size + 1 + (joined [e6, e7, e8]).size + 1 + (joined [e9, e10]).size := by simp only [joined_size3, joined_size2]; decide
  unfold VC
  go_enter Tryd.func15, Tryd.ntmps15
  go_wp2_with fail
  refine (HV.out _).mono ?_
  rintro e w1 ⟨rfl, hb1⟩
  have HS := Lib.hid (startC e0 e1 e2 e3 e4 e5 e6 e7 e8 e9 e10 (cells_keep e0 e1 e2 e3 e4 e5 e6 e7 e8 e9 e10 HC.out hb1))
  have hb2 : Below w.heap.size w w1 := ((Below.refl _ _).alloc (Nat.le_refl _) _).trans (hb1.mono (by simp))
  obtain ⟨c0, c1, c2, c3, c4, c5, c6, c7, c8, c9, c10⟩ := cells_keep e0 e1 e2 e3 e4 e5 e6 e7 e8 e9 e10 HC.out hb1
  clear hb1
  go_wp2
  go_region_held3 (fun w' => w'.cell? ⟨w.heap.size, 0, none⟩ = some (.float .f32 e0) ∧ w'.cell? ⟨w.heap.size, 1, none⟩ = some (.float .f32 e1) ∧ w'.cell? ⟨w.heap.size, 2, none⟩ = some (.float .f32 e2) ∧ w'.cell? ⟨w.heap.size, 3, none⟩ = some (.float .f32 e3) ∧ w'.cell? ⟨w.heap.size, 4, none⟩ = some (.float .f32 e4) ∧ w'.cell? ⟨w.heap.size, 5, none⟩ = some (.float .f32 e5) ∧ w'.cell? ⟨w.heap.size, 6, none⟩ = some (.float .f32 e6) ∧ w'.cell? ⟨w.heap.size, 7, none⟩ = some (.float .f32 e7) ∧ w'.cell? ⟨w.heap.size, 8, none⟩ = some (.float .f32 e8) ∧ w'.cell? ⟨w.heap.size, 9, none⟩ = some (.float .f32 e9) ∧ w'.cell? ⟨w.heap.size, 10, none⟩ = some (.float .f32 e10) ∧ Below w1.heap.size w1 w') (first | exact HS.out | exact keepC e0 e1 e2 e3 e4 e5 e6 e7 e8 e9 e10 hb (by assumption) | exact keepC e0 e1 e2 e3 e4 e5 e6 e7 e8 e9 e10 ((Below.refl _ _).alloc (Nat.le_refl _) _) (by assumption) | assumption)
    (first
      | (go_at_call 12; (with_reducible refine (ipt12j _ _ _ (by assumption) (by assumption) (by assumption) ?_ _ ?_).mono ?_); (first | exact HE.out | exact HA.out | exact HU.out); exact (HT.out.below hb2).below (lastC e0 e1 e2 e3 e4 e5 e6 e7 e8 e9 e10 (g := w.heap.size) (by assumption)); rintro e w' ⟨rfl, hb⟩; first | have n0 := slice2_first hb | have n0 := slice2_firstD hb | have n0 := slice2_keep hb (by assumption : Slice2 e9 e10 _ _) | skip)
      | (go_at_call 29; (with_reducible refine (nums2s e9 e10 (by assumption) (by assumption) _ _ _ ?_ ?_).mono ?_); exact (HT.out.below hb2).below (lastC e0 e1 e2 e3 e4 e5 e6 e7 e8 e9 e10 (g := w.heap.size) (by assumption)); (first | exact slice2_new _ _ _ _ | assumption); rintro e w' ⟨rfl, hb⟩))
  all_goals (go_wp2; go_ret; exact ⟨(cam_eq e0 e1 e2 e3 e4 e5 e6 e7 e8 e9 e10).symm ▸ rfl, hb2.trans ((lastC e0 e1 e2 e3 e4 e5 e6 e7 e8 e9 e10 (g := w.heap.size) (by assumption)).mono hb2.size)⟩)
set_option maxRecDepth 100000 in
theorem cam15f (w : World) (hV : BoolOk 32 (VC e0 e1 e2 e3 e4 e5 e6 e7 e8 e9 e10) false) : Calls Tryd.prog 15 #[VC e0 e1 e2 e3 e4 e5 e6 e7 e8 e9 e10] w (CamPostB e0 e1 e2 e3 e4 e5 e6 e7 e8 e9 e10 false w) := by
  have HV := Lib.hid hV
  clear hV
  unfold VC
  go_enter Tryd.func15, Tryd.ntmps15
  go_wp2_with fail
  refine (HV.out _).mono ?_
  rintro e w1 ⟨rfl, hb1⟩
  go_wp2
  go_ret
  exact ⟨rfl, ((Below.refl _ _).alloc (Nat.le_refl _) _).trans (hb1.mono (by simp))⟩
def PtrOk (f : FuncId) (b : Bool) : Prop := ∀ w : World, Calls Tryd.prog f #[.pointer (some ⟨w.heap.size, 0, none⟩)] (w.alloc (Obj.cells #[.float .f32 e0, .float .f32 e1, .float .f32 e2, .float .f32 e3, .float .f32 e4, .float .f32 e5, .float .f32 e6, .float .f32 e7, .float .f32 e8, .float .f32 e9, .float .f32 e10] 34)) fun e w' => e = .returned (.bool b) ∧ Below (w.alloc (Obj.cells #[.float .f32 e0, .float .f32 e1, .float .f32 e2, .float .f32 e3, .float .f32 e4, .float .f32 e5, .float .f32 e6, .float .f32 e7, .float .f32 e8, .float .f32 e9, .float .f32 e10] 34)).heap.size (w.alloc (Obj.cells #[.float .f32 e0, .float .f32 e1, .float .f32 e2, .float .f32 e3, .float .f32 e4, .float .f32 e5, .float .f32 e6, .float .f32 e7, .float .f32 e8, .float .f32 e9, .float .f32 e10] 34)) w'
set_option maxRecDepth 100000 in
theorem cam13 (h0 : e0 < 4294967296) (h1 : e1 < 4294967296) (h2 : e2 < 4294967296) (h3 : e3 < 4294967296) (h4 : e4 < 4294967296) (h5 : e5 < 4294967296) (h6 : e6 < 4294967296) (h7 : e7 < 4294967296) (h8 : e8 < 4294967296) (h9 : e9 < 4294967296) (h10 : e10 < 4294967296) (b : Bool) (hO : PtrOk e0 e1 e2 e3 e4 e5 e6 e7 e8 e9 e10 30 b) (w : World) : Calls Tryd.prog 13 #[VC e0 e1 e2 e3 e4 e5 e6 e7 e8 e9 e10] w (CamPostB e0 e1 e2 e3 e4 e5 e6 e7 e8 e9 e10 b w) := by
  have HO := Lib.hid hO
  have HC := Lib.hid (boxC e0 e1 e2 e3 e4 e5 e6 e7 e8 e9 e10 34 w)
  clear hO
  unfold VC
  cases b
  all_goals
    go_enter Tryd.func13, Tryd.ntmps13
    go_wp2_with fail
    refine (HO.out _).mono ?_
    rintro e w1 ⟨rfl, hb1⟩
    have hb2 : Below w.heap.size w w1 := ((Below.refl _ _).alloc (Nat.le_refl _) _).trans (hb1.mono (by simp))
  · go_wp2
    go_ret
    exact ⟨rfl, hb2⟩
  · go_wp2_with fail
    refine (cam31 e0 e1 e2 e3 e4 e5 e6 e7 e8 e9 e10 h0 h1 h2 h3 h4 h5 h6 h7 h8 h9 h10 _ _ (cells_keep e0 e1 e2 e3 e4 e5 e6 e7 e8 e9 e10 HC.out hb1)).mono ?_
    rintro e w2 ⟨rfl, hb3⟩
    go_wp2
    go_ret
    exact ⟨rfl, hb2.trans (hb3.mono hb2.size)⟩
end
end Go.Proofs.YtejbahdihfnbcaaDoor.nt
