/- The texts of several numbers: the program joins them by blanks, and so does the reference, at three numbers; of the library's table one cell is asked. -/
import Derived.Test.YtejbahdihfnbcaaDoorTxB
import Derived.Deep.RegionHeld3
import Derived.Deep.DeepCutAuto
import Derived.Test.YtejbahdihfnbcaaDoorShelf
import Derived.Maps.AppendAt
import Derived.Deep.AppendLies
import Derived.OwnWalk
namespace Go.Proofs.YtejbahdihfnbcaaDoor.nt
open Go.ChangeShapes Go.WideShapes Go.ChangeAt Go.RowKit
set_option linter.unusedVariables false
theorem Txt_size (b : Nat) : (Txt b).size = 8 := by show (digs (cb b) 8).toArray.size = 8; simp [digs_len]
theorem cat_run (a b : ByteArray) (h : a.size + b.size ≤ 1000) (W : World) : (binOp BinOp.add 9 (.string a) (.string b)).run Tryd.prog W = .ok (.string (a ++ b)) W := by
  have h' : ¬ 9223372036854775807 < a.size + b.size := by omega
  simp [binOp, go_sem, h']
def sp : ByteArray := ⟨#[32]⟩
def SRel (n : Nat) (x y z : Nat) (w w' : World) : Prop := w'.cell? ⟨n, 0, none⟩ = some (.float .f32 x) ∧ w'.cell? ⟨n, 1, none⟩ = some (.float .f32 y) ∧ w'.cell? ⟨n, 2, none⟩ = some (.float .f32 z)
def P3Post (x y z : Nat) (w : World) (e : Ending) (w' : World) : Prop := e = .returned (.string (Txt x ++ sp ++ Txt y ++ sp ++ Txt z)) ∧ Below w.heap.size w w'
theorem cell_lt {w : World} {g o : Nat} {v : Value} (h : w.cell? ⟨g, o, none⟩ = some v) : g < w.heap.size := by
  rcases Nat.lt_or_ge g w.heap.size with q | q
  · exact q
  · simp [World.cell?, Array.getElem?_eq_none q] at h
theorem keep3 {n : Nat} {x y z : Value} {w w1 w2 : World} (a : w1.cell? ⟨n, 0, none⟩ = some x) (b : w1.cell? ⟨n, 1, none⟩ = some y) (c : w1.cell? ⟨n, 2, none⟩ = some z) (d : Below w.heap.size w w1) (hb : Below w1.heap.size w1 w2) :
    w2.cell? ⟨n, 0, none⟩ = some x ∧ w2.cell? ⟨n, 1, none⟩ = some y ∧ w2.cell? ⟨n, 2, none⟩ = some z ∧ Below w.heap.size w w2 := by
  have hn := cell_lt a
  exact ⟨by rw [hb.cell (p := ⟨n, 0, none⟩) hn]; exact a, by rw [hb.cell (p := ⟨n, 1, none⟩) hn]; exact b, by rw [hb.cell (p := ⟨n, 2, none⟩) hn]; exact c, d.trans (hb.mono d.size)⟩
theorem keep4 {n : Nat} {x y z : Value} {w w1 w2 : World} (hb : Below w1.heap.size w1 w2) (h : w1.cell? ⟨n, 0, none⟩ = some x ∧ w1.cell? ⟨n, 1, none⟩ = some y ∧ w1.cell? ⟨n, 2, none⟩ = some z ∧ Below w.heap.size w w1) :
    w2.cell? ⟨n, 0, none⟩ = some x ∧ w2.cell? ⟨n, 1, none⟩ = some y ∧ w2.cell? ⟨n, 2, none⟩ = some z ∧ Below w.heap.size w w2 := keep3 h.1 h.2.1 h.2.2.1 h.2.2.2 hb
theorem keepB {w w1 w2 : World} (hb : Below w1.heap.size w1 w2) (d : Below w.heap.size w w1) : Below w.heap.size w w2 := d.trans (hb.mono d.size)
theorem start3 (x y z : Value) (t : TypeId) (w : World) :
    (w.alloc (Obj.cells #[x, y, z] t)).drew.cell? ⟨w.heap.size, 0, none⟩ = some x ∧ (w.alloc (Obj.cells #[x, y, z] t)).drew.cell? ⟨w.heap.size, 1, none⟩ = some y ∧ (w.alloc (Obj.cells #[x, y, z] t)).drew.cell? ⟨w.heap.size, 2, none⟩ = some z ∧ Below w.heap.size w (w.alloc (Obj.cells #[x, y, z] t)).drew := by
  have hb : Below w.heap.size w (w.alloc (Obj.cells #[x, y, z] t)).drew := ((Below.refl _ _).alloc (Nat.le_refl _) _).drew
  exact ⟨cell_of_row (w.alloc (Obj.cells #[x, y, z] t)) _ 0 _ t (0, 0) (heap_alloc_new w _), cell_of_row (w.alloc (Obj.cells #[x, y, z] t)) _ 1 _ t (0, 0) (heap_alloc_new w _), cell_of_row (w.alloc (Obj.cells #[x, y, z] t)) _ 2 _ t (0, 0) (heap_alloc_new w _), hb⟩
set_option maxRecDepth 100000 in
set_option maxHeartbeats 1600000 in
theorem txt27 (x y z : Nat) (hx : x < 4294967296) (hy : y < 4294967296) (hz : z < 4294967296) (w : World) :
    Calls Tryd.prog 27 #[.agg #[.float .f32 x, .float .f32 y, .float .f32 z]] w (P3Post x y z w) := by
  have c1 : ¬ 9223372036854775807 < (Txt x).size + 1 := by rw [Txt_size]; decide
  have c2 : ¬ 9223372036854775807 < (Txt x).size + 1 + (Txt y).size := by rw [Txt_size, Txt_size]; decide
  have c3 : ¬ 9223372036854775807 < (Txt x).size + 1 + (Txt y).size + 1 := by rw [Txt_size, Txt_size]; decide
  have c4 : ¬ 9223372036854775807 < (Txt x).size + 1 + (Txt y).size + 1 + (Txt z).size := by rw [Txt_size, Txt_size, Txt_size]; decide
  go_enter Tryd.func27, Tryd.ntmps27
  go_wp2
  go_region_held3 (fun w' => w'.cell? ⟨w.heap.size, 0, none⟩ = some (.float .f32 x) ∧ w'.cell? ⟨w.heap.size, 1, none⟩ = some (.float .f32 y) ∧ w'.cell? ⟨w.heap.size, 2, none⟩ = some (.float .f32 z) ∧ Below w.heap.size w w') (first | exact start3 _ _ _ _ _ | exact keep4 hb (by assumption) | assumption)
    (first | (go_at_call 22; (with_reducible refine (hex22 _ (by assumption) _).mono ?_); rintro e w' ⟨rfl, hb⟩))
  all_goals (go_wp2; go_ret; exact ⟨rfl, (show _ ∧ _ ∧ _ ∧ Below w.heap.size w _ from by assumption).2.2.2⟩)

theorem own_below {w w' : World} {base : Nat} {e : TypeId} {size : Nat} {v : Value} {n : Nat} {xs : List Value} (h : w.ownsRow base e size v n xs) (hb : Below w.heap.size w w') : w'.ownsRow base e size v n xs := by
  refine ⟨h.1, ?_⟩
  rcases h.2 with h | ⟨g, cap, cur, h1, h2, h3, h4⟩
  · exact .inl h
  · have hg : g < w.heap.size := (Array.getElem?_eq_some_iff.1 h3).1
    exact .inr ⟨g, cap, cur, h1, h2, by rw [hb.block g hg]; exact h3, h4⟩
def strs (xs : List Nat) : List Value := xs.map fun b => .string (Txt b)
def RelN (w : World) (xs : List Nat) (v i : Value) (w' : World) : Prop := ∃ k : Nat, k ≤ xs.length ∧ i = .int .i64 k ∧ w'.ownsRow w.heap.size 9 1 v k (strs (xs.take k)) ∧ Below w.heap.size w w'
def joined (xs : List Nat) : ByteArray := ⟨(Lib.join (xs.map fun b => (Txt b).data.toList) [32]).toArray⟩
def NPost (xs : List Nat) (w : World) (e : Ending) (w' : World) : Prop := e = .returned (.string (joined xs)) ∧ Below w.heap.size w w'
theorem lens_txt : ∀ xs : List Nat, Lib.lens (xs.map ((fun x : ByteArray => x.data.toList) ∘ Txt)) = 8 * xs.length
  | [] => rfl
  | b :: r => by
    have h := lens_txt r
    unfold Lib.lens at h ⊢
    simp only [List.map_cons, List.sum_cons, List.length_cons, h]
    have : (((fun x : ByteArray => x.data.toList) ∘ Txt) b).length = 8 := Txt_size b
    omega
theorem join_small (xs : List Nat) : (Lib.join (xs.map ((fun x : ByteArray => x.data.toList) ∘ Txt)) [32]).length ≤ 9 * xs.length := by
  cases xs with
  | nil => simp [Lib.join]
  | cons b r =>
    have h := lens_txt (b :: r)
    rw [List.map_cons, Lib.join_length, ← List.map_cons, h]
    simp
    omega
set_option maxRecDepth 100000 in
set_option maxHeartbeats 1600000 in
theorem nums29 (xs : List Nat) (hxs : ∀ b ∈ xs, b < 4294967296) (hn : 0 < xs.length) (hn2 : xs.length ≤ 100) (bk o c : Nat) (w : World) (hT : Tab w) (hbk : bk < w.heap.size)
    (hcells : ∀ j b, xs[j]? = some b → w.cell? ⟨bk, o + j, none⟩ = some (.float .f32 b)) :
    Calls Tryd.prog 29 #[.slice (some ⟨bk, o, none⟩) xs.length c] w (NPost xs w) := by
  have HT := Lib.hid hT
  have HC := Lib.hid hcells
  clear hT hcells
  have h0 : (Tryd.prog.info? 9).map (fun i => (i.size, i.bytes, i.zero)) = some (1, 16, some (.string ⟨#[]⟩)) := by kernel_rfl
  cases hi : Tryd.prog.info? 9 with
  | none => rw [hi] at h0; cases h0
  | some i0 =>
  rw [hi] at h0
  simp only [Option.map_some, Option.some.injEq, Prod.mk.injEq] at h0
  obtain ⟨hz1, hz2, hz0⟩ := h0
  have HI := Lib.hid hi
  have HZ0 := Lib.hid hz0
  have HZ1 := Lib.hid hz1
  have HZ2 := Lib.hid hz2
  clear hi hz0 hz1 hz2
  go_enter Tryd.func29, Tryd.ntmps29
  go_wp2
  go_loopw [3, 9] (RelN w xs) (fun v i w' => (xs.length - (intOf i).toNat))
  case atStart =>
    exact ⟨0, Nat.zero_le _, rfl, ⟨rfl, .inr ⟨w.heap.size, 0, #[], rfl, Nat.le_refl _, heap_alloc_new w _, Nat.le_refl _, by unfold maxLen; omega, rfl, rfl⟩⟩, (Below.refl _ _).alloc (Nat.le_refl _) _⟩
  case round =>
    obtain ⟨k, hk, rfl, hown, hbel⟩ := hrel
    by_cases hlt : k < xs.length
    · obtain ⟨b, hb⟩ : ∃ b, xs[k]? = some b := ⟨_, List.getElem?_eq_getElem hlt⟩
      have hb32 : b < 4294967296 := hxs b (List.mem_of_getElem? hb)
      have hc : wr.cell? ⟨bk, o + k, none⟩ = some (.float .f32 b) := by rw [hbel.cell (p := ⟨bk, o + k, none⟩) hbk]; exact HC.out k b hb
      have HB := Lib.hid hb
      clear hb
      have hsz := hbel.size
      go_wp2_with (first
        | (go_at_call 9; refine (nt9 b hb32 _ (HT.out.below hbel).1 (HT.out.below hbel).2).mono ?_; rintro e w1 ⟨rfl, hb1⟩)
        | (at_builtin; refine wpList_append_own _ rfl (.tmp 13) (.tmp 16) 66 rfl w.heap.size 9 i0 (.string ⟨#[]⟩) 1 16 Tryd.underlying66 HI.out HZ0.out HZ1.out HZ2.out rfl (by decide) _ _ _ rfl ((own_below hown hb1).alloc _) ⟨w1.heap.size, 0, none⟩ 1 1 [.string (Txt b)] rfl rfl (cell_one_new _ _ _) (by intro u hu; simp at hu; subst hu; rfl) (by unfold maxLen; omega) (by omega) (by have := hb1.size; simp; omega) ?_; intro v1 w2 hown1 hgrow1 hnil1))
      refine ⟨⟨k + 1, hlt, by go_num, ?_, ?_⟩, by simp [intOf]; omega⟩
      · have e : strs (xs.take (k + 1)) = strs (xs.take k) ++ [.string (Txt b)] := by
          rw [List.take_add_one, HB.out]
          simp [strs]
        rw [e]
        exact hown1
      · exact ((hbel.trans (hb1.mono hbel.size)).alloc (by have := hb1.size; omega) _).grown hgrow1 (by have := hb1.size; simp; omega) (fun j hj => (hown.lt j hj).1)
    · obtain rfl : k = xs.length := by omega
      rw [List.take_length] at hown
      obtain ⟨g, cap, rfl, hg1, hg2⟩ := hown.form hn
      have hlen : (strs xs).length = xs.length := by simp [strs]
      have hcap : xs.length ≤ cap := by
        rcases hown.2 with ⟨h, _⟩ | ⟨g', cap', cur, h1, _, _, h4, _⟩
        · cases h
        · cases h1; exact h4
      have hj : ∀ (j : Nat) x, (xs.map Txt)[j]? = some x → wr.cell? ⟨g, 0 + j, none⟩ = some (.string x) := by
        intro j x hx
        have := hown.cells (g := g) rfl j (.string x) (by
          rw [List.getElem?_map] at hx
          cases hq : xs[j]? with
          | none => rw [hq] at hx; cases hx
          | some b => rw [hq] at hx; cases hx; simp [strs, hq])
        rw [add_off] at this
        exact this
      have hjoin := Tryd.strings_Join g 0 cap (xs.map Txt) ⟨#[32]⟩ wr hj hg2 (by simp; omega) (by simpa using hcap) (by
        rw [List.map_map]
        exact Nat.le_trans (join_small xs) (by omega))
      rw [List.length_map] at hjoin
      clear hj hown
      go_wp2_with ((go_at_call 50; refine hjoin.mono ?_; rintro e w1 ⟨rfl, hb1⟩))
      go_ret
      exact ⟨rfl, hbel.trans (hb1.mono hbel.size)⟩

theorem joined3 (x y z : Nat) : joined [x, y, z] = Txt x ++ sp ++ Txt y ++ sp ++ Txt z := by
  unfold joined Lib.join
  apply bytes_inj
  simp [List.intercalate, List.intersperse, sp, ByteArray.data_append]
end Go.Proofs.YtejbahdihfnbcaaDoor.nt
