/- The texts of numbers: the program's NumberText and the reference's l01Hex give the same eight digits; of the library's table one cell is asked. -/
import Derived.Test.YtejbahdihfnbcaaDoorTxA
import Derived.Laws.MakeOwn
namespace Go.Proofs.YtejbahdihfnbcaaDoor.nt
open Go.ChangeShapes Go.WideShapes Go.ChangeAt Go.RowKit
set_option linter.unusedVariables false
theorem cb_nan {b : Nat} (h : nanB b = true) : cb b = 2143289344 := by unfold cb; rw [if_pos h]
theorem cb_num {b : Nat} (h : nanB b = false) : cb b = b := by unfold cb; rw [h]; rfl
theorem zeros_size (k : Nat) : (zeros k).size ≤ k := by show (List.replicate k 48).toArray.size ≤ k; simp
def StrPost2 (T : ByteArray) (w : World) (e : Ending) (w' : World) : Prop := ∃ s : ByteArray, 1 ≤ s.size ∧ s.size ≤ 8 ∧ Hid (zeros (8 - s.size) ++ s = T) ∧ e = .returned (.string s) ∧ Below w.heap.size w w'
theorem fu24b (n : Nat) (hn : n < 4294967296) (w : World) (h : w.cell? ⟨6, 15, none⟩ = some (.int .u8 4)) (hz : 6 < w.heap.size) :
    Calls Tryd.prog 24 #[.int .u64 n, .int .i64 16] w (StrPost2 ⟨(digs n 8).toArray⟩ w) := by
  refine (fu24 n hn w h hz).mono ?_
  rintro e w' ⟨m, h1, h2, h3, rfl, hb⟩
  have hl : (ByteArray.mk (digs n m).toArray).size = m := by
    show (digs n m).toArray.size = m
    simp [digs_len]
  refine ⟨_, by rw [hl]; exact h1, by rw [hl]; exact h2, Lib.hid ?_, rfl, hb⟩
  rw [hl]
  exact pad8 n m h1 h2 h3
set_option maxRecDepth 100000 in
theorem nt9 (b : Nat) (hb : b < 4294967296) (w : World) (h : w.cell? ⟨6, 15, none⟩ = some (.int .u8 4)) (hz : 6 < w.heap.size) :
    Calls Tryd.prog 9 #[.float .f32 b] w (TxtPost b w) := by
  have he := neq_run b
  have hx := ext23 b
  have hf := fu24b (cb b) (cb_lt hb) w h hz
  have hT : Hid (Txt b = ⟨(digs (cb b) 8).toArray⟩) := Lib.hid rfl
  clear h
  revert hf hT
  generalize ByteArray.mk (digs (cb b) 8).toArray = T
  intro hf hT
  cases hn : nanB b
  · rw [hn] at he
    rw [cb_num hn] at hf
    clear hn
    go_enter Tryd.func9, Tryd.ntmps9
    go_wp2_with (first
      | (go_at_call 24; refine hf.mono ?_; rintro e w' ⟨s, h1, h2, h3, rfl, hbel⟩)
      | (go_at_call 25; refine (rep_all _ (by assumption) (by assumption) _).mono ?_; rintro e w' ⟨rfl, rfl⟩; have hzs := zeros_size (8 - s.size))
      | go_in)
    go_ret
    exact ⟨by rw [hT.out, ← h3.out]; rfl, hbel⟩
  · rw [hn] at he
    rw [cb_nan hn] at hf
    clear hn
    go_enter Tryd.func9, Tryd.ntmps9
    go_wp2_with (first
      | (go_at_call 24; refine hf.mono ?_; rintro e w' ⟨s, h1, h2, h3, rfl, hbel⟩)
      | (go_at_call 25; refine (rep_all _ (by assumption) (by assumption) _).mono ?_; rintro e w' ⟨rfl, rfl⟩; have hzs := zeros_size (8 - s.size))
      | go_in)
    go_ret
    exact ⟨by rw [hT.out, ← h3.out]; rfl, hbel⟩
theorem make8 (W : World) : (Instr.makeSlice 70 (.int .i64 8) (.int .i64 8)).run Tryd.prog W = .ok (.slice (some ⟨W.heap.size, 0, none⟩) 8 8) (W.alloc (.cells (List.replicate 8 (Value.int .u8 0)).toArray 5)) := by
  have h0 : (Tryd.prog.info? 5).map (fun i => (i.size, i.bytes, i.zero)) = some (1, 1, some (.int .u8 0)) := by kernel_rfl
  cases hi : Tryd.prog.info? 5 with
  | none => rw [hi] at h0; cases h0
  | some i =>
    rw [hi] at h0
    simp only [Option.map_some, Option.some.injEq, Prod.mk.injEq] at h0
    obtain ⟨e1, e2, e3⟩ := h0
    have := run_makeSlice (P := Tryd.prog) W 70 5 i (.int .u8 0) (by kernel_rfl) hi e3 .i64 .i64 8 8 (by decide) (by decide) (by rw [e1]; decide) (by rw [e2]; decide) (by decide)
    rw [this, e1]
    have e : madeCells (Value.int IntKind.u8 0).cells (Int.toNat 8 * 1) = (List.replicate 8 (Value.int .u8 0)).toArray := by kernel_rfl
    rw [e]
    rfl
def tab16 : ByteArray := ⟨#[48, 49, 50, 51, 52, 53, 54, 55, 56, 57, 97, 98, 99, 100, 101, 102]⟩
theorem tab16_at (d : Nat) (h : d < tab16.size) : tab16[d]'h = hexd d := by
  have key : ∀ d, d < 16 → tab16.get! d = hexd d := by decide
  rw [← key d h]
  show _ = tab16.data[d]!
  rw [getElem!_pos tab16.data d h]
  rfl
def RelH (w : World) (n : Nat) (u k : Value) (w' : World) : Prop := ∃ j : Nat, j ≤ 8 ∧ u = .int .u32 (up n j) ∧ k = .int .i64 (7 - (j : Int)) ∧ Blk w' w.heap.size 5 (row 8 n j) ∧ Below w.heap.size w w'
set_option maxRecDepth 100000 in
set_option maxHeartbeats 400000 in
theorem hex22 (b : Nat) (hb : b < 4294967296) (w : World) : Calls Tryd.prog 22 #[.float .f32 b] w (TxtPost b w) := by
  have hbits := bits41 b
  have hT : Hid (Txt b = ⟨(digs (cb b) 8).toArray⟩) := Lib.hid rfl
  have hn := cb_lt hb
  revert hn hT hbits
  generalize cb b = n
  intro hbits hT hn
  have hmk := make8 w
  go_enter Tryd.func22, Tryd.ntmps22
  go_wp2_with ((go_at_call 41; refine (hbits _).mono ?_; rintro e w' ⟨rfl, rfl⟩))
  clear hbits hmk
  go_loopw [3, 5] (RelH w n) (fun u k w' => (intOf k + 1).toNat)
  case atStart =>
    refine ⟨0, by omega, by rw [up_zero], rfl, ?_, (Below.refl _ _).alloc (Nat.le_refl _) _⟩
    show (w.alloc _).heap[w.heap.size]? = some (.cells (row 8 n 0) 5 (0, 0))
    rw [heap_alloc_new]
    rfl
  case round =>
    obtain ⟨j, hj, rfl, rfl, hb, hbel⟩ := hrel
    by_cases hlt : j < 8
    · have hm : up n j % 16 < 16 := Nat.mod_lt _ (by decide)
      have hc : wr.cell? ⟨w.heap.size, 7 - j, none⟩ = some (.int .u8 0) := by
        rw [show wr.cell? ⟨w.heap.size, 7 - j, none⟩ = (row 8 n j)[7 - j]? from cell_of_row wr _ _ _ _ _ hb, show 7 - j = 8 - j - 1 from by omega]
        exact row_low 8 n j (by omega)
      have hf : wr.frozen? ⟨w.heap.size, 7 - j, none⟩ = false := by
        have hb' : wr.heap[w.heap.size]? = some (.cells (row 8 n j) 5 (0, 0)) := hb
        simp [World.frozen?, hb']
      have H := Lib.hid hb
      clear hb
      go_wp2
      have hu : up n j < 4294967296 := Nat.lt_of_le_of_lt (Nat.div_le_self _ _) hn
      refine ⟨⟨j + 1, hlt, ?_, ?_, ?_, ?_⟩, ?_⟩
      · rw [up_succ]; congr 1; omega
      · congr 1; omega
      · have := H.out
        rw [show ∀ h, (⟨#[48, 49, 50, 51, 52, 53, 54, 55, 56, 57, 97, 98, 99, 100, 101, 102]⟩ : ByteArray)[up n j % 16]'h = hexd (up n j % 16) from fun h => tab16_at _ h, ← row_set 8 n j (by omega), show 8 - j - 1 = 7 - j from by omega]
        unfold Blk at this ⊢
        simp [World.setCell, Array.getElem?_modify, this, val8]
      · exact hbel.setCell (Nat.le_refl _) _
      · simp [intOf]; omega
    · have e8 : j = 8 := by omega
      subst e8
      have hcv : (convert 70 9 (.slice (some ⟨w.heap.size, 0, none⟩) 8 8)).run Tryd.prog wr = .ok (.string ⟨(digs n 8).toArray⟩) wr := by
        have := run_convert_bytes_back (P := Tryd.prog) wr 70 9 5 ⟨w.heap.size, 0, none⟩ 8 (digs n 8) (by kernel_rfl) (by kernel_rfl) (by kernel_rfl) (fun i hi => by
          rw [digs_len] at hi
          rw [add_off]
          rw [show World.cell? wr ⟨w.heap.size, 0 + i, none⟩ = (row 8 n 8)[0 + i]? from cell_of_row _ _ _ _ _ _ hb]
          unfold row
          simp only [Nat.sub_self, List.replicate_zero, List.nil_append, List.getElem?_toArray, Nat.zero_add]
          rw [List.getElem?_map, List.getElem?_eq_getElem (by rw [digs_len]; exact hi)]
          rfl)
        rw [digs_len] at this
        exact this
      clear hb
      go_wp2
      go_ret
      exact ⟨by rw [hT.out]; rfl, hbel⟩
theorem snt8 (b : Nat) (hb : b < 4294967296) (w : World) : Calls Tryd.prog 8 #[.float .f32 b] w (TxtPost b w) := by
  have hf := hex22 b hb w
  go_enter Tryd.func8, Tryd.ntmps8
  go_wp2_with ((go_at_call 22; refine hf.mono ?_; rintro e w' ⟨rfl, hbel⟩))
  go_ret
  exact ⟨rfl, hbel⟩
def Tab (w : World) : Prop := w.cell? ⟨6, 15, none⟩ = some (.int .u8 4) ∧ 6 < w.heap.size
theorem Tab.below {w w' : World} (h : Tab w) (hb : Below w.heap.size w w') : Tab w' :=
  ⟨by rw [hb.cell (p := ⟨6, 15, none⟩) h.2]; exact h.1, Nat.lt_of_lt_of_le h.2 hb.size⟩
theorem law3 (b : Nat) (hb : b < 4294967296) (w : World) (h : Tab w) : Calls Tryd.prog 3 #[.float .f32 b] w fun e w' => e = .returned (.bool true) ∧ Below w.heap.size w w' := by
  have H := Lib.hid h
  clear h
  go_enter Tryd.func3, Tryd.ntmps3
  go_wp2_with (first
    | (go_at_call 8; refine (snt8 b hb _).mono ?_; rintro e w1 ⟨rfl, hb1⟩)
    | (go_at_call 9; refine (nt9 b hb _ (H.out.below hb1).1 (H.out.below hb1).2).mono ?_; rintro e w2 ⟨rfl, hb2⟩))
  go_ret
  exact ⟨rfl, hb1.trans (hb2.mono hb1.size)⟩
end Go.Proofs.YtejbahdihfnbcaaDoor.nt
