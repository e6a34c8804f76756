/- The texts of numbers: what the library's functions give: the hexadecimal digits of a number below 2^32, and zeros; no condition beyond the table of the library. -/
import Derived.Test.YtejbahdihfnbcaaDoorRows
import Derived.WalkKit
import Derived.ProofKit
import Derived.OpenShut
import Derived.Below
import Derived.Laws.OwnMore
import Derived.Deep.Draws
import Derived.Laws.Rows
import Derived.Lib.Hide
import Derived.Lib.Strings
import Derived.Laws.Bits64b
import Derived.Laws.IdiomStrings
namespace Go.Proofs.YtejbahdihfnbcaaDoor.nt
open Go.ChangeShapes Go.WideShapes Go.ChangeAt Go.RowKit
set_option linter.unusedVariables false
theorem pow2_16 (w : World) : Calls Tryd.prog 90 #[.int .i64 16] w fun e w' => e = .returned (.bool true) ∧ w = w' := by
  go_enter Tryd.func90, Tryd.ntmps90
  go_wp2
  go_ret
  exact ⟨rfl, rfl⟩
theorem trail_16 (w : World) (h : w.cell? ⟨6, 15, none⟩ = some (.int .u8 4)) : Calls Tryd.prog 91 #[.int .u64 16] w fun e w' => e = .returned (.int .i64 4) ∧ w = w' := by
  have e1 : IntKind.u64.wrap (bits BinOp.and IntKind.u64 16 (IntKind.u64.wrap (-16)) * 285870213051353865) / 288230376151711744 = 15 := by kernel_rfl
  go_enter Tryd.func91, Tryd.ntmps91
  go_wp2
  go_ret
  exact ⟨rfl, rfl⟩
def up (n j : Nat) : Nat := n / 16 ^ j
theorem up_zero (n : Nat) : up n 0 = n := by simp [up]
theorem up_succ (n j : Nat) : up n (j + 1) = up n j / 16 := by unfold up; rw [Nat.pow_succ, Nat.div_div_eq_div_mul]
theorem up_lt {n : Nat} (hn : n < 4294967296) {j : Nat} (h : 8 ≤ j) : up n j = 0 := by
  unfold up
  apply Nat.div_eq_of_lt
  exact Nat.lt_of_lt_of_le hn (show 16 ^ 8 ≤ 16 ^ j from Nat.pow_le_pow_right (by decide) h)
theorem up_big {n : Nat} (hn : n < 4294967296) {j : Nat} (hj : j ≤ 7) (h : 16 ≤ up n j) : j + 1 ≤ 7 := by
  rcases Nat.lt_or_ge j 7 with q | q
  · exact q
  · have : j = 7 := by omega
    subst this
    have h8 := up_lt hn (j := 8) (Nat.le_refl _)
    rw [up_succ] at h8
    omega
def hexd (d : Nat) : UInt8 := ByteArray.get! ⟨#[48, 49, 50, 51, 52, 53, 54, 55, 56, 57, 97, 98, 99, 100, 101, 102]⟩ d
/-- the j lowest digits, the highest first -/
def digs (n : Nat) : Nat → List UInt8
  | 0 => []
  | j + 1 => hexd (up n j % 16) :: digs n j
theorem digs_len (n : Nat) : ∀ j, (digs n j).length = j
  | 0 => rfl
  | j + 1 => by simp [digs, digs_len n j]
def val8 (b : UInt8) : Value := .int .u8 (b.toNat : Int)
def row (m n j : Nat) : Array Value := (List.replicate (m - j) (Value.int .u8 0) ++ (digs n j).map val8).toArray
theorem row_size (m n j : Nat) (h : j ≤ m) : (row m n j).size = m := by simp [row, digs_len]; omega
theorem row_set (m n j : Nat) (h : j < m) : (row m n j).setIfInBounds (m - j - 1) (val8 (hexd (up n j % 16))) = row m n (j + 1) := by
  unfold row
  rw [List.setIfInBounds_toArray]
  congr 1
  have e : m - j = (m - j - 1) + 1 := by omega
  have e2 : m - (j + 1) = m - j - 1 := by omega
  rw [List.set_append_left _ _ (by simp; omega), e2, digs, List.map_cons]
  generalize m - j - 1 = k at e
  rw [e, List.replicate_succ']
  rw [List.set_append_right _ _ (by simp)]
  simp
theorem row_low (m n j : Nat) (h : j < m) : (row m n j)[m - j - 1]? = some (.int .u8 0) := by
  unfold row
  rw [List.getElem?_toArray, List.getElem?_append_left (by simp; omega), List.getElem?_replicate]
  rw [if_pos (by omega)]
def tab36 : ByteArray := ⟨#[48, 49, 50, 51, 52, 53, 54, 55, 56, 57, 97, 98, 99, 100, 101, 102, 103, 104, 105, 106, 107, 108, 109, 110, 111, 112, 113, 114, 115, 116, 117, 118, 119, 120, 121, 122]⟩
theorem tab36_at (d : Nat) (hd : d < 16) (h : d < tab36.size) : tab36[d]'h = hexd d := by
  have key : ∀ d, d < 16 → tab36.get! d = hexd d := by decide
  rw [← key d hd]
  show _ = tab36.data[d]!
  rw [getElem!_pos tab36.data d h]
  rfl
theorem and15 (n j : Nat) (h : up n j < 18446744073709551616) : bits BinOp.and IntKind.u64 (↑(up n j)) 15 = ((up n j % 16 : Nat) : Int) := by
  have := bits_and_u64_nat (up n j) 15 h (by decide)
  rw [show ((15 : Nat) : Int) = 15 from rfl] at this
  rw [this, show (15 : Nat) = 2 ^ 4 - 1 from rfl, Nat.and_two_pow_sub_one_eq_mod]
theorem add_off (g o i : Nat) : (⟨g, o, none⟩ : Addr).add i = ⟨g, o + i, none⟩ := by
  unfold Addr.add
  by_cases h : i = 0
  · subst h; rfl
  · simp [h]
def Blk (w : World) (g : Nat) (t : TypeId) (cs : Array Value) : Prop := w.heap[g]? = some (.cells cs t (0, 0))
def RelF (w : World) (n : Nat) (u i : Value) (w' : World) : Prop := ∃ j : Nat, j ≤ 7 ∧ u = .int .u64 (up n j) ∧ i = .int .i64 ((65 - j : Nat) : Int) ∧ Blk w' w.heap.size 120 (row 65 n j) ∧ Below w.heap.size w w'
def FmtPost (n : Nat) (w : World) (e : Ending) (w' : World) : Prop := ∃ m : Nat, 1 ≤ m ∧ m ≤ 8 ∧ up n m = 0 ∧ e = .returned (.tuple #[.slice none 0 0, .string ⟨(digs n m).toArray⟩]) ∧ Below w.heap.size w w'
set_option maxRecDepth 100000 in
set_option maxHeartbeats 400000 in
theorem fmt16 (n : Nat) (hn : n < 4294967296) (w : World) (h : w.cell? ⟨6, 15, none⟩ = some (.int .u8 4)) (hz : 6 < w.heap.size) :
    Calls Tryd.prog 63 #[.slice none 0 0, .int .u64 n, .int .i64 16, .bool false, .bool false] w (FmtPost n w) := by
  go_enter Tryd.func63, Tryd.ntmps63
  go_wp2_with (first
    | (go_at_call 90; refine (pow2_16 _).mono ?_; rintro e w' ⟨rfl, rfl⟩)
    | (go_at_call 91; refine (trail_16 _ (by rw [World.cell?_alloc_lt _ _ _ (by exact hz)]; exact h)).mono ?_; rintro e w' ⟨rfl, rfl⟩)
    | go_in)
  clear h
  go_loopw [1, 13] (RelF w n) (fun u i w' => (intOf u).toNat)
  case atStart =>
    refine ⟨0, by omega, by rw [up_zero], rfl, ?_, (Below.refl _ _).alloc (Nat.le_refl _) _⟩
    show (w.alloc (Obj.cells Tryd.zeroCells120 120)).heap[w.heap.size]? = some (.cells (row 65 n 0) 120 (0, 0))
    rw [heap_alloc_new]
    rfl
  case round => 
    obtain ⟨j, hj, rfl, rfl, hb, hbel⟩ := hrel
    by_cases hlt : 16 ≤ up n j
    · have hand := and15 n j (Nat.lt_of_le_of_lt (Nat.div_le_self _ _) (by omega))
      have hm : up n j % 16 < 16 := Nat.mod_lt _ (by decide)
      have hc : wr.cell? ⟨w.heap.size, 65 - j - 1, none⟩ = some (.int .u8 0) := by
        rw [show wr.cell? ⟨w.heap.size, 65 - j - 1, none⟩ = (row 65 n j)[65 - j - 1]? from cell_of_row wr _ _ _ _ _ hb]
        exact row_low 65 n j (by omega)
      have hf : wr.frozen? ⟨w.heap.size, 65 - j - 1, none⟩ = false := by
        have hb' : wr.heap[w.heap.size]? = some (.cells (row 65 n j) 120 (0, 0)) := hb
        simp [World.frozen?, hb']
      have H := Lib.hid hb
      clear hb
      have hB := up_big hn hj hlt
      go_wp2
      refine ⟨⟨j + 1, hB, ?_, ?_, ?_, ?_⟩, ?_⟩
      · rw [up_succ]; rfl
      · congr 1; omega
      · have := H.out
        rw [show ∀ h, (⟨#[48, 49, 50, 51, 52, 53, 54, 55, 56, 57, 97, 98, 99, 100, 101, 102, 103, 104, 105, 106, 107, 108, 109, 110, 111, 112, 113, 114, 115, 116, 117, 118, 119, 120, 121, 122]⟩ : ByteArray)[up n j % 16]'h = hexd (up n j % 16) from fun h => tab36_at _ hm h, ← row_set 65 n j (by omega)]
        unfold Blk at this ⊢
        simp [World.setCell, Array.getElem?_modify, this, val8]
      · exact hbel.setCell (Nat.le_refl _) _
      · simp [intOf]; omega
    · have hm : up n j < 16 := by omega
      have hc : wr.cell? ⟨w.heap.size, 65 - j - 1, none⟩ = some (.int .u8 0) := by
        rw [show wr.cell? ⟨w.heap.size, 65 - j - 1, none⟩ = (row 65 n j)[65 - j - 1]? from cell_of_row wr _ _ _ _ _ hb]
        exact row_low 65 n j (by omega)
      have hf : wr.frozen? ⟨w.heap.size, 65 - j - 1, none⟩ = false := by
        have hb' : wr.heap[w.heap.size]? = some (.cells (row 65 n j) 120 (0, 0)) := hb
        simp [World.frozen?, hb']
      have hsl : ∀ W, (Instr.sliceAt 120 (Value.pointer (some ⟨w.heap.size, 0, none⟩)) (some (.int .i64 (↑(65 - j) - 1))) none none).run Tryd.prog W = .ok (.slice (some ⟨w.heap.size, 64 - j, none⟩) (j + 1) (j + 1)) W := by
        intro W
        have hu : Tryd.prog.underlying 120 = some (.array (Tryd.prog.arrayLen 120) (Tryd.prog.elem 120)) := by kernel_rfl
        have hl : Tryd.prog.arrayLen 120 = 65 := by kernel_rfl
        have hz : (sizeOf (Tryd.prog.elem 120)).run Tryd.prog W = .ok 1 W := by kernel_rfl
        rw [run_sliceAt_array_l W 120 ⟨w.heap.size, 0, none⟩ hu .i64 (↑(65 - j) - 1) (by omega) (by rw [hl]; omega), hz, hl]
        simp only [Result.andThen_ok, slicedAt, Nat.mul_one, Addr.add]
        rw [show ((↑(65 - j) : Int) - 1).toNat = 64 - j from by omega, if_neg (by omega), if_neg (by omega), show 65 - (64 - j) = j + 1 from by omega]
        simp
      have ht : ∀ h, (⟨#[48, 49, 50, 51, 52, 53, 54, 55, 56, 57, 97, 98, 99, 100, 101, 102, 103, 104, 105, 106, 107, 108, 109, 110, 111, 112, 113, 114, 115, 116, 117, 118, 119, 120, 121, 122]⟩ : ByteArray)[up n j]'h = hexd (up n j) := fun h => tab36_at _ hm h
      have hB : Blk (wr.setCell ⟨w.heap.size, 65 - j - 1, none⟩ (.int .u8 ((hexd (up n j)).toNat : Int))) w.heap.size 120 (row 65 n (j + 1)) := by
        have e := row_set 65 n j (by omega)
        rw [Nat.mod_eq_of_lt hm] at e
        rw [← e]
        unfold Blk at hb ⊢
        simp [World.setCell, Array.getElem?_modify, hb, val8]
      have hcv : (convert 70 9 (.slice (some ⟨w.heap.size, 64 - j, none⟩) (j + 1) (j + 1))).run Tryd.prog (wr.setCell ⟨w.heap.size, 65 - j - 1, none⟩ (.int .u8 ((hexd (up n j)).toNat : Int))) = .ok (.string ⟨(digs n (j + 1)).toArray⟩) (wr.setCell ⟨w.heap.size, 65 - j - 1, none⟩ (.int .u8 ((hexd (up n j)).toNat : Int))) := by
        have := run_convert_bytes_back (P := Tryd.prog) (wr.setCell ⟨w.heap.size, 65 - j - 1, none⟩ (.int .u8 ((hexd (up n j)).toNat : Int))) 70 9 5 ⟨w.heap.size, 64 - j, none⟩ (j + 1) (digs n (j + 1)) (by kernel_rfl) (by kernel_rfl) (by kernel_rfl) (fun i hi => by
          rw [digs_len] at hi
          rw [add_off]
          rw [show World.cell? _ ⟨w.heap.size, 64 - j + i, none⟩ = (row 65 n (j + 1))[64 - j + i]? from cell_of_row _ _ _ _ _ _ hB]
          unfold row
          rw [List.getElem?_toArray, List.getElem?_append_right (by simp)]
          simp only [List.length_replicate]
          rw [show 64 - j + i - (65 - (j + 1)) = i from by omega, List.getElem?_map, List.getElem?_eq_getElem (by rw [digs_len]; exact hi)]
          rfl)
        rw [digs_len] at this
        exact this
      clear hb hB
      go_wp2
      go_ret2
      exact ⟨j + 1, by omega, by omega, by rw [up_succ]; exact Nat.div_eq_of_lt hm, rfl, hbel.setCell (Nat.le_refl _) _⟩
theorem mul43 (c : Nat) (h2 : 2 ≤ c) (h7 : c ≤ 7) (w : World) : Calls Tryd.prog 43 #[.int .u64 1, .int .u64 c] w fun e w' => e = .returned (.tuple #[.int .u64 0, .int .u64 c]) ∧ w = w' := by
  obtain rfl | rfl | rfl | rfl | rfl | rfl : c = 2 ∨ c = 3 ∨ c = 4 ∨ c = 5 ∨ c = 6 ∨ c = 7 := by omega
  all_goals
    go_enter Tryd.func43, Tryd.ntmps43
    go_wp2
    go_ret2
    exact ⟨by kernel_rfl, rfl⟩
theorem hp44 (s : ByteArray) (hs : 1 ≤ s.size) (b : Bool) (hb' : (s.data.toList.take 1 == [48]) = b) (w : World) : Calls Tryd.prog 44 #[.string s, .string ⟨#[48]⟩] w fun e w' => e = .returned (.bool b) ∧ w = w' := by
  have hb : ((s.extract 0 1).toList == [48]) = b := by
    rw [← hb', show (s.extract 0 1).toList = s.data.toList.take 1 from by rw [Lib.extract_toList]; rfl]
  clear hb'
  go_enter Tryd.func44, Tryd.ntmps44
  go_wp2
  go_ret
  exact ⟨rfl, rfl⟩
def zeros (c : Nat) : ByteArray := ⟨(List.replicate c 48).toArray⟩
set_option maxRecDepth 1000000 in
set_option maxHeartbeats 1600000 in
theorem rep25 (c : Nat) (h2 : 2 ≤ c) (h7 : c ≤ 7) (w : World) : Calls Tryd.prog 25 #[.string ⟨#[48]⟩, .int .i64 c] w fun e w' => e = .returned (.string (zeros c)) ∧ w = w' := by
  have hm := mul43 c h2 h7 w
  have e1 : (((⟨#[48]⟩ : ByteArray)[0].toNat : Int) == 32) = false := by decide
  have e2 : (((⟨#[48]⟩ : ByteArray)[0].toNat : Int) == 45) = false := by decide
  have e3 : (((⟨#[48]⟩ : ByteArray)[0].toNat : Int) == 48) = true := by decide
  go_enter Tryd.func25, Tryd.ntmps25
  go_wp2_with (first
    | (go_at_call 43; refine hm.mono ?_; rintro e w' ⟨rfl, rfl⟩)
    | (go_at_call 44; first | ((refine (hp44 _ (by decide) true (by decide) _).mono ?_); rintro e w' ⟨rfl, rfl⟩) | ((refine (hp44 _ (by decide) false (by decide) _).mono ?_); rintro e w' ⟨rfl, rfl⟩)))
  go_ret
  refine ⟨?_, rfl⟩
  clear hm
  obtain rfl | rfl | rfl | rfl | rfl | rfl : c = 2 ∨ c = 3 ∨ c = 4 ∨ c = 5 ∨ c = 6 ∨ c = 7 := by omega
  all_goals rfl
set_option maxRecDepth 1000000 in
theorem rep1 (w : World) : Calls Tryd.prog 25 #[.string ⟨#[48]⟩, .int .i64 1] w fun e w' => e = .returned (.string ⟨#[48]⟩) ∧ w = w' := by
  go_enter Tryd.func25, Tryd.ntmps25
  go_wp2
  go_ret
  exact ⟨rfl, rfl⟩
set_option maxRecDepth 1000000 in
theorem rep0 (w : World) : Calls Tryd.prog 25 #[.string ⟨#[48]⟩, .int .i64 0] w fun e w' => e = .returned (.string ⟨#[]⟩) ∧ w = w' := by
  go_enter Tryd.func25, Tryd.ntmps25
  go_wp2
  go_ret
  exact ⟨rfl, rfl⟩
theorem rep_all (m : Nat) (h1 : 1 ≤ m) (h8 : m ≤ 8) (w : World) : Calls Tryd.prog 25 #[.string ⟨#[48]⟩, .int .i64 (8 - (m : Int))] w fun e w' => e = .returned (.string (zeros (8 - m))) ∧ w = w' := by
  rcases Nat.lt_or_ge m 7 with h | h
  · have := rep25 (8 - m) (by omega) (by omega) w
    rw [show (((8 - m : Nat)) : Int) = 8 - (m : Int) from by omega] at this
    exact this
  · obtain rfl | rfl : m = 7 ∨ m = 8 := by omega
    · exact rep1 w
    · exact rep0 w
def StrPost (n : Nat) (w : World) (e : Ending) (w' : World) : Prop := ∃ m : Nat, 1 ≤ m ∧ m ≤ 8 ∧ up n m = 0 ∧ e = .returned (.string ⟨(digs n m).toArray⟩) ∧ Below w.heap.size w w'
theorem fu42 (n : Nat) (hn : n < 4294967296) (w : World) (h : w.cell? ⟨6, 15, none⟩ = some (.int .u8 4)) (hz : 6 < w.heap.size) :
    Calls Tryd.prog 42 #[.int .u64 n, .int .i64 16] w (StrPost n w) := by
  have hf := fmt16 n hn w h hz
  clear h
  go_enter Tryd.func42, Tryd.ntmps42
  go_wp2_with ((go_at_call 63; refine hf.mono ?_; rintro e w' ⟨m, h1, h2, h3, rfl, hb⟩))
  go_ret
  exact ⟨m, h1, h2, h3, rfl, hb⟩
theorem fu24 (n : Nat) (hn : n < 4294967296) (w : World) (h : w.cell? ⟨6, 15, none⟩ = some (.int .u8 4)) (hz : 6 < w.heap.size) :
    Calls Tryd.prog 24 #[.int .u64 n, .int .i64 16] w (StrPost n w) := by
  have hf := fu42 n hn w h hz
  clear h
  go_enter Tryd.func24, Tryd.ntmps24
  go_wp2_with ((go_at_call 42; refine hf.mono ?_; rintro e w' ⟨m, h1, h2, h3, rfl, hb⟩))
  go_ret
  exact ⟨m, h1, h2, h3, rfl, hb⟩
def nanB (b : Nat) : Bool := FloatKind.f32.format.order b b != some .eq
def cb (b : Nat) : Nat := if nanB b = true then 2143289344 else b
theorem cb_lt {b : Nat} (hb : b < 4294967296) : cb b < 4294967296 := by unfold cb; split <;> omega
theorem ext23 (b : Nat) (W : World) : (callFunc 23 #[.float .f32 b]).run Tryd.prog W = .ok (.value (.int .u32 b)) W := by kernel_rfl
theorem neq_run (b : Nat) (W : World) : (binOp BinOp.neq 22 (.float .f32 b) (.float .f32 b)).run Tryd.prog W = .ok (.bool (nanB b)) W := rfl
set_option maxRecDepth 100000 in
theorem bits41 (b : Nat) (w : World) : Calls Tryd.prog 41 #[.float .f32 b] w fun e w' => e = .returned (.int .u32 (cb b : Nat)) ∧ w = w' := by
  have he := neq_run b
  have hx := ext23 b
  unfold cb
  cases hn : nanB b
  all_goals
    rw [hn] at he
    go_enter Tryd.func41, Tryd.ntmps41
    go_wp2
    go_ret
    exact ⟨rfl, rfl⟩
theorem digs_pad (n m : Nat) (h : up n m = 0) : ∀ k, digs n (m + k) = List.replicate k 48 ++ digs n m
  | 0 => rfl
  | k + 1 => by
    have hz : up n (m + k) = 0 := by
      unfold up at h ⊢
      rw [Nat.pow_add, ← Nat.div_div_eq_div_mul, h, Nat.zero_div]
    show hexd (up n (m + k) % 16) :: digs n (m + k) = _
    rw [hz, digs_pad n m h k]
    rfl
theorem pad8 (n m : Nat) (h1 : 1 ≤ m) (h8 : m ≤ 8) (h : up n m = 0) : zeros (8 - m) ++ (⟨(digs n m).toArray⟩ : ByteArray) = ⟨(digs n 8).toArray⟩ := by
  have := digs_pad n m h (8 - m)
  rw [show m + (8 - m) = 8 from by omega] at this
  rw [this]
  rfl
def Txt (b : Nat) : ByteArray := ⟨(digs (cb b) 8).toArray⟩
def TxtPost (b : Nat) (w : World) (e : Ending) (w' : World) : Prop := e = .returned (.string (Txt b)) ∧ Below w.heap.size w w'
end Go.Proofs.YtejbahdihfnbcaaDoor.nt
