/- Reading numbers: plain words, and what the library's ParseUint finds of a text at base 16 in 32 bits; no condition beyond the text's length. -/
import Derived.Test.YtejbahdihfnbcaaDoorTxB
import Derived.Lib.Strings
import Derived.Lib.Walk
import Derived.Lib.ConvBytes
import Derived.Lib.Hide
import Derived.Laws.Strings3
import Derived.Laws.Closers25
import Derived.Laws.Closers25b
import Derived.BigCall
import Derived.BigGuard
namespace Go.Proofs.YtejbahdihfnbcaaDoor.nt
open Go.ChangeShapes Go.WideShapes Go.ChangeAt Go.RowKit
set_option linter.unusedVariables false
/-! Reading: plain words. -/
def hexv (c : Nat) : Option Nat := if 48 ≤ c ∧ c ≤ 57 then some (c - 48) else if 97 ≤ c ∧ c ≤ 102 then some (c - 87) else none
/-- the number of a list of digits, the highest first -/
def rdl (acc : Nat) : List UInt8 → Option Nat
  | [] => some acc
  | c :: r => match hexv c.toNat with
    | some d => rdl (acc * 16 + d) r
    | none => none
def rd (l : List UInt8) : Option Nat := if l.length = 8 then rdl 0 l else none
inductive PE where | ok (n : Nat) | syn | rng
def low (c : Nat) : Nat := c ||| 32
/-- what ParseUint(s, 16, 32) finds of the bytes that are left -/
def pu (acc : Nat) : List UInt8 → PE
  | [] => .ok acc
  | c :: r =>
    if 48 ≤ c.toNat ∧ c.toNat ≤ 57 then (if 4294967295 < acc * 16 + (c.toNat - 48) then .rng else pu (acc * 16 + (c.toNat - 48)) r)
    else if 97 ≤ low c.toNat ∧ low c.toNat ≤ 102 then (if 4294967295 < acc * 16 + (low c.toNat - 87) then .rng else pu (acc * 16 + (low c.toNat - 87)) r)
    else .syn
theorem pu_le : ∀ (l : List UInt8) (acc n : Nat), acc ≤ 4294967295 → pu acc l = .ok n → n ≤ 4294967295
  | [], acc, n, h, e => by simp only [pu] at e; cases e; exact h
  | c :: r, acc, n, h, e => by
    unfold pu at e
    split at e
    · split at e
      · cases e
      · exact pu_le r _ n (by omega) e
    · split at e
      · split at e
        · cases e
        · exact pu_le r _ n (by omega) e
      · cases e
theorem low_lower (c : Nat) (h1 : 97 ≤ c) (h2 : c ≤ 102) : low c = c := by
  have key : ∀ c, c ≤ 102 → 97 ≤ c → low c = c := by decide
  exact key c h2 h1
theorem hexv_lt {c d : Nat} (h : hexv c = some d) : d < 16 := by
  unfold hexv at h
  split at h
  · cases h; omega
  · split at h
    · cases h; omega
    · cases h
/-- digits that are read are parsed -/
theorem pu_rdl : ∀ (l : List UInt8) (acc n : Nat), acc * 16 ^ l.length + 16 ^ l.length ≤ 4294967296 → rdl acc l = some n → pu acc l = .ok n
  | [], acc, n, h, e => by simp only [rdl] at e; cases e; rfl
  | c :: r, acc, n, h, e => by
    unfold rdl at e
    cases hd : hexv c.toNat with
    | none => rw [hd] at e; cases e
    | some d =>
      rw [hd] at e
      simp only [] at e
      have hlt := hexv_lt hd
      have hp : 0 < 16 ^ r.length := Nat.pow_pos (by decide)
      rw [List.length_cons, Nat.pow_succ] at h
      have hle : (acc * 16 + d) * 16 ^ r.length + 16 ^ r.length ≤ 4294967296 := by
        have : (acc * 16 + d + 1) * 16 ^ r.length ≤ (acc * 16 + 16) * 16 ^ r.length := Nat.mul_le_mul_right _ (by omega)
        have e1 : (acc * 16 + d + 1) * 16 ^ r.length = (acc * 16 + d) * 16 ^ r.length + 16 ^ r.length := by rw [Nat.add_mul, Nat.one_mul]
        have e2 : (acc * 16 + 16) * 16 ^ r.length = acc * (16 ^ r.length * 16) + 16 ^ r.length * 16 := by rw [Nat.add_mul, Nat.mul_assoc, Nat.mul_comm 16 (16 ^ r.length)]
        omega
      have hn : acc * 16 + d ≤ 4294967295 := by
        have : (acc * 16 + d) * 1 ≤ (acc * 16 + d) * 16 ^ r.length := Nat.mul_le_mul_left _ hp
        omega
      have ih := pu_rdl r (acc * 16 + d) n hle e
      unfold pu
      unfold hexv at hd
      split at hd
      · rename_i h1
        cases hd
        rw [if_pos h1, if_neg (by omega)]
        exact ih
      · rename_i h1
        split at hd
        · rename_i h2
          cases hd
          rw [if_neg h1, low_lower _ h2.1 h2.2, if_pos h2, if_neg (by omega)]
          exact ih
        · cases hd
theorem pu_rd {l : List UInt8} {n : Nat} (h : rd l = some n) : pu 0 l = .ok n := by
  unfold rd at h
  split at h
  · rename_i h8
    exact pu_rdl l 0 n (by rw [h8]; decide) h
  · cases h
theorem hexv_hexd (d : Nat) (h : d < 16) : hexv (hexd d).toNat = some d := by
  have key : ∀ d, d < 16 → hexv (hexd d).toNat = some d := by decide
  exact key d h
theorem hexd_hexv {c : UInt8} {d : Nat} (h : hexv c.toNat = some d) : hexd d = c := by
  have k1 : ∀ d, d < 10 → (hexd d).toNat = 48 + d := by decide
  have k2 : ∀ d, d < 16 → 10 ≤ d → (hexd d).toNat = 87 + d := by decide
  apply UInt8.toNat_inj.1
  unfold hexv at h
  split at h
  · cases h
    rw [k1 _ (by omega)]
    omega
  · split at h
    · cases h
      rw [k2 _ (by omega) (by omega)]
      omega
    · cases h
/-- the digits of a number are read back -/
theorem rdl_digs (n : Nat) : ∀ (j acc : Nat) (r : List UInt8), rdl acc (digs n j ++ r) = rdl (acc * 16 ^ j + n % 16 ^ j) r
  | 0, acc, r => by simp [digs, Nat.mod_one]
  | j + 1, acc, r => by
    show rdl acc (hexd (up n j % 16) :: (digs n j ++ r)) = _
    rw [rdl, hexv_hexd _ (Nat.mod_lt _ (by decide))]
    simp only []
    rw [rdl_digs n j]
    congr 1
    unfold up
    have e := Nat.mod_mul (x := n) (a := 16 ^ j) (b := 16)
    rw [Nat.pow_succ, e, Nat.add_mul, Nat.mul_assoc, Nat.mul_comm 16 (16 ^ j), Nat.mul_comm (16 ^ j) (n / 16 ^ j % 16)]
    omega
theorem rd_digs {n : Nat} (hn : n < 4294967296) : rd (digs n 8) = some n := by
  unfold rd
  rw [if_pos (digs_len n 8)]
  have := rdl_digs n 8 0 []
  rw [List.append_nil] at this
  rw [this]
  simp only [rdl, Nat.zero_mul, Nat.zero_add, Option.some.injEq]
  exact Nat.mod_eq_of_lt hn
theorem rdl_acc : ∀ (l : List UInt8) (acc n : Nat), rdl acc l = some n → n / 16 ^ l.length = acc
  | [], acc, n, h => by simp only [rdl] at h; cases h; simp
  | c :: r, acc, n, h => by
    unfold rdl at h
    cases hd : hexv c.toNat with
    | none => rw [hd] at h; cases h
    | some d =>
      rw [hd] at h
      have := rdl_acc r _ n h
      rw [List.length_cons, Nat.pow_succ, ← Nat.div_div_eq_div_mul, this]
      have := hexv_lt hd
      omega
/-- what is read is the digits of its number -/
theorem rdl_back : ∀ (l : List UInt8) (acc n : Nat), rdl acc l = some n → digs n l.length = l
  | [], acc, n, h => rfl
  | c :: r, acc, n, h => by
    unfold rdl at h
    cases hd : hexv c.toNat with
    | none => rw [hd] at h; cases h
    | some d =>
      rw [hd] at h
      simp only [] at h
      have ha := rdl_acc r _ n h
      show hexd (up n r.length % 16) :: digs n r.length = c :: r
      rw [rdl_back r _ n h]
      congr 1
      unfold up
      rw [ha, show (acc * 16 + d) % 16 = d from by have := hexv_lt hd; omega]
      exact hexd_hexv hd
theorem rd_back {l : List UInt8} {n : Nat} (h : rd l = some n) : l = digs n 8 := by
  unfold rd at h
  split at h
  · rename_i h8
    have := rdl_back l 0 n h
    rw [h8] at this
    exact this.symm
  · cases h
theorem rd_lt {l : List UInt8} {n : Nat} (h : rd l = some n) : n < 4294967296 := by
  have := pu_le l 0 n (by decide) (pu_rd h)
  omega
/-- what both sides read: the number, where it is the canonical one -/
def good (l : List UInt8) : Option Nat := match rd l with | some n => if cb n = n then some n else none | none => none
theorem good_of_txt {l : List UInt8} {n : Nat} (hp : pu 0 l = .ok n) (he : (Txt n).data.toList = l) : good l = some n := by
  have hn := pu_le l 0 n (by decide) hp
  have e : l = digs (cb n) 8 := by rw [← he]; rfl
  have hr : rd l = some (cb n) := by rw [e]; exact rd_digs (cb_lt (by omega))
  have h1 := pu_rd hr
  rw [hp] at h1
  have hc : n = cb n := by injection h1
  have e2 : rd l = some n := by rw [hr, ← hc]
  unfold good
  rw [e2]
  simp [hc.symm]
theorem good_some {l : List UInt8} {n : Nat} (h : good l = some n) : rd l = some n ∧ cb n = n := by
  unfold good at h
  cases hr : rd l with
  | none => rw [hr] at h; cases h
  | some m =>
    rw [hr] at h
    simp only [] at h
    by_cases hc : cb m = m
    · rw [if_pos hc] at h
      cases h
      exact ⟨rfl, hc⟩
    · rw [if_neg hc] at h; cases h
theorem txt_of_good {l : List UInt8} {n : Nat} (h : good l = some n) : (Txt n).data.toList = l := by
  obtain ⟨h1, h2⟩ := good_some h
  rw [rd_back h1]
  show digs (cb n) 8 = digs n 8
  rw [h2]
theorem good_none {l : List UInt8} {n : Nat} (hp : pu 0 l = .ok n) (he : (Txt n).data.toList ≠ l) : good l = none := by
  cases hg : good l with
  | none => rfl
  | some m =>
    have h1 := pu_rd (good_some hg).1
    rw [hp] at h1
    have hc : n = m := by injection h1
    subst hc
    exact absurd (txt_of_good hg) he
theorem good_bad {l : List UInt8} (h : ∀ n, pu 0 l ≠ .ok n) : good l = none := by
  cases hg : good l with
  | none => rfl
  | some m => exact absurd (pu_rd (good_some hg).1) (h m)
theorem good_lt {l : List UInt8} {n : Nat} (h : good l = some n) : n < 4294967296 := rd_lt (good_some h).1
theorem bits_or32 (c : Nat) (h : c < 256) : bits BinOp.or IntKind.u8 (c : Int) 32 = ((low c : Nat) : Int) := by
  have hx : c ||| 32 < 2 ^ 8 := Nat.or_lt_two_pow (by omega) (by decide)
  have h1 : (BitVec.ofInt 8 (c : Int)).toNat = c := by
    rw [BitVec.ofInt_natCast, BitVec.toNat_ofNat]; exact Nat.mod_eq_of_lt (by omega)
  show IntKind.u8.wrap ((BitVec.ofInt 8 (c : Int) ||| BitVec.ofInt 8 32).toNat : Int) = _
  rw [BitVec.toNat_or, h1, show (BitVec.ofInt 8 32).toNat = 32 from rfl]
  unfold low
  rw [IntKind.wrap_u8]
  omega
theorem low_lt (c : Nat) (h : c < 256) : low c < 256 := Nat.or_lt_two_pow (n := 8) h (by decide)
theorem lower77 (c : Nat) (h : c < 256) (w : World) : Calls Tryd.prog 77 #[.int .u8 c] w fun e w' => e = .returned (.int .u8 (low c : Nat)) ∧ w = w' := by
  have hb := bits_or32 c h
  go_enter Tryd.func77, Tryd.ntmps77
  go_wp2
  go_ret
  exact ⟨rfl, rfl⟩
theorem lower95 (w : World) : Calls Tryd.prog 77 #[.int .u8 95] w fun e w' => e = .returned (.int .u8 127) ∧ w = w' := by
  have h := lower77 95 (by decide) w
  exact h
def puTuple : PE → Value
  | .ok n => .tuple #[.int .u64 n, .nilIface]
  | .syn => .tuple #[.int .u64 0, .iface 109 (.int .i64 2)]
  | .rng => .tuple #[.int .u64 4294967295, .iface 109 (.int .i64 1)]
set_option maxHeartbeats 32000000 in
set_option maxRecDepth 100000 in
theorem pu54 (t : ByteArray) (hne : t.size ≠ 0) (hmax : t.size ≤ 9223372036854775806) (w : World) :
    Calls Tryd.prog 54 #[.string t, .int .i64 16, .int .i64 32] w fun e w' => e = .returned (puTuple (pu 0 t.data.toList)) ∧ w' = Lib.bytesWorld w 5 t := by
  have hemp : t.toList.isEmpty = false := by
    rw [← decide_eq_emptyBytes]
    exact decide_eq_false (fun h => hne (by rw [h]; rfl))
  have hcv := Lib.run_convert_string_bytes (P := Tryd.prog) w 9 70 5 t (u := .string) (by kernel_rfl) (by kernel_rfl) (by kernel_rfl)
  have hB : ∀ j, j < t.size → (Lib.bytesWorld w 5 t).cell? ⟨w.heap.size, j, none⟩ = some (.int .u8 (t.data.toList.getD j 0).toNat) := fun j hj => Lib.bytesWorld_cell w 5 t j hj
  obtain ⟨W1, hW1⟩ : ∃ W1, W1 = Lib.bytesWorld w 5 t := ⟨_, rfl⟩
  rw [← hW1] at hcv hB ⊢
  clear hW1
  obtain ⟨bs, hL⟩ : ∃ bs, bs = t.data.toList := ⟨_, rfl⟩
  have hLn : bs.length = t.size := by rw [hL, Lib.size_eq]
  rw [← hL] at hB ⊢
  clear hL
  have hmv : IntKind.u64.wrap (IntKind.u64.wrap 4294967296 - 1) = 4294967295 := by
    rw [IntKind.wrap_u64, IntKind.wrap_u64]
    decide
  go_enter Tryd.func54, Tryd.ntmps54
  go_wp2
  go_loop [12, 13, 101] (fun vu vn vi => ∃ (k acc : Nat) (a : Int), vu = .bool false ∧ vn = .int .u64 a ∧ vi = .int .i64 k ∧ k ≤ t.size ∧ Hid (a = (acc : Int) ∧ acc ≤ 4294967295 ∧ pu 0 bs = pu acc (bs.drop k)))
    (fun _ _ vi => t.size - (intOf vi).toNat)
  case atStart => exact ⟨0, 0, 0, rfl, rfl, rfl, by omega, rfl, by omega, rfl⟩
  case round =>
    obtain ⟨k, acc, a, rfl, rfl, rfl, hk, hh⟩ := hrel
    obtain ⟨ha, hacc, hdec⟩ := hh.out
    clear hh
    have a0 : 0 ≤ a := by omega
    have a1 : a ≤ 4294967295 := by omega
    by_cases hkn : k < t.size
    · have hc := hB k hkn
      have hdrop : bs.drop k = bs[k]'(by omega) :: bs.drop (k + 1) := List.drop_eq_getElem_cons (by omega)
      have hget : bs.getD k 0 = bs[k]'(by omega) := by simp [List.getD, List.getElem?_eq_getElem (show k < bs.length by omega)]
      rw [hdrop] at hdec
      rw [hget] at hc
      generalize bs[k]'(by omega) = c at hc hdec
      have hc256 : c.toNat < 256 := c.toNat_lt
      clear hB hdrop hget
      by_cases hdig : 48 ≤ c.toNat ∧ c.toNat ≤ 57
      · obtain ⟨hd0, hd1⟩ := hdig
        by_cases hov : 4294967295 < acc * 16 + (c.toNat - 48)
        · have hF : pu acc (c :: bs.drop (k + 1)) = .rng := by simp [pu, hd0, hd1, hov]
          rw [hF] at hdec
          have iov : 4294967295 < a * 16 + ((c.toNat : Int) - 48) := by omega
          clear hacc hF hov ha
          go_wp2
          go_ret2
          first | exact ⟨rfl, rfl⟩ | exact ⟨by rw [hdec]; rfl, rfl⟩
        · have hF : pu acc (c :: bs.drop (k + 1)) = pu (acc * 16 + (c.toNat - 48)) (bs.drop (k + 1)) := by simp [pu, hd0, hd1, hov]
          have HN : Hid (a * 16 + ((c.toNat : Int) - 48) = ((acc * 16 + (c.toNat - 48) : Nat) : Int) ∧ acc * 16 + (c.toNat - 48) ≤ 4294967295 ∧ pu 0 bs = pu (acc * 16 + (c.toNat - 48)) (bs.drop (k + 1))) := Lib.hid ⟨by omega, by omega, hdec.trans hF⟩
          have iov : a * 16 + ((c.toNat : Int) - 48) ≤ 4294967295 := by omega
          clear hacc hF hov hdec ha
          go_wp2
          refine ⟨⟨k + 1, acc * 16 + (c.toNat - 48), a * 16 + ((c.toNat : Int) - 48), rfl, (by first | rfl | (congr 1; omega)), (by first | rfl | (congr 1; omega)), by omega, HN⟩, by simp [intOf]; omega⟩
      · have hl := low_lt c.toNat hc256
        have hcases : ((c.toNat : Int) < 48 ∨ 57 < (c.toNat : Int)) := by omega
        by_cases hlet : 97 ≤ low c.toNat ∧ low c.toNat ≤ 102
        · obtain ⟨hl0, hl1⟩ := hlet
          have h95 : ((c.toNat : Int) == 95) = false := by
            rw [beq_eq_false_iff_ne]
            intro hq
            have hq' : c.toNat = 95 := by omega
            rw [hq'] at hl1
            revert hl1
            decide
          have hlow := lower77 c.toNat hc256
          by_cases hov : 4294967295 < acc * 16 + (low c.toNat - 87)
          · have hF : pu acc (c :: bs.drop (k + 1)) = .rng := by unfold pu; rw [if_neg hdig, if_pos ⟨hl0, hl1⟩, if_pos hov]
            rw [hF] at hdec
            have iov : 4294967295 < a * 16 + ((low c.toNat : Int) - 97 + 10) := by omega
            clear hacc hF hov ha hdig
            rcases hcases with hq | hq
            all_goals
              go_wp2_with (go_at_call 77; refine (hlow _).mono ?_; rintro e w' ⟨rfl, rfl⟩)
              go_ret2
              first | exact ⟨rfl, rfl⟩ | exact ⟨by rw [hdec]; rfl, rfl⟩
          · have hF : pu acc (c :: bs.drop (k + 1)) = pu (acc * 16 + (low c.toNat - 87)) (bs.drop (k + 1)) := by rw [pu, if_neg hdig, if_pos ⟨hl0, hl1⟩, if_neg hov]
            have HN : Hid (a * 16 + ((low c.toNat : Int) - 97 + 10) = ((acc * 16 + (low c.toNat - 87) : Nat) : Int) ∧ acc * 16 + (low c.toNat - 87) ≤ 4294967295 ∧ pu 0 bs = pu (acc * 16 + (low c.toNat - 87)) (bs.drop (k + 1))) := Lib.hid ⟨by omega, by omega, hdec.trans hF⟩
            have iov : a * 16 + ((low c.toNat : Int) - 97 + 10) ≤ 4294967295 := by omega
            clear hacc hF hov hdec ha hdig
            rcases hcases with hq | hq
            all_goals
              go_wp2_with (go_at_call 77; refine (hlow _).mono ?_; rintro e w' ⟨rfl, rfl⟩)
              refine ⟨⟨k + 1, acc * 16 + (low c.toNat - 87), a * 16 + ((low c.toNat : Int) - 97 + 10), rfl, (by first | rfl | (congr 1; omega)), (by first | rfl | (congr 1; omega)), by omega, HN⟩, by simp [intOf]; omega⟩
        · have hF : pu acc (c :: bs.drop (k + 1)) = .syn := by unfold pu; rw [if_neg hdig, if_neg hlet]
          rw [hF] at hdec
          by_cases h95 : c.toNat = 95
          · rw [h95] at hc
            clear hacc hF ha hdig hlet hl hcases hc256 h95
            go_wp2_with (go_at_call 77; refine (lower95 _).mono ?_; rintro e w' ⟨rfl, rfl⟩)
            all_goals go_ret2
            all_goals first | exact ⟨rfl, rfl⟩ | exact ⟨by rw [hdec]; rfl, rfl⟩
          · have h95' : ((c.toNat : Int) == 95) = false := by rw [beq_eq_false_iff_ne]; omega
            have hlow := lower77 c.toNat hc256
            have hl2 : low c.toNat < 97 ∨ 102 < low c.toNat := by omega
            clear hacc hF ha hdig h95 hlet
            rcases hcases with hq | hq
            all_goals
              go_wp2_with (go_at_call 77; refine (hlow _).mono ?_; rintro e w' ⟨rfl, rfl⟩)
              all_goals go_ret2
              all_goals first | exact ⟨rfl, rfl⟩ | exact ⟨by rw [hdec]; rfl, rfl⟩
    · have hkk : k = t.size := by omega
      subst hkk
      have hF : pu acc (bs.drop t.size) = .ok acc := by rw [List.drop_eq_nil_of_le (by omega)]; rfl
      rw [hF] at hdec
      subst ha
      clear hacc hF a0 a1
      go_wp2
      go_ret2
      first | exact ⟨rfl, rfl⟩ | exact ⟨by rw [hdec]; rfl, rfl⟩
end Go.Proofs.YtejbahdihfnbcaaDoor.nt
