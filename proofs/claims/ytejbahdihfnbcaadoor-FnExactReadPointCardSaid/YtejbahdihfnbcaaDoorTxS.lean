/- Reading numbers: the program and the reference find the same of every text, or both find none; of the library's tables and error values some cells are asked. -/
import Derived.Test.YtejbahdihfnbcaaDoorTxR
import Derived.Test.YtejbahdihfnbcaaDoorShelf2
import Derived.Test.YtejbahdihfnbcaaDoorSxC
import Derived.Test.YtejbahdihfnbcaaDoorModes
import Derived.Lib.AtoiErrMem
namespace Go.Proofs.YtejbahdihfnbcaaDoor.nt
open Go.ChangeShapes Go.WideShapes Go.ChangeAt Go.RowKit
set_option linter.unusedVariables false
def Iface (v : Value) : Prop := v = .nilIface ∨ ∃ te pe, v = .iface te pe
def ErrVars (w : World) : Prop := (∃ ev, w.cell? ⟨2, 0, none⟩ = some ev ∧ Iface ev) ∧ (∃ ev, w.cell? ⟨3, 0, none⟩ = some ev ∧ Iface ev) ∧ 3 < w.heap.size
theorem ErrVars.below {w w' : World} (h : ErrVars w) (hb : Below w.heap.size w w') : ErrVars w' := by
  obtain ⟨⟨e1, h1, i1⟩, ⟨e2, h2, i2⟩, h3⟩ := h
  exact ⟨⟨e1, by rw [hb.cell (p := ⟨2, 0, none⟩) (by show 2 < _; omega)]; exact h1, i1⟩, ⟨e2, by rw [hb.cell (p := ⟨3, 0, none⟩) h3]; exact h2, i2⟩, Nat.lt_of_lt_of_le h3 hb.size⟩
def puS (l : List UInt8) : PE := if l = [] then .syn else pu 0 l
def PuPost (l : List UInt8) (w : World) (e : Ending) (w' : World) : Prop :=
  ((∃ n, puS l = .ok n ∧ e = .returned (.tuple #[.int .u64 n, .nilIface])) ∨ ((∀ n, puS l ≠ .ok n) ∧ ∃ v te pe, e = .returned (.tuple #[.int .u64 v, .iface te pe]))) ∧ Below w.heap.size w w'
set_option maxRecDepth 100000 in
theorem pu34 (t : ByteArray) (ht : t.size ≤ 1048576) (w : World) (hE : ErrVars w) : Calls Tryd.prog 34 #[.string t, .int .i64 16, .int .i64 32] w (PuPost t.data.toList w) := by
  have HE := Lib.hid hE
  clear hE
  by_cases h0 : t.size = 0
  · obtain ⟨⟨l⟩⟩ := t
    have hl : l = [] := by
      have : l.toArray.size = 0 := h0
      simpa using this
    subst hl
    obtain ⟨⟨ev, hv, hi⟩, _⟩ := HE.out
    have hP : ∀ n, puS (⟨⟨[]⟩⟩ : ByteArray).data.toList ≠ .ok n := fun n h => by simp [puS] at h
    have HP := Lib.hid hP
    have HV := Lib.hid hv
    clear hv hP h0
    go_enter Tryd.func34, Tryd.ntmps34
    go_wp2_with (first
      | (go_at_call 54; refine (Tryd.internal_strconv_ParseUint_empty _ _ _).mono ?_; rintro e w1 ⟨rfl, rfl⟩)
      | (go_at_call 55; refine (Tryd.strconv_toError_syntax _ _ _ _ ev _ (by decide) HV.out hi).mono ?_; rintro e w2 ⟨N, rfl, hN, hc, hb⟩))
    go_ret2
    exact ⟨.inr ⟨HP.out, 0, 111, _, rfl⟩, hb⟩
  · have hne : t.data.toList ≠ [] := by
      intro h
      apply h0
      show t.data.size = 0
      simpa using congrArg List.length h
    have hS : puS t.data.toList = pu 0 t.data.toList := by unfold puS; rw [if_neg hne]
    have hp := pu54 t h0 (by omega) w
    have hb0 := Lib.bytesWorld_below w 5 t
    have HS := Lib.hid hS
    clear hne hS
    cases hq : pu 0 t.data.toList with
    | ok n =>
      rw [hq] at hp
      have HQ := Lib.hid hq
      clear hq
      go_enter Tryd.func34, Tryd.ntmps34
      go_wp2_with (first
        | (go_at_call 54; refine hp.mono ?_; rintro e w1 ⟨rfl, rfl⟩; simp only [puTuple]))
      go_ret2
      exact ⟨.inl ⟨n, HS.out.trans HQ.out, rfl⟩, hb0⟩
    | syn =>
      rw [hq] at hp
      have HQ := Lib.hid hq
      clear hq
      obtain ⟨⟨ev, hv, hi⟩, _⟩ := HE.out.below hb0
      have HV := Lib.hid hv
      clear hv
      go_enter Tryd.func34, Tryd.ntmps34
      go_wp2_with (first
        | (go_at_call 54; refine hp.mono ?_; rintro e w1 ⟨rfl, rfl⟩; simp only [puTuple])
        | (go_at_call 55; refine (Tryd.strconv_toError_syntax _ _ _ _ ev _ (by omega) HV.out hi).mono ?_; rintro e w2 ⟨N, rfl, hN, hc, hb⟩))
      go_ret2
      exact ⟨.inr ⟨fun n h => (by rw [HS.out, HQ.out] at h; cases h), _, 111, _, rfl⟩, hb0.trans (hb.mono hb0.size)⟩
    | rng =>
      rw [hq] at hp
      have HQ := Lib.hid hq
      clear hq
      obtain ⟨_, ⟨ev, hv, hi⟩, _⟩ := HE.out.below hb0
      have HV := Lib.hid hv
      clear hv
      go_enter Tryd.func34, Tryd.ntmps34
      go_wp2_with (first
        | (go_at_call 54; refine hp.mono ?_; rintro e w1 ⟨rfl, rfl⟩; simp only [puTuple])
        | (go_at_call 55; refine (Tryd.strconv_toError_range _ _ _ _ ev _ (by omega) HV.out hi).mono ?_; rintro e w2 ⟨N, rfl, hN, hc, hb⟩))
      go_ret2
      exact ⟨.inr ⟨fun n h => (by rw [HS.out, HQ.out] at h; cases h), _, 111, _, rfl⟩, hb0.trans (hb.mono hb0.size)⟩
def rdV (l : List UInt8) : Value := match good l with | some n => .tuple #[.float .f32 n, .int .i64 0] | none => .tuple #[.float .f32 0, .int .i64 5]
def RdPost (l : List UInt8) (w : World) (e : Ending) (w' : World) : Prop := e = .returned (rdV l) ∧ Below w.heap.size w w'
theorem puS_ok {l : List UInt8} {n : Nat} (h : puS l = .ok n) : pu 0 l = .ok n := by
  unfold puS at h
  split at h
  · cases h
  · exact h
theorem puS_bad {l : List UInt8} (h : ∀ n, puS l ≠ .ok n) : good l = none := by
  by_cases hl : l = []
  · subst hl; rfl
  · refine good_bad fun n hn => h n ?_
    unfold puS
    rw [if_neg hl]
    exact hn
theorem ext35 (n : Nat) (W : World) : (callFunc 35 #[.int .u32 (n : Int)]).run Tryd.prog W = .ok (.value (.float .f32 n)) W := by kernel_rfl
theorem toList_eq_of {a b : ByteArray} (h : (a.toList == b.toList) = true) : a.data.toList = b.data.toList := by
  rw [ByteArray.toList_eq, ByteArray.toList_eq] at h
  exact eq_of_beq h
theorem toList_ne_of {a b : ByteArray} (h : (a.toList == b.toList) = false) : a.data.toList ≠ b.data.toList := by
  rw [ByteArray.toList_eq, ByteArray.toList_eq] at h
  intro e
  rw [e] at h
  simp at h
theorem rdV_none {l : List UInt8} (h : good l = none) : rdV l = .tuple #[.float .f32 0, .int .i64 5] := by unfold rdV; rw [h]
theorem rdV_some {l : List UInt8} {n : Nat} (h : good l = some n) : rdV l = .tuple #[.float .f32 n, .int .i64 0] := by unfold rdV; rw [h]
set_option maxRecDepth 100000 in
theorem rn17 (t : ByteArray) (ht : t.size ≤ 1048576) (w : World) (hT : Tab w) (hE : ErrVars w) : Calls Tryd.prog 17 #[.string t] w (RdPost t.data.toList w) := by
  have hp := pu34 t ht w hE
  have HT := Lib.hid hT
  clear hT hE
  go_enter Tryd.func17, Tryd.ntmps17
  go_wp2_with fail
  refine hp.mono ?_
  rintro e w1 ⟨h, hb⟩
  clear hp
  rcases h with ⟨n, hn, rfl⟩ | ⟨hbad, v, te, pe, rfl⟩
  · have hlt : n < 4294967296 := by have := pu_le _ 0 n (by decide) (puS_ok hn); omega
    have hx := ext35 n
    have hnt := nt9 n hlt w1 (HT.out.below hb).1 (HT.out.below hb).2
    have HN := Lib.hid hn
    clear hn
    go_wp2_with ((go_at_call 9; refine hnt.mono ?_; rintro e w2 ⟨rfl, hb2⟩))
    · rename_i hq
      rw [Bool.not_eq_true'] at hq
      go_ret2
      exact ⟨by rw [rdV_none (good_none (puS_ok HN.out) (toList_ne_of hq))]; rfl, hb.trans (hb2.mono hb.size)⟩
    · rename_i hq
      rw [Bool.not_eq_false'] at hq
      go_ret2
      exact ⟨by rw [rdV_some (good_of_txt (puS_ok HN.out) (toList_eq_of hq))]; rfl, hb.trans (hb2.mono hb.size)⟩
  · have HB := Lib.hid hbad
    clear hbad
    go_wp2
    go_ret2
    exact ⟨by rw [rdV_none (puS_bad HB.out)]; rfl, hb⟩
def R33 (l : List UInt8) (u i : Value) : Prop := ∃ (k a : Nat) (b : Int), k ≤ 8 ∧ i = .int .i64 k ∧ u = .int .u32 b ∧ Hid (b = (a : Int) ∧ a < 16 ^ k ∧ rdl 0 l = rdl a (l.drop k))
def L33 (l : List UInt8) (w : World) (e : Ending) (w' : World) : Prop := ((∃ n, good l = some n ∧ e = .returned (.tuple #[.float .f32 n, .bool true])) ∨ (good l = none ∧ ∃ v, e = .returned (.tuple #[.float .f32 v, .bool false]))) ∧ w = w'
set_option maxRecDepth 100000 in
set_option maxHeartbeats 1600000 in
theorem rl33 (t : ByteArray) (ht : t.size ≤ 1048576) (w : World) : Calls Tryd.prog 33 #[.string t] w (L33 t.data.toList w) := by
  by_cases h8 : t.size = 8
  · obtain ⟨bs, hL⟩ : ∃ bs, bs = t.data.toList := ⟨_, rfl⟩
    have hLn : bs.length = 8 := by rw [hL]; exact h8
    have hg : ∀ k, (hk : k < t.size) → t[k] = bs[k]'(by omega) := by
      intro k hk
      subst hL
      rfl
    rw [← hL]
    clear hL
    have HG := Lib.hid hg
    clear hg
    go_enter Tryd.func33, Tryd.ntmps33
    go_wp2
    go_loop [4, 5] (R33 bs) (fun u i => (8 - (intOf i).toNat))
    case atStart => exact ⟨0, 0, 0, by omega, rfl, rfl, Lib.hid ⟨rfl, by omega, rfl⟩⟩
    case round =>
      obtain ⟨k, a, b, hk, rfl, rfl, hh⟩ := hrel
      obtain ⟨hb, ha, hr⟩ := hh.out
      clear hh
      by_cases hk8 : k < 8
      · have hc := HG.out k (by omega)
        have ha28 : a < 268435456 := Nat.lt_of_lt_of_le ha (show 16 ^ k ≤ 16 ^ 7 from Nat.pow_le_pow_right (by decide) (by omega))
        have hdrop : bs.drop k = bs[k]'(by omega) :: bs.drop (k + 1) := List.drop_eq_getElem_cons (by omega)
        have HR := Lib.hid hr
        have HD := Lib.hid hdrop
        clear hr hdrop
        have hd16 : ∀ d, hexv (bs[k]'(by omega)).toNat = some d → rdl 0 bs = rdl (a * 16 + d) (bs.drop (k + 1)) ∧ a * 16 + d < 16 ^ (k + 1) := by
          intro d hd
          have h16 := hexv_lt hd
          refine ⟨?_, by rw [Nat.pow_succ]; omega⟩
          rw [HR.out, HD.out, rdl, hd]
        have hbad : hexv (bs[k]'(by omega)).toNat = none → good bs = none := by
          intro hd
          unfold good rd
          rw [if_pos hLn, HR.out, HD.out, rdl, hd]
        have H16 := Lib.hid hd16
        have HB := Lib.hid hbad
        clear hd16 hbad
        subst hb
        generalize hcc : (bs[k]'(by omega)) = c at hc H16 HB
        have hc256 : c.toNat < 256 := c.toNat_lt
        clear hcc HD HR
        go_wp2
        · have hv : hexv c.toNat = some (c.toNat - 48) := by unfold hexv; rw [if_pos ⟨by omega, by omega⟩]
          obtain ⟨q1, q2⟩ := H16.out _ hv
          exact ⟨⟨k + 1, a * 16 + (c.toNat - 48), _, by omega, by go_num, rfl, Lib.hid ⟨by omega, q2, q1⟩⟩, by simp [intOf]; omega⟩
        · have hv : hexv c.toNat = some (c.toNat - 87) := by unfold hexv; rw [if_neg (by omega), if_pos ⟨by omega, by omega⟩]
          obtain ⟨q1, q2⟩ := H16.out _ hv
          exact ⟨⟨k + 1, a * 16 + (c.toNat - 87), _, by omega, by go_num, rfl, Lib.hid ⟨by omega, q2, q1⟩⟩, by simp [intOf]; omega⟩
        all_goals
          have hv : hexv c.toNat = none := by unfold hexv; rw [if_neg (by omega), if_neg (by omega)]
          go_ret2
          exact ⟨.inr ⟨HB.out hv, _, rfl⟩, rfl⟩
      · obtain rfl : k = 8 := by omega
        have ha32 : a < 4294967296 := ha
        have hrd : rd bs = some a := by
          unfold rd
          rw [if_pos hLn, hr, List.drop_eq_nil_of_le (by omega)]
          rfl
        have HRD := Lib.hid hrd
        have hx := ext35 a
        have hbits := bits41 a
        clear hr hrd ha
        subst hb
        by_cases hcb : cb a = a
        · have HC := Lib.hid hcb
          have hq : ((cb a : Int) == (a : Int)) = true := by rw [hcb]; simp
          clear hcb
          go_wp2_with ((go_at_call 41; refine (hbits _).mono ?_; rintro e w' ⟨rfl, rfl⟩))
          go_ret2
          exact ⟨.inl ⟨a, by unfold good; rw [HRD.out]; simp [HC.out], rfl⟩, rfl⟩
        · have HC := Lib.hid hcb
          have hq : ((cb a : Int) == (a : Int)) = false := by rw [beq_eq_false_iff_ne]; omega
          clear hcb
          go_wp2_with ((go_at_call 41; refine (hbits _).mono ?_; rintro e w' ⟨rfl, rfl⟩))
          go_ret2
          exact ⟨.inr ⟨by unfold good; rw [HRD.out]; simp [HC.out], _, rfl⟩, rfl⟩
  · have h8' : ((t.size : Int) == 8) = false := by rw [beq_eq_false_iff_ne]; omega
    have hgn : good t.data.toList = none := by
      unfold good rd
      rw [if_neg (show ¬ t.data.toList.length = 8 from h8)]
    have HN := Lib.hid hgn
    clear hgn
    go_enter Tryd.func33, Tryd.ntmps33
    go_wp2
    go_ret2
    exact ⟨.inr ⟨HN.out, _, rfl⟩, rfl⟩
set_option maxRecDepth 100000 in
theorem srn16 (t : ByteArray) (ht : t.size ≤ 1048576) (w : World) : Calls Tryd.prog 16 #[.string t] w (RdPost t.data.toList w) := by
  have hp := rl33 t ht w
  go_enter Tryd.func16, Tryd.ntmps16
  go_wp2_with fail
  refine hp.mono ?_
  rintro e w1 ⟨h, rfl⟩
  clear hp
  rcases h with ⟨n, hn, rfl⟩ | ⟨hn, v, rfl⟩
  · have HN := Lib.hid hn
    clear hn
    go_wp2
    go_ret2
    exact ⟨by rw [rdV_some HN.out]; rfl, Below.refl _ _⟩
  · have HN := Lib.hid hn
    clear hn
    go_wp2
    go_ret2
    exact ⟨by rw [rdV_none HN.out]; rfl, Below.refl _ _⟩
section
open Sx
theorem frel_some {b : Nat} (h : b < 4294967296) : ∃ d, FRel .f32 b d := ⟨canon .f32 b, by simp [fltOk, Nat.blt_eq]; exact h, rfl⟩
theorem wide_run {b : Nat} (h : b < 4294967296) : ∃ d, ∀ W, ∃ r W', (convert 22 40 (.float .f32 b)).run Tryd.prog W = .ok (.float .f64 r) W' ∧ FRel .f64 r d ∧ Below W.heap.size W W' := by
  obtain ⟨d, hd⟩ := frel_some h
  obtain ⟨q, hq⟩ := wide_all d
  refine ⟨q, fun W => ?_⟩
  obtain ⟨r, W', h1, h2, n, rfl⟩ := run_conv Tryd.prog .f32 .f64 (by decide) b d hd .widen (fun _ => rfl) q hq W
  refine ⟨r, { W with drawn := n }, ?_, h2, ⟨rfl, rfl, rfl, Nat.le_refl _, fun _ _ => rfl⟩⟩
  rw [(convert_eq (P := Tryd.prog) (src := 22) (dst := 40) (d0 := .float .f32) (k := .f64) (by kernel_rfl) (by kernel_rfl) W).2]
  exact h1
theorem same18 {r1 r2 : Nat} {d : Option Nat} (h1 : FRel .f64 r1 d) (h2 : FRel .f64 r2 d) (w : World) : Calls Tryd.prog 18 #[.float .f64 r1, .float .f64 r2] w fun e w' => e = .returned (.bool true) ∧ Below w.heap.size w w' := by
  have hs := table.sums 18 s30 (by kernel_rfl)
  obtain ⟨ys, g1, _, _, g2⟩ := same30.opq _ _ _ _ rfl [.f .f64 d, .f .f64 d] ⟨d, _, rfl, d, _, rfl, rfl⟩
  rw [g2 rfl _ rfl] at g1
  refine (hs.call [.f .f64 d, .f .f64 d] _ [.float .f64 r1, .float .f64 r2] w ⟨[.f .f64 d], [.f .f64 d], _, [.float .f64 r2], rfl, rfl, ⟨_, rfl, d, r1, rfl, rfl, h1⟩, [.f .f64 d], [], _, [], rfl, rfl, ⟨_, rfl, d, r2, rfl, rfl, h2⟩, rfl, rfl⟩ g1).mono ?_
  rintro e w' ⟨v, rfl, hv, hb⟩
  obtain ⟨vs, hq, rfl⟩ := hv
  obtain ⟨a, a', u, us, e1, rfl, ⟨c, rfl, hc⟩, rfl, rfl⟩ := hq
  obtain ⟨yb, rfl, rfl⟩ := hc
  simp at e1
  subst e1
  exact ⟨rfl, hb⟩
end
set_option maxRecDepth 100000 in
set_option maxHeartbeats 1600000 in
theorem law6 (t : ByteArray) (w : World) (hT : Tab w) (hE : ErrVars w) : Calls Tryd.prog 6 #[.string t] w fun e w' => e = .returned (.bool true) ∧ Below w.heap.size w w' := by
  by_cases ht : 1048576 < t.size
  · clear hT hE
    have ht' : (1048576 : Int) < t.size := by omega
    go_enter Tryd.func6, Tryd.ntmps6
    go_wp2
    go_ret
    exact ⟨rfl, Below.refl _ _⟩
  · have ht0 : t.size ≤ 1048576 := by omega
    have ht' : (t.size : Int) ≤ 1048576 := by omega
    obtain ⟨n, c, hv, hn⟩ : ∃ (n : Nat) (c : Int), rdV t.data.toList = .tuple #[.float .f32 n, .int .i64 c] ∧ n < 4294967296 := by
      cases hg : good t.data.toList with
      | some n => exact ⟨n, 0, rdV_some hg, good_lt hg⟩
      | none => exact ⟨0, 5, rdV_none hg, by decide⟩
    have h1 : Calls Tryd.prog 16 #[.string t] w fun e w' => e = .returned (.tuple #[.float .f32 n, .int .i64 c]) ∧ Below w.heap.size w w' := by
      refine (srn16 t ht0 w).mono ?_
      rintro e w' ⟨rfl, hb⟩
      exact ⟨by rw [hv], hb⟩
    have h2 : ∀ W, Below w.heap.size w W → Calls Tryd.prog 17 #[.string t] W fun e w' => e = .returned (.tuple #[.float .f32 n, .int .i64 c]) ∧ Below W.heap.size W w' := by
      intro W hW
      refine (rn17 t ht0 W (hT.below hW) (hE.below hW)).mono ?_
      rintro e w' ⟨rfl, hb⟩
      exact ⟨by rw [hv], hb⟩
    obtain ⟨d, hwide⟩ := wide_run hn
    have H2 := Lib.hid h2
    have HW := Lib.hid hwide
    clear h2 hwide hv hT hE ht
    go_enter Tryd.func6, Tryd.ntmps6
    go_wp2_with fail
    refine h1.mono ?_
    rintro e w1 ⟨rfl, hb1⟩
    clear h1
    go_wp2_with fail
    refine (H2.out _ hb1).mono ?_
    rintro e w2 ⟨rfl, hb2⟩
    have hb3 := hb1.trans (hb2.mono hb1.size)
    go_wp2_with fail
    obtain ⟨r1, w3, c1, f1, b1⟩ := HW.out w2
    rw [c1]
    have hb4 := hb3.trans (b1.mono hb3.size)
    clear c1
    go_wp2_with fail
    obtain ⟨r2, w4, c2, f2, b2⟩ := HW.out w3
    rw [c2]
    have hb5 := hb4.trans (b2.mono hb4.size)
    clear c2
    go_wp2_with fail
    refine (same18 f1 f2 _).mono ?_
    rintro e w5 ⟨rfl, hb6⟩
    go_wp2
    go_ret
    exact ⟨rfl, hb5.trans (hb6.mono hb5.size)⟩
end Go.Proofs.YtejbahdihfnbcaaDoor.nt
