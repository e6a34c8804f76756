/- Roots, exact conversions, halves, whole numbers. -/
import Derived.Test.YtconlkliclhbpaaSxNum3
namespace Go.Proofs.Ytconlkliclhbpaa.Sx
open Go Ieee

theorem rootFrom_sq (n : Nat) : ∀ (t r : Nat), r * r ≤ n → Datum.rootFrom n t r * Datum.rootFrom n t r ≤ n
  | 0, r, h => h
  | t + 1, r, h => by
    unfold Datum.rootFrom
    simp only
    split
    · rename_i hl; exact rootFrom_sq n t _ hl
    · exact rootFrom_sq n t r h

/-- the root of m * 2^i is at most 2^E if m * 2^i is at most 2^(2E) -/
theorem root_le {n w : Nat} {h E : Int} (hw : w * w ≤ n) (hn : n * 1 ≤ 2 ^ (2 * (E - h).toNat)) (hE : h ≤ E) : le2 (2 * w + (w * w != n).toNat) (h - 1) E := by
  unfold le2
  rw [vle_iff (b := h - 1) (Int.le_refl _) (by omega), show (h - 1 - (h - 1)).toNat = 0 by omega, show (E - (h - 1)).toNat = (E - h).toNat + 1 by omega, Nat.pow_succ]
  generalize (E - h).toNat = X at *
  rw [Nat.mul_comm 2 X, Nat.pow_mul, Nat.pow_two] at hn
  generalize 2 ^ X = K at *
  have hle : w ≤ K := by
    rcases Nat.le_total w K with h1 | h1
    · exact h1
    · have h2 := Nat.mul_le_mul h1 h1
      have : K * K = w * w := by omega
      have := Nat.mul_self_inj.1 this
      omega
  by_cases he : w = K
  · subst he
    have : w * w = n := by omega
    simp [this]
    omega
  · have := Bool.toNat_le (w * w != n)
    simp
    omega

theorem sqrt_num {k : FloatKind} {b m : Nat} {i : Int} (h0 : m ≠ 0) (hr : k.format.read b = .number false m i) :
    ∃ (more n w : Nat) (h : Int), n = m * 2 ^ more ∧ i - more = 2 * h ∧ w * w ≤ n ∧ (2 * (k.format.fractionBits + 2) : Nat) ≤ more + m.log2 ∧ w = Datum.rootFrom n (n.log2 / 2 + 1) 0 ∧
      k.format.sqrt b = some (k.format.nearest false (2 * w + (w * w != n).toNat) (h - 1)) := by
  unfold Format.sqrt
  rw [hr]
  unfold Datum.root
  simp only [if_neg h0, Bool.false_eq_true, if_false]
  generalize hd : 2 * (k.format.fractionBits + 2) - m.log2 = m0
  generalize hmore : m0 + ((i - m0) % 2).toNat = more
  refine ⟨more, m <<< more, _, (i - more) / 2, Nat.shiftLeft_eq _ _, ?_, rootFrom_sq _ _ 0 (Nat.zero_le _), ?_, rfl, rfl⟩
  · have : (i - more) % 2 = 0 := by omega
    omega
  · omega

theorem bd_sqrt {k : FloatKind} {x d : Option Nat} {e : Nat} (hx : Bd k x e) (hn : NN k x) (h : UO.sqrt.den k x = some d) : Bd k d ((e + 1) / 2) := by
  obtain ⟨he, a, rfl, ha⟩ := hx
  obtain ⟨M, P, r1, rep, v1⟩ := read_le he ha
  have he2 : (e + 1) / 2 ≤ maxE k := by have : 1 ≤ maxE k := by cases k <;> decide
                                        omega
  refine ⟨he2, ?_⟩
  simp only [UO.den, UO.fn] at h
  cases h
  by_cases h0 : M = 0
  · refine ⟨k.format.nearest (a / sw k % 2 == 1) M P, ?_, ?_⟩
    · unfold Format.sqrt
      rw [r1]
      unfold Datum.root
      simp only [if_pos h0]; rfl
    · rw [h0, nearest_zero]; exact Nat.zero_le _
  · have hs : (a / sw k % 2 == 1) = false := by
      cases hs : (a / sw k % 2 == 1) with
      | false => rfl
      | true => have hz := hn a rfl hs; have := rep.rung; omega
    rw [hs] at r1
    obtain ⟨more, n, w, hh, rfl, h2, hw, hmore, _, hres⟩ := sqrt_num h0 r1
    refine ⟨_, hres, wr_le he2 (root_le hw ?_ ?_)⟩
    · -- m*2^more ≤ 2^(2(E-h))
      have h3 : P + M.log2 ≤ e := by
        have h1 : 2 ^ M.log2 ≤ M := Nat.log2_self_le h0
        let c : Int := min P e
        unfold le2 at v1
        rw [vle_iff (b := c) (by omega) (by omega)] at v1
        have := Nat.le_trans (Nat.mul_le_mul_right (2 ^ (P - c).toNat) h1) v1
        rw [← Nat.pow_add, Nat.one_mul] at this
        have := (Nat.pow_le_pow_iff_right (by omega : 1 < 2)).1 this
        omega
      let c : Int := min P e
      unfold le2 at v1
      rw [vle_iff (b := P) (Int.le_refl _) (by omega)] at v1
      simp at v1
      rw [Nat.mul_one]
      refine Nat.le_trans (Nat.mul_le_mul_right (2 ^ more) v1) ?_
      rw [← Nat.pow_add]
      exact Nat.pow_le_pow_right (by omega) (by omega)
    · have h3 : P + M.log2 ≤ e := by
        have h1 : 2 ^ M.log2 ≤ M := Nat.log2_self_le h0
        let c : Int := min P e
        unfold le2 at v1
        rw [vle_iff (b := c) (by omega) (by omega)] at v1
        have := Nat.le_trans (Nat.mul_le_mul_right (2 ^ (P - c).toNat) h1) v1
        rw [← Nat.pow_add, Nat.one_mul] at this
        have := (Nat.pow_le_pow_iff_right (by omega : 1 < 2)).1 this
        omega
      omega

/-! exact conversions -/
/-- a number of the first format is one of the second -/
theorem rep_wide {M R : Nat} {P : Int} (h0 : M ≠ 0) (h : Rep FloatKind.f32.format M P R) (hR : R ≤ FloatKind.f32.format.infRung) :
    ∃ N Q S, Rep FloatKind.f64.format N Q S ∧ vle M P N Q ∧ vle N Q M P ∧ S ≤ rung2 .f64 128 := by
  have hl1 : 2 ^ M.log2 ≤ M := Nat.log2_self_le h0
  have hl2 : M < 2 ^ (M.log2 + 1) := Nat.lt_log2_self
  have hl : M.log2 ≤ 23 := by
    have h1 : M < 2 ^ 24 := h.lt
    have := Nat.lt_of_le_of_lt hl1 h1
    have := (Nat.pow_lt_pow_iff_right (by omega : 1 < 2)).1 this
    omega
  have hlo : (-149 : Int) ≤ P := h.lo
  have hv : vle M P (M * 2 ^ (52 - M.log2)) (P - (52 - M.log2 : Nat)) ∧ vle (M * 2 ^ (52 - M.log2)) (P - (52 - M.log2 : Nat)) M P := by
    rw [vle_iff (b := P - (52 - M.log2 : Nat)) (by omega) (Int.le_refl _), vle_iff (b := P - (52 - M.log2 : Nat)) (Int.le_refl _) (by omega)]
    rw [show (P - (P - ((52 - M.log2 : Nat) : Int))).toNat = 52 - M.log2 by omega]; simp
  have hrep : Rep FloatKind.f64.format (M * 2 ^ (52 - M.log2)) (P - (52 - M.log2 : Nat)) ((P - (52 - M.log2 : Nat) - (-1074)).toNat * 2 ^ 52 + M * 2 ^ (52 - M.log2)) := by
    refine ⟨?_, ?_, .inl ?_, rfl⟩
    · show (-1074 : Int) ≤ _; omega
    · show M * 2 ^ (52 - M.log2) < 2 ^ 53
      have := (Nat.mul_lt_mul_right (Nat.two_pow_pos (52 - M.log2))).2 hl2
      rw [← Nat.pow_add, show M.log2 + 1 + (52 - M.log2) = 53 by omega] at this
      exact this
    · show 2 ^ 52 ≤ M * 2 ^ (52 - M.log2)
      have := Nat.mul_le_mul_right (2 ^ (52 - M.log2)) hl1
      rw [← Nat.pow_add, show M.log2 + (52 - M.log2) = 52 by omega] at this
      exact this
  refine ⟨_, _, _, hrep, hv.1, hv.2, ?_⟩
  have hb : vle M P 1 128 := (h.vle_of_le (rep2 .f32 128) hR).trans (vle_pow (by show (128 : Int) = _; have : (fbOf .f32 : Int) = 23 := rfl; omega)).1
  exact (hrep.vle_iff (rep2 .f64 128)).1 (hv.2.trans (hb.trans (vle_pow (by show (128 : Int) = _; have : (fbOf .f64 : Int) = 52 := rfl; omega)).2))

theorem veq_zero {M N : Nat} {P Q : Int} (h : vle M P N Q) (hN : N = 0) : M = 0 := by
  subst hN
  unfold vle at h
  have hp := Nat.two_pow_pos (P - min P Q).toNat
  rw [Nat.zero_mul] at h
  rcases Nat.mul_eq_zero.1 (Nat.le_zero.1 h) with h1 | h1 <;> omega

/-- a word is read back as what was written, if that is a number of the format -/
theorem nearest_exact {k : FloatKind} {s : Bool} {m M R : Nat} {p P : Int} (h0 : m ≠ 0) (h1 : vle m p M P) (h2 : vle M P m p) (hr : Rep k.format M P R) (hR : R ≤ k.format.infRung) :
    k.format.nearest s m p = k.format.word s R := by
  rw [nearest_eq h0, near_eq h0 h1 h2 hr, Nat.min_eq_left hR]

/-- widening a finite number -/
theorem widen_fin {b : Nat} (h : b % sw .f32 < FloatKind.f32.format.infRung) :
    ∃ w M P N Q, convD .f32 .f64 b = some (some w) ∧ FloatKind.f32.format.read b = .number (sgn .f32 b) M P ∧ Rep FloatKind.f32.format M P (b % sw .f32) ∧
      FloatKind.f64.format.read w = .number (sgn .f32 b) N Q ∧ Rep FloatKind.f64.format N Q (w % sw .f64) ∧ sgn .f64 w = sgn .f32 b ∧ w % sw .f64 ≤ rung2 .f64 128 ∧ vle M P N Q ∧ vle N Q M P := by
  obtain ⟨M, P, hr, rep⟩ := read_fin h
  by_cases h0 : M = 0
  · have hz : FloatKind.f64.format.nearest (sgn .f32 b) M P % sw .f64 = 0 := by rw [h0]; exact nearest_zero
    have hlt : FloatKind.f64.format.nearest (sgn .f32 b) M P % sw .f64 < FloatKind.f64.format.infRung := by rw [hz]; decide
    obtain ⟨N, Q, r2, rep2'⟩ := read_fin hlt
    rw [nearest_sgn] at r2
    have hN : N = 0 := by have := rep2'.rung; omega
    refine ⟨_, M, P, N, Q, conv_num hr hlt, hr, rep, r2, rep2', nearest_sgn, by rw [hz]; exact Nat.zero_le _, ?_, ?_⟩
    · rw [h0]; exact vle_zero _ _ _
    · rw [hN]; exact vle_zero _ _ _
  · obtain ⟨N, Q, S, rep3, v1, v2, hS⟩ := rep_wide h0 rep (Nat.le_of_lt h)
    have hfin : S < FloatKind.f64.format.infRung := Nat.lt_of_le_of_lt hS (rung2_fin (k := .f64) (by decide))
    have hw := nearest_exact (k := .f64) (s := sgn .f32 b) h0 v1 v2 rep3 (Nat.le_of_lt hfin)
    obtain ⟨q1, q2⟩ := word_sgn (k := .f64) (s := sgn .f32 b) (Nat.le_of_lt hfin)
    have hlt : FloatKind.f64.format.nearest (sgn .f32 b) M P % sw .f64 < FloatKind.f64.format.infRung := by rw [hw, q2]; exact hfin
    obtain ⟨N', Q', r2, rep4⟩ := read_fin hlt
    rw [nearest_sgn] at r2
    have e : FloatKind.f64.format.nearest (sgn .f32 b) M P % sw .f64 = S := by rw [hw, q2]
    refine ⟨_, M, P, N', Q', conv_num hr hlt, hr, rep, r2, rep4, nearest_sgn, by rw [e]; exact hS, ?_, ?_⟩
    · exact v1.trans ((rep3.vle_iff rep4).2 (by rw [e]; exact Nat.le_refl _))
    · exact ((rep4.vle_iff rep3).2 (by rw [e]; exact Nat.le_refl _)).trans v2

/-- a float64 that is a float32 is narrowed exactly -/
theorem narrow_exact {w : Nat} {s : Bool} {M N R : Nat} {P Q : Int} (hr : FloatKind.f64.format.read w = .number s N Q) (rep : Rep FloatKind.f32.format M P R) (hR : R < FloatKind.f32.format.infRung) (v1 : vle M P N Q) (v2 : vle N Q M P) :
    convD .f64 .f32 w = some (some (FloatKind.f32.format.word s R)) := by
  by_cases h0 : N = 0
  · have hM := veq_zero v1 h0
    subst h0
    have hR0 : R = 0 := by
      have := rep.norm
      have hp := Nat.two_pow_pos FloatKind.f32.format.fractionBits
      have : P = FloatKind.f32.format.leastPlace := by rcases this with h1 | h1; omega; exact h1
      rw [rep.rung, this, hM]; simp
    have e : FloatKind.f32.format.nearest s 0 Q = FloatKind.f32.format.word s 0 := by simp [Format.nearest]
    rw [conv_num hr (by rw [nearest_zero]; decide), e, hR0]
  · have e := nearest_exact (k := .f32) (s := s) h0 v2 v1 rep (Nat.le_of_lt hR)
    rw [conv_num hr (by rw [e, (word_sgn (Nat.le_of_lt hR)).2]; exact hR), e]

/-- the size of a float32, by way of float64 -/
theorem abs_round {b w : Nat} (h : convD .f32 .f64 b = some (some w)) : convD .f64 .f32 (w % sw .f64) = some (some (b % sw .f32)) := by
  rcases Nat.lt_trichotomy (b % sw .f32) FloatKind.f32.format.infRung with h1 | h1 | h1
  · obtain ⟨w', M, P, N, Q, c, r1, rep1, r2, rep2, sg, hS, v1, v2⟩ := widen_fin h1
    rw [h] at c; cases c
    have hfin : w % sw .f64 < FloatKind.f64.format.infRung := Nat.lt_of_le_of_lt hS (rung2_fin (k := .f64) (by decide))
    have hm : w % sw .f64 % sw .f64 = w % sw .f64 := Nat.mod_mod _ _
    obtain ⟨N', Q', r3, rep3⟩ := read_fin (k := .f64) (b := w % sw .f64) (by rw [hm]; exact hfin)
    have hsg : sgn .f64 (w % sw .f64) = false := by unfold sgn; rw [Nat.div_eq_of_lt (Nat.mod_lt _ (by decide))]; rfl
    rw [hsg] at r3
    rw [hm] at rep3
    have := narrow_exact r3 rep1 h1 (v1.trans ((rep2.vle_iff rep3).2 (Nat.le_refl _))) (((rep3.vle_iff rep2).2 (Nat.le_refl _)).trans v2)
    rw [this]; rfl
  · rw [conv_inf (read_inf h1)] at h
    cases h
    have := (word_sgn (k := .f64) (s := sgn .f32 b) (Nat.le_refl _)).2
    rw [this]
    have e : FloatKind.f64.format.infRung % sw .f64 = FloatKind.f64.format.infRung := by decide
    have r : FloatKind.f64.format.read FloatKind.f64.format.infRung = .infinity (sgn .f64 FloatKind.f64.format.infRung) := read_inf e
    rw [conv_inf r, h1]
    rfl
  · obtain ⟨t, r, t0, tl, e⟩ := read_nan_lt h1
    have tl' : t < 8388608 := tl
    rw [conv_nan r t0 (by show t < 4503599627370496; omega)] at h
    cases h
    have hw : FloatKind.f64.format.infRung + t < sw .f64 := by
      have := (binade_inf .f64).1
      have : FloatKind.f64.format.binade = 4503599627370496 := rfl
      omega
    rw [(word_mod (k := .f64) hw).1]
    have r2 : FloatKind.f64.format.read (FloatKind.f64.format.infRung + t) = .nan false t := read_nan_word (l := .f64) (s := false) t0 (by show t < 4503599627370496; omega)
    rw [conv_nan r2 t0 tl, e]
    rfl

/-! halves -/
theorem two_read (k : FloatKind) : k.format.read (two k) = .number false (2 ^ fbOf k) (1 - fbOf k) := by cases k <;> decide +kernel
theorem half_read (k : FloatKind) : k.format.read (half k) = .number false (2 ^ fbOf k) (-1 - fbOf k) := by cases k <;> decide +kernel
theorem half_eq (k : FloatKind) (d : Option Nat) : BO.mul.den k (some (half k)) d = BO.div.den k d (some (two k)) := by
  cases d with
  | none => rfl
  | some b =>
    show k.format.mul (half k) b = k.format.div b (two k)
    have hpos := Nat.two_pow_pos (fbOf k)
    rcases Nat.lt_trichotomy (b % sw k) k.format.infRung with h | h | h
    · obtain ⟨M, P, r, rep⟩ := read_fin h
      rw [div_number r (two_read k) (Nat.ne_of_gt hpos)]
      unfold Format.mul
      rw [half_read, r]
      show some (k.format.nearest (false ^^ sgn k b) (2 ^ fbOf k * M) (-1 - fbOf k + P)) = _
      have hl : (2 ^ fbOf k).log2 = fbOf k := Nat.log2_two_pow
      rw [hl, fb_eq]
      have hM : M.log2 ≤ fbOf k := by
        by_cases h0 : M = 0
        · subst h0; simp
        · have h1 := Nat.lt_of_le_of_lt (Nat.log2_self_le h0) rep.lt
          rw [fb_eq] at h1
          have := (Nat.pow_lt_pow_iff_right (by omega : 1 < 2)).1 h1
          omega
      generalize hmore : fbOf k + 2 + fbOf k - M.log2 = more
      have hm : fbOf k ≤ more := by omega
      rw [Nat.shiftLeft_eq]
      have e1 : M * 2 ^ more = M * 2 ^ (more - fbOf k) * 2 ^ fbOf k := by rw [Nat.mul_assoc, ← Nat.pow_add, Nat.sub_add_cancel hm]
      have e2 : M * 2 ^ more / 2 ^ fbOf k = M * 2 ^ (more - fbOf k) := by rw [e1, Nat.mul_div_cancel _ hpos]
      have e3 : M * 2 ^ more % 2 ^ fbOf k = 0 := by rw [e1]; exact Nat.mul_mod_left _ _
      rw [e2, e3]
      have e4 : 2 * (M * 2 ^ (more - fbOf k)) + (0 != 0 : Bool).toNat = M * 2 ^ (more - fbOf k + 1) := by
        rw [show (0 != 0 : Bool).toNat = 0 from rfl, Nat.add_zero, Nat.pow_succ, Nat.mul_comm (2 ^ (more - fbOf k)) 2, Nat.mul_left_comm]
      rw [e4, Nat.mul_comm (2 ^ fbOf k) M]
      rw [show (-1 - (fbOf k : Int) + P) = (P - 1) - fbOf k by omega, nearest_shift, show P - (1 - (fbOf k : Int)) - more - 1 = (P - 1) - (more - fbOf k + 1 : Nat) by omega, nearest_shift]
      simp
    · unfold Format.mul Format.div
      rw [half_read, read_inf h, two_read]
      have hne : 2 ^ fbOf k ≠ 0 := Nat.ne_of_gt hpos
      simp [Datum.product, Datum.quotient, hne]
    · obtain ⟨t, r, _⟩ := read_nan_lt h
      unfold Format.mul Format.div
      rw [half_read, r, two_read]
      rfl
theorem wide_all (d : Option Nat) : ∃ r, UO.widen.den .f32 d = some r := by
  cases d with
  | none => exact ⟨none, rfl⟩
  | some b =>
    show ∃ r, convD .f32 .f64 b = some r
    rcases Nat.lt_trichotomy (b % sw .f32) FloatKind.f32.format.infRung with h | h | h
    · obtain ⟨w, M, P, N, Q, c, _⟩ := widen_fin h; exact ⟨_, c⟩
    · exact ⟨_, conv_inf (read_inf h)⟩
    · obtain ⟨t, r, t0, tl, e⟩ := read_nan_lt h
      have tl' : t < 8388608 := tl
      exact ⟨_, conv_nan r t0 (by show t < 4503599627370496; omega)⟩
end Go.Proofs.Ytconlkliclhbpaa.Sx
