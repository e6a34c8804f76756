/- Bounds of sums, products, quotients and roots. -/
import Derived.Test.YtconlkliclhbpaaSxNum1
namespace Go.Proofs.Ytconlkliclhbpaa.Sx
open Go Ieee

def fbOf (k : FloatKind) : Nat := match k with | .f32 => 23 | .f64 => 52
theorem fb_eq (k : FloatKind) : k.format.fractionBits = fbOf k := by cases k <;> rfl
theorem sw_eq (k : FloatKind) : k.format.signWeight = sw k := by cases k <;> rfl
theorem rep2 (k : FloatKind) (e : Nat) : Rep k.format (2 ^ fbOf k) ((e : Int) - fbOf k) (rung2 k e) := by
  cases k
  · refine ⟨?_, by decide, .inl (Nat.le_refl _), ?_⟩
    · show (-149 : Int) ≤ e - 23; omega
    · show rung2 .f32 e = ((e : Int) - 23 - (-149)).toNat * 2 ^ 23 + 2 ^ 23
      rw [show ((e : Int) - 23 - (-149)).toNat = e + 126 by omega]
      show (e + 127) * 8388608 = _
      omega
  · refine ⟨?_, by decide, .inl (Nat.le_refl _), ?_⟩
    · show (-1074 : Int) ≤ e - 52; omega
    · show rung2 .f64 e = ((e : Int) - 52 - (-1074)).toNat * 2 ^ 52 + 2 ^ 52
      rw [show ((e : Int) - 52 - (-1074)).toNat = e + 1022 by omega]
      show (e + 1023) * 4503599627370496 = _
      omega
theorem repL (k : FloatKind) (e : Nat) (he : e ≤ 100) : Rep k.format (2 ^ fbOf k) (-(e : Int) - fbOf k) (rungL k e) := by
  cases k
  · refine ⟨?_, by decide, .inl (Nat.le_refl _), ?_⟩
    · show (-149 : Int) ≤ -e - 23; omega
    · show rungL .f32 e = (-(e : Int) - 23 - (-149)).toNat * 2 ^ 23 + 2 ^ 23
      rw [show (-(e : Int) - 23 - (-149)).toNat = 126 - e by omega]
      show (127 - e) * 8388608 = _
      rw [show 127 - e = 126 - e + 1 by omega, Nat.add_mul]
  · refine ⟨?_, by decide, .inl (Nat.le_refl _), ?_⟩
    · show (-1074 : Int) ≤ -e - 52; omega
    · show rungL .f64 e = (-(e : Int) - 52 - (-1074)).toNat * 2 ^ 52 + 2 ^ 52
      rw [show (-(e : Int) - 52 - (-1074)).toNat = 1022 - e by omega]
      show (1023 - e) * 4503599627370496 = _
      rw [show 1023 - e = 1022 - e + 1 by omega, Nat.add_mul]
theorem rung2_fin {k : FloatKind} {e : Nat} (h : e ≤ maxE k) : rung2 k e < k.format.infRung := by
  cases k
  · have h : e ≤ 127 := h
    show (e + 127) * 8388608 < 2139095040
    omega
  · have h : e ≤ 1023 := h
    show (e + 1023) * 4503599627370496 < 9218868437227405312
    omega
theorem inf_lt_sw (k : FloatKind) : k.format.infRung < sw k := by cases k <;> decide

/-- m * 2^p ≤ 2^e -/
def le2 (m : Nat) (p e : Int) : Prop := vle m p 1 e
theorem vle_pow {a : Nat} {q e : Int} (h : e = q + a) : vle (2 ^ a) q 1 e ∧ vle 1 e (2 ^ a) q := by
  rw [vle_iff (b := q) (Int.le_refl _) (by omega), vle_iff (b := q) (by omega) (Int.le_refl _)]
  rw [show (e - q).toNat = a by omega]; simp
theorem le2.mono {m : Nat} {p e e' : Int} (h : le2 m p e) (he : e ≤ e') : le2 m p e' := by
  refine vle.trans h ?_
  rw [vle_iff (b := e) (Int.le_refl _) he]
  have := Nat.two_pow_pos (e' - e).toNat
  simp
  omega

/-- a finite number, at most 2^e -/
theorem read_le {k : FloatKind} {b e : Nat} (he : e ≤ maxE k) (h : b % sw k ≤ rung2 k e) :
    ∃ M P, k.format.read b = .number (b / sw k % 2 == 1) M P ∧ Rep k.format M P (b % sw k) ∧ le2 M P e := by
  have hlt : b % k.format.signWeight < k.format.infRung := by rw [sw_eq]; exact Nat.lt_of_le_of_lt h (rung2_fin he)
  obtain ⟨M, P, h1, h2⟩ := read_rep hlt
  rw [sw_eq] at h1 h2
  refine ⟨M, P, h1, h2, ?_⟩
  exact (h2.vle_of_le (rep2 k e) h).trans (vle_pow (by omega)).1
theorem word_mod {k : FloatKind} {s : Bool} {r : Nat} (h : r < sw k) : k.format.word s r % sw k = r ∧ (k.format.word s r / sw k % 2 == 1) = s := by
  unfold Format.word
  rw [sw_eq]
  have hp : 0 < sw k := by cases k <;> decide
  cases s
  · simp [Nat.mod_eq_of_lt h, Nat.div_eq_of_lt h]
  · simp [Nat.add_mod_left, Nat.mod_eq_of_lt h, Nat.add_div_left _ hp, Nat.div_eq_of_lt h]
theorem nearest_mod {k : FloatKind} {s : Bool} {m : Nat} {p : Int} : ∃ r, k.format.nearest s m p = k.format.word s r ∧ r ≤ k.format.infRung ∧ r = (if m = 0 then 0 else min (nearR k.format s m p) k.format.infRung) := by
  by_cases h : m = 0
  · subst h; exact ⟨0, by simp [Format.nearest], Nat.zero_le _, by simp⟩
  · exact ⟨_, nearest_eq h, Nat.min_le_right _ _, by rw [if_neg h]⟩
theorem nearest_rung {k : FloatKind} {s : Bool} {m : Nat} {p : Int} : k.format.nearest s m p % sw k = (if m = 0 then 0 else min (nearR k.format s m p) k.format.infRung) ∧ (k.format.nearest s m p / sw k % 2 == 1) = s := by
  obtain ⟨r, h1, h2, h3⟩ := nearest_mod (k := k) (s := s) (m := m) (p := p)
  have hr : r < sw k := Nat.lt_of_le_of_lt h2 (inf_lt_sw k)
  rw [h1, ← h3]
  exact word_mod hr
theorem wr_le {k : FloatKind} {s : Bool} {m e : Nat} {p : Int} (he : e ≤ maxE k) (h : le2 m p e) : k.format.nearest s m p % sw k ≤ rung2 k e := by
  rw [nearest_rung.1]
  by_cases h0 : m = 0
  · rw [if_pos h0]; exact Nat.zero_le _
  · rw [if_neg h0]
    exact Nat.le_trans (Nat.min_le_left _ _) (near_le h0 (vle.trans h (vle_pow (by omega)).2) (rep2 k e))

/-- finite, and at most 2^e -/
def Bd (k : FloatKind) (d : Option Nat) (e : Nat) : Prop := e ≤ maxE k ∧ ∃ b, d = some b ∧ b % sw k ≤ rung2 k e

theorem natAbs_signed (s : Bool) (m u : Nat) : (signed s m u).natAbs = m * 2 ^ u := by
  rw [← Nat.shiftLeft_eq]
  cases s
  · show ((m <<< u : Nat) : Int).natAbs = _
    rw [Int.natAbs_natCast]
  · show (-((m <<< u : Nat) : Int)).natAbs = _
    rw [Int.natAbs_neg, Int.natAbs_natCast]

theorem le2.sum {m n : Nat} {i j e : Int} (h : le2 m i e) (g : le2 n j e) (s t : Bool) :
    le2 (signed s m (i - min i j).toNat + signed t n (j - min i j).toNat).natAbs (min i j) (e + 1) := by
  have h1 : (signed s m (i - min i j).toNat + signed t n (j - min i j).toNat).natAbs ≤ m * 2 ^ (i - min i j).toNat + n * 2 ^ (j - min i j).toNat := by
    have := Int.natAbs_add_le (signed s m (i - min i j).toNat) (signed t n (j - min i j).toNat)
    rw [natAbs_signed, natAbs_signed] at this
    exact this
  generalize (signed s m (i - min i j).toNat + signed t n (j - min i j).toNat).natAbs = q at *
  let b : Int := min (min i j) e
  unfold le2 at h g ⊢
  rw [vle_iff (b := b) (by omega) (by omega)] at h g ⊢
  have e1 : (i - b).toNat = (i - min i j).toNat + (min i j - b).toNat := by omega
  have e2 : (j - b).toNat = (j - min i j).toNat + (min i j - b).toNat := by omega
  have e3 : (e + 1 - b).toNat = (e - b).toNat + 1 := by omega
  rw [e1, Nat.pow_add, ← Nat.mul_assoc] at h
  rw [e2, Nat.pow_add, ← Nat.mul_assoc] at g
  rw [e3, Nat.pow_succ]
  have := Nat.mul_le_mul_right (2 ^ (min i j - b).toNat) h1
  rw [Nat.add_mul] at this
  omega

theorem sum_number {s t : Bool} {m n : Nat} {i j : Int} : ∃ u, (Datum.number s m i).sum (.number t n j) = some (.number u (signed s m (i - min i j).toNat + signed t n (j - min i j).toNat).natAbs (min i j)) := ⟨_, rfl⟩

theorem bd_add {k : FloatKind} {x y : Option Nat} {e : Nat} (hx : Bd k x e) (hy : Bd k y e) (he : e + 1 ≤ maxE k) : Bd k (BO.add.den k x y) (e + 1) := by
  obtain ⟨_, a, rfl, ha⟩ := hx
  obtain ⟨_, b, rfl, hb⟩ := hy
  obtain ⟨M, P, r1, _, v1⟩ := read_le (by omega) ha
  obtain ⟨N, Q, r2, _, v2⟩ := read_le (by omega) hb
  refine ⟨he, ?_⟩
  show ∃ r, k.format.add a b = some r ∧ _
  unfold Format.add
  rw [r1, r2]
  obtain ⟨u, hu⟩ := sum_number (s := (a / sw k % 2 == 1)) (t := (b / sw k % 2 == 1)) (m := M) (n := N) (i := P) (j := Q)
  rw [hu]
  exact ⟨_, rfl, wr_le he (le2.sum v1 v2 _ _)⟩
theorem bd_sub {k : FloatKind} {x y : Option Nat} {e : Nat} (hx : Bd k x e) (hy : Bd k y e) (he : e + 1 ≤ maxE k) : Bd k (BO.sub.den k x y) (e + 1) := by
  obtain ⟨_, a, rfl, ha⟩ := hx
  obtain ⟨_, b, rfl, hb⟩ := hy
  obtain ⟨M, P, r1, _, v1⟩ := read_le (by omega) ha
  obtain ⟨N, Q, r2, _, v2⟩ := read_le (by omega) hb
  refine ⟨he, ?_⟩
  show ∃ r, k.format.sub a b = some r ∧ _
  unfold Format.sub
  rw [r1, r2]
  obtain ⟨u, hu⟩ := sum_number (s := (a / sw k % 2 == 1)) (t := !(b / sw k % 2 == 1)) (m := M) (n := N) (i := P) (j := Q)
  show ∃ r, Option.map _ ((Datum.number _ M P).sum (.number _ N Q)) = some r ∧ _
  rw [hu]
  exact ⟨_, rfl, wr_le he (le2.sum v1 v2 _ _)⟩
theorem le2.mul {m n : Nat} {i j d e : Int} (h : le2 m i d) (g : le2 n j e) : le2 (m * n) (i + j) (d + e) := by
  let b : Int := min i d
  let c : Int := min j e
  unfold le2 at h g ⊢
  rw [vle_iff (b := b) (by omega) (by omega)] at h
  rw [vle_iff (b := c) (by omega) (by omega)] at g
  rw [vle_iff (b := b + c) (by omega) (by omega)]
  have e1 : (i + j - (b + c)).toNat = (i - b).toNat + (j - c).toNat := by omega
  have e2 : (d + e - (b + c)).toNat = (d - b).toNat + (e - c).toNat := by omega
  rw [e1, e2, Nat.pow_add, Nat.pow_add, Nat.one_mul]
  rw [Nat.one_mul] at h g
  calc m * n * (2 ^ (i - b).toNat * 2 ^ (j - c).toNat) = m * 2 ^ (i - b).toNat * (n * 2 ^ (j - c).toNat) := by
        simp only [Nat.mul_assoc, Nat.mul_left_comm]
    _ ≤ _ := Nat.mul_le_mul h g
theorem bd_mul {k : FloatKind} {x y : Option Nat} {d e : Nat} (hx : Bd k x d) (hy : Bd k y e) (he : d + e ≤ maxE k) : Bd k (BO.mul.den k x y) (d + e) := by
  obtain ⟨hd, a, rfl, ha⟩ := hx
  obtain ⟨_, b, rfl, hb⟩ := hy
  obtain ⟨M, P, r1, _, v1⟩ := read_le (by omega) ha
  obtain ⟨N, Q, r2, _, v2⟩ := read_le (by omega) hb
  refine ⟨he, ?_⟩
  show ∃ r, k.format.mul a b = some r ∧ _
  unfold Format.mul
  rw [r1, r2]
  refine ⟨_, rfl, wr_le he ?_⟩
  have := le2.mul v1 v2
  rw [Int.natCast_add]
  exact this

/-! quotients -/
/-- m*2^i / (n*2^j) ≤ 2^e where n*2^j*2^e ≥ m*2^i -/
theorem quot_le {digits m n : Nat} {i j e : Int} (hn : n ≠ 0) (h : vle m i n (j + e)) (hm : m ≠ 0) (he : 0 ≤ e + j + (digits + n.log2 - m.log2 : Nat) - i) :
    le2 (2 * ((m <<< (digits + n.log2 - m.log2)) / n) + ((m <<< (digits + n.log2 - m.log2)) % n != 0).toNat) (i - j - (digits + n.log2 - m.log2 : Nat) - 1) e := by
  generalize hmore : digits + n.log2 - m.log2 = more at *
  rw [Nat.shiftLeft_eq]
  generalize hX : (e + j + more - i).toNat = X
  have hX' : (X : Int) = e + j + more - i := by omega
  -- the dividend is at most n * 2^X
  have hD : m * 2 ^ more ≤ n * 2 ^ X := by
    let b : Int := min i (j + e)
    rw [vle_iff (b := b) (by omega) (by omega)] at h
    have hk : ∃ z : Nat, (i - b).toNat + X = more + (j + e - b).toNat := ⟨0, by omega⟩
    obtain ⟨_, hk⟩ := hk
    have h2 := Nat.mul_le_mul_right (2 ^ X) h
    rw [Nat.mul_assoc, ← Nat.pow_add, hk, Nat.pow_add, ← Nat.mul_assoc, Nat.mul_assoc n, Nat.mul_comm (2 ^ (j + e - b).toNat), ← Nat.mul_assoc] at h2
    exact Nat.le_of_mul_le_mul_right h2 (Nat.two_pow_pos _)
  have hpos : 0 < n := Nat.pos_of_ne_zero hn
  have hq : 2 * (m * 2 ^ more / n) + (m * 2 ^ more % n != 0).toNat ≤ 2 * 2 ^ X := by
    have hdm := Nat.div_add_mod (m * 2 ^ more) n
    have hle : m * 2 ^ more / n ≤ 2 ^ X := Nat.div_le_of_le_mul hD
    by_cases hr : m * 2 ^ more % n = 0
    · simp [hr]; omega
    · have : m * 2 ^ more / n ≠ 2 ^ X := by
        intro h0
        rw [h0] at hdm
        omega
      have := Bool.toNat_le (m * 2 ^ more % n != 0)
      omega
  generalize 2 * (m * 2 ^ more / n) + (m * 2 ^ more % n != 0).toNat = q at *
  unfold le2
  rw [vle_iff (b := i - j - more - 1) (by omega) (by omega)]
  have e1 : (e - (i - j - more - 1)).toNat = X + 1 := by omega
  rw [e1, Nat.pow_succ]
  simp
  omega

theorem div_number {k : FloatKind} {a b : Nat} {s t : Bool} {m n : Nat} {i j : Int} (ha : k.format.read a = .number s m i) (hb : k.format.read b = .number t n j) (hn : n ≠ 0) :
    k.format.div a b = some (k.format.nearest (s ^^ t) (2 * ((m <<< (k.format.fractionBits + 2 + n.log2 - m.log2)) / n) + ((m <<< (k.format.fractionBits + 2 + n.log2 - m.log2)) % n != 0).toNat) (i - j - (k.format.fractionBits + 2 + n.log2 - m.log2 : Nat) - 1)) := by
  unfold Format.div
  rw [ha, hb]
  unfold Datum.quotient
  simp only [if_neg hn]
  rfl

/-- at least 2^-e -/
def Lo (k : FloatKind) (d : Option Nat) (e : Nat) : Prop := e ≤ 100 ∧ ∃ b, d = some b ∧ (b / sw k % 2 == 1) = false ∧ rungL k e ≤ b % sw k ∧ b % sw k ≤ k.format.infRung

theorem bd_div {k : FloatKind} {x y : Option Nat} {d e g : Nat} (hx : Bd k x d) (hy : Bd k y g) (hl : Lo k y e) (he : d + e ≤ maxE k) : Bd k (BO.div.den k x y) (d + e) := by
  obtain ⟨_, a, rfl, ha⟩ := hx
  obtain ⟨_, b, rfl, hb⟩ := hy
  obtain ⟨he100, b', hb', l1, l2, l3⟩ := hl
  cases hb'
  obtain ⟨M, P, r1, _, v1⟩ := read_le (by omega) ha
  obtain ⟨N, Q, r2, rep, v2⟩ := read_le (by assumption) hb
  have hlow : vle 1 (-(e : Int)) N Q := ((vle_pow (a := fbOf k) (q := -(e : Int) - fbOf k) (by omega)).2).trans ((repL k e he100).vle_of_le rep l2)
  have hN : N ≠ 0 := by
    rintro rfl
    unfold vle at hlow
    simp at hlow
  refine ⟨he, ?_⟩
  show ∃ r, k.format.div a b = some r ∧ _
  rw [div_number r1 r2 hN]
  refine ⟨_, rfl, ?_⟩
  by_cases hM : M = 0
  · subst hM
    refine wr_le he ?_
    simp <;> exact vle_zero _ _ _
  · refine wr_le he (quot_le (e := ((d + e : Nat) : Int)) hN ?_ hM ?_)
    · -- M*2^P ≤ 2^d ≤ N * 2^(Q+e+d)
      refine vle.trans v1 ?_
      let c : Int := min (-(e : Int)) Q
      rw [vle_iff (b := c) (by omega) (by omega)] at hlow
      rw [vle_iff (b := c + (d + e)) (by omega) (by omega)]
      rw [show ((d : Int) - (c + (d + e))).toNat = (-(e : Int) - c).toNat by omega, show (Q + ((d + e : Nat) : Int) - (c + (d + e))).toNat = (Q - c).toNat by omega]
      exact hlow
    · -- the place is low enough
      have h1 : 2 ^ M.log2 ≤ M := Nat.log2_self_le hM
      have h2 : N < 2 ^ (N.log2 + 1) := Nat.lt_log2_self
      have h3 : P + M.log2 ≤ d := by
        let c : Int := min P d
        unfold le2 at v1
        rw [vle_iff (b := c) (by omega) (by omega)] at v1
        have := Nat.le_trans (Nat.mul_le_mul_right (2 ^ (P - c).toNat) h1) v1
        rw [← Nat.pow_add, Nat.one_mul] at this
        have := (Nat.pow_le_pow_iff_right (by omega : 1 < 2)).1 this
        omega
      have h4 : -(e : Int) ≤ Q + N.log2 := by
        let c : Int := min (-(e : Int)) Q
        rw [vle_iff (b := c) (by omega) (by omega)] at hlow
        have := Nat.lt_of_le_of_lt hlow ((Nat.mul_lt_mul_right (Nat.two_pow_pos (Q - c).toNat)).2 h2)
        rw [← Nat.pow_add, Nat.one_mul] at this
        have := (Nat.pow_lt_pow_iff_right (by omega : 1 < 2)).1 this
        omega
      omega
end Go.Proofs.Ytconlkliclhbpaa.Sx
