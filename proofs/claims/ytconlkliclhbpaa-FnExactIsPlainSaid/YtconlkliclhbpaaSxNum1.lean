/- Rounding to the nearest word: it keeps order. -/
import Derived.Test.YtconlkliclhbpaaSxEngB
import Derived.Test.YtconlkliclhbpaaSxFl2
namespace Go.Proofs.Ytconlkliclhbpaa.Sx
open Go Ieee

/-- m * 2^p ≤ n * 2^q -/
def vle (m : Nat) (p : Int) (n : Nat) (q : Int) : Prop := m * 2 ^ (p - min p q).toNat ≤ n * 2 ^ (q - min p q).toNat
theorem vle_iff {m n : Nat} {p q b : Int} (hp : b ≤ p) (hq : b ≤ q) : vle m p n q ↔ m * 2 ^ (p - b).toNat ≤ n * 2 ^ (q - b).toNat := by
  unfold vle
  have e1 : (p - b).toNat = (p - min p q).toNat + (min p q - b).toNat := by omega
  have e2 : (q - b).toNat = (q - min p q).toNat + (min p q - b).toNat := by omega
  rw [e1, e2, Nat.pow_add, Nat.pow_add, ← Nat.mul_assoc, ← Nat.mul_assoc]
  exact (Nat.mul_le_mul_right_iff (Nat.two_pow_pos _)).symm
theorem vle_nat {m n b p q : Nat} {P Q B : Int} (hP : P = B + p) (hQ : Q = B + q) : vle m P n Q ↔ m * 2 ^ p ≤ n * 2 ^ q := by
  rw [vle_iff (b := B) (by omega) (by omega), show (P - B).toNat = p by omega, show (Q - B).toNat = q by omega]
theorem vle.refl (m : Nat) (p : Int) : vle m p m p := by unfold vle; simp
theorem vle.trans {m n k : Nat} {p q r : Int} (h : vle m p n q) (g : vle n q k r) : vle m p k r := by
  have b1 : min p (min q r) ≤ p := by omega
  have b2 : min p (min q r) ≤ q := by omega
  have b3 : min p (min q r) ≤ r := by omega
  rw [vle_iff b1 b2] at h
  rw [vle_iff b2 b3] at g
  rw [vle_iff b1 b3]
  exact Nat.le_trans h g
theorem vle_zero (p : Int) (n : Nat) (q : Int) : vle 0 p n q := by unfold vle; simp

/-! cut -/
theorem cut_le {neg : Bool} {n d M : Nat} (h : n ≤ M * 2 ^ d) : Toward.even.cut neg n d ≤ M := by
  unfold Toward.cut
  simp only [Nat.one_shiftLeft]
  by_cases hd : d ≤ n.log2 + 2
  · rw [Nat.min_eq_left hd]
    have hpos := Nat.two_pow_pos d
    have hdm := Nat.div_add_mod n (2 ^ d)
    have hle : n / 2 ^ d ≤ M := Nat.div_le_of_le_mul (by rw [Nat.mul_comm]; exact h)
    by_cases he : n / 2 ^ d = M
    · have hr : n % 2 ^ d = 0 := by
        rw [he] at hdm
        have : 2 ^ d * M = M * 2 ^ d := Nat.mul_comm _ _
        omega
      rw [hr, he]
      have h1 : decide (2 ^ d < 2 * 0) = false := by simp
      have h2 : (2 ^ d == 2 * 0) = false := by simp [Nat.ne_of_gt hpos]
      simp [h1, h2]
    · have := Bool.toNat_le (decide (2 ^ d < 2 * (n % 2 ^ d)) || 2 ^ d == 2 * (n % 2 ^ d) && n / 2 ^ d % 2 == 1)
      omega
  · rw [Nat.min_eq_right (by omega)]
    have hn : n < 2 ^ (n.log2 + 1) := Nat.lt_log2_self
    have h4 : 2 ^ (n.log2 + 2) = 2 * 2 ^ (n.log2 + 1) := by rw [Nat.pow_succ]; omega
    have hdiv : n / 2 ^ (n.log2 + 2) = 0 := Nat.div_eq_of_lt (by omega)
    have hmod : n % 2 ^ (n.log2 + 2) = n := Nat.mod_eq_of_lt (by omega)
    rw [hdiv, hmod]
    have h1 : decide (2 ^ (n.log2 + 2) < 2 * n) = false := by simp; omega
    simp [h1]
theorem cut_ge {neg : Bool} {n d M : Nat} (h : M * 2 ^ d ≤ n) : M ≤ Toward.even.cut neg n d := by
  unfold Toward.cut
  simp only [Nat.one_shiftLeft]
  by_cases hd : d ≤ n.log2 + 2
  · rw [Nat.min_eq_left hd]
    have : M ≤ n / 2 ^ d := (Nat.le_div_iff_mul_le (Nat.two_pow_pos d)).2 h
    omega
  · have hn : n < 2 ^ (n.log2 + 1) := Nat.lt_log2_self
    have h4 : 2 ^ (n.log2 + 1) ≤ 2 ^ d := Nat.pow_le_pow_right (by omega) (by omega)
    have : M = 0 := by
      rcases Nat.eq_zero_or_pos M with h0 | h0
      · exact h0
      · have := Nat.le_mul_of_pos_left (2 ^ d) h0
        omega
    rw [this]; exact Nat.zero_le _

/-! nearest -/
/-- the number M * 2^P of a format, and its rung -/
structure Rep (f : Format) (M : Nat) (P : Int) (R : Nat) : Prop where
  lo : f.leastPlace ≤ P
  lt : M < 2 ^ (f.fractionBits + 1)
  norm : 2 ^ f.fractionBits ≤ M ∨ P = f.leastPlace
  rung : R = (P - f.leastPlace).toNat * 2 ^ f.fractionBits + M

def lastP (f : Format) (m : Nat) (p : Int) : Int := max (p + m.log2 - f.fractionBits) f.leastPlace
def nearR (f : Format) (neg : Bool) (m : Nat) (p : Int) : Nat :=
  (lastP f m p - f.leastPlace).toNat * f.binade + Toward.even.cut neg (m <<< (p - lastP f m p).toNat) (lastP f m p - p).toNat
theorem nearest_eq {f : Format} {neg : Bool} {m : Nat} {p : Int} (h : m ≠ 0) : f.nearest neg m p = f.word neg (min (nearR f neg m p) f.infRung) := by
  unfold Format.nearest; rw [if_neg h]; rfl

theorem near_le {f : Format} {neg : Bool} {m M R : Nat} {p P : Int} (h0 : m ≠ 0) (h : vle m p M P) (hr : Rep f M P R) : nearR f neg m p ≤ R := by
  have hl1 : 2 ^ m.log2 ≤ m := Nat.log2_self_le h0
  have hl2 : m < 2 ^ (m.log2 + 1) := Nat.lt_log2_self
  obtain ⟨hlo, hlt, hnorm, rfl⟩ := hr
  unfold nearR Format.binade
  generalize hL : f.leastPlace = L at *
  generalize hfb : f.fractionBits = fb at *
  have hlast : lastP f m p = max (p + m.log2 - fb) L := by unfold lastP; rw [hL, hfb]
  generalize hla : lastP f m p = la at *
  generalize m.log2 = l at *
  rw [Nat.shiftLeft_eq]
  let b : Int := min p L
  have hbp : b ≤ p := by omega
  have hbL : b ≤ L := by omega
  rw [vle_iff hbp (by omega)] at h
  rcases Int.lt_trichotomy P la with hc | hc | hc
  · -- last > P
    exfalso
    have e1 : la = p + l - fb := by omega
    have h1 : 2 ^ l * 2 ^ (p - b).toNat ≤ m * 2 ^ (p - b).toNat := Nat.mul_le_mul_right _ hl1
    have h2 : M * 2 ^ (P - b).toNat < 2 ^ (fb + 1) * 2 ^ (P - b).toNat := (Nat.mul_lt_mul_right (Nat.two_pow_pos _)).2 hlt
    rw [← Nat.pow_add] at h1 h2
    have h3 : 2 ^ (fb + 1 + (P - b).toNat) ≤ 2 ^ (l + (p - b).toNat) := Nat.pow_le_pow_right (by omega) (by omega)
    omega
  · subst hc
    have : Toward.even.cut neg (m * 2 ^ (p - P).toNat) (P - p).toNat ≤ M := by
      refine cut_le ?_
      rcases Int.le_total P p with hp | hp
      · have := (vle_iff (m := m) (n := M) (p := p) (q := P) (b := b) hbp (by omega)).2 h
        rw [vle_iff (b := P) hp (Int.le_refl _)] at this
        rw [show (P - p).toNat = 0 by omega]
        simpa using this
      · have := (vle_iff (m := m) (n := M) (p := p) (q := P) (b := b) hbp (by omega)).2 h
        rw [vle_iff (b := p) (Int.le_refl _) hp] at this
        rw [show (p - P).toNat = 0 by omega]
        simpa using this
    omega
  · have hM : 2 ^ fb ≤ M := by rcases hnorm with h1 | h1 <;> omega
    have hk : Toward.even.cut neg (m * 2 ^ (p - la).toNat) (la - p).toNat ≤ 2 ^ (fb + 1) := by
      refine cut_le ?_
      have h1 : m * 2 ^ (p - la).toNat ≤ 2 ^ (l + 1) * 2 ^ (p - la).toNat := Nat.mul_le_mul_right _ (by omega)
      rw [← Nat.pow_add] at h1 ⊢
      exact Nat.le_trans h1 (Nat.pow_le_pow_right (by omega) (by omega))
    have e : 2 ^ (fb + 1) = 2 * 2 ^ fb := by rw [Nat.pow_succ]; omega
    have h3 : ((la - L).toNat + 1) * 2 ^ fb ≤ (P - L).toNat * 2 ^ fb := Nat.mul_le_mul_right _ (by omega)
    rw [Nat.add_mul] at h3
    omega

theorem near_ge {f : Format} {neg : Bool} {m M R : Nat} {p P : Int} (h0 : m ≠ 0) (h : vle M P m p) (hr : Rep f M P R) : R ≤ nearR f neg m p := by
  have hl1 : 2 ^ m.log2 ≤ m := Nat.log2_self_le h0
  have hl2 : m < 2 ^ (m.log2 + 1) := Nat.lt_log2_self
  obtain ⟨hlo, hlt, hnorm, rfl⟩ := hr
  unfold nearR Format.binade
  generalize hL : f.leastPlace = L at *
  generalize hfb : f.fractionBits = fb at *
  have hlast : lastP f m p = max (p + m.log2 - fb) L := by unfold lastP; rw [hL, hfb]
  generalize hla : lastP f m p = la at *
  generalize m.log2 = l at *
  rw [Nat.shiftLeft_eq]
  let b : Int := min p L
  have hbp : b ≤ p := by omega
  have hbL : b ≤ L := by omega
  have h' := h
  rw [vle_iff (b := b) (by omega) hbp] at h
  have e : 2 ^ (fb + 1) = 2 * 2 ^ fb := by rw [Nat.pow_succ]; omega
  rcases Int.lt_trichotomy P la with hc | hc | hc
  · have e1 : la = p + l - fb := by omega
    have hk : 2 ^ fb ≤ Toward.even.cut neg (m * 2 ^ (p - la).toNat) (la - p).toNat := by
      refine cut_ge ?_
      have h1 : 2 ^ l * 2 ^ (p - la).toNat ≤ m * 2 ^ (p - la).toNat := Nat.mul_le_mul_right _ (by omega)
      rw [← Nat.pow_add] at h1 ⊢
      exact Nat.le_trans (Nat.pow_le_pow_right (by omega) (by omega)) h1
    have h3 : ((P - L).toNat + 1) * 2 ^ fb ≤ (la - L).toNat * 2 ^ fb := Nat.mul_le_mul_right _ (by omega)
    rw [Nat.add_mul] at h3
    omega
  · subst hc
    have : M ≤ Toward.even.cut neg (m * 2 ^ (p - P).toNat) (P - p).toNat := by
      refine cut_ge ?_
      rcases Int.le_total P p with hp | hp
      · rw [vle_iff (b := P) (Int.le_refl _) hp] at h'
        rw [show (P - p).toNat = 0 by omega]
        simpa using h'
      · rw [vle_iff (b := p) hp (Int.le_refl _)] at h'
        rw [show (p - P).toNat = 0 by omega]
        simpa using h'
    omega
  · exfalso
    have hM : 2 ^ fb ≤ M := by rcases hnorm with h1 | h1 <;> omega
    have h1 : m * 2 ^ (p - b).toNat < 2 ^ (l + 1) * 2 ^ (p - b).toNat := (Nat.mul_lt_mul_right (Nat.two_pow_pos _)).2 hl2
    have h2 : 2 ^ fb * 2 ^ (P - b).toNat ≤ M * 2 ^ (P - b).toNat := Nat.mul_le_mul_right _ hM
    rw [← Nat.pow_add] at h1 h2
    have h3 : 2 ^ (l + 1 + (p - b).toNat) ≤ 2 ^ (fb + (P - b).toNat) := Nat.pow_le_pow_right (by omega) (by omega)
    omega

theorem near_eq {f : Format} {neg : Bool} {m M R : Nat} {p P : Int} (h0 : m ≠ 0) (h : vle m p M P) (h' : vle M P m p) (hr : Rep f M P R) : nearR f neg m p = R :=
  Nat.le_antisymm (near_le h0 h hr) (near_ge h0 h' hr)

/-! read -/
theorem read_rep {f : Format} {w : Nat} (h : w % f.signWeight < f.infRung) : ∃ M P, f.read w = .number (w / f.signWeight % 2 == 1) M P ∧ Rep f M P (w % f.signWeight) := by
  unfold Format.read
  simp only
  generalize w % f.signWeight = r at *
  by_cases h1 : r < f.binade
  · rw [if_pos h1]
    refine ⟨_, _, rfl, Int.le_refl _, ?_, .inr rfl, by simp⟩
    unfold Format.binade at h1
    exact Nat.lt_of_lt_of_le h1 (Nat.pow_le_pow_right (by omega) (by omega))
  · rw [if_neg h1, if_pos h]
    have hb : 0 < f.binade := Nat.two_pow_pos _
    have h2 : r % f.binade < f.binade := Nat.mod_lt _ hb
    have h3 := Nat.div_add_mod r f.binade
    have h4 : 1 ≤ r / f.binade := (Nat.le_div_iff_mul_le hb).2 (by omega)
    refine ⟨_, _, rfl, by omega, ?_, .inl ?_, ?_⟩
    · unfold Format.binade at *; rw [Nat.pow_succ]; omega
    · unfold Format.binade at *; omega
    · have e : (f.leastPlace + (r / f.binade - 1 : Nat) - f.leastPlace).toNat = r / f.binade - 1 := by omega
      rw [e]
      show r = (r / f.binade - 1) * f.binade + (f.binade + r % f.binade)
      rw [Nat.sub_mul, Nat.one_mul, Nat.mul_comm]
      have : f.binade ≤ f.binade * (r / f.binade) := Nat.le_mul_of_pos_right _ h4
      omega

theorem Rep.vle_of_le {f : Format} {M N R S : Nat} {P Q : Int} (h : Rep f M P R) (k : Rep f N Q S) (hrs : R ≤ S) : vle M P N Q := by
  obtain ⟨hlo, hlt, hnorm, rfl⟩ := h
  obtain ⟨klo, klt, knorm, rfl⟩ := k
  generalize f.leastPlace = L at *
  generalize f.fractionBits = fb at *
  have e : 2 ^ (fb + 1) = 2 * 2 ^ fb := by rw [Nat.pow_succ]; omega
  rcases Int.lt_trichotomy P Q with hc | hc | hc
  · rw [vle_iff (b := P) (Int.le_refl _) (by omega)]
    have hN : 2 ^ fb ≤ N := by rcases knorm with h1 | h1 <;> omega
    have : 2 ^ 1 ≤ 2 ^ (Q - P).toNat := Nat.pow_le_pow_right (by omega) (by omega)
    have h2 : N * 2 ≤ N * 2 ^ (Q - P).toNat := Nat.mul_le_mul_left _ (by omega)
    simp
    omega
  · subst hc
    rw [vle_iff (b := P) (Int.le_refl _) (Int.le_refl _)]
    simp
    omega
  · exfalso
    have hM : 2 ^ fb ≤ M := by rcases hnorm with h1 | h1 <;> omega
    have h3 : ((Q - L).toNat + 1) * 2 ^ fb ≤ (P - L).toNat * 2 ^ fb := Nat.mul_le_mul_right _ (by omega)
    rw [Nat.add_mul] at h3
    omega
theorem Rep.vle_iff {f : Format} {M N R S : Nat} {P Q : Int} (h : Rep f M P R) (k : Rep f N Q S) : vle M P N Q ↔ R ≤ S := by
  refine ⟨fun hv => ?_, h.vle_of_le k⟩
  by_cases h0 : M = 0
  · subst h0
    have := h.norm
    have hp := Nat.two_pow_pos f.fractionBits
    have : P = f.leastPlace := by rcases this with h1 | h1; omega; exact h1
    rw [h.rung, this]; simp
  · have h1 := near_ge (f := f) (neg := false) h0 (vle.refl M P) h
    have h2 := near_le (f := f) (neg := false) h0 hv k
    omega

/-! shifting -/
theorem cut_scale {neg : Bool} {n d k : Nat} : Toward.even.cut neg (n * 2 ^ k) (d + k) = Toward.even.cut neg n d := by
  by_cases hn : n = 0
  · subst hn; simp [Toward.cut]
  · have hl : (n * 2 ^ k).log2 = n.log2 + k := by
      have h1 : 2 ^ n.log2 ≤ n := Nat.log2_self_le hn
      have h2 : n < 2 ^ (n.log2 + 1) := Nat.lt_log2_self
      have hne : n * 2 ^ k ≠ 0 := Nat.mul_ne_zero hn (Nat.ne_of_gt (Nat.two_pow_pos k))
      refine (Nat.log2_eq_iff hne).2 ⟨?_, ?_⟩
      · rw [Nat.pow_add]; exact Nat.mul_le_mul_right _ h1
      · rw [show n.log2 + k + 1 = (n.log2 + 1) + k by omega, Nat.pow_add]
        exact (Nat.mul_lt_mul_right (Nat.two_pow_pos k)).2 h2
    unfold Toward.cut
    simp only [Nat.one_shiftLeft, hl]
    have e : min (d + k) (n.log2 + k + 2) = min d (n.log2 + 2) + k := by omega
    rw [e]
    generalize min d (n.log2 + 2) = g
    have hk := Nat.two_pow_pos k
    have e1 : n * 2 ^ k / 2 ^ (g + k) = n / 2 ^ g := by
      rw [Nat.pow_add]; exact Nat.mul_div_mul_right _ _ hk
    have e2 : n * 2 ^ k % 2 ^ (g + k) = n % 2 ^ g * 2 ^ k := by
      rw [Nat.pow_add]; exact Nat.mul_mod_mul_right _ _ _
    rw [e1, e2]
    have e3 : decide (2 ^ (g + k) < 2 * (n % 2 ^ g * 2 ^ k)) = decide (2 ^ g < 2 * (n % 2 ^ g)) := by
      rw [Nat.pow_add, ← Nat.mul_assoc]
      exact decide_eq_decide.2 (Nat.mul_lt_mul_right hk)
    have e4 : (2 ^ (g + k) == 2 * (n % 2 ^ g * 2 ^ k)) = (2 ^ g == 2 * (n % 2 ^ g)) := by
      rw [Nat.pow_add, ← Nat.mul_assoc]
      rw [Bool.eq_iff_iff]
      simp only [beq_iff_eq]
      exact Nat.mul_left_inj (Nat.ne_of_gt hk)
    simp only [e3, e4]
theorem nearest_shift {f : Format} {neg : Bool} {m k : Nat} {p : Int} : f.nearest neg (m * 2 ^ k) (p - k) = f.nearest neg m p := by
  by_cases h0 : m = 0
  · subst h0; simp [Format.nearest]
  · have hne : m * 2 ^ k ≠ 0 := Nat.mul_ne_zero h0 (Nat.ne_of_gt (Nat.two_pow_pos k))
    have hl : (m * 2 ^ k).log2 = m.log2 + k := by
      have h1 : 2 ^ m.log2 ≤ m := Nat.log2_self_le h0
      have h2 : m < 2 ^ (m.log2 + 1) := Nat.lt_log2_self
      refine (Nat.log2_eq_iff hne).2 ⟨?_, ?_⟩
      · rw [Nat.pow_add]; exact Nat.mul_le_mul_right _ h1
      · rw [show m.log2 + k + 1 = (m.log2 + 1) + k by omega, Nat.pow_add]
        exact (Nat.mul_lt_mul_right (Nat.two_pow_pos k)).2 h2
    rw [nearest_eq h0, nearest_eq hne]
    have e1 : lastP f (m * 2 ^ k) (p - k) = lastP f m p := by
      unfold lastP
      rw [hl]
      congr 1
      simp only [Int.natCast_add]; omega
    have e2 : nearR f neg (m * 2 ^ k) (p - k) = nearR f neg m p := by
      unfold nearR
      rw [e1]
      generalize lastP f m p = la
      congr 1
      rw [Nat.shiftLeft_eq, Nat.shiftLeft_eq]
      rcases Int.le_total la (p - k) with h1 | h1
      · rw [show (la - (p - k)).toNat = 0 by omega, show (la - p).toNat = 0 by omega, Nat.mul_assoc, ← Nat.pow_add, show k + (p - k - la).toNat = (p - la).toNat by omega]
      · rw [show (p - k - la).toNat = 0 by omega, Nat.pow_zero, Nat.mul_one]
        rcases Int.le_total la p with h2 | h2
        · rw [show (la - p).toNat = 0 by omega]
          have := cut_scale (neg := neg) (n := m * 2 ^ (p - la).toNat) (d := 0) (k := (la - (p - k)).toNat)
          rw [Nat.mul_assoc, ← Nat.pow_add, show (p - la).toNat + (la - (p - k)).toNat = k by omega, Nat.zero_add] at this
          exact this
        · rw [show (p - la).toNat = 0 by omega, Nat.pow_zero, Nat.mul_one]
          have := cut_scale (neg := neg) (n := m) (d := (la - p).toNat) (k := k)
          rw [show (la - p).toNat + k = (la - (p - k)).toNat by omega] at this
          exact this
    rw [e2]
end Go.Proofs.Ytconlkliclhbpaa.Sx
