/- Whole numbers near a number; a part of a length is not greater than the length. -/
import Derived.Test.YtconlkliclhbpaaSxNum4
namespace Go.Proofs.Ytconlkliclhbpaa.Sx
open Go Ieee

theorem cut_near {neg : Bool} (n d : Nat) : Toward.even.cut neg n d * 2 ^ d ≤ n + 2 ^ d ∧ n ≤ Toward.even.cut neg n d * 2 ^ d + 2 ^ d := by
  have hp := Nat.two_pow_pos d
  have hdm := Nat.div_add_mod n (2 ^ d)
  have hm := Nat.mod_lt n hp
  have e : 2 ^ d * (n / 2 ^ d) = n / 2 ^ d * 2 ^ d := Nat.mul_comm _ _
  have h1 : n / 2 ^ d ≤ Toward.even.cut neg n d := cut_ge (by omega)
  have h2 : Toward.even.cut neg n d ≤ n / 2 ^ d + 1 := cut_le (by rw [Nat.add_mul]; omega)
  have h3 := Nat.mul_le_mul_right (2 ^ d) h1
  have h4 := Nat.mul_le_mul_right (2 ^ d) h2
  rw [Nat.add_mul] at h4
  omega

theorem low_le (k : FloatKind) : k.format.leastPlace ≤ -(fbOf k : Int) ∧ rung2 k 54 < k.format.infRung := by
  cases k
  · exact ⟨by show (-149 : Int) ≤ -23; omega, by decide⟩
  · exact ⟨by show (-1074 : Int) ≤ -52; omega, by decide⟩

/-- a whole number that is not too great is a number of the format -/
theorem int_rep (k : FloatKind) {c : Nat} (h0 : c ≠ 0) (h : c ≤ 2 ^ (fbOf k + 1)) : ∃ M P R, Rep k.format M P R ∧ vle c 0 M P ∧ vle M P c 0 ∧ R < k.format.infRung := by
  have hl1 : 2 ^ c.log2 ≤ c := Nat.log2_self_le h0
  have hl2 : c < 2 ^ (c.log2 + 1) := Nat.lt_log2_self
  obtain ⟨hlo, hfin⟩ := low_le k
  have hfb : fbOf k ≤ 52 := by cases k <;> decide
  have main : ∃ M P R, Rep k.format M P R ∧ vle c 0 M P ∧ vle M P c 0 := by
    by_cases hc : c = 2 ^ (fbOf k + 1)
    · refine ⟨2 ^ fbOf k, 1, _, ⟨by omega, by rw [fb_eq]; exact Nat.pow_lt_pow_right (by omega) (by omega), .inl (by rw [fb_eq]; exact Nat.le_refl _), rfl⟩, ?_, ?_⟩
      · rw [vle_iff (b := 0) (by omega) (by omega), hc, Nat.pow_succ]; simp
      · rw [vle_iff (b := 0) (by omega) (by omega), hc, Nat.pow_succ]; simp
    · have hl : c.log2 ≤ fbOf k := by
        have : 2 ^ c.log2 < 2 ^ (fbOf k + 1) := by omega
        have := (Nat.pow_lt_pow_iff_right (by omega : 1 < 2)).1 this
        omega
      refine ⟨c * 2 ^ (fbOf k - c.log2), (c.log2 : Int) - fbOf k, _, ⟨by omega, ?_, .inl ?_, rfl⟩, ?_, ?_⟩
      · rw [fb_eq]
        have := (Nat.mul_lt_mul_right (Nat.two_pow_pos (fbOf k - c.log2))).2 hl2
        rw [← Nat.pow_add, show c.log2 + 1 + (fbOf k - c.log2) = fbOf k + 1 by omega] at this
        exact this
      · rw [fb_eq]
        have := Nat.mul_le_mul_right (2 ^ (fbOf k - c.log2)) hl1
        rw [← Nat.pow_add, show c.log2 + (fbOf k - c.log2) = fbOf k by omega] at this
        exact this
      · rw [vle_iff (b := (c.log2 : Int) - fbOf k) (by omega) (by omega), show (0 - ((c.log2 : Int) - fbOf k)).toNat = fbOf k - c.log2 by omega]; simp
      · rw [vle_iff (b := (c.log2 : Int) - fbOf k) (by omega) (by omega), show (0 - ((c.log2 : Int) - fbOf k)).toNat = fbOf k - c.log2 by omega]; simp
  obtain ⟨M, P, R, rep, v1, v2⟩ := main
  refine ⟨M, P, R, rep, v1, v2, Nat.lt_of_le_of_lt ?_ hfin⟩
  have h54 : le2 c 0 54 := by
    unfold le2
    rw [vle_iff (b := 0) (by omega) (by omega)]
    have := Nat.le_trans h (Nat.pow_le_pow_right (by omega : 0 < 2) (by omega : fbOf k + 1 ≤ 54))
    simpa using this
  exact (rep.vle_iff (rep2 k 54)).1 (v2.trans (vle.trans h54 (vle_pow (by omega)).2))

/-- the whole number nearest to a finite number -/
theorem rte_fin {k : FloatKind} {b : Nat} (h : b % sw k < k.format.infRung) :
    ∃ M P c y N Q, k.format.read b = .number (sgn k b) M P ∧ Rep k.format M P (b % sw k) ∧ c = Toward.even.cut (sgn k b) (M <<< P.toNat) (-P).toNat ∧ UO.rte.den k (some b) = some (some y) ∧
      y = k.format.nearest (sgn k b) c 0 ∧ k.format.read y = .number (sgn k b) N Q ∧ vle N Q c 0 ∧ vle c 0 N Q := by
  obtain ⟨M, P, r, rep⟩ := read_fin h
  generalize hc : Toward.even.cut (sgn k b) (M <<< P.toNat) (-P).toNat = c
  have hden : UO.rte.den k (some b) = some (some (k.format.nearest (sgn k b) c 0)) := by
    show some (some (k.format.write ((k.format.read b).integral .even))) = _
    rw [r]
    show some (some (k.format.nearest (sgn k b) (Toward.even.cut (sgn k b) (M <<< P.toNat) (-P).toNat) 0)) = _
    rw [hc]
  have key : ∃ N Q, k.format.read (k.format.nearest (sgn k b) c 0) = .number (sgn k b) N Q ∧ vle N Q c 0 ∧ vle c 0 N Q := by
    by_cases h0 : c = 0
    · have hz : k.format.nearest (sgn k b) c 0 % sw k = 0 := by rw [h0]; exact nearest_zero
      obtain ⟨N, Q, r2, rep2'⟩ := read_fin (k := k) (b := k.format.nearest (sgn k b) c 0) (by rw [hz]; cases k <;> decide)
      rw [nearest_sgn] at r2
      have hN : N = 0 := by have := rep2'.rung; omega
      refine ⟨N, Q, r2, ?_, ?_⟩
      · rw [hN]; exact vle_zero _ _ _
      · rw [h0]; exact vle_zero _ _ _
    · have ex : ∃ M' P' R, Rep k.format M' P' R ∧ vle c 0 M' P' ∧ vle M' P' c 0 ∧ R < k.format.infRung := by
        rcases Int.le_total 0 P with hP | hP
        · refine ⟨M, P, _, rep, ?_, ?_, h⟩
          · have hcm : c ≤ M * 2 ^ P.toNat := by
              rw [← hc, show (-P).toNat = 0 by omega, Nat.shiftLeft_eq]
              exact cut_le (by simp)
            rw [vle_iff (b := 0) (by omega) hP]; simpa using hcm
          · have hcm : M * 2 ^ P.toNat ≤ c := by
              rw [← hc, show (-P).toNat = 0 by omega, Nat.shiftLeft_eq]
              exact cut_ge (by simp)
            rw [vle_iff (b := 0) hP (by omega)]; simpa using hcm
        · refine int_rep k h0 ?_
          rw [← hc, show P.toNat = 0 by omega, Nat.shiftLeft_eq]
          refine cut_le ?_
          have h1 := rep.lt
          rw [fb_eq] at h1
          have := Nat.le_mul_of_pos_right (2 ^ (fbOf k + 1)) (Nat.two_pow_pos (-P).toNat)
          rw [Nat.pow_zero, Nat.mul_one]
          omega
      obtain ⟨M', P', R, rep', v1, v2, hR⟩ := ex
      have e := nearest_exact (k := k) (s := sgn k b) h0 v1 v2 rep' (Nat.le_of_lt hR)
      have e2 : k.format.nearest (sgn k b) c 0 % sw k = R := by rw [e]; exact (word_sgn (Nat.le_of_lt hR)).2
      obtain ⟨N, Q, r2, rep2'⟩ := read_fin (k := k) (b := k.format.nearest (sgn k b) c 0) (by rw [e2]; exact hR)
      rw [nearest_sgn] at r2
      rw [e2] at rep2'
      exact ⟨N, Q, r2, ((rep2'.vle_iff rep').2 (Nat.le_refl _)).trans v2, v1.trans ((rep'.vle_iff rep2').2 (Nat.le_refl _))⟩
  obtain ⟨N, Q, k1, k2, k3⟩ := key
  exact ⟨M, P, c, _, N, Q, r, rep, hc.symm, hden, rfl, k1, k2, k3⟩

/-- M*2^P and c differ by at most 1 -/
theorem near_int {s : Bool} {M c : Nat} {P b : Int} (hc : c = Toward.even.cut s (M <<< P.toNat) (-P).toNat) (hb : b ≤ P) (hb0 : b ≤ 0) :
    M * 2 ^ (P - b).toNat ≤ c * 2 ^ (0 - b).toNat + 2 ^ (0 - b).toNat ∧ c * 2 ^ (0 - b).toNat ≤ M * 2 ^ (P - b).toNat + 2 ^ (0 - b).toNat := by
  obtain ⟨h1, h2⟩ := cut_near (neg := s) (M <<< P.toNat) (-P).toNat
  rw [← hc, Nat.shiftLeft_eq] at h1 h2
  rcases Int.le_total 0 P with hP | hP
  · rw [show (-P).toNat = 0 by omega, Nat.pow_zero] at h1 h2
    have e : M * 2 ^ (P - b).toNat = M * 2 ^ P.toNat * 2 ^ (0 - b).toNat := by
      rw [Nat.mul_assoc, ← Nat.pow_add, show P.toNat + (0 - b).toNat = (P - b).toNat by omega]
    rw [e]
    generalize M * 2 ^ P.toNat = u at *
    have g1 := Nat.mul_le_mul_right (2 ^ (0 - b).toNat) h1
    have g2 := Nat.mul_le_mul_right (2 ^ (0 - b).toNat) h2
    rw [Nat.mul_one] at g1 g2
    rw [Nat.add_mul, Nat.one_mul] at g1 g2
    omega
  · rw [show P.toNat = 0 by omega, Nat.pow_zero, Nat.mul_one] at h1 h2
    have e : (0 - b).toNat = (-P).toNat + (P - b).toNat := by omega
    rw [e, Nat.pow_add, ← Nat.mul_assoc]
    have g1 := Nat.mul_le_mul_right (2 ^ (P - b).toNat) h1
    have g2 := Nat.mul_le_mul_right (2 ^ (P - b).toNat) h2
    rw [Nat.add_mul] at g1 g2
    omega

theorem bd_rte {k : FloatKind} {b : Nat} (h : b % sw k < k.format.infRung) {d : Option Nat} (hd : UO.rte.den k (some b) = some d) : Bd k (BO.sub.den k (some b) d) 0 := by
  obtain ⟨M, P, c, y, N, Q, r, rep, hc, hden, hy, r2, v1, v2⟩ := rte_fin h
  rw [hden] at hd; cases hd
  refine ⟨Nat.zero_le _, ?_⟩
  show ∃ z, k.format.sub b y = some z ∧ _
  unfold Format.sub
  rw [r, r2]
  obtain ⟨u, hu⟩ := sum_number (s := sgn k b) (t := !sgn k b) (m := M) (n := N) (i := P) (j := Q)
  show ∃ z, Option.map _ ((Datum.number _ M P).sum (.number (!sgn k b) N Q)) = some z ∧ _
  rw [hu]
  refine ⟨_, rfl, wr_le (Nat.zero_le _) ?_⟩
  have hbase : min (min P Q) 0 ≤ P ∧ min (min P Q) 0 ≤ Q ∧ min (min P Q) 0 ≤ 0 := by omega
  unfold le2
  rw [vle_iff (b := min (min P Q) 0) (by omega) (by omega)]
  rw [vle_iff (b := min (min P Q) 0) hbase.2.1 hbase.2.2] at v1
  rw [vle_iff (b := min (min P Q) 0) hbase.2.2 hbase.2.1] at v2
  obtain ⟨n1, n2⟩ := near_int (s := sgn k b) hc hbase.1 hbase.2.2
  have eP : (P - min (min P Q) 0).toNat = (P - min P Q).toNat + (min P Q - min (min P Q) 0).toNat := by omega
  have eQ : (Q - min (min P Q) 0).toNat = (Q - min P Q).toNat + (min P Q - min (min P Q) 0).toNat := by omega
  rw [eP, Nat.pow_add, ← Nat.mul_assoc] at n1 n2
  rw [eQ, Nat.pow_add, ← Nat.mul_assoc] at v1 v2
  have f1 : ∀ s M u, signed s M u = if s then -((M * 2 ^ u : Nat) : Int) else ((M * 2 ^ u : Nat) : Int) := by
    intro s M u; unfold signed; rw [Nat.shiftLeft_eq]
  rw [f1, f1]
  generalize M * 2 ^ (P - min P Q).toNat = x at *
  generalize N * 2 ^ (Q - min P Q).toNat = w at *
  have hp := Nat.two_pow_pos (min P Q - min (min P Q) 0).toNat
  generalize hK : 2 ^ (min P Q - min (min P Q) 0).toNat = K at *
  have hab : ∀ q : Nat, q + w = x ∨ q + x = w → q * K ≤ 1 * 2 ^ (((0 : Nat) : Int) - min (min P Q) 0).toNat := by
    intro q hq
    have : (q + w) * K = x * K ∨ (q + x) * K = w * K := by
      rcases hq with e | e
      · exact .inl (by rw [e])
      · exact .inr (by rw [e])
    rw [Nat.add_mul, Nat.add_mul] at this
    have e0 : (((0 : Nat) : Int) - min (min P Q) 0).toNat = (0 - min (min P Q) 0).toNat := rfl
    rw [e0]
    omega
  cases sgn k b
  · simp only [Bool.not_false, if_true, Bool.false_eq_true, if_false]
    exact hab _ (by omega)
  · simp only [Bool.not_true, if_true, Bool.false_eq_true, if_false]
    exact hab _ (by omega)

/-- a number whose nearest whole number is 0 -/
theorem bd_rteZero {k : FloatKind} {x d : Option Nat} (hd : UO.rte.den k x = some d) (hz : ∃ y, d = some y ∧ y % sw k = 0) : Bd k x 0 := by
  obtain ⟨y, rfl, hy⟩ := hz
  cases x with
  | none => cases hd
  | some b =>
    refine ⟨Nat.zero_le _, b, rfl, ?_⟩
    have hpos : 0 < k.format.infRung := by cases k <;> decide
    rcases Nat.lt_trichotomy (b % sw k) k.format.infRung with h | h | h
    · obtain ⟨M, P, c, y', N, Q, r, rep, hc, hden, hy', r2, v1, v2⟩ := rte_fin h
      rw [hden] at hd; cases hd
      have hc0 : c = 0 := by
        rcases Nat.eq_zero_or_pos c with h0 | h0
        · exact h0
        · exfalso
          rw [hy', nearest_rung.1, if_neg (by omega)] at hy
          have : 1 ≤ nearR k.format (sgn k b) c 0 := by
            refine near_ge (M := 1) (P := k.format.leastPlace) (by omega) ?_ ⟨Int.le_refl _, ?_, .inr rfl, by simp⟩
            · have := (low_le k).1
              rw [vle_iff (b := k.format.leastPlace) (Int.le_refl _) (by omega)]
              have := Nat.le_mul_of_pos_right c (Nat.two_pow_pos (0 - k.format.leastPlace).toNat)
              simp at *
              omega
            · exact Nat.one_lt_two_pow (by omega)
          omega
      obtain ⟨n1, n2⟩ := near_int (s := sgn k b) (b := min P 0) hc (by omega) (by omega)
      rw [hc0, Nat.zero_mul, Nat.zero_add] at n1
      have hl : le2 M P 0 := by
        unfold le2
        rw [vle_iff (b := min P 0) (by omega) (by omega)]
        simpa using n1
      exact (rep.vle_iff (rep2 k 0)).1 (vle.trans hl (vle_pow (by omega)).2)
    · exfalso
      have : UO.rte.den k (some b) = some (some (k.format.word (sgn k b) k.format.infRung)) := by
        show some (some (k.format.write ((k.format.read b).integral .even))) = _
        rw [read_inf h]; rfl
      rw [this] at hd; cases hd
      rw [(word_sgn (Nat.le_refl _)).2] at hy
      omega
    · exfalso
      obtain ⟨t, r, t0, tl, e⟩ := read_nan_lt h
      have : UO.rte.den k (some b) = some (some (k.format.word (sgn k b) (k.format.infRung + t))) := by
        show some (some (k.format.write ((k.format.read b).integral .even))) = _
        rw [r]
        show some (some (k.format.word (sgn k b) (k.format.infRung + t % k.format.binade))) = _
        rw [Nat.mod_eq_of_lt tl]
      rw [this] at hd; cases hd
      have hw := (word_mod (k := k) (s := sgn k b) (r := k.format.infRung + t) (by have := (binade_inf k).1; omega)).1
      rw [hw] at hy
      omega

/-- x - x is a number: x is finite -/
theorem fin_of_sub {k : FloatKind} {x : Option Nat} {r : Nat} (h : BO.sub.den k x x = some r) : ∃ b, x = some b ∧ b % sw k < k.format.infRung := by
  cases x with
  | none => cases h
  | some b =>
    refine ⟨b, rfl, ?_⟩
    have h' : k.format.sub b b = some r := h
    unfold Format.sub at h'
    rcases Nat.lt_trichotomy (b % sw k) k.format.infRung with h1 | h1 | h1
    · exact h1
    · rw [read_inf h1] at h'
      cases hs : sgn k b <;> rw [hs] at h' <;> simp [Datum.sum, Datum.opposite] at h'
    · obtain ⟨t, r, _⟩ := read_nan_lt h1
      rw [r] at h'
      cases h'
/-- finite: x - x is 0 -/
theorem sub_self {k : FloatKind} {b : Nat} (h : b % sw k < k.format.infRung) : BO.sub.den k (some b) (some b) = some 0 := by
  obtain ⟨M, P, r, _⟩ := read_fin h
  show k.format.sub b b = some 0
  unfold Format.sub
  rw [r]
  have e : signed (sgn k b) M (P - min P P).toNat + signed (!sgn k b) M (P - min P P).toNat = 0 := by
    cases sgn k b
    · show ((M <<< (P - min P P).toNat : Nat) : Int) + -((M <<< (P - min P P).toNat : Nat) : Int) = 0
      exact Int.add_right_neg _
    · show -((M <<< (P - min P P).toNat : Nat) : Int) + ((M <<< (P - min P P).toNat : Nat) : Int) = 0
      exact Int.add_left_neg _
  show some (k.format.nearest (if signed (sgn k b) M (P - min P P).toNat + signed (!sgn k b) M (P - min P P).toNat = 0 then sgn k b && !sgn k b else _) (signed (sgn k b) M (P - min P P).toNat + signed (!sgn k b) M (P - min P P).toNat).natAbs (min P P)) = some 0
  rw [e]
  simp [Format.nearest, Format.word]
end Go.Proofs.Ytconlkliclhbpaa.Sx
