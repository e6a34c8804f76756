/- A part of a length is not greater than the length, nearly. -/
import Derived.Test.YtconlkliclhbpaaSxNum5
namespace Go.Proofs.Ytconlkliclhbpaa.Sx
open Go Ieee

theorem rootFrom_ge (n : Nat) {j : Nat} (hj : 2 ^ j * 2 ^ j ≤ n) : ∀ (t r : Nat), (r = 0 ∧ j < t) ∨ 2 ^ j ≤ r → 2 ^ j ≤ Datum.rootFrom n t r
  | 0, r, h => by
    unfold Datum.rootFrom
    rcases h with ⟨_, h⟩ | h
    · omega
    · exact h
  | t + 1, r, h => by
    unfold Datum.rootFrom
    simp only [Nat.one_shiftLeft]
    split
    · refine rootFrom_ge n hj t _ (.inr ?_)
      rcases h with ⟨rfl, h⟩ | h
      · rw [Nat.zero_add]; exact Nat.pow_le_pow_right (by omega) (by omega)
      · have := Nat.two_pow_pos t; omega
    · rename_i hn
      refine rootFrom_ge n hj t _ ?_
      rcases h with ⟨rfl, h⟩ | h
      · refine .inl ⟨rfl, ?_⟩
        rw [Nat.zero_add] at hn
        rcases Nat.lt_or_eq_of_le (Nat.le_of_lt_succ h) with h1 | h1
        · exact h1
        · subst h1; exact absurd hj hn
      · exact .inr h

/-- a power of two as a number of the format -/
theorem repI (k : FloatKind) (t : Int) (h : -100 ≤ t) : ∃ R, Rep k.format (2 ^ fbOf k) (t - fbOf k) R := by
  refine ⟨_, ?_, by rw [fb_eq]; exact Nat.pow_lt_pow_right (by omega) (by omega), .inl (by rw [fb_eq]; exact Nat.le_refl _), rfl⟩
  cases k
  · show (-149 : Int) ≤ t - 23; omega
  · show (-1074 : Int) ≤ t - 52; omega

/-- rounding keeps a bound below -/
theorem wr_ge {k : FloatKind} {s : Bool} {m : Nat} {p t : Int} (ht : -100 ≤ t) (h : vle 1 t m p) {M : Nat} {P : Int} (hf : k.format.nearest s m p % sw k < k.format.infRung) (rep : Rep k.format M P (k.format.nearest s m p % sw k)) : vle 1 t M P := by
  obtain ⟨R, hR⟩ := repI k t ht
  have h0 : m ≠ 0 := by
    rintro rfl
    have hz := veq_zero h rfl
    omega
  have h1 := near_ge (neg := s) h0 (vle.trans (vle_pow (a := fbOf k) (q := t - fbOf k) (by omega)).1 h) hR
  rw [nearest_rung.1, if_neg h0] at hf rep
  have h2 : R ≤ min (nearR k.format s m p) k.format.infRung := by omega
  exact (vle_pow (a := fbOf k) (q := t - fbOf k) (by omega)).2.trans (hR.vle_of_le rep h2)

/-- finite words -/
def Fi (k : FloatKind) (d : Option Nat) : Prop := ∃ b, d = some b ∧ b % sw k < k.format.infRung
theorem inf_fin (k : FloatKind) (s : Bool) : ¬ k.format.word s k.format.infRung % sw k < k.format.infRung := by
  rw [(word_sgn (Nat.le_refl _)).2]; omega

/-- a sum of two that are not below 0 is at least each -/
theorem add_parts {k : FloatKind} {x y : Option Nat} {r : Nat} (hx : NN k x) (hy : NN k y) (h : BO.add.den k x y = some r) (hf : r % sw k < k.format.infRung) :
    ∃ a b, x = some a ∧ y = some b ∧ a % sw k ≤ r % sw k ∧ b % sw k ≤ r % sw k := by
  match x, y, hx, hy, h with
  | some a, some c, hx, hy, h =>
    have h' : k.format.add a c = some r := h
    unfold Format.add at h'
    have fa : a % sw k < k.format.infRung := by
      rcases Nat.lt_trichotomy (a % sw k) k.format.infRung with h1 | h1 | h1
      · exact h1
      · exfalso
        rw [read_inf h1] at h'
        rcases hy.read with ⟨s', N, Q, r2, h2⟩ | r2 | ⟨t', r2⟩ <;> rw [r2] at h'
        · cases h'; exact inf_fin k _ hf
        · cases hs : sgn k a <;> rw [hs] at h'
          · cases h'; exact inf_fin k _ hf
          · cases h'
        · cases h'
      · exfalso
        obtain ⟨t, r1, _⟩ := read_nan_lt h1
        rw [r1] at h'; cases h'
    have fc : c % sw k < k.format.infRung := by
      rcases Nat.lt_trichotomy (c % sw k) k.format.infRung with h1 | h1 | h1
      · exact h1
      · exfalso
        obtain ⟨M, P, r1, _⟩ := read_fin fa
        rw [read_inf h1, r1] at h'
        cases h'; exact inf_fin k _ hf
      · exfalso
        obtain ⟨M, P, r0, _⟩ := read_fin fa
        obtain ⟨t, r1, _⟩ := read_nan_lt h1
        rw [r1, r0] at h'; cases h'
    obtain ⟨M, P, r1, rep1⟩ := read_fin fa
    obtain ⟨N, Q, r2, rep2⟩ := read_fin fc
    rw [r1, r2] at h'
    have hM : sgn k a = true → M = 0 := fun hs => by have := hx a rfl hs; have := rep1.rung; omega
    have hN : sgn k c = true → N = 0 := fun hs => by have := hy c rfl hs; have := rep2.rung; omega
    have f1 : ∀ s M u, (s = true → M = 0) → signed s M u = ((M * 2 ^ u : Nat) : Int) := by
      intro s M u h
      unfold signed
      rw [Nat.shiftLeft_eq]
      cases s
      · rfl
      · rw [h rfl]; simp
    have hres : ∃ u, r = k.format.nearest u (M * 2 ^ (P - min P Q).toNat + N * 2 ^ (Q - min P Q).toNat) (min P Q) := by
      have e : (signed (sgn k a) M (P - min P Q).toNat + signed (sgn k c) N (Q - min P Q).toNat).natAbs = M * 2 ^ (P - min P Q).toNat + N * 2 ^ (Q - min P Q).toNat := by
        rw [f1 _ _ _ hM, f1 _ _ _ hN]
        omega
      obtain ⟨u, hu⟩ := sum_number (s := sgn k a) (t := sgn k c) (m := M) (n := N) (i := P) (j := Q)
      rw [hu, e] at h'
      exact ⟨u, by cases h'; rfl⟩
    obtain ⟨u, rfl⟩ := hres
    have main : ∀ {L R : Nat} {I : Int}, Rep k.format L I R → R < k.format.infRung → vle L I (M * 2 ^ (P - min P Q).toNat + N * 2 ^ (Q - min P Q).toNat) (min P Q) → R ≤ k.format.nearest u (M * 2 ^ (P - min P Q).toNat + N * 2 ^ (Q - min P Q).toNat) (min P Q) % sw k := by
      intro L R I rep hR hv
      by_cases h0 : M * 2 ^ (P - min P Q).toNat + N * 2 ^ (Q - min P Q).toNat = 0
      · have hL := veq_zero hv h0
        have := rep.norm
        have hp := Nat.two_pow_pos k.format.fractionBits
        have hI : I = k.format.leastPlace := by rcases this with h1 | h1; omega; exact h1
        rw [rep.rung, hI, hL]; simp
      · rw [nearest_rung.1, if_neg h0]
        have := near_ge (neg := u) h0 hv rep
        omega
    refine ⟨a, c, rfl, rfl, main rep1 fa ?_, main rep2 fc ?_⟩
    · rw [vle_iff (b := min P Q) (by omega) (Int.le_refl _)]
      rw [show (min P Q - min P Q).toNat = 0 by omega, Nat.pow_zero, Nat.mul_one]
      exact Nat.le_add_right _ _
    · rw [vle_iff (b := min P Q) (by omega) (Int.le_refl _)]
      rw [show (min P Q - min P Q).toNat = 0 by omega, Nat.pow_zero, Nat.mul_one]
      exact Nat.le_add_left _ _

/-- the root of what is at least 2^(2t) is at least 2^t -/
theorem sqrt_ge {k : FloatKind} {w s : Nat} {m M : Nat} {i P t : Int} {u : Bool} (ht : -100 ≤ t) (hr : k.format.read w = .number u m i) (hv : vle 1 (2 * t) m i) (h : k.format.sqrt w = some s) (hf : s % sw k < k.format.infRung)
    (rep : Rep k.format M P (s % sw k)) : vle 1 t M P := by
  have h0 : m ≠ 0 := by
    rintro rfl
    have hz := veq_zero hv rfl
    omega
  have hu : u = false := by
    cases u with
    | false => rfl
    | true =>
      unfold Format.sqrt at h
      rw [hr] at h
      unfold Datum.root at h
      simp [h0] at h
  subst hu
  obtain ⟨more, n, w', hh, rfl, h2, hw, hmore, hw', hres⟩ := sqrt_num h0 hr
  rw [hres] at h
  cases h
  refine wr_ge ht ?_ hf rep
  -- 2^j ≤ w'
  have hm : 2 ^ m.log2 ≤ m := Nat.log2_self_le h0
  have hj : 2 ^ (t - hh).toNat ≤ w' := by
    have hK : 2 ^ (t - hh).toNat * 2 ^ (t - hh).toNat ≤ m * 2 ^ more := by
      rw [← Nat.pow_add]
      rcases Int.le_total hh t with hc | hc
      · let c : Int := min (2 * t) i
        have := (vle_iff (m := 1) (n := m) (p := 2 * t) (q := i) (b := i - more - 0) (by omega) (by omega)).1 hv
        rw [Nat.one_mul, show (2 * t - (i - more - 0)).toNat = (t - hh).toNat + (t - hh).toNat by omega, show (i - (i - more - 0)).toNat = more by omega] at this
        exact this
      · rw [show (t - hh).toNat = 0 by omega]
        have := Nat.mul_le_mul (Nat.pos_of_ne_zero h0) (Nat.two_pow_pos more)
        simpa using this
    rw [hw']
    refine rootFrom_ge _ hK _ _ (.inl ⟨rfl, ?_⟩)
    have hne : m * 2 ^ more ≠ 0 := Nat.mul_ne_zero h0 (Nat.ne_of_gt (Nat.two_pow_pos _))
    rw [← Nat.pow_add] at hK
    have := (Nat.le_log2 hne).2 hK
    omega
  have h3 : 2 * 2 ^ (t - hh).toNat ≤ 2 * w' + (w' * w' != m * 2 ^ more).toNat := by omega
  generalize 2 * w' + (w' * w' != m * 2 ^ more).toNat = q at *
  let c : Int := min t (hh - 1)
  rw [vle_iff (b := c) (by omega) (by omega), Nat.one_mul]
  refine Nat.le_trans ?_ (Nat.mul_le_mul_right _ h3)
  have : 2 * 2 ^ (t - hh).toNat = 2 ^ ((t - hh).toNat + 1) := by rw [Nat.pow_succ]; omega
  rw [this, ← Nat.pow_add]
  exact Nat.pow_le_pow_right (by omega) (by omega)

theorem quot_le' {digits m n : Nat} {i j e : Int} (hn : n ≠ 0) (h : vle m i n (j + e)) (hm : m ≠ 0) :
    le2 (2 * ((m <<< (digits + n.log2 - m.log2)) / n) + ((m <<< (digits + n.log2 - m.log2)) % n != 0).toNat) (i - j - (digits + n.log2 - m.log2 : Nat) - 1) e := by
  refine quot_le hn h hm ?_
  have h1 : 2 ^ m.log2 ≤ m := Nat.log2_self_le hm
  have h2 : n < 2 ^ (n.log2 + 1) := Nat.lt_log2_self
  let c : Int := min i (j + e)
  rw [vle_iff (b := c) (by omega) (by omega)] at h
  have h3 := Nat.le_trans (Nat.mul_le_mul_right (2 ^ (i - c).toNat) h1) h
  have h4 := Nat.lt_of_le_of_lt h3 ((Nat.mul_lt_mul_right (Nat.two_pow_pos (j + e - c).toNat)).2 h2)
  rw [← Nat.pow_add, ← Nat.pow_add] at h4
  have := (Nat.pow_lt_pow_iff_right (by omega : 1 < 2)).1 h4
  omega

/-- of a square that is finite -/
theorem sq_ge {k : FloatKind} {x r : Nat} {M N : Nat} {P Q t : Int} {s : Bool} (ht : -50 ≤ t) (hr : k.format.read x = .number s M P) (hv : vle 1 t M P) (h : k.format.mul x x = some r) (hf : r % sw k < k.format.infRung)
    (rep : Rep k.format N Q (r % sw k)) : vle 1 (2 * t) N Q := by
  unfold Format.mul at h
  rw [hr] at h
  have e : r = k.format.nearest (s ^^ s) (M * M) (P + P) := by cases h; rfl
  subst e
  refine wr_ge (by omega) ?_ hf rep
  let b : Int := min t P
  rw [vle_iff (b := b) (by omega) (by omega), Nat.one_mul] at hv
  rw [vle_iff (b := b + b) (by omega) (by omega), Nat.one_mul]
  have := Nat.mul_le_mul hv hv
  rw [← Nat.pow_add] at this
  rw [show (2 * t - (b + b)).toNat = (t - b).toNat + (t - b).toNat by omega, show (P + P - (b + b)).toNat = (P - b).toNat + (P - b).toNat by omega, Nat.pow_add 2 (P - b).toNat]
  refine Nat.le_trans this (Nat.le_of_eq ?_)
  simp only [Nat.mul_assoc, Nat.mul_left_comm, Nat.mul_comm]

/-- what a node that is a root of three squares says -/
theorem root_div {a b c d e xx yy zz w s n : Option Nat} (hxx : xx = BO.mul.den .f32 a a) (hyy : yy = BO.mul.den .f32 b b) (hzz : zz = BO.mul.den .f32 c c) (he : e = BO.add.den .f32 xx yy) (hd : d = BO.add.den .f32 e zz)
    (hw : UO.widen.den .f32 d = some w) (hs : UO.sqrt.den .f64 w = some s) (hn : UO.narrow.den .f64 s = some n) {x : Option Nat} (hx : x = a ∨ x = b ∨ x = c) (hfx : Fi .f32 x) (hl : Lo .f32 n 20) :
    Bd .f32 (BO.div.den .f32 x n) 1 := by
  obtain ⟨xb, rfl, fx⟩ := hfx
  obtain ⟨_, nb, rfl, n1, n2, n3⟩ := hl
  obtain ⟨M, P, rx, repx⟩ := read_fin fx
  refine ⟨by decide, ?_⟩
  show ∃ r, FloatKind.f32.format.div xb nb = some r ∧ _
  rcases Nat.lt_or_eq_of_le n3 with fn | fn
  rotate_left
  · -- n is infinite
    have rn : FloatKind.f32.format.read nb = .infinity (sgn .f32 nb) := read_inf fn
    unfold Format.div
    rw [rx, rn]
    refine ⟨_, rfl, ?_⟩
    show FloatKind.f32.format.nearest _ 0 0 % sw .f32 ≤ _
    rw [nearest_zero]; exact Nat.zero_le _
  · obtain ⟨N, Q, rn, repn⟩ := read_fin (k := .f32) (b := nb) fn
    have hlow : vle 1 (-20) N Q := ((vle_pow (a := 23) (q := -(20 : Int) - 23) (by omega)).2).trans ((repL .f32 20 (by omega)).vle_of_le repn n2)
    have hN : N ≠ 0 := by
      rintro rfl
      have := veq_zero hlow rfl
      omega
    rw [div_number rx rn hN]
    refine ⟨_, rfl, ?_⟩
    by_cases hM : M = 0
    · subst hM
      refine wr_le (by decide) ?_
      simp <;> exact vle_zero _ _ _
    · refine wr_le (by decide) (quot_le' (e := ((1 : Nat) : Int)) hN ?_ hM)
      -- |x| ≤ 2 n
      have hm1 : 2 ^ M.log2 ≤ M := Nat.log2_self_le hM
      have hm2 : M < 2 ^ (M.log2 + 1) := Nat.lt_log2_self
      generalize ht : P + M.log2 = t
      have hx1 : vle 1 t M P := by
        rw [vle_iff (b := P) (by omega) (Int.le_refl _), show (t - P).toNat = M.log2 by omega]
        simpa using hm1
      have hx2 : vle M P 1 (t + 1) := by
        rw [vle_iff (b := P) (Int.le_refl _) (by omega), show (t + 1 - P).toNat = M.log2 + 1 by omega]
        simp; omega
      have goal_of : ∀ T : Int, t ≤ T → vle 1 T N Q → vle M P N (Q + ((1 : Nat) : Int)) := by
        intro T hT hv
        refine hx2.trans ?_
        let c : Int := min T Q
        rw [vle_iff (b := c) (by omega) (by omega)] at hv
        have hc : c ≤ t + 1 ∨ t + 1 < c := by omega
        rcases hc with hc | hc
        · rw [vle_iff (b := c) hc (by omega), show (Q + ((1 : Nat) : Int) - c).toNat = (Q - c).toNat + 1 by omega, Nat.pow_succ, ← Nat.mul_assoc]
          have h1 : 2 ^ (t + 1 - c).toNat ≤ 2 ^ ((T - c).toNat + 1) := Nat.pow_le_pow_right (by omega) (by omega)
          rw [Nat.pow_succ] at h1
          omega
        · rw [vle_iff (b := t + 1) (Int.le_refl _) (by omega)]
          have h1 := Nat.mul_le_mul (Nat.pos_of_ne_zero hN) (Nat.two_pow_pos (Q + ((1 : Nat) : Int) - (t + 1)).toNat)
          simpa using h1
      rcases Int.lt_or_le t (-20) with hc | hc
      · exact goal_of (-20) (by omega) hlow
      · refine goal_of t (Int.le_refl _) ?_
        -- back from n
        have nn1 : NN .f32 xx := by rw [hxx]; exact nn_mul
        have nn2 : NN .f32 yy := by rw [hyy]; exact nn_mul
        have nn3 : NN .f32 zz := by rw [hzz]; exact nn_mul
        have nne : NN .f32 e := by rw [he]; exact nn_add nn1 nn2
        match s, hn with
        | some sb, hn =>
          have hn' : convD .f64 .f32 sb = some (some nb) := hn
          have fs : sb % sw .f64 < FloatKind.f64.format.infRung := by
            rcases Nat.lt_trichotomy (sb % sw .f64) FloatKind.f64.format.infRung with h1 | h1 | h1
            · exact h1
            · exfalso
              rw [conv_inf (read_inf h1)] at hn'
              cases hn'
              exact inf_fin .f32 _ fn
            · exfalso
              match w, hs with
              | some wb, hs =>
                have hs' : FloatKind.f64.format.sqrt wb = some sb := by simpa [UO.den, UO.fn] using hs
                unfold Format.sqrt at hs'
                cases hD : (FloatKind.f64.format.read wb).root (FloatKind.f64.format.fractionBits + 2) with
                | none => rw [hD] at hs'; cases hs'
                | some D =>
                  rw [hD] at hs'
                  have hg := (write_ok .f64 D (root_good hD)).2
                  have : sb = FloatKind.f64.format.write D := by cases hs'; rfl
                  rw [← this, nan_rung] at hg
                  omega
          obtain ⟨Ms, Ps, rs, reps⟩ := read_fin fs
          have hnb : nb = FloatKind.f32.format.nearest (sgn .f64 sb) Ms Ps := by
            unfold convD FloatKind.decode FloatKind.encode at hn'
            rw [rs] at hn'
            split at hn'
            · cases hn'
            · cases hn'; rfl
          match w, hs with
          | some wb, hs =>
            have hs' : FloatKind.f64.format.sqrt wb = some sb := by simpa [UO.den, UO.fn] using hs
            match d, hw, hd with
            | some db, hw, hd =>
              have hw' : convD .f32 .f64 db = some (some wb) := hw
              have fw : wb % sw .f64 < FloatKind.f64.format.infRung := by
                rcases Nat.lt_trichotomy (wb % sw .f64) FloatKind.f64.format.infRung with h1 | h1 | h1
                · exact h1
                · exfalso
                  unfold Format.sqrt at hs'
                  rw [read_inf h1] at hs'
                  cases hsg : sgn .f64 wb <;> rw [hsg] at hs'
                  · cases hs'; exact inf_fin .f64 _ fs
                  · cases hs'
                · exfalso
                  obtain ⟨t', r', _⟩ := read_nan_lt h1
                  unfold Format.sqrt at hs'
                  rw [r'] at hs'; cases hs'
              have fd : db % sw .f32 < FloatKind.f32.format.infRung := by
                rcases Nat.lt_trichotomy (db % sw .f32) FloatKind.f32.format.infRung with h1 | h1 | h1
                · exact h1
                · exfalso
                  rw [conv_inf (read_inf h1)] at hw'
                  cases hw'
                  exact inf_fin .f64 _ fw
                · exfalso
                  obtain ⟨t', r', t0, tl, _⟩ := read_nan_lt h1
                  have tl' : t' < 8388608 := tl
                  have hb := (binade_inf .f64).1
                  have hbb : FloatKind.f64.format.binade = 4503599627370496 := rfl
                  rw [conv_nan r' t0 (by omega)] at hw'
                  cases hw'
                  rw [(word_mod (k := .f64) (by omega)).1] at fw
                  omega
              obtain ⟨eb, zb, rfl, rfl, g1, g2⟩ := add_parts nne nn3 hd.symm fd
              obtain ⟨xb', yb, rfl, rfl, g3, g4⟩ := add_parts nn1 nn2 he.symm (by omega)
              -- the square of x is at most db
              have hq : ∃ q, FloatKind.f32.format.mul xb xb = some q ∧ q % sw .f32 ≤ db % sw .f32 := by
                rcases hx with rfl | rfl | rfl
                · exact ⟨xb', hxx.symm, by omega⟩
                · exact ⟨yb, hyy.symm, by omega⟩
                · exact ⟨zb, hzz.symm, by omega⟩
              obtain ⟨q, hq1, hq2⟩ := hq
              have fq : q % sw .f32 < FloatKind.f32.format.infRung := by omega
              obtain ⟨Mq, Pq, rq, repq⟩ := read_fin fq
              have v1 := sq_ge (by omega) rx hx1 hq1 fq repq
              obtain ⟨wb', Md, Pd, Mw, Pw, cw, rd, repd, rw', repw, _, _, e1, e2⟩ := widen_fin fd
              rw [hw'] at cw; cases cw
              have v2 : vle 1 (2 * t) Md Pd := v1.trans (repq.vle_of_le repd hq2)
              have v3 : vle 1 (2 * t) Mw Pw := v2.trans e1
              have v4 : vle 1 t Ms Ps := sqrt_ge (by omega) rw' v3 hs' fs reps
              subst hnb
              exact wr_ge (by omega) v4 fn repn
end Go.Proofs.Ytconlkliclhbpaa.Sx
