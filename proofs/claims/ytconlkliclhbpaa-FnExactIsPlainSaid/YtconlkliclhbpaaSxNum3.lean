/- Order, signs, roots, conversions. -/
import Derived.Test.YtconlkliclhbpaaSxNum2
namespace Go.Proofs.Ytconlkliclhbpaa.Sx
open Go Ieee

def sgn (k : FloatKind) (b : Nat) : Bool := b / sw k % 2 == 1
/-- the signed rung -/
def sr (k : FloatKind) (b : Nat) : Int := if sgn k b then -((b % sw k : Nat) : Int) else ((b % sw k : Nat) : Int)
theorem nan_rung (k : FloatKind) (b : Nat) : isNaNb k b = false ↔ b % sw k ≤ k.format.infRung := by
  rw [nan_iff, sw_eq]; simp
theorem read_fin {k : FloatKind} {b : Nat} (h : b % sw k < k.format.infRung) : ∃ M P, k.format.read b = .number (sgn k b) M P ∧ Rep k.format M P (b % sw k) := by
  obtain ⟨M, P, h1, h2⟩ := read_rep (f := k.format) (w := b) (by rw [sw_eq]; exact h)
  rw [sw_eq] at h1 h2
  exact ⟨M, P, h1, h2⟩
theorem read_inf {k : FloatKind} {b : Nat} (h : b % sw k = k.format.infRung) : k.format.read b = .infinity (sgn k b) := by
  unfold Format.read
  rw [sw_eq, h]
  have hb : ¬ k.format.infRung < k.format.binade := by cases k <;> decide
  simp only [if_neg hb, if_neg (Nat.lt_irrefl _), if_pos]; rfl

theorem signed_cmp {f : Format} {s t : Bool} {M N R S : Nat} {P Q : Int} (h : Rep f M P R) (g : Rep f N Q S) :
    compare (signed s M (P - min P Q).toNat) (signed t N (Q - min P Q).toNat) = compare (if s then -(R : Int) else R) (if t then -(S : Int) else S) := by
  have e1 := h.vle_iff g
  have e2 := g.vle_iff h
  unfold vle at e1 e2
  rw [Int.min_comm Q P] at e2
  have z1 : M * 2 ^ (P - min P Q).toNat = 0 ↔ R = 0 := by
    have hp := Nat.two_pow_pos (P - min P Q).toNat
    constructor
    · intro h0
      have : M = 0 := by rcases Nat.mul_eq_zero.1 h0 with h1 | h1 <;> omega
      subst this
      have := h.norm
      have hq := Nat.two_pow_pos f.fractionBits
      have : P = f.leastPlace := by rcases this with h1 | h1; omega; exact h1
      rw [h.rung, this]; simp
    · intro h0
      have := h.rung
      have : M = 0 := by omega
      rw [this]; simp
  have z2 : N * 2 ^ (Q - min P Q).toNat = 0 ↔ S = 0 := by
    have hp := Nat.two_pow_pos (Q - min P Q).toNat
    constructor
    · intro h0
      have : N = 0 := by rcases Nat.mul_eq_zero.1 h0 with h1 | h1 <;> omega
      subst this
      have := g.norm
      have hq := Nat.two_pow_pos f.fractionBits
      have : Q = f.leastPlace := by rcases this with h1 | h1; omega; exact h1
      rw [g.rung, this]; simp
    · intro h0
      have := g.rung
      have : N = 0 := by omega
      rw [this]; simp
  have f1 : ∀ s M u, signed s M u = if s then -((M * 2 ^ u : Nat) : Int) else ((M * 2 ^ u : Nat) : Int) := by
    intro s M u; unfold signed; rw [Nat.shiftLeft_eq]
  rw [f1, f1]
  generalize M * 2 ^ (P - min P Q).toNat = a at *
  generalize N * 2 ^ (Q - min P Q).toNat = c at *
  rw [Int.compare_eq_ite_lt, Int.compare_eq_ite_lt]
  have key : ∀ x y z w : Int, (x < y ↔ z < w) → (y < x ↔ w < z) → (if x < y then Ordering.lt else if y < x then Ordering.gt else Ordering.eq) = (if z < w then Ordering.lt else if w < z then Ordering.gt else Ordering.eq) := by
    intro x y z w h1 h2
    by_cases a1 : x < y
    · rw [if_pos a1, if_pos (h1.1 a1)]
    · rw [if_neg a1, if_neg (fun q => a1 (h1.2 q))]
      by_cases a2 : y < x
      · rw [if_pos a2, if_pos (h2.1 a2)]
      · rw [if_neg a2, if_neg (fun q => a2 (h2.2 q))]
  cases s <;> cases t <;> simp only [Bool.false_eq_true, if_false, if_true] <;> refine key _ _ _ _ ?_ ?_ <;> omega

theorem order_sr {k : FloatKind} {x y : Nat} (hx : isNaNb k x = false) (hy : isNaNb k y = false) : k.format.order x y = some (compare (sr k x) (sr k y)) := by
  rw [nan_rung] at hx hy
  have hpos : 0 < k.format.infRung := by cases k <;> decide
  unfold Format.order
  rcases Nat.lt_or_eq_of_le hx with a1 | a1
  · obtain ⟨M, P, r1, p1⟩ := read_fin a1
    rw [r1]
    rcases Nat.lt_or_eq_of_le hy with a2 | a2
    · obtain ⟨N, Q, r2, p2⟩ := read_fin a2
      rw [r2]
      show some (compare _ _) = _
      rw [signed_cmp p1 p2]
      rfl
    · rw [read_inf a2]
      show some _ = _
      congr 1
      rw [Int.compare_eq_ite_lt]
      unfold sr
      rw [a2]
      cases sgn k x <;> cases sgn k y <;> simp
      · omega
      · rw [if_neg (by omega), if_pos (by omega)]
      · omega
      · rw [if_neg (by omega), if_pos (by omega)]
  · rw [read_inf a1]
    rcases Nat.lt_or_eq_of_le hy with a2 | a2
    · obtain ⟨N, Q, r2, p2⟩ := read_fin a2
      rw [r2]
      show some _ = _
      congr 1
      rw [Int.compare_eq_ite_lt]
      unfold sr
      rw [a1]
      cases sgn k x <;> cases sgn k y <;> simp
      · rw [if_neg (by omega), if_pos (by omega)]
      · rw [if_neg (by omega), if_pos (by omega)]
      · omega
      · omega
    · rw [read_inf a2]
      show some (compare (sgn k y).toNat (sgn k x).toNat) = _
      congr 1
      unfold sr
      rw [a1, a2]
      cases sgn k x <;> cases sgn k y <;> simp only [Bool.false_eq_true, if_false, if_true] <;> rw [Int.compare_eq_ite_lt]
      · rw [if_neg (by omega), if_neg (by omega)]; rfl
      · rw [if_neg (by omega), if_pos (by omega)]; rfl
      · rw [if_pos (by omega)]; rfl
      · rw [if_neg (by omega), if_neg (by omega)]; rfl

theorem cmpC_sr {c : Nat} {k : FloatKind} {x y : Nat} (hx : isNaNb k x = false) (hy : isNaNb k y = false) :
    cmpC c k.format x y = match c with | 0 => decide (sr k x < sr k y) | 1 => decide (sr k x ≤ sr k y) | _ => decide (sr k x = sr k y) := by
  unfold cmpC
  rw [order_sr hx hy, Int.compare_eq_ite_lt]
  match c with
  | 0 =>
    show (some _ == some Ordering.lt) = decide _
    by_cases h : sr k x < sr k y
    · rw [if_pos h, decide_eq_true h]; rfl
    · rw [if_neg h, decide_eq_false h]
      by_cases g : sr k y < sr k x
      · rw [if_pos g]; rfl
      · rw [if_neg g]; rfl
  | 1 =>
    show ((some _ == some Ordering.lt) || (some _ == some Ordering.eq)) = decide _
    by_cases h : sr k x < sr k y
    · rw [if_pos h, decide_eq_true (by omega)]; rfl
    · rw [if_neg h]
      by_cases g : sr k y < sr k x
      · rw [if_pos g, decide_eq_false (by omega)]; rfl
      · rw [if_neg g, decide_eq_true (by omega)]; rfl
  | n + 2 =>
    show (some _ == some Ordering.eq) = decide _
    by_cases h : sr k x < sr k y
    · rw [if_pos h, decide_eq_false (by omega)]; rfl
    · rw [if_neg h]
      by_cases g : sr k y < sr k x
      · rw [if_pos g, decide_eq_false (by omega)]; rfl
      · rw [if_neg g, decide_eq_true (by omega)]; rfl
theorem cmpC_nan {c : Nat} {k : FloatKind} {x y : Nat} (h : isNaNb k x = true ∨ isNaNb k y = true) : cmpC c k.format x y = false := by
  unfold cmpC
  rw [order_nan k x y h]
  match c with
  | 0 => rfl
  | 1 => rfl
  | n + 2 => rfl
/-- a test that is true is of two that are no NaN -/
theorem cmpC_true {c : Nat} {k : FloatKind} {x y : Nat} (h : cmpC c k.format x y = true) : isNaNb k x = false ∧ isNaNb k y = false := by
  cases hx : isNaNb k x with
  | true => rw [cmpC_nan (.inl hx)] at h; cases h
  | false =>
    cases hy : isNaNb k y with
    | true => rw [cmpC_nan (.inr hy)] at h; cases h
    | false => exact ⟨rfl, rfl⟩
theorem cmpD_true {c : Nat} {k : FloatKind} {x y : Option Nat} (h : cmpD c k x y = true) : ∃ a b, x = some a ∧ y = some b ∧ isNaNb k a = false ∧ isNaNb k b = false ∧ cmpC c k.format a b = true := by
  match x, y, h with
  | some a, some b, h => exact ⟨a, b, rfl, rfl, (cmpC_true h).1, (cmpC_true h).2, h⟩

/-! no sign, or nothing -/
def NN (k : FloatKind) (d : Option Nat) : Prop := ∀ b, d = some b → sgn k b = true → b % sw k = 0
theorem NN.sr {k : FloatKind} {b : Nat} (h : NN k (some b)) : 0 ≤ Sx.sr k b := by
  unfold Sx.sr
  split
  · rename_i hs; rw [h b rfl hs]; simp
  · omega
theorem word_sgn {k : FloatKind} {s : Bool} {r : Nat} (h : r ≤ k.format.infRung) : sgn k (k.format.word s r) = s ∧ k.format.word s r % sw k = r := by
  have := word_mod (k := k) (s := s) (r := r) (Nat.lt_of_le_of_lt h (inf_lt_sw k))
  exact ⟨this.2, this.1⟩
theorem nearest_sgn {k : FloatKind} {s : Bool} {m : Nat} {p : Int} : sgn k (k.format.nearest s m p) = s := nearest_rung.2
theorem nearest_zero {k : FloatKind} {s : Bool} {p : Int} : k.format.nearest s 0 p % sw k = 0 := by rw [nearest_rung.1, if_pos rfl]
theorem nn_nearest {k : FloatKind} {s : Bool} {m : Nat} {p : Int} (h : s = true → m = 0) : NN k (some (k.format.nearest s m p)) := by
  intro b hb hs
  cases hb
  rw [nearest_sgn] at hs
  rw [h hs]; exact nearest_zero
theorem nn_inf {k : FloatKind} : NN k (some (k.format.word false k.format.infRung)) := by
  intro b hb hs
  cases hb
  rw [(word_sgn (Nat.le_refl _)).1] at hs; cases hs
/-- how a word that is never below 0 reads -/
theorem NN.read {k : FloatKind} {b : Nat} (h : NN k (some b)) : (∃ s M P, k.format.read b = .number s M P ∧ (s = true → M = 0)) ∨ k.format.read b = .infinity false ∨ ∃ t, k.format.read b = .nan false t := by
  rcases Nat.lt_trichotomy (b % sw k) k.format.infRung with h1 | h1 | h1
  · obtain ⟨M, P, r, p⟩ := read_fin h1
    refine .inl ⟨_, M, P, r, fun hs => ?_⟩
    have h0 := h b rfl hs
    have := p.rung
    omega
  · refine .inr (.inl ?_)
    rw [read_inf h1]
    cases hs : sgn k b with
    | false => rfl
    | true =>
      have h0 := h b rfl hs
      have hpos : 0 < k.format.infRung := by cases k <;> decide
      omega
  · refine .inr (.inr ?_)
    have hs : sgn k b = false := by
      cases hs : sgn k b with
      | false => rfl
      | true => have h0 := h b rfl hs; omega
    unfold sgn at hs
    unfold Format.read
    simp only [sw_eq]
    have hb : k.format.binade ≤ k.format.infRung := by cases k <;> decide
    rw [if_neg (by omega), if_neg (by omega), if_neg (by omega), hs]
    exact ⟨_, rfl⟩
theorem nn_mul {k : FloatKind} {x : Option Nat} : NN k (BO.mul.den k x x) := by
  cases x with
  | none => intro b hb; cases hb
  | some a =>
    show NN k (k.format.mul a a)
    unfold Format.mul
    cases k.format.read a with
    | nan s t => intro b hb; cases hb
    | infinity s => show NN k (some (k.format.word (s ^^ s) _)); rw [Bool.xor_self]; exact nn_inf
    | number s m p => show NN k (some (k.format.nearest (s ^^ s) _ _)); rw [Bool.xor_self]; exact nn_nearest (by simp)
theorem nn_add {k : FloatKind} {x y : Option Nat} (hx : NN k x) (hy : NN k y) : NN k (BO.add.den k x y) := by
  match x, y, hx, hy with
  | none, _, _, _ => intro b hb; cases hb
  | some _, none, _, _ => intro b hb; cases hb
  | some a, some c, hx, hy =>
    show NN k (k.format.add a c)
    unfold Format.add
    rcases hx.read with ⟨s, M, P, r1, h1⟩ | r1 | ⟨t, r1⟩ <;> rcases hy.read with ⟨s', N, Q, r2, h2⟩ | r2 | ⟨t', r2⟩ <;> rw [r1, r2]
    · show NN k (some (k.format.nearest (if signed s M (P - min P Q).toNat + signed s' N (Q - min P Q).toNat = 0 then s && s' else decide (signed s M (P - min P Q).toNat + signed s' N (Q - min P Q).toNat < 0)) (signed s M (P - min P Q).toNat + signed s' N (Q - min P Q).toNat).natAbs (min P Q)))
      have p1 : 0 ≤ signed s M (P - min P Q).toNat := by
        unfold signed
        cases s
        · exact Int.natCast_nonneg _
        · rw [h1 rfl]; simp
      have p2 : 0 ≤ signed s' N (Q - min P Q).toNat := by
        unfold signed
        cases s'
        · exact Int.natCast_nonneg _
        · rw [h2 rfl]; simp
      generalize signed s M (P - min P Q).toNat = u at *
      generalize signed s' N (Q - min P Q).toNat = v at *
      refine nn_nearest fun hs => ?_
      by_cases h0 : u + v = 0
      · rw [h0]; rfl
      · rw [if_neg h0] at hs
        simp at hs; omega
    · exact nn_inf
    · intro b hb; cases hb
    · exact nn_inf
    · exact nn_inf
    · intro b hb; cases hb
    · intro b hb; cases hb
    · intro b hb; cases hb
    · intro b hb; cases hb
theorem nn_sqrt {k : FloatKind} {x d : Option Nat} (hx : NN k x) (h : UO.sqrt.den k x = some d) : NN k d := by
  cases x with
  | none => cases h; intro b hb; cases hb
  | some a =>
    simp only [UO.den, UO.fn] at h
    cases h
    unfold Format.sqrt
    rcases hx.read with ⟨s, M, P, r1, h1⟩ | r1 | ⟨t, r1⟩ <;> rw [r1]
    · unfold Datum.root
      by_cases h0 : M = 0
      · simp only [if_pos h0]
        show NN k (some (k.format.nearest s M P))
        rw [h0]; exact nn_nearest fun _ => rfl
      · simp only [if_neg h0]
        have : s = false := by cases s; rfl; exact absurd (h1 rfl) h0
        rw [this]
        exact nn_nearest (by simp)
    · exact nn_inf
    · intro b hb; cases hb
theorem nn_abs {k : FloatKind} {x d : Option Nat} (h : UO.abs.den k x = some d) : NN k d := by
  cases x with
  | none => cases h; intro b hb; cases hb
  | some a =>
    simp only [UO.den, UO.fn] at h
    cases h
    intro b hb hs
    cases hb
    rw [sw_eq] at hs
    unfold sgn at hs
    rw [Nat.div_eq_of_lt (Nat.mod_lt _ (by cases k <;> decide))] at hs
    simp at hs

/-! conversions -/
theorem conv_num {k l : FloatKind} {b : Nat} {s : Bool} {m : Nat} {p : Int} (hr : k.format.read b = .number s m p) (hf : l.format.nearest s m p % sw l < l.format.infRung) : convD k l b = some (some (l.format.nearest s m p)) := by
  unfold convD FloatKind.decode FloatKind.encode
  rw [hr]
  show (match (l.format.read (l.format.nearest s m p)).isInfinity && !(Datum.number s m p).isInfinity with | true => none | false => some (some (l.format.nearest s m p))) = _
  obtain ⟨M, P, h1, _⟩ := read_fin hf
  rw [h1]; rfl
theorem conv_inf {k l : FloatKind} {b : Nat} {s : Bool} (hr : k.format.read b = .infinity s) : convD k l b = some (some (l.format.word s l.format.infRung)) := by
  unfold convD FloatKind.decode FloatKind.encode
  rw [hr]
  simp [Datum.isInfinity]; rfl
theorem binade_inf (l : FloatKind) : l.format.infRung + l.format.binade = sw l ∧ 0 < l.format.binade := by cases l <;> decide
theorem read_nan_word {l : FloatKind} {s : Bool} {t : Nat} (h0 : t ≠ 0) (ht : t < l.format.binade) : l.format.read (l.format.word s (l.format.infRung + t)) = .nan s t := by
  obtain ⟨h1, h2⟩ := binade_inf l
  have hw := word_mod (k := l) (s := s) (r := l.format.infRung + t) (by omega)
  have hb : l.format.binade ≤ l.format.infRung := by cases l <;> decide
  unfold Format.read
  simp only [sw_eq]
  rw [hw.1, hw.2, if_neg (by omega), if_neg (by omega), if_neg (by omega)]
  congr 1; omega
theorem conv_nan {k l : FloatKind} {b : Nat} {s : Bool} {t : Nat} (hr : k.format.read b = .nan s t) (h0 : t ≠ 0) (ht : t < l.format.binade) : convD k l b = some (some (l.format.word s (l.format.infRung + t))) := by
  unfold convD FloatKind.decode FloatKind.encode
  rw [hr]
  have e : l.format.write (.nan s t) = l.format.word s (l.format.infRung + t) := by
    show l.format.word s (l.format.infRung + t % l.format.binade) = _
    rw [Nat.mod_eq_of_lt ht]
  rw [e, read_nan_word h0 ht]; rfl
theorem read_nan_lt {k : FloatKind} {b : Nat} (h : k.format.infRung < b % sw k) : ∃ t, k.format.read b = .nan (sgn k b) t ∧ t ≠ 0 ∧ t < k.format.binade ∧ b % sw k = k.format.infRung + t := by
  obtain ⟨h1, h2⟩ := binade_inf k
  have hb : k.format.binade ≤ k.format.infRung := by cases k <;> decide
  have hlt : b % sw k < sw k := Nat.mod_lt _ (by omega)
  refine ⟨b % sw k - k.format.infRung, ?_, by omega, by omega, by omega⟩
  unfold Format.read
  simp only [sw_eq]
  rw [if_neg (by omega), if_neg (by omega), if_neg (by omega)]; rfl
theorem nn_conv {k l : FloatKind} {b : Nat} {d : Option Nat} (hx : NN k (some b)) (h : convD k l b = some d) : NN l d := by
  have key : ∀ D : Datum, k.format.read b = D → d = some (l.format.write D) := by
    intro D hD
    unfold convD FloatKind.decode FloatKind.encode at h
    rw [hD] at h
    split at h
    · cases h
    · cases h; rfl
  rcases hx.read with ⟨s, M, P, r1, h1⟩ | r1 | ⟨t, r1⟩
  · rw [key _ r1]; exact nn_nearest h1
  · rw [key _ r1]; exact nn_inf
  · rw [key _ r1]
    intro c hc hs
    cases hc
    exfalso
    have hp := (binade_inf l).2
    have := (word_mod (k := l) (s := false) (r := l.format.infRung + t % l.format.binade) (by have := Nat.mod_lt t hp; have := (binade_inf l).1; omega)).2
    have hs' : (l.format.word false (l.format.infRung + t % l.format.binade) / sw l % 2 == 1) = true := hs
    rw [this] at hs'; cases hs'
end Go.Proofs.Ytconlkliclhbpaa.Sx
