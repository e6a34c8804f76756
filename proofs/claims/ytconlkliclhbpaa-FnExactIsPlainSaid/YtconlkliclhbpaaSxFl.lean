/- The model's float operations meet the trees' ones. -/
import Derived.Test.YtconlkliclhbpaaSxRel
namespace Go.Proofs.Ytconlkliclhbpaa.Sx
open Go

/-! Words that are no NaN -/
theorem nan_iff (k : FloatKind) (b : Nat) : isNaNb k b = decide (k.format.infRung < b % k.format.signWeight) := by
  unfold isNaNb Ieee.Format.read
  have hb : k.format.binade ≤ k.format.infRung := by cases k <;> decide
  by_cases h1 : b % k.format.signWeight < k.format.binade
  · simp [h1]; omega
  · by_cases h2 : b % k.format.signWeight < k.format.infRung
    · simp [h1, h2]; omega
    · by_cases h3 : b % k.format.signWeight = k.format.infRung
      · simp [h3, Nat.lt_irrefl]
        rw [if_neg (by omega)]
      · simp [h1, h2, h3]; omega

theorem word_ok (k : FloatKind) (s : Bool) (r : Nat) (h : r ≤ k.format.infRung) : fltOk k (k.format.word s r) = true ∧ isNaNb k (k.format.word s r) = false := by
  have e : k.format.infRung < k.format.signWeight := by cases k <;> decide
  have e2 : fltOk k (k.format.word s r) = decide (k.format.word s r < 2 * k.format.signWeight) := by
    rw [Bool.eq_iff_iff]
    cases k <;> simp [fltOk, FloatKind.format, Ieee.single, Ieee.double, Ieee.Format.signWeight, Nat.blt_eq] <;> exact decide_eq_true_iff.symm
  have e3 : k.format.word s r % k.format.signWeight = r := by
    unfold Ieee.Format.word
    cases s
    · simp; exact Nat.mod_eq_of_lt (by omega)
    · simp; exact Nat.mod_eq_of_lt (by omega)
  refine ⟨?_, ?_⟩
  · rw [e2]; unfold Ieee.Format.word; cases s <;> simp <;> omega
  · rw [nan_iff, e3]; simp; omega

theorem nearest_ok (k : FloatKind) (s : Bool) (m : Nat) (p : Int) : fltOk k (k.format.nearest s m p) = true ∧ isNaNb k (k.format.nearest s m p) = false := by
  unfold Ieee.Format.nearest
  by_cases h : m = 0
  · rw [if_pos h]; exact word_ok k s 0 (Nat.zero_le _)
  · rw [if_neg h]; exact word_ok k s _ (Nat.min_le_right _ _)

def good (d : Ieee.Datum) : Prop := d.isNaN = false
theorem write_ok (k : FloatKind) (d : Ieee.Datum) (h : good d) : fltOk k (k.format.write d) = true ∧ isNaNb k (k.format.write d) = false := by
  cases d with
  | number s m p => exact nearest_ok k s m p
  | infinity s => exact word_ok k s _ (Nat.le_refl _)
  | nan s t => simp [good, Ieee.Datum.isNaN] at h

theorem frel_of_ok {k : FloatKind} {b : Nat} (h : fltOk k b = true ∧ isNaNb k b = false) : FRel k b (some b) := ⟨h.1, by simp [canon, h.2]⟩
theorem frel_nan {k : FloatKind} {b : Nat} (h : fltOk k b = true) (n : isNaNb k b = true) : FRel k b none := ⟨h, by simp [canon, n]⟩
theorem FRel.some {k : FloatKind} {b x : Nat} (h : FRel k b (some x)) : b = x ∧ isNaNb k b = false := by
  unfold FRel canon at h
  cases e : isNaNb k b <;> simp [e] at h
  exact ⟨h.2, rfl⟩
theorem FRel.none {k : FloatKind} {b : Nat} (h : FRel k b none) : isNaNb k b = true := by
  unfold FRel canon at h
  cases e : isNaNb k b <;> simp [e] at h
  rfl

theorem sum_good {x y d : Ieee.Datum} (h : x.sum y = some d) : good d := by
  cases x <;> cases y <;> simp [Ieee.Datum.sum] at h <;> (try subst h) <;> try rfl
  obtain ⟨_, rfl⟩ := h; rfl
theorem product_good {x y d : Ieee.Datum} (h : x.product y = some d) : good d := by
  cases x <;> cases y <;> simp [Ieee.Datum.product] at h <;> (try subst h) <;> try rfl
  · obtain ⟨_, rfl⟩ := h; rfl
  · obtain ⟨_, rfl⟩ := h; rfl
theorem quotient_good {n : Nat} {x y d : Ieee.Datum} (h : x.quotient n y = some d) : good d := by
  cases x <;> cases y <;> simp [Ieee.Datum.quotient] at h <;> (try subst h) <;> try rfl
  split at h
  · split at h
    · cases h
    · cases h; rfl
  · cases h; rfl
theorem root_good {n : Nat} {x d : Ieee.Datum} (h : x.root n = some d) : good d := by
  cases x <;> simp [Ieee.Datum.root] at h
  · split at h
    · cases h; rfl
    · split at h
      · cases h
      · cases h; rfl
  · obtain ⟨_, rfl⟩ := h; rfl

theorem bo_ok (o : BO) (k : FloatKind) (x y r : Nat) (h : o.fn k.format x y = some r) : fltOk k r = true ∧ isNaNb k r = false := by
  cases o <;> simp only [BO.fn, Ieee.Format.add, Ieee.Format.sub, Ieee.Format.mul, Ieee.Format.div, Option.map_eq_some_iff] at h <;> obtain ⟨d, hd, rfl⟩ := h <;> apply write_ok
  · exact sum_good hd
  · exact sum_good hd
  · exact product_good hd
  · exact quotient_good hd

theorem read_nan {k : FloatKind} {b : Nat} (h : isNaNb k b = true) : ∃ s t, k.format.read b = .nan s t := by
  unfold isNaNb at h
  cases e : k.format.read b <;> simp [e] at h
  exact ⟨_, _, rfl⟩

theorem bo_nan (o : BO) (k : FloatKind) (x y : Nat) (h : isNaNb k x = true ∨ isNaNb k y = true) : o.fn k.format x y = none := by
  rcases h with h | h
  · obtain ⟨s, t, e⟩ := read_nan h
    cases o <;> simp only [BO.fn, Ieee.Format.add, Ieee.Format.sub, Ieee.Format.mul, Ieee.Format.div, e, Option.map_eq_none_iff] <;>
      (cases k.format.read y <;> rfl)
  · obtain ⟨s, t, e⟩ := read_nan h
    cases o <;> simp only [BO.fn, Ieee.Format.add, Ieee.Format.sub, Ieee.Format.mul, Ieee.Format.div, e, Option.map_eq_none_iff] <;>
      (cases k.format.read x <;> rfl)

def nan32 (t : Nat) : Nat := (t % 2) * 2147483648 + 2139095040 + 1 + (t / 2) % 8388607
def nan64 (t : Nat) : Nat := (t % 2) * 9223372036854775808 + 9218868437227405312 + 1 + (t / 2) % 4503599627370495
theorem nan32_ok (t : Nat) : fltOk .f32 (nan32 t) = true ∧ isNaNb .f32 (nan32 t) = true := by
  rw [nan_iff]
  simp only [fltOk, Nat.blt_eq, decide_eq_true_eq]
  show nan32 t < 4294967296 ∧ 2139095040 < nan32 t % 2147483648
  unfold nan32
  have h2 : t / 2 % 8388607 < 8388607 := Nat.mod_lt _ (by decide)
  generalize t / 2 % 8388607 = y at h2 ⊢
  rcases Nat.mod_two_eq_zero_or_one t with h | h <;> rw [h] <;> constructor <;> omega
theorem nan64_ok (t : Nat) : fltOk .f64 (nan64 t) = true ∧ isNaNb .f64 (nan64 t) = true := by
  rw [nan_iff]
  simp only [fltOk, Nat.blt_eq, decide_eq_true_eq]
  show nan64 t < 18446744073709551616 ∧ 9218868437227405312 < nan64 t % 9223372036854775808
  unfold nan64
  have h2 : t / 2 % 4503599627370495 < 4503599627370495 := Nat.mod_lt _ (by decide)
  generalize t / 2 % 4503599627370495 = y at h2 ⊢
  rcases Nat.mod_two_eq_zero_or_one t with h | h <;> rw [h] <;> constructor <;> omega
theorem cut_nan (k : FloatKind) (x y t : Nat) : fltOk k ((Question.nanBits k x y).cut t) = true ∧ isNaNb k ((Question.nanBits k x y).cut t) = true := by
  cases k
  · exact nan32_ok t
  · exact nan64_ok t
theorem cut_conv (k : FloatKind) (b t : Nat) : fltOk k ((Question.nanConv k b).cut t) = true ∧ isNaNb k ((Question.nanConv k b).cut t) = true := by
  cases k
  · exact nan32_ok t
  · exact nan64_ok t

/-- the world but for a draw -/
def Drew (w w' : World) : Prop := ∃ n, w' = { w with drawn := n }
theorem Drew.refl (w : World) : Drew w w := ⟨w.drawn, rfl⟩

theorem run_bin (P : Program) (bo : BinOp) (o : BO) (ho : boOf bo = some o) (k : FloatKind) (x y : Nat) (dx dy : Option Nat) (hx : FRel k x dx) (hy : FRel k y dy) (w : World) :
    ∃ r w', (Op.floatArith bo k x y).run P w = .ok (.float k r) w' ∧ FRel k r (o.den k dx dy) ∧ Drew w w' := by
  have hres : (Op.floatArith bo k x y).run P w = (match o.fn k.format x y with | some r => Result.ok (Value.float k r) w | none => .ok (.float k ((Question.nanBits k x y).cut (w.tape w.drawn (.nanBits k x y)))) { w with drawn := w.drawn + 1 }) := by
    cases bo <;> simp [boOf] at ho <;> subst ho <;> simp only [Op.floatArith, BO.fn]
    · show Sem.run P (Sem.bind (Sem.pure (k.format.add x y)) _) w = _
      simp only [Sem.bind]
      cases k.format.add x y <;> rfl
    · show Sem.run P (Sem.bind (Sem.pure (k.format.sub x y)) _) w = _
      simp only [Sem.bind]
      cases k.format.sub x y <;> rfl
    · show Sem.run P (Sem.bind (Sem.pure (k.format.mul x y)) _) w = _
      simp only [Sem.bind]
      cases k.format.mul x y <;> rfl
    · show Sem.run P (Sem.bind (Sem.pure (k.format.div x y)) _) w = _
      simp only [Sem.bind]
      cases k.format.div x y <;> rfl
  have hden : o.den k dx dy = o.fn k.format x y := by
    cases dx with
    | none => rw [bo_nan o k x y (.inl hx.none)]; rfl
    | some a =>
      cases dy with
      | none => rw [bo_nan o k x y (.inr hy.none)]; rfl
      | some b => rw [hx.some.1, hy.some.1]; rfl
  rw [hres, hden]
  cases e : o.fn k.format x y with
  | some r => exact ⟨r, w, rfl, frel_of_ok (bo_ok o k x y r e), Drew.refl w⟩
  | none => exact ⟨_, _, rfl, frel_nan (cut_nan k x y _).1 (cut_nan k x y _).2, _, rfl⟩

theorem order_nan (k : FloatKind) (x y : Nat) (h : isNaNb k x = true ∨ isNaNb k y = true) : k.format.order x y = none := by
  rcases h with h | h
  · obtain ⟨s, t, e⟩ := read_nan h
    simp only [Ieee.Format.order, e]; cases k.format.read y <;> rfl
  · obtain ⟨s, t, e⟩ := read_nan h
    simp only [Ieee.Format.order, e]; cases k.format.read x <;> rfl

theorem cmpD_eq (c : Nat) (k : FloatKind) (x y : Nat) (dx dy : Option Nat) (hx : FRel k x dx) (hy : FRel k y dy) : cmpD c k dx dy = cmpC c k.format x y := by
  cases dx with
  | none =>
    unfold cmpC; rw [order_nan k x y (.inl hx.none)]
    match c with
    | 0 => rfl
    | 1 => rfl
    | n + 2 => rfl
  | some a =>
    cases dy with
    | none =>
      unfold cmpC; rw [order_nan k x y (.inr hy.none)]
      match c with
      | 0 => rfl
      | 1 => rfl
      | n + 2 => rfl
    | some b => rw [hx.some.1, hy.some.1]; rfl

/-- a swap of the operands -/
theorem order_swap (a b : Ieee.Datum) : (a.order b == some .gt) = (b.order a == some .lt) ∧ (a.order b == some .eq) = (b.order a == some .eq) := by
  have hc : ∀ x y : Nat, (compare x y == Ordering.gt) = (compare y x == Ordering.lt) ∧ (compare x y == Ordering.eq) = (compare y x == Ordering.eq) := by
    intro x y
    rcases Nat.lt_trichotomy x y with h | h | h
    · have e1 : compare x y = .lt := Nat.compare_eq_lt.2 h
      have e2 : compare y x = .gt := Nat.compare_eq_gt.2 h
      rw [e1, e2]; decide
    · subst h; have e1 : compare x x = .eq := Nat.compare_eq_eq.2 rfl
      rw [e1]; decide
    · have e1 : compare x y = .gt := Nat.compare_eq_gt.2 h
      have e2 : compare y x = .lt := Nat.compare_eq_lt.2 h
      rw [e1, e2]; decide
  have hi : ∀ x y : Int, (compare x y == Ordering.gt) = (compare y x == Ordering.lt) ∧ (compare x y == Ordering.eq) = (compare y x == Ordering.eq) := by
    intro x y
    rcases Int.lt_trichotomy x y with h | h | h
    · have e1 : compare x y = .lt := Int.compare_eq_lt.2 h
      have e2 : compare y x = .gt := Int.compare_eq_gt.2 h
      rw [e1, e2]; decide
    · subst h; have e1 : compare x x = .eq := Int.compare_eq_eq.2 rfl
      rw [e1]; decide
    · have e1 : compare x y = .gt := Int.compare_eq_gt.2 h
      have e2 : compare y x = .lt := Int.compare_eq_lt.2 h
      rw [e1, e2]; decide
  cases a <;> cases b <;> simp only [Ieee.Datum.order]
  · rename_i s m i t n j
    have := hi (Ieee.signed s m (i - min i j).toNat) (Ieee.signed t n (j - min i j).toNat)
    rw [show min j i = min i j from Int.min_comm _ _]
    simpa using this
  · rename_i s m i t; cases t <;> decide
  · decide
  · rename_i t s m i; cases t <;> decide
  · rename_i s t; have := hc t.toNat s.toNat; simpa using this
  · decide
  · decide
  · decide
  · decide

theorem run_cmp (P : Program) (bo : BinOp) (c : Nat) (sw ng : Bool) (ho : cmpN bo = some (c, sw, ng)) (k : FloatKind) (x y : Nat) (w : World) :
    (Op.floatCmp bo k x y).run P w = .ok (.bool ((match sw with | true => cmpC c k.format y x | false => cmpC c k.format x y) != ng)) w := by
  obtain ⟨h1, h2⟩ := order_swap (k.format.read x) (k.format.read y)
  have h1' : (k.format.order x y == some .gt) = (k.format.order y x == some .lt) := h1
  have h2' : (k.format.order x y == some .eq) = (k.format.order y x == some .eq) := h2
  cases bo <;> simp [cmpN] at ho <;> obtain ⟨rfl, rfl, rfl⟩ := ho <;> simp only [Op.floatCmp, cmpC]
  · show Result.ok (Value.bool (k.format.order x y == some .eq)) w = _; simp
  · show Result.ok (Value.bool (k.format.order x y != some .eq)) w = _; simp [bne]
  · show Result.ok (Value.bool (k.format.order x y == some .lt)) w = _; simp
  · show Result.ok (Value.bool (k.format.order x y == some .lt || k.format.order x y == some .eq)) w = _; simp
  · show Result.ok (Value.bool (k.format.order x y == some .gt)) w = _; rw [h1']; simp
  · show Result.ok (Value.bool (k.format.order x y == some .gt || k.format.order x y == some .eq)) w = _; rw [h1', h2']; simp

end Go.Proofs.Ytconlkliclhbpaa.Sx
