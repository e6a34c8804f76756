/- Unary float operations, conversions, and the library functions without a body. -/
import Derived.Test.YtconlkliclhbpaaSxFl
namespace Go.Proofs.Ytconlkliclhbpaa.Sx
open Go

theorem negFloat_eq (k : FloatKind) (b : Nat) (h : fltOk k b = true) :
    Op.negFloat k b = if b < k.format.signWeight then b + k.format.signWeight else b - k.format.signWeight := by
  have hx : ∀ n b : Nat, b < 2 ^ (n + 1) → b ^^^ 2 ^ n = if b < 2 ^ n then b + 2 ^ n else b - 2 ^ n := by
    intro n b hb
    have key : ∀ x, x < 2 ^ n → x ^^^ 2 ^ n = x + 2 ^ n := by
      intro x hx
      have h1 : x ||| 2 ^ n = x + 2 ^ n := by
        rw [Nat.or_comm, Nat.add_comm]
        have := Nat.two_pow_add_eq_or_of_lt (i := n) (b := x) hx 1
        simpa using this.symm
      rw [← h1]
      apply Nat.eq_of_testBit_eq
      intro i
      simp only [Nat.testBit_xor, Nat.testBit_or, Nat.testBit_two_pow]
      by_cases e : n = i
      · subst e; simp [Nat.testBit_lt_two_pow hx]
      · simp [e]
    by_cases hlt : b < 2 ^ n
    · rw [if_pos hlt]; exact key b hlt
    · rw [if_neg hlt]
      have hb' : b - 2 ^ n < 2 ^ n := by rw [Nat.pow_succ] at hb; omega
      have e : b = (b - 2 ^ n) ^^^ 2 ^ n := by rw [key _ hb']; omega
      calc b ^^^ 2 ^ n = ((b - 2 ^ n) ^^^ 2 ^ n) ^^^ 2 ^ n := by rw [← e]
        _ = b - 2 ^ n := by rw [Nat.xor_assoc, Nat.xor_self, Nat.xor_zero]
  cases k
  · exact hx 31 b (by simpa [fltOk, Nat.blt_eq] using h)
  · exact hx 63 b (by simpa [fltOk, Nat.blt_eq] using h)

theorem lt_of_fltOk {k : FloatKind} {b : Nat} (h : fltOk k b = true) : b < 2 * k.format.signWeight := by
  cases k <;> simpa [fltOk, Nat.blt_eq, FloatKind.format, Ieee.single, Ieee.double, Ieee.Format.signWeight] using h
theorem fltOk_of_lt {k : FloatKind} {b : Nat} (h : b < 2 * k.format.signWeight) : fltOk k b = true := by
  cases k <;> simpa [fltOk, Nat.blt_eq, FloatKind.format, Ieee.single, Ieee.double, Ieee.Format.signWeight] using h

theorem neg_ok (k : FloatKind) (b : Nat) (h : fltOk k b = true) : fltOk k (Op.negFloat k b) = true ∧ isNaNb k (Op.negFloat k b) = isNaNb k b := by
  rw [negFloat_eq k b h]
  have hb := lt_of_fltOk h
  refine ⟨fltOk_of_lt ?_, ?_⟩
  · split <;> omega
  · rw [nan_iff, nan_iff]
    have : (if b < k.format.signWeight then b + k.format.signWeight else b - k.format.signWeight) % k.format.signWeight = b % k.format.signWeight := by
      split
      · exact Nat.add_mod_right _ _
      · rw [← Nat.mod_eq_sub_mod (by omega)]
    rw [this]

theorem den_neg {k : FloatKind} {b : Nat} {d : Option Nat} (h : FRel k b d) : ∃ r, UO.neg.den k d = some r ∧ FRel k (Op.negFloat k b) r := by
  cases d with
  | none =>
    refine ⟨none, rfl, frel_nan (neg_ok k b h.1).1 ?_⟩
    rw [(neg_ok k b h.1).2]; exact h.none
  | some x =>
    obtain ⟨rfl, hn⟩ := h.some
    refine ⟨some (Op.negFloat k b), rfl, frel_of_ok ⟨(neg_ok k b h.1).1, ?_⟩⟩
    rw [(neg_ok k b h.1).2]; exact hn

theorem abs_ok (b : Nat) : fltOk .f64 (b % 2 ^ 63) = true ∧ isNaNb .f64 (b % 2 ^ 63) = isNaNb .f64 b := by
  refine ⟨?_, ?_⟩
  · simp only [fltOk, Nat.blt_eq]; omega
  · rw [nan_iff, nan_iff]
    show decide (_ < b % 2 ^ 63 % 9223372036854775808) = decide (_ < b % 9223372036854775808)
    congr 2; omega

theorem den_abs {b : Nat} {d : Option Nat} (h : FRel .f64 b d) : ∃ r, UO.abs.den .f64 d = some r ∧ FRel .f64 (b % 2 ^ 63) r := by
  cases d with
  | none =>
    refine ⟨none, rfl, frel_nan (abs_ok b).1 ?_⟩
    rw [(abs_ok b).2]; exact h.none
  | some x =>
    obtain ⟨rfl, hn⟩ := h.some
    refine ⟨some (b % 2 ^ 63), rfl, frel_of_ok ⟨(abs_ok b).1, ?_⟩⟩
    rw [(abs_ok b).2]; exact hn

theorem decode_ok {k : FloatKind} {b : Nat} (h : isNaNb k b = false) : good (k.decode b) := by
  unfold isNaNb at h
  unfold good FloatKind.decode
  cases e : k.format.read b <;> simp [e] at h <;> rfl

/-- a conversion to another format, where it is told -/
theorem run_conv (P : Program) (k l : FloatKind) (hkl : k ≠ l) (b : Nat) (d : Option Nat) (h : FRel k b d) (o : UO) (ho : ∀ x, o.fn k x = convD k l x) (r : Option Nat) (hr : o.den k d = some r) (w : World) :
    ∃ b' w', (Conv.floatToFloat k b l).run P w = .ok (.float l b') w' ∧ FRel l b' r ∧ Drew w w' := by
  unfold Conv.floatToFloat
  rw [if_neg hkl]
  cases d with
  | none =>
    cases hr
    obtain ⟨s, t, e⟩ := read_nan h.none
    have e' : k.decode b = .nan s t := e
    rw [e']
    exact ⟨_, _, rfl, frel_nan (cut_conv l b _).1 (cut_conv l b _).2, _, rfl⟩
  | some x =>
    obtain ⟨rfl, hn⟩ := h.some
    have hr' : convD k l b = some r := by rw [← ho]; exact hr
    have hg := decode_ok hn
    unfold convD at hr'
    have hw := write_ok l (k.decode b) hg
    cases e : k.decode b with
    | nan s t => rw [e] at hg; simp [good, Ieee.Datum.isNaN] at hg
    | infinity s =>
      rw [e] at hr' hw
      simp [Ieee.Datum.isInfinity] at hr'
      subst hr'
      exact ⟨_, w, rfl, frel_of_ok hw, Drew.refl w⟩
    | number s m p =>
      rw [e] at hr' hw
      cases hi : (l.decode (l.encode (.number s m p))).isInfinity with
      | true => rw [hi] at hr'; simp [Ieee.Datum.isInfinity] at hr'
      | false =>
        rw [hi] at hr'; simp at hr'; subst hr'
        refine ⟨l.encode (.number s m p), w, ?_, frel_of_ok hw, Drew.refl w⟩
        simp only [hi]; rfl

theorem run_sqrt (P : Program) (b : Nat) (d : Option Nat) (h : FRel .f64 b d) (w : World) :
    ∃ b' r w', (Extern.MathSqrt.sqrt #[.float .f64 b]).run P w = .ok (.float .f64 b') w' ∧ UO.sqrt.den .f64 d = some r ∧ FRel .f64 b' r ∧ Drew w w' := by
  have hres : (Extern.MathSqrt.sqrt #[.float .f64 b]).run P w = (match FloatKind.f64.format.sqrt b with | some r => Result.ok (Value.float .f64 r) w | none => .ok (.float .f64 ((Question.nanBits .f64 b b).cut (w.tape w.drawn (.nanBits .f64 b b)))) { w with drawn := w.drawn + 1 }) := by
    have hm : Extern.MathSqrt.sqrt #[.float .f64 b] = (match FloatKind.f64.format.sqrt b with
      | some r => pure (.float .f64 r)
      | none => do pure (.float .f64 (← choose (.nanBits .f64 b b)))) := rfl
    rw [hm]
    cases FloatKind.f64.format.sqrt b <;> rfl
  rw [hres]
  have hn : isNaNb .f64 b = true → FloatKind.f64.format.sqrt b = none := by
    intro hh; obtain ⟨s, t, e⟩ := read_nan hh
    simp only [Ieee.Format.sqrt, e]; rfl
  have hd : UO.sqrt.den .f64 d = some (FloatKind.f64.format.sqrt b) := by
    cases d with
    | none => rw [hn h.none]; rfl
    | some x => rw [h.some.1]; rfl
  cases e : FloatKind.f64.format.sqrt b with
  | some r =>
    refine ⟨r, some r, w, rfl, by rw [hd, e], frel_of_ok ?_, Drew.refl w⟩
    simp only [Ieee.Format.sqrt, Option.map_eq_some_iff] at e
    obtain ⟨q, hq, rfl⟩ := e
    exact write_ok .f64 q (root_good hq)
  | none => exact ⟨_, none, _, rfl, by rw [hd, e], frel_nan (cut_nan .f64 b b _).1 (cut_nan .f64 b b _).2, _, rfl⟩

theorem quiet_nan (s : Bool) (t : Nat) (ht : t < 2 ^ 52) : fltOk .f64 (FloatKind.f64.encode (.nan s (FloatKind.f64.format.quiet t))) = true ∧ isNaNb .f64 (FloatKind.f64.encode (.nan s (FloatKind.f64.format.quiet t))) = true := by
  have hq : 2 ^ 51 ≤ FloatKind.f64.format.quiet t ∧ FloatKind.f64.format.quiet t < 2 ^ 52 := by
    show 2 ^ 51 ≤ t ||| 2 ^ 51 ∧ t ||| 2 ^ 51 < 2 ^ 52
    exact ⟨Nat.right_le_or, Nat.or_lt_two_pow ht (by decide)⟩
  generalize FloatKind.f64.format.quiet t = q at hq
  show fltOk .f64 (FloatKind.f64.format.word s (9218868437227405312 + q % 4503599627370496)) = true ∧ isNaNb .f64 (FloatKind.f64.format.word s (9218868437227405312 + q % 4503599627370496)) = true
  rw [Nat.mod_eq_of_lt (show q < 4503599627370496 by omega), nan_iff]
  simp only [fltOk, Nat.blt_eq, decide_eq_true_eq]
  show FloatKind.f64.format.word s (9218868437227405312 + q) < 18446744073709551616 ∧ 9218868437227405312 < FloatKind.f64.format.word s (9218868437227405312 + q) % 9223372036854775808
  unfold Ieee.Format.word
  have : FloatKind.f64.format.signWeight = 9223372036854775808 := by decide
  rw [this]
  cases s <;> simp only [Bool.false_eq_true, if_false, if_true] <;> constructor <;> omega

theorem nan_frac {b : Nat} {s : Bool} {t : Nat} (h : FloatKind.f64.decode b = .nan s t) : t < 2 ^ 52 := by
  unfold FloatKind.decode Ieee.Format.read at h
  have : FloatKind.f64.format.signWeight = 9223372036854775808 := by decide
  have h2 : FloatKind.f64.format.infRung = 9218868437227405312 := by decide
  have hm : b % FloatKind.f64.format.signWeight < 9223372036854775808 := by rw [this]; exact Nat.mod_lt _ (by decide)
  dsimp only at h
  split at h
  · cases h
  · split at h
    · cases h
    · split at h
      · cases h
      · cases h; rw [h2]; omega

theorem run_rte (P : Program) (b : Nat) (d : Option Nat) (h : FRel .f64 b d) (w : World) :
    ∃ b' r w', (Extern.MathFloor.toIntegral "math.RoundToEven" .even #[.float .f64 b]).run P w = .ok (.float .f64 b') w' ∧ UO.rte.den .f64 d = some r ∧ FRel .f64 b' r ∧ Drew w w' := by
  have hrun : ∀ dd, dd = FloatKind.f64.decode b → (Extern.MathFloor.toIntegral "math.RoundToEven" .even #[.float .f64 b]).run P w = ((match dd with
        | .nan s t => if FloatKind.f64.format.quiet t = t then pure (.float .f64 b) else do
            let kept ← choose (.extern "math.Floor,Ceil,Trunc,RoundToEven.signallingNaN kept" 2)
            pure (.float .f64 (if kept == 1 then b else FloatKind.f64.encode (.nan s (FloatKind.f64.format.quiet t))))
        | d => pure (.float .f64 (FloatKind.f64.encode (d.integral .even))) : Sem Value)).run P w := by
    intro dd e; subst e; rfl
  cases d with
  | none =>
    obtain ⟨s, t, e⟩ := read_nan h.none
    have e' : FloatKind.f64.decode b = .nan s t := e
    rw [hrun _ e'.symm]
    dsimp only
    by_cases hq : FloatKind.f64.format.quiet t = t
    · rw [if_pos hq]; exact ⟨b, none, w, rfl, rfl, h, Drew.refl w⟩
    · rw [if_neg hq]
      have hqn := quiet_nan s t (nan_frac e')
      have hall : ∀ n : Nat, FRel .f64 (if (n == 1) = true then b else FloatKind.f64.encode (.nan s (FloatKind.f64.format.quiet t))) none := by
        intro n
        cases (n == 1)
        · exact frel_nan hqn.1 hqn.2
        · exact h
      exact ⟨_, none, _, rfl, rfl, hall _, _, rfl⟩
  | some x =>
    obtain ⟨rfl, hn⟩ := h.some
    have hg := decode_ok hn
    have hg' : good ((FloatKind.f64.decode b).integral .even) := by
      cases e : FloatKind.f64.decode b with
      | nan s t => rw [e] at hg; simp [good, Ieee.Datum.isNaN] at hg
      | _ => rfl
    refine ⟨_, some _, w, ?_, rfl, frel_of_ok (write_ok .f64 _ hg'), Drew.refl w⟩
    rw [hrun _ rfl]
    cases e : FloatKind.f64.decode b with
    | nan s t => rw [e] at hg; simp [good, Ieee.Datum.isNaN] at hg
    | _ => rfl

theorem run_andNot (P : Program) (b : Nat) (w : World) : (Op.intBits .andNot .u64 (b : Nat) 9223372036854775808).run P w = .ok (.int .u64 ((b % 2 ^ 63 : Nat) : Int)) w := by
  have hk : (BitVec.ofInt 64 (b : Int) &&& ~~~ BitVec.ofInt 64 9223372036854775808).toNat = b % 2 ^ 63 := by
    rw [show (BitVec.ofInt 64 (b : Int)) = BitVec.ofNat 64 b from by simp]
    rw [show (~~~ BitVec.ofInt 64 9223372036854775808 : BitVec 64) = BitVec.ofNat 64 (2 ^ 63 - 1) from by decide]
    rw [BitVec.toNat_and, BitVec.toNat_ofNat, BitVec.toNat_ofNat]
    rw [show (2 ^ 63 - 1) % 2 ^ 64 = 2 ^ 63 - 1 from by decide, Nat.and_two_pow_sub_one_eq_mod]
    omega
  show Result.ok (Value.int .u64 (IntKind.u64.wrap ((BitVec.ofInt 64 (b : Int) &&& ~~~ BitVec.ofInt 64 9223372036854775808).toNat : Nat))) w = _
  rw [hk]
  congr 2
  simp [IntKind.wrap, IntKind.signed, IntKind.bits]
  omega

end Go.Proofs.Ytconlkliclhbpaa.Sx
