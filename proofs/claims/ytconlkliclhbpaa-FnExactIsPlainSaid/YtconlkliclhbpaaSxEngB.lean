/- The engine is sound: what it finds true of a tree is true of it. -/
import Derived.Test.YtconlkliclhbpaaSxEngA
namespace Go.Proofs.Ytconlkliclhbpaa.Sx
open Go

/-- what is asked of the rules for floats -/
structure Rules : Prop where
  dec : ∀ {C : Cls} {st : ES} {ν : Val} {c : Nat} {k : FloatKind} {a b : Nat} {v : Bool}, Good C st ν → c < 3 → dec c k a b st = some v → cmpD c k (ν a) (ν b) = v
  nonNaN : ∀ {C : Cls} {st : ES} {ν : Val} {k : FloatKind} {a : Nat}, Good C st ν → nonNaN st k a = true → ∃ b, ν a = some b
  half : ∀ (k : FloatKind) (d : Option Nat), BO.mul.den k (some (half k)) d = BO.div.den k d (some (two k))
  wide : ∀ d : Option Nat, ∃ r, UO.widen.den .f32 d = some r
  well : ∀ {C : Cls} {st : ES} {ν : Val} {a : Nat}, Good C st ν → wellNarrow st a = true → ∃ r, UO.narrow.den .f64 (ν a) = some r

section
variable {C : Cls} {G : Nat → List Sc → Option (List Sc)} {st : ES} {ν : Val}

theorem cmpOp_ok (R : Rules) (hg : Good C st ν) {c : Nat} (hc : c < 3) {k : FloatKind} {a b : Nat} (ha : a < st.nn) (hb : b < st.nn) {kk : Bool → ES → Out} (h : cmpOp c k a b st kk = .ok) :
    GotB C st ν (cmpD c k (ν a) (ν b)) kk := by
  unfold cmpOp at h
  split at h
  · rename_i v e
    rw [R.dec hg hc e]
    exact ⟨st, h, hg, rfl⟩
  · have := fork_ok hg ha hb h
    have e : cmp4 c k (ν a) (ν b) = cmpD c k (ν a) (ν b) := by
      match c, hc with
      | 0, _ => rfl
      | 1, _ => rfl
      | 2, _ => rfl
    rw [e] at this; exact this

theorem sameB_ok (hg : Good C st ν) {k : FloatKind} {a b : Nat} (ha : a < st.nn) (hb : b < st.nn) {kk : Bool → ES → Out} (h : sameB k a b st kk = .ok) :
    GotB C st ν (decide (ν a = ν b)) kk := by
  unfold sameB at h
  split at h
  · rename_i e
    have := Nat.eq_of_beq_eq_true e; subst this
    exact ⟨st, by simpa using h, hg, rfl⟩
  · split at h
    · rename_i x y e1 e2
      rw [dOf_ok hg e1, dOf_ok hg e2]
      exact ⟨st, h, hg, rfl⟩
    · split at h
      · rename_i v e
        have := known_ok hg e
        rw [show decide (ν a = ν b) = v from this]
        exact ⟨st, h, hg, rfl⟩
      · exact fork_ok hg ha hb h

theorem Got.of_intern (hg : Good C st ν) {x : Nd} {d : Option Nat} {kk : K1} (hn : ∀ k, x ≠ .inp k) (hx : NdOk st.nn ν x d) (h : intern x st kk = .ok) : Got C st ν d kk := intern_ok hg hn hx h

theorem mkBin_ok (R : Rules) (hg : Good C st ν) {o : BO} {k : FloatKind} {a b : Nat} (ha : a < st.nn) (hb : b < st.nn) {kk : K1} (h : mkBin o k a b st kk = .ok) : Got C st ν (o.den k (ν a) (ν b)) kk := by
  have main : ∀ {kk : K1}, intern (.bin o k a b) st kk = .ok → Got C st ν (o.den k (ν a) (ν b)) kk := fun h => intern_ok hg (x := .bin o k a b) (by simp) ⟨ha, hb, rfl⟩ h
  unfold mkBin at h
  split at h
  · rename_i x y e1 e2
    rw [dOf_ok hg e1, dOf_ok hg e2]
    exact mkD_ok hg h
  · rename_i e1 _
    rw [dOf_ok hg e1]
    exact mkD_ok hg h
  · rename_i e1 _ 
    rw [dOf_ok hg e1]
    have : o.den k (ν a) none = none := by cases ν a <;> rfl
    rw [this]
    exact mkD_ok hg h
  · rename_i y e2 _
    split at h
    · split at h
      · rename_i e3
        have := Nat.eq_of_beq_eq_true e3; subst this
        obtain ⟨i, st', ν', h1, g1, l1, i1, v1⟩ := intern_ok hg (x := .cst k (half k)) (by simp) rfl h
        obtain ⟨j, st2, ν2, h2, g2, l2, i2, v2⟩ := intern_ok g1 (x := .bin .mul k i a) (by simp) ⟨i1, Nat.lt_of_lt_of_le ha l1.nn, rfl⟩ h1
        refine ⟨j, st2, ν2, h2, g2, l1.trans l2, i2, ?_⟩
        rw [v2, v1, l1.eq a ha, dOf_ok hg e2, R.half]
      · exact main h
    · exact main h
  · exact main h

theorem mkUn_ok (R : Rules) (hg : Good C st ν) {o : UO} {k : FloatKind} {a : Nat} (ha : a < st.nn) {kk : K1} (h : mkUn o k a st kk = .ok) : ∃ d, o.den k (ν a) = some d ∧ Got C st ν d kk := by
  unfold mkUn at h
  split at h
  · rename_i d e
    rw [dOf_ok hg e]
    split at h
    · rename_i r er
      exact ⟨r, er, mkD_ok hg h⟩
    · cases h
  · have main : ∀ {o : UO} {k : FloatKind} {r : Option Nat}, o.den k (ν a) = some r → intern (.un o k a) st kk = .ok → ∃ d, o.den k (ν a) = some d ∧ Got C st ν d kk :=
      fun {o k r} hr h => ⟨_, hr, intern_ok hg (x := .un o k a) (by simp) ⟨ha, hr⟩ h⟩
    have tot : ∀ {o : UO} {k : FloatKind}, (∀ b, ∃ r, o.fn k b = some r) → ∃ r, o.den k (ν a) = some r := by
      intro o k hf
      cases ν a with
      | none => exact ⟨none, rfl⟩
      | some b => exact hf b
    split at h
    · split at h
      · split at h
        · rename_i e
          obtain ⟨r, hr⟩ := R.well hg e
          exact main hr h
        · cases h
      · cases h
    · split at h
      · obtain ⟨r, hr⟩ := R.wide (ν a)
        exact main hr h
      · cases h
    · rename_i hn hw
      cases o with
      | neg => obtain ⟨r, hr⟩ := tot (o := .neg) (k := k) fun b => ⟨_, rfl⟩; exact main hr h
      | widen => exact absurd rfl hw
      | narrow => exact absurd rfl hn
      | sqrt => obtain ⟨r, hr⟩ := tot (o := .sqrt) (k := k) fun b => ⟨_, rfl⟩; exact main hr h
      | rte => obtain ⟨r, hr⟩ := tot (o := .rte) (k := k) fun b => ⟨_, rfl⟩; exact main hr h
      | abs => obtain ⟨r, hr⟩ := tot (o := .abs) (k := k) fun b => ⟨_, rfl⟩; exact main hr h
end

/-! Environments -/
theorem svf {nn : Nat} {ν : Val} {k : FloatKind} {i : Nat} {d : Option Nat} (h : i < nn) (e : ν i = d) : SVRel nn ν (.f k i) (.f k d) := ⟨h, by rw [e]⟩
def EnvOk (nn : Nat) (ν : Val) (env : Tr SV) (xs : List Sc) : Prop := ∀ j v, env.get j = some v → ∃ x, xs[j]? = some x ∧ SVRel nn ν v x
theorem EnvOk.mono {nn nn' : Nat} {ν ν' : Val} (hn : nn ≤ nn') (he : ∀ i, i < nn → ν' i = ν i) {env : Tr SV} {xs : List Sc} (h : EnvOk nn ν env xs) : EnvOk nn' ν' env xs := by
  intro j v hv
  obtain ⟨x, hx, hr⟩ := h j v hv
  exact ⟨x, hx, hr.mono hn he⟩
theorem EnvOk.push {nn : Nat} {ν : Val} {env : Tr SV} {xs : List Sc} (h : EnvOk nn ν env xs) {v : SV} {x : Sc} (hv : SVRel nn ν v x) : EnvOk nn ν (env.set xs.length v) (xs ++ [x]) := by
  intro j w hw
  rw [Tr.get_set] at hw
  by_cases e : j = xs.length
  · subst e
    rw [if_pos rfl] at hw; cases hw
    exact ⟨x, by simp, hv⟩
  · rw [if_neg e] at hw
    obtain ⟨y, hy, hr⟩ := h j w hw
    refine ⟨y, ?_, hr⟩
    have := (List.getElem?_eq_some_iff.1 hy).1
    rw [List.getElem?_append_left this]; exact hy
theorem EnvOk.pushL {nn : Nat} {ν : Val} : ∀ {vs : List SV} {ys : List Sc} {env : Tr SV} {xs : List Sc}, EnvOk nn ν env xs → SVRels nn ν vs ys → EnvOk nn ν (pushL vs env xs.length) (xs ++ ys)
  | [], ys, env, xs, h, hv => by rw [show ys = [] from hv]; simpa [Sx.pushL] using h
  | v :: vs, _, env, xs, h, ⟨y, ys', e, h1, h2⟩ => by
    unfold Sx.pushL
    have := (h.push h1).pushL h2
    simp at this
    rw [e]; exact this
theorem EnvOk.nil {nn : Nat} {ν : Val} : EnvOk nn ν .nil [] := by intro j v h; simp [Tr.get] at h
theorem svR_ok {nn : Nat} {ν : Val} {env : Tr SV} {xs : List Sc} (h : EnvOk nn ν env xs) {r : Rf} {v : SV} (hv : svR env r = some v) : ∃ x, r.den xs = some x ∧ SVRel nn ν v x := by
  cases r with
  | v j => exact h j v hv
  | b x => simp [svR] at hv; subst hv; exact ⟨_, rfl, rfl⟩
  | i k n => simp [svR] at hv; subst hv; exact ⟨_, rfl, rfl⟩
theorem svL_ok {nn : Nat} {ν : Val} {env : Tr SV} {xs : List Sc} (h : EnvOk nn ν env xs) : ∀ {rs : List Rf} {vs : List SV}, svL env rs = some vs → ∃ ys, denL xs rs = some ys ∧ SVRels nn ν vs ys
  | [], vs, hv => by simp [svL] at hv; subst hv; exact ⟨[], rfl, rfl⟩
  | r :: rs, vs, hv => by
    unfold svL at hv
    split at hv
    · rename_i x e
      split at hv
      · rename_i ys e2
        cases hv
        obtain ⟨y, h1, h2⟩ := svR_ok h e
        obtain ⟨zs, h3, h4⟩ := svL_ok h e2
        exact ⟨y :: zs, by simp [denL, h1, h3], y, zs, rfl, h2, h4⟩
      · cases hv
    · cases hv
theorem getSV_ok {nn : Nat} {ν : Val} {env : Tr SV} {xs : List Sc} (h : EnvOk nn ν env xs) {k : FloatKind} {a i : Nat} (hv : getSV env k a = some i) : i < nn ∧ getF xs k a = some (ν i) := by
  unfold getSV at hv
  split at hv
  · rename_i l j e
    split at hv
    · rename_i e2
      cases hv
      obtain ⟨x, hx, h1, rfl⟩ := h a _ e
      refine ⟨h1, ?_⟩
      unfold getF
      rw [hx, fkEq_eq e2]; simp
    · cases hv
  · cases hv

def GotL (C : Cls) (st : ES) (ν : Val) (ys : List Sc) (kk : KL) : Prop :=
  ∃ ws st' ν', kk ws st' = .ok ∧ Good C st' ν' ∧ Le st ν st' ν' ∧ SVRels st'.nn ν' ws ys
def CallEOk (C : Cls) (G : Nat → List Sc → Option (List Sc)) (call : CallE) : Prop :=
  ∀ g vs st kk ν xs, call g vs st kk = .ok → Good C st ν → SVRels st.nn ν vs xs → ∃ ys, G g xs = some ys ∧ GotL C st ν ys kk

/-- tests with a number below 3 -/
def T.testsOk : T → Bool
  | .un _ _ _ t | .bin _ _ _ _ t | .cst _ _ t | .call _ _ _ t => t.testsOk
  | .tst c _ _ _ x y => Nat.blt c 3 && x.testsOk && y.testsOk
  | .tsb _ _ _ x y | .br _ x y | .sw _ _ x y => x.testsOk && y.testsOk
  | _ => true

theorem runT_ok {C : Cls} {G : Nat → List Sc → Option (List Sc)} (R : Rules) {call : CallE} (hcall : CallEOk C G call) : ∀ (t : T) {env : Tr SV} {st : ES} {kk : KL} {ν : Val} {xs : List Sc}, t.testsOk = true →
    runT call t env xs.length st kk = .ok → Good C st ν → EnvOk st.nn ν env xs → ∃ ys, t.den G xs = some ys ∧ GotL C st ν ys kk := by
  intro t
  induction t with
  | ret vs =>
    intro env st kk ν xs ht h hg he
    unfold runT at h
    split at h
    · rename_i l e
      obtain ⟨ys, h1, h2⟩ := svL_ok he e
      exact ⟨ys, h1, l, st, ν, h, hg, Le.refl _ _, h2⟩
    · cases h
  | un o k a t ih =>
    intro env st kk ν xs ht h hg he
    unfold runT at h
    split at h
    · rename_i i e
      obtain ⟨hi, hd⟩ := getSV_ok he e
      obtain ⟨d, h1, j, st', ν', h2, g2, l2, j2, v2⟩ := mkUn_ok R hg hi h
      have := ih (xs := xs ++ [.f (o.kind k) d]) (st := st') (ν := ν') ht (by simpa using h2) g2 ((he.mono l2.nn l2.eq).push (svf j2 v2))
      obtain ⟨ys, h3, ws, st3, ν3, h4, g4, l4, r4⟩ := this
      refine ⟨ys, ?_, ws, st3, ν3, h4, g4, l2.trans l4, r4⟩
      simp only [T.den, hd, h1]; exact h3
    · cases h
  | bin o k a b t ih =>
    intro env st kk ν xs ht h hg he
    unfold runT at h
    split at h
    · rename_i i e
      split at h
      · rename_i j e2
        obtain ⟨hi, hd⟩ := getSV_ok he e
        obtain ⟨hj, hd2⟩ := getSV_ok he e2
        obtain ⟨r, st', ν', h2, g2, l2, j2, v2⟩ := mkBin_ok R hg hi hj h
        have := ih (xs := xs ++ [.f k (o.den k (ν i) (ν j))]) (st := st') (ν := ν') ht (by simpa using h2) g2 ((he.mono l2.nn l2.eq).push (svf j2 v2))
        obtain ⟨ys, h3, ws, st3, ν3, h4, g4, l4, r4⟩ := this
        refine ⟨ys, ?_, ws, st3, ν3, h4, g4, l2.trans l4, r4⟩
        simp only [T.den, hd, hd2]; exact h3
      · cases h
    · cases h
  | cst k b t ih =>
    intro env st kk ν xs ht h hg he
    unfold runT at h
    obtain ⟨r, st', ν', h2, g2, l2, j2, v2⟩ := mkD_ok hg h
    have := ih (xs := xs ++ [.f k (canon k b)]) (st := st') (ν := ν') ht (by simpa using h2) g2 ((he.mono l2.nn l2.eq).push (svf j2 v2))
    obtain ⟨ys, h3, ws, st3, ν3, h4, g4, l4, r4⟩ := this
    exact ⟨ys, by simp only [T.den]; exact h3, ws, st3, ν3, h4, g4, l2.trans l4, r4⟩
  | tst c k a b x y ihx ihy =>
    intro env st kk ν xs ht h hg he
    simp only [T.testsOk, Bool.and_eq_true, Nat.blt_eq] at ht
    unfold runT at h
    split at h
    · rename_i i e
      split at h
      · rename_i j e2
        obtain ⟨hi, hd⟩ := getSV_ok he e
        obtain ⟨hj, hd2⟩ := getSV_ok he e2
        obtain ⟨st', h2, g2, n2⟩ := cmpOp_ok R hg ht.1.1 hi hj h
        have l2 : Le st ν st' ν := ⟨by omega, fun _ _ => rfl⟩
        cases hv : cmpD c k (ν i) (ν j) with
        | true =>
          rw [hv] at h2
          obtain ⟨ys, h3, ws, st3, ν3, h4, g4, l4, r4⟩ := ihx ht.1.2 h2 g2 (he.mono l2.nn l2.eq)
          exact ⟨ys, by simp only [T.den, hd, hd2, hv]; exact h3, ws, st3, ν3, h4, g4, l2.trans l4, r4⟩
        | false =>
          rw [hv] at h2
          obtain ⟨ys, h3, ws, st3, ν3, h4, g4, l4, r4⟩ := ihy ht.2 h2 g2 (he.mono l2.nn l2.eq)
          exact ⟨ys, by simp only [T.den, hd, hd2, hv]; exact h3, ws, st3, ν3, h4, g4, l2.trans l4, r4⟩
      · cases h
    · cases h
  | tsb k a b x y ihx ihy =>
    intro env st kk ν xs ht h hg he
    simp only [T.testsOk, Bool.and_eq_true] at ht
    unfold runT at h
    split at h
    · rename_i i e
      split at h
      · rename_i j e2
        split at h
        · rename_i e3
          rw [Bool.and_eq_true] at e3
          obtain ⟨hi, hd⟩ := getSV_ok he e
          obtain ⟨hj, hd2⟩ := getSV_ok he e2
          obtain ⟨p, hp⟩ := R.nonNaN hg e3.1
          obtain ⟨q, hq⟩ := R.nonNaN hg e3.2
          obtain ⟨st', h2, g2, n2⟩ := sameB_ok hg hi hj h
          have l2 : Le st ν st' ν := ⟨by omega, fun _ _ => rfl⟩
          have hv : decide (ν i = ν j) = Nat.beq p q := by
            rw [hp, hq]
            by_cases e : p = q
            · subst e; simp
            · rw [decide_eq_false (by simpa using e)]
              cases e2 : Nat.beq p q with
              | true => exact absurd (Nat.eq_of_beq_eq_true e2) e
              | false => rfl
          rw [hv] at h2
          rw [hp] at hd
          rw [hq] at hd2
          cases hv : Nat.beq p q with
          | true =>
            rw [hv] at h2
            obtain ⟨ys, h3, ws, st3, ν3, h4, g4, l4, r4⟩ := ihx ht.1 h2 g2 (he.mono l2.nn l2.eq)
            exact ⟨ys, by simp only [T.den, hd, hd2, hv]; exact h3, ws, st3, ν3, h4, g4, l2.trans l4, r4⟩
          | false =>
            rw [hv] at h2
            obtain ⟨ys, h3, ws, st3, ν3, h4, g4, l4, r4⟩ := ihy ht.2 h2 g2 (he.mono l2.nn l2.eq)
            exact ⟨ys, by simp only [T.den, hd, hd2, hv]; exact h3, ws, st3, ν3, h4, g4, l2.trans l4, r4⟩
        · cases h
      · cases h
    · cases h
  | call g args m t ih =>
    intro env st kk ν xs ht h hg he
    unfold runT at h
    split at h
    · rename_i vs e
      obtain ⟨ys, h1, h2⟩ := svL_ok he e
      obtain ⟨rs, h3, ws, st', ν', h4, g4, l4, r4⟩ := hcall _ _ _ _ _ _ h hg h2
      dsimp only at h4
      split at h4
      · rename_i hm
        have hm := Nat.eq_of_beq_eq_true hm
        have hlen : rs.length = m := by rw [r4.len, hm]
        have := ih (xs := xs ++ rs) (env := pushL ws env xs.length) (st := st') (ν := ν') ht (by rw [List.length_append, hlen]; exact h4) g4 ((he.mono l4.nn l4.eq).pushL r4)
        obtain ⟨ys', h5, ws', st3, ν3, h6, g6, l6, r6⟩ := this
        exact ⟨ys', by simp only [T.den, h1, h3, hlen, if_pos]; exact h5, ws', st3, ν3, h6, g6, l4.trans l6, r6⟩
      · cases h4
    · cases h
  | br r x y ihx ihy =>
    intro env st kk ν xs ht h hg he
    simp only [T.testsOk, Bool.and_eq_true] at ht
    unfold runT at h
    split at h
    · rename_i e
      obtain ⟨v, hv, hr⟩ := he _ _ e
      rw [show v = .b true from hr] at hv
      obtain ⟨ys, h3, h4⟩ := ihx ht.1 h hg he
      exact ⟨ys, by simp only [T.den, hv]; exact h3, h4⟩
    · rename_i e
      obtain ⟨v, hv, hr⟩ := he _ _ e
      rw [show v = .b false from hr] at hv
      obtain ⟨ys, h3, h4⟩ := ihy ht.2 h hg he
      exact ⟨ys, by simp only [T.den, hv]; exact h3, h4⟩
    · cases h
  | sw r n x y ihx ihy =>
    intro env st kk ν xs ht h hg he
    simp only [T.testsOk, Bool.and_eq_true] at ht
    unfold runT at h
    split at h
    · rename_i k l e
      obtain ⟨v, hv, hr⟩ := he _ _ e
      rw [show v = .i k l from hr] at hv
      split at h
      · rename_i e2
        have e2 := of_decide_eq_true e2
        obtain ⟨ys, h3, h4⟩ := ihx ht.1 h hg he
        exact ⟨ys, by simp only [T.den, hv, e2, if_pos]; exact h3, h4⟩
      · rename_i e2
        have e2 := of_decide_eq_false e2
        obtain ⟨ys, h3, h4⟩ := ihy ht.2 h hg he
        exact ⟨ys, by simp only [T.den, hv, e2, if_neg, not_false_eq_true]; exact h3, h4⟩
    · cases h
  | bad w =>
    intro env st kk ν xs ht h hg he
    simp [runT] at h

/-! Calls -/
def SVRelR (q : RK) (x : Sc) : Prop := match q with
  | .f k => ∃ d, x = .f k d
  | .b => ∃ v, x = .b v
  | .i k may => ∃ n, x = .i k n ∧ n ∈ may
def ResFit : List RK → List Sc → Prop
  | [], xs => xs = []
  | q :: qs, xs => ∃ x xs', xs = x :: xs' ∧ SVRelR q x ∧ ResFit qs xs'
def ArgFit : List FloatKind → List Sc → Prop
  | [], xs => xs = []
  | k :: ks, xs => ∃ d xs', xs = .f k d :: xs' ∧ ArgFit ks xs'
structure ModeOk (C : Cls) (G : Nat → List Sc → Option (List Sc)) (g : Nat) (m : Mode) : Prop where
  inl : ∀ t, m = .inl t → t.testsOk = true ∧ ∀ xs ys, t.den G xs = some ys → G g xs = some ys
  opq : ∀ c as rs same, m = .opq c as rs same → ∀ xs, ArgFit as xs → ∃ ys, G g xs = some ys ∧ C c xs = some ys ∧ ResFit rs ys ∧ (same = true → ∀ x, xs = [x, x] → ys = [.b true])

theorem forkI_ok {k : IntKind} {kk : SV → Out} : ∀ {may : List Int}, forkI k kk may = .ok → ∀ n ∈ may, kk (.i k n) = .ok
  | [], _, n, hn => by simp at hn
  | m :: ms, h, n, hn => by
    unfold forkI at h
    split at h
    · rename_i e
      rcases List.mem_cons.1 hn with rfl | hn
      · exact e
      · exact forkI_ok h n hn
    · rename_i hne; exact absurd h hne

theorem freshL_ok {C : Cls} : ∀ {rs : List RK} {st : ES} {ν : Val} {kk : KL} {ys : List Sc}, freshL rs st kk = .ok → Good C st ν → ResFit rs ys →
    ∃ ws st' ν', kk ws st' = .ok ∧ Good C st' ν' ∧ Le st ν st' ν' ∧ SVRels st'.nn ν' ws ys
  | [], st, ν, kk, ys, h, hg, hf => ⟨[], st, ν, h, hg, Le.refl _ _, hf⟩
  | .f k :: rs, st, ν, kk, _, h, hg, ⟨x, ys, rfl, ⟨d, hx⟩, h2⟩ => by
    subst hx
    unfold freshL at h
    obtain ⟨ws, st', ν', h3, g3, l3, r3⟩ := freshL_ok h (hg.addInp k d) h2
    have l1 : Le st ν (addInp k st) (upd ν st.nn d) := ⟨Nat.le_add_right _ _, upd_lt⟩
    have lt : st.nn < (addInp k st).nn := Nat.lt_succ_self _
    refine ⟨_, st', ν', h3, g3, l1.trans l3, _, ys, rfl, ⟨Nat.lt_of_lt_of_le lt l3.nn, ?_⟩, r3⟩
    rw [l3.eq _ lt, upd_at]
  | .b :: rs, st, ν, kk, _, h, hg, ⟨x, ys, rfl, ⟨v, hx⟩, h2⟩ => by
    subst hx
    unfold freshL at h
    split at h
    · rename_i e
      cases v with
      | true =>
        obtain ⟨ws, st', ν', h3, g3, l3, r3⟩ := freshL_ok e hg h2
        exact ⟨_, st', ν', h3, g3, l3, _, ys, rfl, rfl, r3⟩
      | false =>
        obtain ⟨ws, st', ν', h3, g3, l3, r3⟩ := freshL_ok h hg h2
        exact ⟨_, st', ν', h3, g3, l3, _, ys, rfl, rfl, r3⟩
    · rename_i hne; exact absurd h hne
  | .i k may :: rs, st, ν, kk, _, h, hg, ⟨x, ys, rfl, ⟨n, hx, hn⟩, h2⟩ => by
    subst hx
    unfold freshL at h
    obtain ⟨ws, st', ν', h3, g3, l3, r3⟩ := freshL_ok (forkI_ok h n hn) hg h2
    exact ⟨_, st', ν', h3, g3, l3, _, ys, rfl, rfl, r3⟩

theorem svEq_eq {x y : SV} (h : svEq x y = true) : x = y := by
  cases x <;> cases y <;> unfold svEq at h <;> (try (cases h; done))
  · dsimp only at h
    split at h
    · rename_i e; rw [fkEq_eq h, Nat.eq_of_beq_eq_true e]
    · cases h
  · dsimp only at h; rw [eq_of_beq h]
  · dsimp only at h
    split at h
    · rename_i e; rw [of_decide_eq_true e, of_decide_eq_true h]
    · cases h
theorem svEqL_eq : ∀ {xs ys : List SV}, svEqL xs ys = true → xs = ys
  | [], [], _ => rfl
  | [], _ :: _, h => by simp [svEqL] at h
  | _ :: _, [], h => by simp [svEqL] at h
  | x :: xs, y :: ys, h => by
    unfold svEqL at h
    split at h
    · rename_i e; rw [svEq_eq e, svEqL_eq h]
    · cases h
theorem lookM_ok {c : Nat} {vs ws : List SV} : ∀ {l : List (Nat × List SV × List SV)}, lookM c vs l = some ws → (c, vs, ws) ∈ l
  | [], h => by simp [lookM] at h
  | (d, us, rs) :: r, h => by
    unfold lookM at h
    split at h
    · rename_i e
      split at h
      · rename_i e2
        cases h
        rw [Nat.eq_of_beq_eq_true e, svEqL_eq e2]
        exact List.mem_cons_self
      · exact List.mem_cons_of_mem _ (lookM_ok h)
    · exact List.mem_cons_of_mem _ (lookM_ok h)
theorem kindsOk_ok {nn : Nat} {ν : Val} : ∀ {ks : List FloatKind} {vs : List SV} {xs : List Sc}, kindsOk ks vs = true → SVRels nn ν vs xs → ArgFit ks xs
  | [], [], xs, h, hv => hv
  | [], _ :: _, xs, h, hv => by simp [kindsOk] at h
  | k :: ks, [], xs, h, hv => by simp [kindsOk] at h
  | k :: ks, .f l i :: vs, _, h, ⟨x, xs', rfl, h1, h2⟩ => by
    unfold kindsOk at h
    split at h
    · rename_i e
      have := fkEq_eq e; subst this
      exact ⟨ν i, xs', by rw [h1.2], kindsOk_ok h h2⟩
    · cases h
  | k :: ks, .b _ :: vs, xs, h, hv => by simp [kindsOk] at h
  | k :: ks, .i _ _ :: vs, xs, h, hv => by simp [kindsOk] at h

theorem callE_ok {C : Cls} {G : Nat → List Sc → Option (List Sc)} (R : Rules) {md : Nat → Mode} (hmd : ∀ g, ModeOk C G g (md g)) : ∀ n, CallEOk C G (callE md n) := by
  intro n
  induction n with
  | zero => intro g vs st kk ν xs h; simp [callE] at h
  | succ n ih =>
    intro g vs st kk ν xs h hg hv
    unfold callE at h
    split at h
    · rename_i t e
      obtain ⟨ht, hd⟩ := (hmd g).inl t e
      rw [← hv.len] at h
      obtain ⟨ys, h1, h2⟩ := runT_ok R ih t (xs := xs) ht h hg (by have := (EnvOk.nil (nn := st.nn) (ν := ν)).pushL hv; simpa using this)
      exact ⟨ys, hd _ _ h1, h2⟩
    · rename_i c as rs same e
      split at h
      · cases h
      · rename_i hk
        obtain ⟨ys, h1, hc, h2, h3⟩ := (hmd g).opq c as rs same e xs (kindsOk_ok hk hv)
        refine ⟨ys, h1, ?_⟩
        split at h
        · rename_i hs
          rw [Bool.and_eq_true] at hs
          have : ∃ x, xs = [x, x] := by
            match vs, hs.2, hv with
            | [a, b], hs2, ⟨x, xs', e1, r1, y, ys', e2, r2, e3⟩ =>
              have := svEq_eq (x := a) (y := b) hs2
              subst this
              rw [show ys' = [] from e3] at e2
              exact ⟨x, by rw [e1, e2, r1.uniq r2]⟩
          obtain ⟨x, hx⟩ := this
          rw [h3 hs.1 x hx]
          exact ⟨_, st, ν, h, hg, Le.refl _ _, _, [], rfl, rfl, rfl⟩
        · split at h
          · rename_i ws hm
            obtain ⟨xs', ys', r1, r2, r3⟩ := hg.memo _ _ _ (lookM_ok hm)
            have := r1.uniq hv; subst this
            rw [hc] at r3; cases r3
            exact ⟨ws, st, ν, h, hg, Le.refl _ _, r2⟩
          · obtain ⟨ws, st', ν', h4, g4, l4, r4⟩ := freshL_ok h hg h2
            refine ⟨ws, _, ν', h4, ⟨g4.node, g4.tab, g4.fact, ?_⟩, ⟨l4.nn, l4.eq⟩, r4⟩
            intro c' vs' ws' hm
            rcases List.mem_cons.1 hm with hm | hm
            · cases hm
              exact ⟨xs, ys, hv.mono l4.nn l4.eq, r4, hc⟩
            · exact g4.memo _ _ _ hm
theorem good0 (C : Cls) (ν : Val) : Good C st0 ν := by
  refine ⟨fun i nd h => ?_, fun h p hp => ?_, fun i f hf => ?_, fun c vs ws hm => ?_⟩
  · simp [st0, Tr.get] at h
  · simp [bucket, st0, Tr.get] at hp
  · simp [factsAt, st0, Tr.get] at hf
  · simp [st0] at hm
theorem inps_ok {C : Cls} : ∀ {ks : List FloatKind} {st : ES} {ν : Val} {kk : KL} {xs : List Sc}, inps ks st kk = .ok → Good C st ν → ArgFit ks xs →
    ∃ vs st' ν', kk vs st' = .ok ∧ Good C st' ν' ∧ Le st ν st' ν' ∧ SVRels st'.nn ν' vs xs
  | [], st, ν, kk, xs, h, hg, hf => ⟨[], st, ν, h, hg, Le.refl _ _, hf⟩
  | k :: ks, st, ν, kk, _, h, hg, ⟨d, xs, rfl, h2⟩ => by
    unfold inps at h
    obtain ⟨vs, st', ν', h3, g3, l3, r3⟩ := inps_ok h (hg.addInp k d) h2
    have l1 : Le st ν (addInp k st) (upd ν st.nn d) := ⟨Nat.le_add_right _ _, upd_lt⟩
    have lt : st.nn < (addInp k st).nn := Nat.lt_succ_self _
    refine ⟨_, st', ν', h3, g3, l1.trans l3, _, xs, rfl, ⟨Nat.lt_of_lt_of_le lt l3.nn, ?_⟩, r3⟩
    rw [l3.eq _ lt, upd_at]

section
variable {C : Cls} {G : Nat → List Sc → Option (List Sc)} {md : Nat → Mode}

theorem chkLaw_ok (R : Rules) (hmd : ∀ g, ModeOk C G g (md g)) {as : List FloatKind} {t : T} (ht : t.testsOk = true) (h : chkLaw md as t = .ok) (xs : List Sc) (hx : ArgFit as xs) : t.den G xs = some [.b true] := by
  unfold chkLaw at h
  obtain ⟨vs, st, ν, h1, g1, l1, r1⟩ := inps_ok h (good0 C fun _ => none) hx
  rw [← r1.len] at h1
  obtain ⟨ys, h2, ws, st', ν', h3, g3, l3, r3⟩ := runT_ok R (callE_ok R hmd 100) t ht h1 g1 (by have := (EnvOk.nil (nn := st.nn) (ν := ν)).pushL r1; simpa using this)
  unfold isTrue at h3
  split at h3
  · obtain ⟨x, xs', rfl, r4, r5⟩ := r3
    rw [h2, show x = .b true from r4, show xs' = [] from r5]
  · cases h3

theorem rkOk_ok {nn : Nat} {ν : Val} : ∀ {rs : List RK} {vs : List SV} {xs : List Sc}, rkOk rs vs = true → SVRels nn ν vs xs → ResFit rs xs
  | [], [], xs, h, hv => hv
  | [], _ :: _, xs, h, hv => by simp [rkOk] at h
  | q :: rs, [], xs, h, hv => by cases q <;> simp [rkOk] at h
  | .f k :: rs, .f l i :: vs, _, h, ⟨x, xs', rfl, h1, h2⟩ => by
    simp only [rkOk, Bool.and_eq_true] at h
    have := fkEq_eq h.1; subst this
    exact ⟨x, xs', rfl, ⟨ν i, h1.2⟩, rkOk_ok h.2 h2⟩
  | .b :: rs, .b v :: vs, _, h, ⟨x, xs', rfl, h1, h2⟩ => by
    simp only [rkOk] at h
    exact ⟨x, xs', rfl, ⟨v, h1⟩, rkOk_ok h h2⟩
  | .i k may :: rs, .i l n :: vs, _, h, ⟨x, xs', rfl, h1, h2⟩ => by
    simp only [rkOk, Bool.and_eq_true, decide_eq_true_eq] at h
    obtain ⟨⟨rfl, hn⟩, h⟩ := h
    exact ⟨x, xs', rfl, ⟨n, h1, by simpa using hn⟩, rkOk_ok h h2⟩
  | .f k :: rs, .b _ :: vs, _, h, _ => by simp [rkOk] at h
  | .f k :: rs, .i _ _ :: vs, _, h, _ => by simp [rkOk] at h
  | .b :: rs, .f _ _ :: vs, _, h, _ => by simp [rkOk] at h
  | .b :: rs, .i _ _ :: vs, _, h, _ => by simp [rkOk] at h
  | .i _ _ :: rs, .f _ _ :: vs, _, h, _ => by simp [rkOk] at h
  | .i _ _ :: rs, .b _ :: vs, _, h, _ => by simp [rkOk] at h

theorem chkRes_ok (R : Rules) (hmd : ∀ g, ModeOk C G g (md g)) {as : List FloatKind} {rs : List RK} {t : T} (ht : t.testsOk = true) (h : chkRes md as rs t = .ok) (xs : List Sc) (hx : ArgFit as xs) : ∃ ys, t.den G xs = some ys ∧ ResFit rs ys := by
  unfold chkRes at h
  obtain ⟨vs, st, ν, h1, g1, l1, r1⟩ := inps_ok h (good0 C fun _ => none) hx
  rw [← r1.len] at h1
  obtain ⟨ys, h2, ws, st', ν', h3, g3, l3, r3⟩ := runT_ok R (callE_ok R hmd 100) t ht h1 g1 (by have := (EnvOk.nil (nn := st.nn) (ν := ν)).pushL r1; simpa using this)
  dsimp only at h3
  split at h3
  · rename_i e
    exact ⟨ys, h2, rkOk_ok e r3⟩
  · cases h3

theorem chkSame_ok (R : Rules) (hmd : ∀ g, ModeOk C G g (md g)) {as : List FloatKind} {rs : List RK} {t u : T} (ht : t.testsOk = true) (hu : u.testsOk = true) (h : chkSame md as rs t u = .ok) (xs : List Sc) (hx : ArgFit as xs) :
    ∃ ys, t.den G xs = some ys ∧ u.den G xs = some ys ∧ ResFit rs ys := by
  unfold chkSame at h
  obtain ⟨vs, st, ν, h1, g1, l1, r1⟩ := inps_ok h (good0 C fun _ => none) hx
  rw [← r1.len] at h1
  obtain ⟨ys, h2, ws, st', ν', h3, g3, l3, r3⟩ := runT_ok R (callE_ok R hmd 100) t ht h1 g1 (by have := (EnvOk.nil (nn := st.nn) (ν := ν)).pushL r1; simpa using this)
  have r1' := r1.mono l3.nn l3.eq
  dsimp only at h3
  obtain ⟨zs, h4, us, st2, ν2, h5, g5, l5, r5⟩ := runT_ok R (callE_ok R hmd 100) u hu h3 g3 (by have := (EnvOk.nil (nn := st'.nn) (ν := ν')).pushL r1'; simpa using this)
  dsimp only at h5
  split at h5
  · rename_i e
    rw [Bool.and_eq_true] at e
    have := svEqL_eq e.1; subst this
    have := (r3.mono l5.nn l5.eq).uniq r5; subst this
    exact ⟨ys, h2, h4, rkOk_ok e.2 r3⟩
  · cases h5

theorem chkRefl_ok (R : Rules) (hmd : ∀ g, ModeOk C G g (md g)) {k : FloatKind} {t : T} (ht : t.testsOk = true) (h : chkRefl md k t = .ok) (d : Option Nat) : t.den G [.f k d, .f k d] = some [.b true] := by
  unfold chkRefl at h
  obtain ⟨vs, st, ν, h1, g1, l1, r1⟩ := inps_ok h (good0 C fun _ => none) (xs := [.f k d]) ⟨d, [], rfl, rfl⟩
  have r2 : SVRels st.nn ν (vs ++ vs) [.f k d, .f k d] := by
    match vs, r1 with
    | [v], ⟨x, xs', e, q1, q2⟩ =>
      cases e
      exact ⟨_, _, rfl, q1, _, _, rfl, q1, rfl⟩
    | [], q => cases q
    | v :: w :: vs, ⟨x, xs', e, q1, y, ys, e2, q2⟩ => cases e; cases e2
  obtain ⟨ys, h2, ws, st', ν', h3, g3, l3, r3⟩ := runT_ok R (callE_ok R hmd 100) t (xs := [.f k d, .f k d]) ht h1 g1 (by have := (EnvOk.nil (nn := st.nn) (ν := ν)).pushL r2; simpa using this)
  unfold isTrue at h3
  split at h3
  · obtain ⟨x, xs', rfl, r4, r5⟩ := r3
    rw [h2, show x = .b true from r4, show xs' = [] from r5]
  · cases h3
end
end Go.Proofs.Ytconlkliclhbpaa.Sx
