/- The rules for floats hold. -/
import Derived.Test.YtconlkliclhbpaaSxNum6
namespace Go.Proofs.Ytconlkliclhbpaa.Sx
open Go Ieee

theorem rung2_mono {k : FloatKind} {d e : Nat} (h : d ≤ e) : rung2 k d ≤ rung2 k e := by
  cases k
  · exact Nat.mul_le_mul_right _ (by show d + 127 ≤ e + 127; omega)
  · exact Nat.mul_le_mul_right _ (by show d + 1023 ≤ e + 1023; omega)
theorem bdC_ok {k : FloatKind} {m : Nat} : ∀ {n e0 e : Nat}, bdC k m n e0 = some e → m ≤ rung2 k e ∧ e < e0 + n
  | 0, e0, e, h => by simp [bdC] at h
  | n + 1, e0, e, h => by
    unfold bdC at h
    split at h
    · rename_i hb
      cases h
      exact ⟨Nat.le_of_ble_eq_true hb, by omega⟩
    · obtain ⟨h1, h2⟩ := bdC_ok h
      have : Nat.add e0 1 = e0 + 1 := rfl
      exact ⟨h1, by omega⟩
theorem maxE_ge (k : FloatKind) : 127 ≤ maxE k := by cases k <;> decide
theorem bdCst_ok {k : FloatKind} {b e : Nat} (h : bdCst k b = some e) : b % sw k ≤ rung2 k e ∧ e ≤ maxE k := by
  obtain ⟨h1, h2⟩ := bdC_ok h
  have := maxE_ge k
  exact ⟨h1, by omega⟩
theorem geC_ok {k : FloatKind} {b : Nat} : ∀ {n e0 e : Nat}, geC k b n e0 = some e → rungL k e ≤ b ∧ e < e0 + n
  | 0, e0, e, h => by simp [geC] at h
  | n + 1, e0, e, h => by
    unfold geC at h
    split at h
    · rename_i hb
      cases h
      exact ⟨Nat.le_of_ble_eq_true hb, by omega⟩
    · obtain ⟨h1, h2⟩ := geC_ok h
      have : Nat.add e0 1 = e0 + 1 := rfl
      exact ⟨h1, by omega⟩
theorem cstGe_ok {k : FloatKind} {b e : Nat} (h : cstGe k b = some e) : b < sw k ∧ rungL k e ≤ b ∧ e < 64 := by
  unfold cstGe at h
  split at h
  · rename_i hb
    obtain ⟨h1, h2⟩ := geC_ok h
    exact ⟨by simpa using hb, h1, by omega⟩
  · cases h

theorem sr_le (k : FloatKind) (b : Nat) : sr k b ≤ (b % sw k : Nat) ∧ -((b % sw k : Nat) : Int) ≤ sr k b := by
  unfold sr; split <;> omega
theorem sr_pos {k : FloatKind} {b : Nat} (h : b < sw k) : sr k b = b := by
  unfold sr sgn
  rw [Nat.div_eq_of_lt h, Nat.mod_eq_of_lt h]; simp
theorem le_of_cmp {c : Nat} {k : FloatKind} {a b : Nat} (hc : c < 2) (h : cmpC c k.format a b = true) : sr k a ≤ sr k b := by
  obtain ⟨h1, h2⟩ := cmpC_true h
  rw [cmpC_sr h1 h2] at h
  match c, hc with
  | 0, _ => simp at h; omega
  | 1, _ => simpa using h
theorem cmp4_lt {c : Nat} (h : c < 3) (k : FloatKind) (x y : Option Nat) : cmp4 c k x y = cmpD c k x y := by
  match c, h with
  | 0, _ => rfl
  | 1, _ => rfl
  | 2, _ => rfl

section
variable {C : Cls} {st : ES} {ν : Val}

/-- the value is no NaN and what is said of its signed rung holds -/
def Is (k : FloatKind) (d : Option Nat) (p : Int → Prop) : Prop := ∃ b, d = some b ∧ isNaNb k b = false ∧ p (sr k b)

theorem ubF_ok (hg : Good C st ν) {k : FloatKind} {i e : Nat} {first : Bool} : ∀ {l : List Fact}, (∀ f ∈ l, f ∈ factsAt st i) → ubF st k first l = some e →
    e ≤ maxE k ∧ Is k (ν i) fun r => match first with | true => r ≤ rung2 k e | false => -(rung2 k e : Int) ≤ r
  | [], hl, h => by simp [ubF] at h
  | f :: r, hl, h => by
    unfold ubF at h
    split at h
    · exact ubF_ok hg (fun g hg' => hl g (List.mem_cons_of_mem _ hg')) h
    · rename_i hc
      split at h
      · rename_i b hb
        simp only [Bool.and_eq_true, beq_iff_eq, Nat.blt_eq] at hc
        obtain ⟨⟨⟨hv, hf⟩, hk⟩, hc⟩ := hc
        have hfact := (hg.fact i f (hl f List.mem_cons_self)).2.2
        rw [hv, hf, cmp4_lt (by omega), fkEq_eq hk, cstOf_ok hg hb] at hfact
        obtain ⟨h1, h2⟩ := bdCst_ok h
        refine ⟨h2, ?_⟩
        cases first
        · obtain ⟨x, y, e1, e2, n1, n2, hc'⟩ := cmpD_true hfact
          cases e1
          have := le_of_cmp hc hc'
          have := sr_le k b
          exact ⟨y, e2, n2, by show -(rung2 k e : Int) ≤ sr k y; omega⟩
        · obtain ⟨x, y, e1, e2, n1, n2, hc'⟩ := cmpD_true hfact
          cases e2
          have := le_of_cmp hc hc'
          have := sr_le k b
          exact ⟨x, e1, n1, by show sr k x ≤ (rung2 k e : Int); omega⟩
      · exact ubF_ok hg (fun g hg' => hl g (List.mem_cons_of_mem _ hg')) h
theorem lowF_ok (hg : Good C st ν) {k : FloatKind} {i e : Nat} : ∀ {l : List Fact}, (∀ f ∈ l, f ∈ factsAt st i) → lowF st k l = some e → Lo k (ν i) e
  | [], hl, h => by simp [lowF] at h
  | f :: r, hl, h => by
    unfold lowF at h
    split at h
    · exact lowF_ok hg (fun g hg' => hl g (List.mem_cons_of_mem _ hg')) h
    · rename_i hc
      split at h
      · rename_i b hb
        split at h
        · rename_i e' he
          cases h
          simp only [Bool.and_eq_true, Bool.not_eq_true', Nat.blt_eq] at hc
          obtain ⟨⟨⟨hv, hf⟩, hk⟩, hc⟩ := hc
          have hfact := (hg.fact i f (hl f List.mem_cons_self)).2.2
          rw [hv, hf, cmp4_lt (by omega), fkEq_eq hk, cstOf_ok hg hb] at hfact
          obtain ⟨h1, h2, h3⟩ := cstGe_ok he
          obtain ⟨x, y, e1, e2, n1, n2, hc'⟩ := cmpD_true hfact
          cases e1
          have hle := le_of_cmp hc hc'
          rw [sr_pos h1] at hle
          have hpos : 0 < rungL k e := by
            cases k
            · exact Nat.mul_pos (by show 0 < 127 - e; omega) (by decide)
            · exact Nat.mul_pos (by show 0 < 1023 - e; omega) (by decide)
          have hs : sgn k y = false := by
            cases hs : sgn k y with
            | false => rfl
            | true => unfold sr at hle; rw [hs, if_pos rfl] at hle; omega
          unfold sr at hle
          rw [hs] at hle
          simp at hle
          exact ⟨by omega, y, e2, hs, by omega, (nan_rung k y).1 n2⟩
        · exact lowF_ok hg (fun g hg' => hl g (List.mem_cons_of_mem _ hg')) h
      · exact lowF_ok hg (fun g hg' => hl g (List.mem_cons_of_mem _ hg')) h
theorem anyTrue_ok (hg : Good C st ν) {k : FloatKind} {i : Nat} : ∀ {l : List Fact}, (∀ f ∈ l, f ∈ factsAt st i) → anyTrue k l = true → Is k (ν i) fun _ => True
  | [], hl, h => by simp [anyTrue] at h
  | f :: r, hl, h => by
    unfold anyTrue at h
    split at h
    · rename_i hc
      simp only [Bool.and_eq_true, Nat.blt_eq] at hc
      obtain ⟨⟨hv, hk⟩, hc⟩ := hc
      have hfact := (hg.fact i f (hl f List.mem_cons_self)).2.2
      rw [hv, cmp4_lt hc, fkEq_eq hk] at hfact
      obtain ⟨x, y, e1, e2, n1, n2, _⟩ := cmpD_true hfact
      cases hf : f.first <;> rw [hf] at e1 e2
      · exact ⟨y, e2, n2, trivial⟩
      · exact ⟨x, e1, n1, trivial⟩
    · exact anyTrue_ok hg (fun g hg' => hl g (List.mem_cons_of_mem _ hg')) h
theorem isZeroF_ok (hg : Good C st ν) {k : FloatKind} {i : Nat} : ∀ {l : List Fact}, (∀ f ∈ l, f ∈ factsAt st i) → isZeroF st k l = true → ∃ y, ν i = some y ∧ y % sw k = 0
  | [], hl, h => by simp [isZeroF] at h
  | f :: r, hl, h => by
    unfold isZeroF at h
    split at h
    · exact isZeroF_ok hg (fun g hg' => hl g (List.mem_cons_of_mem _ hg')) h
    · rename_i hc
      split at h
      · rename_i hb
        simp only [Bool.and_eq_true, Nat.beq_eq] at hc
        obtain ⟨⟨⟨hv, hf⟩, hk⟩, hc⟩ := hc
        have hfact := (hg.fact i f (hl f List.mem_cons_self)).2.2
        rw [hv, hf, cmp4_lt (by omega), fkEq_eq hk, cstOf_ok hg hb, hc] at hfact
        obtain ⟨x, y, e1, e2, n1, n2, hc'⟩ := cmpD_true hfact
        cases e2
        rw [cmpC_sr n1 n2] at hc'
        have h0 : sr k 0 = 0 := by rw [sr_pos (by cases k <;> decide)]; rfl
        have hc' : sr k x = sr k 0 := by simpa using hc'
        rw [h0] at hc'
        refine ⟨x, e1, ?_⟩
        unfold sr at hc'
        split at hc' <;> omega
      · exact isZeroF_ok hg (fun g hg' => hl g (List.mem_cons_of_mem _ hg')) h

theorem finF_ok (hg : Good C st ν) {k : FloatKind} {i : Nat} (h : finF st k i = true) : Fi k (ν i) := by
  unfold finF at h
  split at h
  · cases h
  · rename_i s hs
    obtain ⟨_, _, _, hd⟩ := lookNd_ok hg hs
    obtain ⟨y, hy, _⟩ := isZeroF_ok hg (fun f hf => hf) h
    rw [hy] at hd
    exact fin_of_sub hd.symm
theorem fin0_ok (hg : Good C st ν) {k : FloatKind} {i : Nat} (h : fin0 st k i = true) : Fi k (ν i) := by
  unfold fin0 at h
  split at h
  · rename_i h1; exact finF_ok hg h1
  · split at h
    · rename_i j hj
      split at h
      · obtain ⟨b, hb, hf⟩ := finF_ok hg h
        obtain ⟨_, _, hd⟩ := node_ok hg hj
        rw [hb] at hd
        obtain ⟨w, M, P, N, Q, c, _, _, _, _, _, hw, _⟩ := widen_fin hf
        have hd' : convD .f32 .f64 b = some (ν i) := hd
        rw [c] at hd'
        have hd2 := Option.some.inj hd'
        exact ⟨w, hd2.symm, Nat.lt_of_le_of_lt hw (rung2_fin (k := .f64) (by decide))⟩
      · cases h
    · cases h
theorem rteZero_ok (hg : Good C st ν) {k : FloatKind} {i : Nat} (h : rteZero st k i = true) : Bd k (ν i) 0 := by
  unfold rteZero at h
  split at h
  · cases h
  · rename_i s hs
    obtain ⟨_, _, hd⟩ := lookNd_ok hg hs
    exact bd_rteZero hd (isZeroF_ok hg (fun f hf => hf) h)

theorem nonneg_ok (hg : Good C st ν) : ∀ (n : Nat) (k : FloatKind) (i : Nat), nonneg st n k i = true → NN k (ν i)
  | 0, k, i, h => by simp [nonneg] at h
  | n + 1, k, i, h => by
    unfold nonneg at h
    split at h
    · rename_i l a b e
      rw [Bool.and_eq_true] at h
      have := fkEq_eq h.1; subst this
      have := Nat.eq_of_beq_eq_true h.2; subst this
      obtain ⟨_, _, _, hd⟩ := node_ok hg e
      rw [hd]; exact nn_mul
    · rename_i l a b e
      simp only [Bool.and_eq_true] at h
      have := fkEq_eq h.1.1; subst this
      obtain ⟨_, _, _, hd⟩ := node_ok hg e
      rw [hd]; exact nn_add (nonneg_ok hg n _ _ h.1.2) (nonneg_ok hg n _ _ h.2)
    · rename_i l a e
      rw [Bool.and_eq_true] at h
      have := fkEq_eq h.1; subst this
      obtain ⟨_, _, hd⟩ := node_ok hg e
      exact nn_sqrt (nonneg_ok hg n _ _ h.2) hd
    · rename_i l a e
      have := fkEq_eq h; subst this
      obtain ⟨_, _, hd⟩ := node_ok hg e
      exact nn_abs hd
    · rename_i a e
      rw [Bool.and_eq_true] at h
      have := fkEq_eq h.1; subst this
      obtain ⟨_, _, hd⟩ := node_ok hg e
      have hn := nonneg_ok hg n _ _ h.2
      cases hx : ν a with
      | none =>
        rw [hx] at hd
        have hd2 := Option.some.inj hd
        intro b hb; rw [← hd2] at hb; cases hb
      | some x => rw [hx] at hd hn; exact nn_conv hn hd
    · rename_i a e
      rw [Bool.and_eq_true] at h
      have := fkEq_eq h.1; subst this
      obtain ⟨_, _, hd⟩ := node_ok hg e
      have hn := nonneg_ok hg n _ _ h.2
      cases hx : ν a with
      | none =>
        rw [hx] at hd
        have hd2 := Option.some.inj hd
        intro b hb; rw [← hd2] at hb; cases hb
      | some x => rw [hx] at hd hn; exact nn_conv hn hd
    · cases h

theorem isRootOf_ok (hg : Good C st ν) {x n : Nat} (h : isRootOf st x n = true) (hfx : Fi .f32 (ν x)) (hl : Lo .f32 (ν n) 20) : Bd .f32 (BO.div.den .f32 (ν x) (ν n)) 1 := by
  unfold isRootOf at h
  split at h
  · rename_i s es
    split at h
    · rename_i w ew
      split at h
      · rename_i d ed
        split at h
        · rename_i e zz edd
          split at h
          · rename_i xx yy z z' ee ez
            split at h
            · rename_i a a' b b' exx eyy
              simp only [Bool.and_eq_true, Bool.or_eq_true, Nat.beq_eq] at h
              obtain ⟨⟨⟨rfl, rfl⟩, rfl⟩, hx⟩ := h
              refine root_div (node_ok hg exx).2.2.2 (node_ok hg eyy).2.2.2 (node_ok hg ez).2.2.2 (node_ok hg ee).2.2.2 (node_ok hg edd).2.2.2 (node_ok hg ed).2.2 (node_ok hg ew).2.2 (node_ok hg es).2.2 ?_ hfx hl
              rcases hx with (rfl | rfl) | rfl
              · exact .inl rfl
              · exact .inr (.inl rfl)
              · exact .inr (.inr rfl)
            · cases h
          · cases h
        · cases h
      · cases h
    · cases h
  · cases h

theorem Bd.mono {k : FloatKind} {d : Option Nat} {e e' : Nat} (h : Bd k d e) (he : e ≤ e') (h' : e' ≤ maxE k) : Bd k d e' := by
  obtain ⟨_, b, hb, h1⟩ := h
  exact ⟨h', b, hb, Nat.le_trans h1 (rung2_mono he)⟩
theorem Bd.fi {k : FloatKind} {d : Option Nat} {e : Nat} (h : Bd k d e) : Fi k d := by
  obtain ⟨h', b, hb, h1⟩ := h
  exact ⟨b, hb, Nat.lt_of_le_of_lt h1 (rung2_fin h')⟩
theorem max2_some {x y : Option Nat} {e : Nat} (h : max2 x y = some e) : ∃ a b, x = some a ∧ y = some b ∧ e = max a b := by
  unfold max2 at h
  split at h
  · cases h; exact ⟨_, _, rfl, rfl, rfl⟩
  · cases h
theorem capE_some {k : FloatKind} {x e : Nat} (h : capE k x = some e) : e = x ∧ e ≤ maxE k := by
  unfold capE at h
  split at h
  · rename_i hb; cases h; exact ⟨rfl, Nat.le_of_ble_eq_true hb⟩
  · cases h
theorem div_fin {k : FloatKind} {x y : Option Nat} (h : Fi k (BO.div.den k x y)) : Fi k x := by
  obtain ⟨r, hr, hf⟩ := h
  match x, y, hr with
  | some a, some b, hr =>
    refine ⟨a, rfl, ?_⟩
    have hr' : k.format.div a b = some r := hr
    unfold Format.div at hr'
    rcases Nat.lt_trichotomy (a % sw k) k.format.infRung with h1 | h1 | h1
    · exact h1
    · exfalso
      rw [read_inf h1] at hr'
      cases hb : k.format.read b <;> rw [hb] at hr'
      · cases hr'; exact inf_fin k _ hf
      · cases hr'
      · cases hr'
    · exfalso
      obtain ⟨t, r', _⟩ := read_nan_lt h1
      rw [r'] at hr'; cases hr'
theorem bd_conv {k l : FloatKind} {x : Nat} {d : Option Nat} {e : Nat} (hx : Bd k (some x) e) (he : e ≤ maxE l) (h : convD k l x = some d) : Bd l d e := by
  obtain ⟨h', b, hb, h1⟩ := hx
  cases hb
  obtain ⟨M, P, r, rep, v⟩ := read_le h' h1
  have hle := wr_le (k := l) (s := (x / sw k % 2 == 1)) he v
  rw [conv_num r (Nat.lt_of_le_of_lt hle (rung2_fin he))] at h
  cases h
  exact ⟨he, _, rfl, hle⟩
theorem bd_convD {o : UO} {k l : FloatKind} {x d : Option Nat} {e : Nat} (hx : Bd k x e) (he : e ≤ maxE l) (ho : ∀ b, o.fn k b = convD k l b) (h : o.den k x = some d) : Bd l d e := by
  obtain ⟨h', b, rfl, h1⟩ := hx
  exact bd_conv ⟨h', b, rfl, h1⟩ he (by rw [← ho]; exact h)
theorem neg_mod (k : FloatKind) (b : Nat) : Op.negFloat k b % sw k = b % sw k := by
  have e : sw k = 2 ^ (k.format.exponentBits + k.format.fractionBits) := by cases k <;> rfl
  unfold Op.negFloat
  rw [e, Nat.xor_mod_two_pow]
  simp

theorem bd_ok (hg : Good C st ν) : ∀ (n : Nat) (k : FloatKind) (i e : Nat), bd st n k i = some e → Bd k (ν i) e
  | 0, k, i, e, h => by simp [bd] at h
  | n + 1, k, i, e, h => by
    unfold bd at h
    split at h
    · rename_i e' he
      cases h
      obtain ⟨a, b, h1, h2, rfl⟩ := max2_some he
      obtain ⟨a1, x, ax, an, al⟩ := ubF_ok hg (fun f hf => hf) h1
      obtain ⟨b1, y, bx, bn, bl⟩ := ubF_ok hg (fun f hf => hf) h2
      rw [ax] at bx; cases bx
      have al : sr k x ≤ (rung2 k a : Int) := al
      have bl : -(rung2 k b : Int) ≤ sr k x := bl
      have m1 := rung2_mono (k := k) (Nat.le_max_left a b)
      have m2 := rung2_mono (k := k) (Nat.le_max_right a b)
      refine ⟨Nat.max_le.2 ⟨a1, b1⟩, x, ax, ?_⟩
      unfold sr at al bl
      split at al <;> split at bl <;> omega
    · split at h
      · rename_i hz
        cases h
        exact rteZero_ok hg hz
      · split at h
        · rename_i l b en
          split at h
          · rename_i hk
            have := fkEq_eq hk; subst this
            obtain ⟨h1, h2⟩ := bdCst_ok h
            exact ⟨h2, b, (node_ok hg en).2, h1⟩
          · cases h
        · rename_i l a b en
          split at h
          · rename_i hk
            have := fkEq_eq hk; subst this
            split at h
            · rename_i x hm
              obtain ⟨u, v, h1, h2, rfl⟩ := max2_some hm
              obtain ⟨rfl, hc⟩ := capE_some h
              have hc' : max u v + 1 ≤ maxE k := hc
              rw [(node_ok hg en).2.2.2]
              exact bd_add ((bd_ok hg n _ _ _ h1).mono (Nat.le_max_left _ _) (by omega)) ((bd_ok hg n _ _ _ h2).mono (Nat.le_max_right _ _) (by omega)) hc'
            · cases h
          · cases h
        · rename_i l a b en
          split at h
          · rename_i hk
            have := fkEq_eq hk; subst this
            split at h
            · rename_i hr
              split at h
              · rename_i hf
                cases h
                obtain ⟨x, hx, hfx⟩ := fin0_ok hg hf
                split at hr
                · rename_i m c ec
                  rw [Bool.and_eq_true] at hr
                  have := fkEq_eq hr.2; subst this
                  have := Nat.eq_of_beq_eq_true hr.1; subst this
                  have hd := (node_ok hg ec).2.2
                  rw [(node_ok hg en).2.2.2]
                  rw [hx] at hd ⊢
                  exact bd_rte hfx hd
                · cases hr
              · cases h
            · split at h
              · rename_i x hm
                obtain ⟨u, v, h1, h2, rfl⟩ := max2_some hm
                obtain ⟨rfl, hc⟩ := capE_some h
                have hc' : max u v + 1 ≤ maxE k := hc
                rw [(node_ok hg en).2.2.2]
                exact bd_sub ((bd_ok hg n _ _ _ h1).mono (Nat.le_max_left _ _) (by omega)) ((bd_ok hg n _ _ _ h2).mono (Nat.le_max_right _ _) (by omega)) hc'
              · cases h
          · cases h
        · rename_i l a b en
          split at h
          · rename_i hk
            have := fkEq_eq hk; subst this
            split at h
            · rename_i u v h1 h2
              obtain ⟨rfl, hc⟩ := capE_some h
              rw [(node_ok hg en).2.2.2]
              exact bd_mul (bd_ok hg n _ _ _ h1) (bd_ok hg n _ _ _ h2) hc
            · cases h
          · cases h
        · rename_i l a b en
          split at h
          · rename_i hk
            have := fkEq_eq hk; subst this
            have hd := (node_ok hg en).2.2.2
            split at h
            · rename_i e' hlow
              have hlo := lowF_ok hg (fun f hf => hf) hlow
              split at h
              · rename_i hroot
                cases h
                split at hroot
                · simp only [Bool.and_eq_true, Bool.or_eq_true] at hroot
                  obtain ⟨⟨hr, h20⟩, hfin⟩ := hroot
                  have h20 := Nat.le_of_ble_eq_true h20
                  have hfx : Fi .f32 (ν a) := by
                    rcases hfin with hf | hf
                    · have := finF_ok hg hf
                      rw [hd] at this
                      exact div_fin this
                    · obtain ⟨u, hu⟩ := Option.isSome_iff_exists.1 hf
                      exact (bd_ok hg n _ _ _ hu).fi
                  have hlo20 : Lo .f32 (ν b) 20 := by
                    obtain ⟨q1, y, q2, q3, q4, q5⟩ := hlo
                    refine ⟨by omega, y, q2, q3, Nat.le_trans ?_ q4, q5⟩
                    exact Nat.mul_le_mul_right _ (by show 127 - 20 ≤ 127 - e'; omega)
                  rw [hd]
                  exact isRootOf_ok hg hr hfx hlo20
                · cases hroot
              · split at h
                · rename_i u v h1 h2
                  obtain ⟨rfl, hc⟩ := capE_some h
                  rw [hd]
                  exact bd_div (bd_ok hg n _ _ _ h1) (bd_ok hg n _ _ _ h2) hlo hc
                · cases h
            · split at h
              · rename_i c hcst
                split at h
                · rename_i u q v h1 h3 h2
                  obtain ⟨rfl, hc⟩ := capE_some h
                  obtain ⟨g1, g2, g3⟩ := cstGe_ok h1
                  obtain ⟨k1, k2⟩ := bdCst_ok h3
                  have hb := cstOf_ok hg hcst
                  rw [hd]
                  refine bd_div (bd_ok hg n _ _ _ h2) (g := q) ⟨k2, c, hb, k1⟩ ⟨by omega, c, hb, ?_, ?_, ?_⟩ hc
                  · rw [Nat.div_eq_of_lt g1]; rfl
                  · rw [Nat.mod_eq_of_lt g1]; exact g2
                  · exact Nat.le_of_lt (Nat.lt_of_le_of_lt k1 (rung2_fin k2))
                · cases h
              · cases h
          · cases h
        · rename_i l a en
          split at h
          · rename_i hk
            rw [Bool.and_eq_true] at hk
            have := fkEq_eq hk.1; subst this
            split at h
            · rename_i x hx
              cases h
              exact bd_sqrt (bd_ok hg n _ _ _ hx) (nonneg_ok hg _ _ _ hk.2) (node_ok hg en).2.2
            · cases h
          · cases h
        · rename_i a en
          split at h
          · have hx := bd_ok hg n _ _ _ h
            have := hx.1
            exact bd_convD (k := .f32) (l := .f64) hx (by have : e ≤ 127 := this; show e ≤ 1023; omega) (fun b => rfl) (node_ok hg en).2.2
          · cases h
        · rename_i a en
          split at h
          · split at h
            · rename_i x hx
              obtain ⟨rfl, hc⟩ := capE_some h
              exact bd_convD (k := .f64) (l := .f32) (bd_ok hg n _ _ _ hx) hc (fun b => rfl) (node_ok hg en).2.2
            · cases h
          · cases h
        · rename_i l a en
          split at h
          · rename_i hk
            have := fkEq_eq hk; subst this
            obtain ⟨h1, x, hx, h2⟩ := bd_ok hg n _ _ _ h
            have hd := (node_ok hg en).2.2
            rw [hx] at hd
            have hd' : some (some (Op.negFloat k x)) = some (ν i) := hd
            exact ⟨h1, _, (Option.some.inj hd').symm, by rw [neg_mod]; exact h2⟩
          · cases h
        · rename_i l a en
          split at h
          · rename_i hk
            have := fkEq_eq hk; subst this
            obtain ⟨h1, x, hx, h2⟩ := bd_ok hg n _ _ _ h
            have hd := (node_ok hg en).2.2
            rw [hx] at hd
            have hd' : some (some (x % k.format.signWeight)) = some (ν i) := hd
            exact ⟨h1, _, (Option.some.inj hd').symm, by rw [sw_eq, Nat.mod_mod]; exact h2⟩
          · cases h
        · cases h

theorem bdF_ok (hg : Good C st ν) {k : FloatKind} {i : Nat} (h : bdF st k i = true) : Fi k (ν i) := by
  unfold bdF at h
  split at h
  · rename_i e he; exact (bd_ok hg _ _ _ _ he).fi
  · cases h
theorem Fi.nn {k : FloatKind} {d : Option Nat} (h : Fi k d) : Is k d fun _ => True := by
  obtain ⟨b, hb, hf⟩ := h
  exact ⟨b, hb, (nan_rung k b).2 (Nat.le_of_lt hf), trivial⟩
theorem nonNaN_ok (hg : Good C st ν) {k : FloatKind} {i : Nat} (h : nonNaN st k i = true) : Is k (ν i) fun _ => True := by
  unfold nonNaN at h
  split at h
  · rename_i b hb
    exact ⟨b, dOf_ok hg hb, by simpa using h, trivial⟩
  · cases h
  · split at h
    · rename_i ha; exact anyTrue_ok hg (fun f hf => hf) ha
    · split at h
      · rename_i hf; exact (finF_ok hg hf).nn
      · exact (bdF_ok hg h).nn

theorem cmpD_false {c : Nat} {k : FloatKind} {x y : Option Nat} (h : ∀ a b, x = some a → y = some b → isNaNb k a = false → isNaNb k b = false → cmpC c k.format a b = false) : cmpD c k x y = false := by
  cases hc : cmpD c k x y with
  | false => rfl
  | true =>
    obtain ⟨a, b, e1, e2, n1, n2, h'⟩ := cmpD_true hc
    rw [h a b e1 e2 n1 n2] at h'; cases h'

theorem decSwap_ok (hg : Good C st ν) {k : FloatKind} {a b : Nat} {v : Bool} {c c' : Nat} (hc : (c = 0 ∧ c' = 1) ∨ (c = 1 ∧ c' = 0)) (h : decSwap c' k a b st = some v) : cmpD c k (ν a) (ν b) = v := by
  unfold decSwap at h
  split at h
  · rename_i hk
    cases h
    have hk := known_ok hg hk
    rw [cmp4_lt (by omega)] at hk
    obtain ⟨y, x, e1, e2, n1, n2, h'⟩ := cmpD_true hk
    refine cmpD_false fun p q ep eq np nq => ?_
    rw [e2] at ep; cases ep
    rw [e1] at eq; cases eq
    rw [cmpC_sr n1 n2] at h'
    rw [cmpC_sr n2 n1]
    rcases hc with ⟨rfl, rfl⟩ | ⟨rfl, rfl⟩
    · simp at h' ⊢; omega
    · simp at h' ⊢; omega
  · rename_i hk
    split at h
    · rename_i hn
      cases h
      rw [Bool.and_eq_true] at hn
      obtain ⟨x, hx, nx, _⟩ := nonNaN_ok hg hn.1
      obtain ⟨y, hy, ny, _⟩ := nonNaN_ok hg hn.2
      have hk := known_ok hg hk
      rw [cmp4_lt (by omega), hx, hy] at hk
      rw [hx, hy]
      have hk : cmpC c' k.format y x = false := hk
      show cmpC c k.format x y = true
      rw [cmpC_sr ny nx] at hk
      rw [cmpC_sr nx ny]
      rcases hc with ⟨rfl, rfl⟩ | ⟨rfl, rfl⟩
      · simp at hk ⊢; omega
      · simp at hk ⊢; omega
    · cases h
  · cases h

theorem decAbs_ok (hg : Good C st ν) {k : FloatKind} {a b : Nat} {v : Bool} (h : decAbs k a b st = some v) : cmpD 0 k (ν a) (ν b) = v := by
  unfold decAbs at h
  split at h
  · cases h
  · rename_i L hL
    have hL' := cstOf_ok hg hL
    split at h
    · rename_i x ex
      split at h
      · rename_i y ey
        split at h
        · rename_i e ee
          split at h
          · cases h
          · split at h
            · cases h
            · rename_i hpos
              rw [Bool.and_eq_true, Nat.blt_eq] at hpos
              obtain ⟨hp1, hp2⟩ := hpos
              have hLn := (cmpC_true hp1).2
              have hsL := sr_pos (k := .f32) hp2
              -- the size of e
              have habs : ∀ eb, ν e = some eb → ν a = some (eb % sw .f32) := by
                intro eb he
                have d1 := (node_ok hg ee).2.2
                rw [he] at d1
                have d2 := (node_ok hg ey).2.2
                have d3 := (node_ok hg ex).2.2
                have d1' : convD .f32 .f64 eb = some (ν y) := d1
                cases hy : ν y with
                | none =>
                  rw [hy] at d1'
                  unfold convD at d1'
                  split at d1' <;> cases d1'
                | some w =>
                  rw [hy] at d1' d2
                  have d2' : some (some (w % FloatKind.f64.format.signWeight)) = some (ν x) := d2
                  have d2'' := Option.some.inj d2'
                  rw [← d2''] at d3
                  have d3' : convD .f64 .f32 (w % sw .f64) = some (ν a) := by rw [← sw_eq]; exact d3
                  rw [abs_round d1'] at d3'
                  exact (Option.some.inj d3').symm
              have hmm : ∀ eb : Nat, isNaNb .f32 eb = false → isNaNb .f32 (eb % sw .f32) = false ∧ sr .f32 (eb % sw .f32) = (eb % sw .f32 : Nat) := by
                intro eb he
                have hlt : eb % sw .f32 < sw .f32 := Nat.mod_lt _ (by decide)
                refine ⟨?_, sr_pos hlt⟩
                rw [nan_rung] at he ⊢
                rw [Nat.mod_mod]; exact he
              -- if e is at least L either way
              have big : ∀ eb, ν e = some eb → isNaNb .f32 eb = false → (L : Int) ≤ (eb % sw .f32 : Nat) → cmpD 0 .f32 (ν a) (ν b) = false := by
                intro eb he hn hle
                rw [habs eb he, hL']
                show cmpC 0 _ _ _ = false
                rw [cmpC_sr (hmm eb hn).1 hLn, (hmm eb hn).2, hsL]
                simp; omega
              split at h
              · rename_i hk
                cases h
                have hk := known_ok hg hk
                rw [hL'] at hk
                obtain ⟨l, eb, e1, e2, n1, n2, h'⟩ := cmpD_true (c := 1) hk
                cases e1
                have := le_of_cmp (by omega) h'
                have := (sr_le .f32 eb).1
                exact big eb e2 n2 (by omega)
              · rename_i r hr
                split at h
                · cases h
                · rename_i nl hnl
                  have hnl' := (lookNd_ok hg hnl).2
                  have hneg : Op.negFloat .f32 L = L + sw .f32 := by
                    rw [negFloat_eq .f32 L (fltOk_of_lt (by rw [sw_eq]; omega)), sw_eq, if_pos hp2]
                  have hnl2 : ν nl = some (L + sw .f32) := by rw [← hneg]; exact hnl'
                  have hsw : sw .f32 = 2147483648 := rfl
                  have hsn : sr .f32 (L + sw .f32) = -(L : Int) ∧ isNaNb .f32 (L + sw .f32) = false := by
                    have hm : (L + sw .f32) % sw .f32 = L := by rw [Nat.add_mod_right, Nat.mod_eq_of_lt hp2]
                    constructor
                    · unfold sr sgn
                      rw [hm, Nat.add_div_right _ (by decide), Nat.div_eq_of_lt hp2]; simp
                    · rw [nan_rung, hm]
                      have := (nan_rung .f32 L).1 hLn
                      rwa [Nat.mod_eq_of_lt hp2] at this
                  split at h
                  · rename_i hk
                    cases h
                    have hk := known_ok hg hk
                    rw [hnl2] at hk
                    obtain ⟨eb, l, e1, e2, n1, n2, h'⟩ := cmpD_true (c := 1) hk
                    cases e2
                    have := le_of_cmp (by omega) h'
                    rw [hsn.1] at this
                    have := (sr_le .f32 eb).2
                    exact big eb e1 n1 (by omega)
                  · rename_i hk
                    split at h
                    · rename_i hk2
                      split at h
                      · rename_i hn
                        cases h
                        obtain ⟨eb, he, hen, _⟩ := nonNaN_ok hg hn
                        have hk := known_ok hg hk
                        have hk2 := known_ok hg hk2
                        rw [hnl2, he] at hk
                        rw [hL', he] at hk2
                        have hk : cmpC 1 _ eb (L + sw .f32) = false := hk
                        have hk2 : cmpC 1 _ L eb = false := hk2
                        rw [cmpC_sr hen hsn.2, hsn.1] at hk
                        rw [cmpC_sr hLn hen, hsL] at hk2
                        simp at hk hk2
                        rw [habs eb he, hL']
                        show cmpC 0 _ _ _ = true
                        rw [cmpC_sr (hmm eb hen).1 hLn, (hmm eb hen).2, hsL]
                        simp
                        unfold sr at hk hk2
                        split at hk <;> simp_all <;> omega
                      · cases h
                    · cases h
                  · cases h
        · cases h
      · cases h
    · cases h

theorem dec_ok (hg : Good C st ν) {c : Nat} {k : FloatKind} {a b : Nat} {v : Bool} (hc : c < 3) (h : dec c k a b st = some v) : cmpD c k (ν a) (ν b) = v := by
  unfold dec at h
  split at h
  · rename_i x y hx hy
    cases h
    rw [dOf_ok hg hx, dOf_ok hg hy]
  · rename_i hx _
    cases h
    rw [dOf_ok hg hx]; rfl
  · rename_i hy _
    cases h
    rw [dOf_ok hg hy]
    cases ν a <;> rfl
  · rename_i db _ _ _
    split at h
    · rename_i v' hk
      cases h
      have := known_ok hg hk
      rwa [cmp4_lt hc] at this
    · split at h
      · rename_i hab
        have := Nat.eq_of_beq_eq_true hab; subst this
        split at h
        · cases h
          refine cmpD_false fun p q ep eq np nq => ?_
          rw [ep] at eq; cases eq
          rw [cmpC_sr np np]; simp
        · rename_i hc0
          split at h
          · rename_i hn
            cases h
            obtain ⟨x, hx, nx, _⟩ := nonNaN_ok hg hn
            rw [hx]
            show cmpC c _ x x = true
            rw [cmpC_sr nx nx]
            match c, hc, hc0 with
            | 1, _, _ => simp
            | 2, _, _ => simp
          · cases h
      · split at h
        · split at h
          · rename_i v' hs
            cases h
            exact decSwap_ok hg (.inl ⟨rfl, rfl⟩) hs
          · exact decAbs_ok hg h
        · split at h
          · rename_i v' hs
            cases h
            exact decSwap_ok hg (.inr ⟨rfl, rfl⟩) hs
          · split at h
            · rename_i y hdb
              split at h
              · rename_i hn
                cases h
                rw [Bool.and_eq_true] at hn
                have hb := dOf_ok hg hdb
                have hnn := nonneg_ok hg _ _ _ hn.2
                refine cmpD_false fun p q ep eq np nq => ?_
                rw [hb] at eq; cases eq
                rw [ep] at hnn
                have h1 := hnn.sr
                have h2 : cmpC 0 k.format y 0 = true := hn.1
                obtain ⟨z1, z2⟩ := cmpC_true h2
                rw [cmpC_sr z1 z2, sr_pos (b := 0) (by cases k <;> decide)] at h2
                rw [cmpC_sr np nq]
                simp at h2 ⊢; omega
              · cases h
            · cases h
        · split at h
          · rename_i _ _ hdb
            split at h
            · rename_i l x y en
              split at h
              · rename_i hq
                cases h
                simp only [Bool.and_eq_true] at hq
                obtain ⟨⟨hk, hxy⟩, hf⟩ := hq
                have := fkEq_eq hk; subst this
                have := Nat.eq_of_beq_eq_true hxy; subst this
                obtain ⟨w, hw, hfin⟩ := bdF_ok hg hf
                rw [(node_ok hg en).2.2.2, hw, sub_self hfin, dOf_ok hg hdb]
                show cmpC 2 _ 0 0 = true
                have hz : isNaNb k 0 = false := by cases k <;> decide +kernel
                rw [cmpC_sr hz hz]; simp
              · cases h
            · cases h
          · cases h
        · cases h

theorem well_ok (hg : Good C st ν) {a : Nat} (h : wellNarrow st a = true) : ∃ r, UO.narrow.den .f64 (ν a) = some r := by
  have viaBd : (match bd st 64 .f64 a with | some e => Nat.ble e 127 | none => false) = true → ∃ r, UO.narrow.den .f64 (ν a) = some r := by
    intro h
    split at h
    · rename_i e he
      have hb := bd_ok hg _ _ _ _ he
      obtain ⟨h', b, hb', h1⟩ := hb
      obtain ⟨M, P, r, rep, v⟩ := read_le h' h1
      have hle := wr_le (k := .f32) (s := (b / sw .f64 % 2 == 1)) (e := e) (Nat.le_of_ble_eq_true h) v
      rw [hb']
      exact ⟨_, conv_num r (Nat.lt_of_le_of_lt hle (rung2_fin (Nat.le_of_ble_eq_true h)))⟩
    · cases h
  unfold wellNarrow at h
  split at h
  · rename_i b eb
    split at h
    · rename_i x ex
      have d1 := (node_ok hg ex).2.2
      have d2 := (node_ok hg eb).2.2
      cases hx : ν x with
      | none =>
        rw [hx] at d1
        have d1' := Option.some.inj d1
        rw [← d1'] at d2
        have d2' := Option.some.inj d2
        rw [← d2']
        exact ⟨none, rfl⟩
      | some xb =>
        rw [hx] at d1
        have d1' : convD .f32 .f64 xb = some (ν b) := d1
        rcases Nat.lt_trichotomy (xb % sw .f32) FloatKind.f32.format.infRung with h1 | h1 | h1
        · obtain ⟨w, M, P, N, Q, c, r1, rep1, r2, rep2, sg, hS, v1, v2⟩ := widen_fin h1
          rw [c] at d1'
          have hb := Option.some.inj d1'
          rw [← hb] at d2
          by_cases hn : NN .f64 (some w)
          · have hbd : Bd .f64 (some w) 128 := ⟨by decide, w, rfl, hS⟩
            obtain ⟨h', y, hy, h1⟩ := bd_sqrt hbd hn d2
            obtain ⟨M, P, r, rep, v⟩ := read_le h' h1
            have hle := wr_le (k := .f32) (s := (y / sw .f64 % 2 == 1)) (e := (128 + 1) / 2) (by decide) v
            rw [hy]
            exact ⟨_, conv_num r (Nat.lt_of_le_of_lt hle (rung2_fin (by decide)))⟩
          · -- a number below 0 has no root
            have hsg : sgn .f64 w = true ∧ w % sw .f64 ≠ 0 := by
              cases hs : sgn .f64 w with
              | false => exact absurd (fun b hb hs' => by cases hb; rw [hs] at hs'; cases hs') hn
              | true => exact ⟨rfl, fun h0 => hn (fun b hb _ => by cases hb; exact h0)⟩
            have hN : N ≠ 0 := by
              rintro rfl
              have := rep2.norm
              have hp := Nat.two_pow_pos FloatKind.f64.format.fractionBits
              have hQ : Q = FloatKind.f64.format.leastPlace := by rcases this with h1 | h1; omega; exact h1
              have := rep2.rung
              rw [hQ] at this
              simp at this
              exact hsg.2 this
            rw [← sg, hsg.1] at r2
            have d2' : some (FloatKind.f64.format.sqrt w) = some (ν a) := d2
            have : FloatKind.f64.format.sqrt w = none := by
              unfold Format.sqrt
              rw [r2]
              unfold Datum.root
              simp only [if_neg hN, if_true]
              rfl
            rw [this] at d2'
            rw [← Option.some.inj d2']
            exact ⟨none, rfl⟩
        · rw [conv_inf (read_inf h1)] at d1'
          rw [← Option.some.inj d1'] at d2
          have d2' : some (FloatKind.f64.format.sqrt (FloatKind.f64.format.word (sgn .f32 xb) FloatKind.f64.format.infRung)) = some (ν a) := d2
          have r : FloatKind.f64.format.read (FloatKind.f64.format.word (sgn .f32 xb) FloatKind.f64.format.infRung) = .infinity (sgn .f64 (FloatKind.f64.format.word (sgn .f32 xb) FloatKind.f64.format.infRung)) := read_inf (word_sgn (Nat.le_refl _)).2
          rw [(word_sgn (Nat.le_refl _)).1] at r
          unfold Format.sqrt at d2'
          rw [r] at d2'
          rw [← Option.some.inj d2']
          cases sgn .f32 xb
          · show ∃ r, convD .f64 .f32 (FloatKind.f64.format.word false FloatKind.f64.format.infRung) = some r
            exact ⟨_, conv_inf (read_inf (word_sgn (Nat.le_refl _)).2)⟩
          · exact ⟨none, rfl⟩
        · obtain ⟨t, r, t0, tl, e⟩ := read_nan_lt h1
          have tl' : t < 8388608 := tl
          rw [conv_nan r t0 (by show t < 4503599627370496; omega)] at d1'
          rw [← Option.some.inj d1'] at d2
          have d2' : some (FloatKind.f64.format.sqrt (FloatKind.f64.format.word (sgn .f32 xb) (FloatKind.f64.format.infRung + t))) = some (ν a) := d2
          unfold Format.sqrt at d2'
          rw [read_nan_word t0 (by show t < 4503599627370496; omega)] at d2'
          rw [← Option.some.inj d2']
          exact ⟨none, rfl⟩
    · exact viaBd h
  · rename_i b eb
    split at h
    · rename_i x ex
      have d1 := (node_ok hg ex).2.2
      have d2 := (node_ok hg eb).2.2
      cases hx : ν x with
      | none =>
        rw [hx] at d1
        have d1' := Option.some.inj d1
        rw [← d1'] at d2
        have d2' := Option.some.inj d2
        rw [← d2']
        exact ⟨none, rfl⟩
      | some xb =>
        rw [hx] at d1
        have d1' : convD .f32 .f64 xb = some (ν b) := d1
        cases hb : ν b with
        | none =>
          rw [hb] at d1'
          unfold convD at d1'
          split at d1' <;> cases d1'
        | some w =>
          rw [hb] at d1' d2
          have d2' : some (some (w % FloatKind.f64.format.signWeight)) = some (ν a) := d2
          rw [← Option.some.inj d2', sw_eq]
          exact ⟨_, abs_round d1'⟩
    · exact viaBd h
  · exact viaBd h
end

theorem rules : Rules where
  dec := fun hg hc h => dec_ok hg hc h
  nonNaN := fun hg h => by obtain ⟨b, hb, _⟩ := nonNaN_ok hg h; exact ⟨b, hb⟩
  half := half_eq
  wide := wide_all
  well := fun hg h => well_ok hg h
end Go.Proofs.Ytconlkliclhbpaa.Sx
