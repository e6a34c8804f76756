/- A region that draws its order: any order. -/
import Derived.Test.YtconlkliclhbpaaSxDraw2
namespace Go.Proofs.Ytconlkliclhbpaa.Sx
open Go

section
variable {P : Program} {G : Gs} {rs : List Sc} {ro N : Nat} {ops : Array Oper} {pt : Nat → Pt}

abbrev In (D : Array Bool) (i : Nat) : Prop := D.getD i false = true

/-- what holds when just the operations D have been done, in whatever order -/
structure AInv (P : Program) (ro N : Nat) (ops : Array Oper) (pt : Nat → Pt) (a0 : Act) (w0 : World) (θ0 : Th) (D : Array Bool) (a : Act) (w : World) (θ : Th) : Prop where
  sz : D.size = ops.size
  closed : ∀ (i k : Nat), In D i → ((Region.before ops).getD i 0).testBit k = true → In D k
  tm : ∀ t : Nat, (∃ (i : Nat) (o : Oper), In D i ∧ ops[i]? = some o ∧ o.dst = some t ∧ (∀ (k : Nat) (p : Oper), In D k → ops[k]? = some p → p.dst = some t → k ≤ i) ∧ Rel (pt (i + 1)).env θ (pt i).av (a.tmps.getD t undef)) ∨
    ((∀ (i : Nat) (o : Oper), In D i → ops[i]? = some o → o.dst ≠ some t) ∧ Rel (pt 0).env θ (look (pt 0).tm t) (a.tmps.getD t undef))
  mem : ∀ m, m ≤ ops.size → ∀ id cs, findB id (pt m).st.heap = some cs → (∀ k, Own pt ops.size k id → In D k) → (∀ s, StAt ops pt s → In D s → s < m) → (∀ s, StAt ops pt s → s < m → In D s ∨ ∃ k, Own pt ops.size k id ∧ s < k) → BRel (pt m).env θ ro w id cs
  inj : Inj θ ro w
  names : ∀ i x, θ i = some x → θ0 i = some x ∨ ∃ k, In D k ∧ Own pt ops.size k i
  stp : Stp θ0 θ (pt 0).st.next (pt ops.size).st.next (pt 0).st.wlo w0 w
  size : N ≤ a.tmps.size
  defers : a.defers = a0.defers

theorem Stp.then {θ1 θ2 θ3 : Th} {c0 cn wlo x y wl : Nat} {w1 w2 w3 : World} (h : Stp θ1 θ2 c0 cn wlo w1 w2) (k : Stp θ2 θ3 x y wl w2 w3) (h1 : c0 ≤ x) (h2 : y ≤ cn) (h3 : wlo ≤ wl) : Stp θ1 θ3 c0 cn wlo w1 w3 := by
  refine ⟨h.ext.trans k.ext, ?_, ?_, k.os.trans h.os, k.tape.trans h.tape, k.output.trans h.output, Nat.le_trans h.size k.size, ?_⟩
  · intro i r b h3 hn
    cases e : θ2 i with
    | none =>
      obtain ⟨a1, a2, a3, a4⟩ := k.new i r b h3 e
      have := h.size
      exact ⟨by omega, by omega, by omega, a4⟩
    | some z =>
      have := k.ext i z e
      rw [h3] at this; cases this
      obtain ⟨a1, a2, a3, a4⟩ := h.new i r b e hn
      have := k.size
      exact ⟨a1, a2, a3, by omega⟩
  · intro i j r b b' hi hj h3 h3'
    cases e : θ2 i with
    | none =>
      cases e' : θ2 j with
      | none => exact k.inj i j r b b' e e' h3 h3'
      | some z =>
        have := k.ext j z e'; rw [h3'] at this; cases this
        have p := k.new i r b h3 e
        have q := h.new j r b' e' hj
        omega
    | some z =>
      have := k.ext i z e; rw [h3] at this; cases this
      cases e' : θ2 j with
      | none =>
        have p := k.new j r b' h3' e'
        have q := h.new i r b e hi
        omega
      | some z =>
        have := k.ext j z e'; rw [h3'] at this; cases this
        exact h.inj i j r b b' hi hj e e'
  · intro r hr hno
    rw [k.block r (Nat.lt_of_lt_of_le hr h.size) ?_, h.block r hr hno]
    intro i b hw hl h2'
    cases e : θ1 i with
    | none =>
      have q := h.new i r b h2' e
      omega
    | some z =>
      have := h.ext i z e; rw [h2'] at this; cases this
      exact hno i b (by omega) (by omega) e

variable {a0 : Act} {w0 : World} {θ0 : Th} {D : Array Bool} {a : Act} {w : World} {θ : Th}

theorem In.lt {i : Nat} (h : In D i) : i < D.size := by
  rcases Nat.lt_or_ge i D.size with q | q
  · exact q
  · simp [In, Array.getD_eq_getD_getElem?, Array.getElem?_eq_none q] at h
theorem in_set {i k : Nat} (hi : i < D.size) : In (D.setIfInBounds i true) k ↔ k = i ∨ In D k := by
  simp only [In, Array.getD_eq_getD_getElem?, Array.getElem?_setIfInBounds]
  by_cases e : i = k
  · subst e; simp [hi]
  · rw [if_neg e]
    constructor
    · exact .inr
    · rintro (rfl | h)
      · exact absurd rfl e
      · exact h

/-- two operations that the check holds apart, seen from D -/
theorem AInv.cmp (tc : Tc P ro N ops pt) (h : AInv P ro N ops pt a0 w0 θ0 D a w θ) {i j : Nat} {o p : Oper} (ho : ops[i]? = some o) (hp : ops[j]? = some p) (hne : i ≠ j) (hiD : ¬ In D i)
    (hbef : ∀ k, ((Region.before ops).getD i 0).testBit k = true → In D k)
    (hc : (isStore o.op && looksAtMemory p.op) = true ∨ (isStore p.op && looksAtMemory o.op) = true ∨ (∃ d, o.dst = some d ∧ d ∈ namesOf ops p) ∨ (∃ d, p.dst = some d ∧ d ∈ namesOf ops o)) :
    (j < i ∧ In D j) ∨ (i < j ∧ ¬ In D j) := by
  rcases Nat.lt_or_ge j i with hlt | hge
  · left
    refine ⟨hlt, ?_⟩
    rcases draw_cmp tc.ok ho hp hlt with hb | ⟨c1, c2, c3, c4⟩
    · exact hbef j hb
    · rcases hc with hc | hc | ⟨d, hd, hm⟩ | ⟨d, hd, hm⟩
      · rw [c1] at hc; cases hc
      · rw [c2] at hc; cases hc
      · exact absurd hm (c3 d hd)
      · exact absurd hm (c4 d hd)
  · right
    have hlt : i < j := by omega
    refine ⟨hlt, fun hj => hiD ?_⟩
    rcases draw_cmp tc.ok hp ho hlt with hb | ⟨c1, c2, c3, c4⟩
    · exact h.closed j i hj hb
    · rcases hc with hc | hc | ⟨d, hd, hm⟩ | ⟨d, hd, hm⟩
      · rw [c2] at hc; cases hc
      · rw [c1] at hc; cases hc
      · exact absurd hm (c4 d hd)
      · exact absurd hm (c3 d hd)

/-- a temporary that operation i names, where i is ready -/
theorem AInv.tmp (tc : Tc P ro N ops pt) (h : AInv P ro N ops pt a0 w0 θ0 D a w θ) {i : Nat} {o : Oper} (ho : ops[i]? = some o) (hiD : ¬ In D i)
    (hbef : ∀ k, ((Region.before ops).getD i 0).testBit k = true → In D k) {t : Nat} (ht : t ∈ namesOf ops o) : Rel (pt i).env θ (look (pt i).tm t) (a.tmps.getD t undef) := by
  have hi : i < ops.size := (Array.getElem?_eq_some_iff.1 ho).1
  have hcmp : ∀ (k : Nat) (p : Oper), ops[k]? = some p → p.dst = some t → k ≠ i → (k < i ∧ In D k) ∨ (i < k ∧ ¬ In D k) := fun k p hp hd hne =>
    h.cmp tc ho hp (fun e => hne e.symm) hiD hbef (.inr (.inr (.inr ⟨t, hd, ht⟩)))
  rcases tc.look_tm t (i := i) (by omega) with ⟨k, p, k1, k2, k3, k4, k5⟩ | ⟨k1, k2⟩
  · have hkD : In D k := by
      rcases hcmp k p k2 k3 (by omega) with q | q
      · exact q.2
      · omega
    rcases h.tm t with ⟨i', o', a1, a2, a3, a4, a5⟩ | ⟨a1, a2⟩
    · have hle := a4 k p hkD k2 k3
      have hi' : i' < i := by
        have hne : i' ≠ i := by rintro rfl; exact hiD a1
        rcases hcmp i' o' a2 a3 hne with q | q
        · exact q.1
        · exact absurd a1 q.2
      have : i' = k := by
        by_cases e : i' = k
        · exact e
        · exact absurd a3 (k4 i' o' (by omega) hi' a2)
      subst this
      rw [k5]
      exact Rel.mono (tc.next_mono (i := i' + 1) (j := i) (by omega) (by omega)).2.1 (ThLe.refl θ) _ _ a5
    · exact absurd k3 (a1 k p hkD k2)
  · rw [k2]
    rcases h.tm t with ⟨i', o', a1, a2, a3, a4, a5⟩ | ⟨a1, a2⟩
    · have hne : i' ≠ i := by rintro rfl; exact hiD a1
      rcases hcmp i' o' a2 a3 hne with q | q
      · exact absurd a3 (k1 i' o' q.1 a2)
      · exact absurd a1 q.2
    · exact Rel.mono (tc.next_mono (i := 0) (j := i) (by omega) (by omega)).2.1 (ThLe.refl θ) _ _ a2

theorem store_looks {o : Op} (h : isStore o = true) : looksAtMemory o = true := by cases o <;> simp [isStore] at h <;> rfl

/-- the blocks that operation i sees, where i is ready -/
theorem AInv.sees (tc : Tc P ro N ops pt) (h : AInv P ro N ops pt a0 w0 θ0 D a w θ) {i : Nat} {o : Oper} (ho : ops[i]? = some o) (hiD : ¬ In D i)
    (hbef : ∀ k, ((Region.before ops).getD i 0).testBit k = true → In D k) (hl : looksAtMemory o.op = true) {id : Nat} {cs : List AV} (hf : findB id (pt i).st.heap = some cs) (hok : ownerOk (pt i).own ((Region.before ops).getD i 0) id = true) :
    BRel (pt i).env θ ro w id cs := by
  have hi : i < ops.size := (Array.getElem?_eq_some_iff.1 ho).1
  have hlt := tc.lt (m := i) (by omega) id cs hf
  have hst : ∀ s, StAt ops pt s → s ≠ i → (s < i ∧ In D s) ∨ (i < s ∧ ¬ In D s) := by
    intro s ⟨p, hp, hps, hpr⟩ hne
    exact h.cmp tc ho hp (fun e => hne e.symm) hiD hbef (.inr (.inl (by simp [hps, hl])))
  refine h.mem i (by omega) id cs hf ?_ ?_ ?_
  · intro k hk
    have hki : k < i := by
      rcases Nat.lt_or_ge k i with q | q
      · exact q
      · obtain ⟨q0, q1, q2⟩ := hk
        have := (tc.next_mono (i := i) (j := k) q (by omega)).1
        omega
    exact hbef k (tc.ownerOk_own (by omega) hk hki hok)
  · intro s hs hsD
    have hne : s ≠ i := by rintro rfl; exact hiD hsD
    rcases hst s hs hne with q | q
    · exact q.1
    · exact absurd hsD q.2
  · intro s hs hsi
    rcases hst s hs (by omega) with q | q
    · exact .inl q.2
    · omega

theorem brel_keep {e e' : List Sc} {θ θ' : Th} {lo hi wl : Nat} {w w' : World} {id : Nat} {cs : List AV} (hb : BRel e θ ro w id cs) (hs : Stp θ θ' lo hi wl w w')
    (hno : ∀ r base i b, θ id = some (r, base) → wl ≤ i → i < hi → θ i ≠ some (r, b)) (he : Pfx e e') : BRel e' θ' ro w' id cs := by
  obtain ⟨r, base, vs, el, fz, h1, h2, h3, h4⟩ := hb
  have hlt : r < w.heap.size := (Array.getElem?_eq_some_iff.1 h2).1
  refine ⟨r, base, vs, el, fz, hs.ext _ _ h1, by rw [hs.block r hlt (fun i b q1 q2 => hno r base i b h1 q1 q2)]; exact h2, h3, fun j c hc => ?_⟩
  obtain ⟨v, hv, hr⟩ := h4 j c hc
  exact ⟨v, hv, Rel.mono he hs.ext c v hr⟩

/-- the names that operation i makes are free before it -/
theorem AInv.fresh (tc : Tc P ro N ops pt) (h : AInv P ro N ops pt a0 w0 θ0 D a w θ) (hf0 : Fresh θ0 (pt 0).st.next (pt ops.size).st.next) {i : Nat} (hi : i < ops.size) (hiD : ¬ In D i) : Fresh θ (pt i).st.next (pt (i + 1)).st.next := by
  intro id h1 h2
  cases e : θ id with
  | none => rfl
  | some x =>
    rcases h.names id x e with q | ⟨k, k1, k2⟩
    · have n1 := (tc.next_mono (i := 0) (j := i) (by omega) (by omega)).1
      have n2 := (tc.next_mono (i := i + 1) (j := ops.size) (by omega) (by omega)).1
      rw [hf0 id (by omega) (by omega)] at q; cases q
    · have := tc.own_uniq k2 ⟨hi, h1, h2⟩
      subst this; exact absurd k1 hiD

/-- the temporaries behind operation i -/
theorem AInv.tm_put (tc : Tc P ro N ops pt) (h : AInv P ro N ops pt a0 w0 θ0 D a w θ) {i : Nat} {o : Oper} (ho : ops[i]? = some o) (hiD : ¬ In D i)
    (hbef : ∀ k, ((Region.before ops).getD i 0).testBit k = true → In D k) {θ' : Th} (ht : ThLe θ θ') {v : Value} (hv : Rel (pt (i + 1)).env θ' (pt i).av v) :
    ∀ t : Nat, (∃ (j : Nat) (q : Oper), In (D.setIfInBounds i true) j ∧ ops[j]? = some q ∧ q.dst = some t ∧ (∀ (k : Nat) (p : Oper), In (D.setIfInBounds i true) k → ops[k]? = some p → p.dst = some t → k ≤ j) ∧ Rel (pt (j + 1)).env θ' (pt j).av ((a.put o.dst v).tmps.getD t undef)) ∨
    ((∀ (j : Nat) (q : Oper), In (D.setIfInBounds i true) j → ops[j]? = some q → q.dst ≠ some t) ∧ Rel (pt 0).env θ' (look (pt 0).tm t) ((a.put o.dst v).tmps.getD t undef)) := by
  intro t
  have hi : i < D.size := by rw [h.sz]; exact (Array.getElem?_eq_some_iff.1 ho).1
  by_cases hd : o.dst = some t
  · left
    refine ⟨i, o, (in_set hi).2 (.inl rfl), ho, hd, ?_, ?_⟩
    · intro k p hk hp hpd
      rcases (in_set hi).1 hk with rfl | hk
      · exact Nat.le_refl _
      · have hne : i ≠ k := by rintro rfl; exact hiD hk
        have hm : t ∈ namesOf ops p := by simp [namesOf, hpd]
        rcases h.cmp tc ho hp hne hiD hbef (.inr (.inr (.inl ⟨t, hd, hm⟩))) with q | q
        · omega
        · exact absurd hk q.2
    · rw [hd, put_getD a t v (Nat.lt_of_lt_of_le (tc.dst i o ho t hd) h.size), if_pos rfl]
      exact hv
  · have hsame : (a.put o.dst v).tmps.getD t undef = a.tmps.getD t undef := by
      cases hq : o.dst with
      | none => rfl
      | some d =>
        rw [put_getD a d v (Nat.lt_of_lt_of_le (tc.dst i o ho d hq) h.size), if_neg]
        rintro rfl; exact hd hq
    rw [hsame]
    rcases h.tm t with ⟨j, q, a1, a2, a3, a4, a5⟩ | ⟨a1, a2⟩
    · refine .inl ⟨j, q, (in_set hi).2 (.inr a1), a2, a3, ?_, Rel.mono (Pfx.refl _) ht _ _ a5⟩
      intro k p hk hp hpd
      rcases (in_set hi).1 hk with rfl | hk
      · rw [ho] at hp; cases hp; exact absurd hpd hd
      · exact a4 k p hk hp hpd
    · refine .inr ⟨?_, Rel.mono (Pfx.refl _) ht _ _ a2⟩
      intro k p hk hp
      rcases (in_set hi).1 hk with rfl | hk
      · rw [ho] at hp; cases hp; exact hd
      · exact a1 k p hk hp

theorem AInv.closed' (tc : Tc P ro N ops pt) (h : AInv P ro N ops pt a0 w0 θ0 D a w θ) {i : Nat} (hi : i < ops.size)
    (hbef : ∀ k, ((Region.before ops).getD i 0).testBit k = true → In D k) : ∀ (j k : Nat), In (D.setIfInBounds i true) j → ((Region.before ops).getD j 0).testBit k = true → In (D.setIfInBounds i true) k := by
  have hi' : i < D.size := by rw [h.sz]; exact hi
  intro j k hj hk
  rcases (in_set hi').1 hj with rfl | hj
  · exact (in_set hi').2 (.inr (hbef k hk))
  · exact (in_set hi').2 (.inr (h.closed j k hj hk))

/-- an operation that is passed over -/
theorem AInv.skip (tc : Tc P ro N ops pt) (h : AInv P ro N ops pt a0 w0 θ0 D a w θ) {i : Nat} {o : Oper} (ho : ops[i]? = some o) (hiD : ¬ In D i)
    (hbef : ∀ k, ((Region.before ops).getD i 0).testBit k = true → In D k) (hr : (pt i).run = false) : AInv P ro N ops pt a0 w0 θ0 (D.setIfInBounds i true) (a.put o.dst undef) w θ := by
  have hi : i < ops.size := (Array.getElem?_eq_some_iff.1 ho).1
  have hi' : i < D.size := by rw [h.sz]; exact hi
  have st := tc.step i o ho
  obtain ⟨e1, e2, e3, e4⟩ := st.skip hr
  have hno : ∀ s, StAt ops pt s → s ≠ i := by
    rintro s ⟨p, hp, _, hpr⟩ rfl
    rw [hr] at hpr; cases hpr
  refine ⟨by simp [h.sz], h.closed' tc hi hbef, ?_, ?_, h.inj, ?_, h.stp, by rw [put_size]; exact h.size, by rw [put_defers]; exact h.defers⟩
  · exact h.tm_put tc ho hiD hbef (ThLe.refl θ) (by rw [e1]; simp [Rel, undef])
  · intro m hm id cs hf c1 c2 c3
    refine h.mem m hm id cs hf ?_ ?_ ?_
    · intro k hk
      rcases (in_set hi').1 (c1 k hk) with rfl | q
      · obtain ⟨_, q1, q2⟩ := hk
        rw [e2] at q2; omega
      · exact q
    · intro s hs hsD
      exact c2 s hs ((in_set hi').2 (.inr hsD))
    · intro s hs hsm
      rcases c3 s hs hsm with q | q
      · rcases (in_set hi').1 q with rfl | q
        · exact absurd rfl (hno _ hs)
        · exact .inl q
      · exact .inr q
  · intro j x hx
    rcases h.names j x hx with q | ⟨k, k1, k2⟩
    · exact .inl q
    · exact .inr ⟨k, (in_set hi').2 (.inr k1), k2⟩

/-- an operation that runs -/
theorem AInv.run (tc : Tc P ro N ops pt) (h : AInv P ro N ops pt a0 w0 θ0 D a w θ) (hf0 : Fresh θ0 (pt 0).st.next (pt ops.size).st.next) {i : Nat} {o : Oper} (ho : ops[i]? = some o) (hiD : ¬ In D i)
    (hbef : ∀ k, ((Region.before ops).getD i 0).testBit k = true → In D k) (hr : (pt i).run = true) :
    Gives P ((execOp a.eval o).run P w) fun v w' => ∃ θ', AInv P ro N ops pt a0 w0 θ0 (D.setIfInBounds i true) (a.put o.dst v) w' θ' := by
  have hi : i < ops.size := (Array.getElem?_eq_some_iff.1 ho).1
  have hi' : i < D.size := by rw [h.sz]; exact hi
  have st := tc.step i o ho
  have hfr := h.fresh tc hf0 hi hiD
  have n0 := tc.next_mono (i := 0) (j := i) (by omega) (by omega)
  have n1 := tc.next_mono (i := i) (j := i + 1) (by omega) (by omega)
  have n2 := tc.next_mono (i := i + 1) (j := ops.size) (by omega) (by omega)
  have htm : TmRel (pt i).env θ (restr (pt i).tm (opTmps o.op)) (virt a (opTmps o.op)).tmps := by
    intro t
    rw [virt_getD]
    have hl : look (restr (pt i).tm (opTmps o.op)) t = if t ∈ opTmps o.op then look (pt i).tm t else .undef := by
      unfold look
      rw [restr_get]
      by_cases e : t ∈ opTmps o.op
      · simp only [if_pos e]
      · simp only [if_neg e]
    rw [hl]
    by_cases e : t ∈ opTmps o.op
    · simp only [if_pos e]
      exact h.tmp tc ho hiD hbef (by simp only [namesOf, List.mem_append]; exact .inl (.inr e))
    · simp only [if_neg e]; simp [Rel, undef]
  have hex := virt_exec a o (st.sel hr)
  have hmono : ∀ {Ψ Φ : Value → World → Prop} {r : Result Next}, Gives P r Ψ → (∀ v w', Ψ v w' → Φ v w') → Gives P r Φ := by
    intro Ψ Φ r hg himp
    cases r with
    | halt x w' => exact hg.elim
    | ok n w' =>
      cases n <;> (try exact hg.elim)
      · exact himp _ _ hg
      · exact himp _ _ hg
      · exact Calls.mono hg fun e w'' ⟨v, he, hp⟩ => ⟨v, he, himp _ _ hp⟩
  have hstD : ∀ s, StAt ops pt s → ∀ p, ops[s]? = some p → isStore p.op = true := by
    rintro s ⟨p, hp, hps, _⟩ q hq
    rw [hp] at hq; cases hq; exact hps
  -- what is left of the names
  have hnames : ∀ {θ' : Th} {w' : World} {wl : Nat}, Stp θ θ' (pt i).st.next (pt (i + 1)).st.next wl w w' → ∀ j x, θ' j = some x → θ0 j = some x ∨ ∃ k, In (D.setIfInBounds i true) k ∧ Own pt ops.size k j := by
    intro θ' w' wl hs j x hx
    cases e : θ j with
    | none =>
      obtain ⟨q1, q2, _, _⟩ := hs.new j x.1 x.2 hx e
      exact .inr ⟨i, (in_set hi').2 (.inl rfl), hi, q1, q2⟩
    | some y =>
      have := hs.ext j y e
      rw [hx] at this; cases this
      rcases h.names j x e with q | ⟨k, k1, k2⟩
      · exact .inl q
      · exact .inr ⟨k, (in_set hi').2 (.inr k1), k2⟩
  cases hs : isStore o.op with
  | false =>
    obtain ⟨s', e', snd⟩ := st.quiet hr hs
    have hnext : s'.next = (pt (i + 1)).st.next := by rw [e']
    have hpre : OpPre ro (pt i).env θ (restr (pt i).tm (opTmps o.op)) (hidden (pt i) o ((Region.before ops).getD i 0)) (virt a (opTmps o.op)) w := by
      refine ⟨htm, ?_, h.inj⟩
      intro id cs hc
      simp only [hidden] at hc
      cases hl : looksAtMemory o.op with
      | false => rw [hl] at hc; simp [findB] at hc
      | true =>
        rw [hl] at hc
        obtain ⟨q1, q2⟩ := hide_spec hc
        exact h.sees tc ho hiD hbef hl q2 q1
    have hg := snd _ w θ hpre (by show Fresh θ (pt i).st.next s'.next; rw [hnext]; exact hfr)
    rw [hex] at hg
    refine hmono hg fun v w' ⟨θ', r1, r2, r3⟩ => ⟨θ', ?_⟩
    have r3' : Stp θ θ' (pt i).st.next (pt (i + 1)).st.next (pt i).st.next w w' := by rw [← hnext]; exact r3
    have hnotSt : ∀ s, StAt ops pt s → s ≠ i := by
      rintro s hss rfl
      rw [hstD _ hss o ho] at hs; cases hs
    refine ⟨by simp [h.sz], h.closed' tc hi hbef, h.tm_put tc ho hiD hbef r3.ext r1, ?_, h.inj.step r3, hnames r3', h.stp.then r3' n0.1 n2.1 (by have := tc.wlo0; omega), by rw [put_size]; exact h.size, by rw [put_defers]; exact h.defers⟩
    intro m hm id cs hf c1 c2 c3
    by_cases hown : Own pt ops.size i id
    · obtain ⟨_, o1, o2⟩ := hown
      have hlt := tc.lt hm id cs hf
      have him : i + 1 ≤ m := by
        rcases Nat.lt_or_ge i m with q | q
        · exact q
        · have := (tc.next_mono (i := m) (j := i) q (by omega)).1; omega
      have hdom := tc.dom him hm o2
      have hno : ∀ s, i + 1 ≤ s → s < m → ¬ StAt ops pt s := by
        intro s s1 s2 hss
        have hsD : In D s := by
          rcases c3 s hss s2 with q | ⟨k, k1, k2⟩
          · rcases (in_set hi').1 q with rfl | q
            · exact absurd rfl (hnotSt _ hss)
            · exact q
          · have := tc.own_uniq k1 ⟨hi, o1, o2⟩; omega
        obtain ⟨p, hp, hps, hpr⟩ := hss
        obtain ⟨v1, _, _⟩ := (tc.step s p hp).store hpr hps
        have hds := tc.dom (a := i + 1) (b := s) s1 (by omega) o2
        rw [hf] at hdom
        cases hq : findB id (pt s).st.heap with
        | none => rw [hq] at hds; rw [← hdom] at hds; cases hds
        | some ds =>
          have hvis := allVis_spec v1 id ds hq
          have := tc.ownerOk_own (i := s) (by omega) (k := i) (id := id) ⟨hi, o1, o2⟩ (by omega) hvis
          exact hiD (h.closed s i hsD this)
      have heq := tc.same him hm o2 hno
      rw [hf] at heq
      have heq' : findB id (newOnes (pt i).st.next s'.next s'.heap (pt i).st.heap) = some cs := by
        have : findB id (pt (i + 1)).st.heap = some cs := heq.symm
        rw [e'] at this; exact this
      have hin := (newOnes_ge (tc.lt (m := i) (by omega)) o1 heq').1
      obtain ⟨r, base, vs, el, fz, g1, g2, g3, g4⟩ := r2 id cs hin
      have hp := (tc.next_mono him hm).2.1
      refine ⟨r, base, vs, el, fz, g1, g2, g3, fun j c hc => ?_⟩
      obtain ⟨u, hu, hr'⟩ := g4 j c hc
      exact ⟨u, hu, Rel.mono hp (ThLe.refl θ') _ _ hr'⟩
    · have hb := h.mem m hm id cs hf
        (fun k hk => by
          rcases (in_set hi').1 (c1 k hk) with rfl | q
          · exact absurd hk hown
          · exact q)
        (fun s hss hsD => c2 s hss ((in_set hi').2 (.inr hsD)))
        (fun s hss hsm => by
          rcases c3 s hss hsm with q | q
          · rcases (in_set hi').1 q with rfl | q
            · exact absurd rfl (hnotSt _ hss)
            · exact .inl q
          · exact .inr q)
      refine brel_keep hb r3' ?_ (Pfx.refl _)
      intro r base j b _ j1 j2 hj
      rw [hfr j j1 j2] at hj; cases hj
  | true =>
    obtain ⟨v1, v2, snd⟩ := st.store hr hs
    have hpre : OpPre ro (pt i).env θ (restr (pt i).tm (opTmps o.op)) (pt i).st (virt a (opTmps o.op)) w := by
      refine ⟨htm, ?_, h.inj⟩
      intro id cs hc
      exact h.sees tc ho hiD hbef (store_looks hs) hc (allVis_spec v1 id cs hc)
    have hg := snd _ w θ hpre hfr
    rw [hex] at hg
    refine hmono hg fun v w' ⟨θ', r1, r2, r3⟩ => ⟨θ', ?_⟩
    have hSti : StAt ops pt i := ⟨o, ho, hs, hr⟩
    refine ⟨by simp [h.sz], h.closed' tc hi hbef, h.tm_put tc ho hiD hbef r3.ext r1, ?_, h.inj.step r3, hnames r3, h.stp.then r3 n0.1 n2.1 (by rw [n0.2.2]; exact Nat.le_refl _), by rw [put_size]; exact h.size, by rw [put_defers]; exact h.defers⟩
    intro m hm id cs hf c1 c2 c3
    have him : i + 1 ≤ m := c2 i hSti ((in_set hi').2 (.inl rfl))
    have hcmp : ∀ s, StAt ops pt s → s ≠ i → (s < i ∧ In D s) ∨ (i < s ∧ ¬ In D s) := by
      intro s ⟨p, hp, hps, hpr⟩ hne
      exact h.cmp tc ho hp (fun e => hne e.symm) hiD hbef (.inl (by simp [hs, store_looks hps]))
    by_cases hold : id < (pt (i + 1)).st.next
    · have hno : ∀ s, i + 1 ≤ s → s < m → ¬ StAt ops pt s := by
        intro s s1 s2 hss
        rcases c3 s hss s2 with q | ⟨k, k1, k2⟩
        · rcases (in_set hi').1 q with rfl | q
          · omega
          · rcases hcmp s hss (by omega) with z | z
            · omega
            · exact z.2 q
        · obtain ⟨q0, q1, q2⟩ := k1
          have := (tc.next_mono (i := i + 1) (j := k) (by omega) (by omega)).1
          omega
      have heq := tc.same him hm hold hno
      rw [hf] at heq
      obtain ⟨r, base, vs, el, fz, g1, g2, g3, g4⟩ := r2 id cs heq.symm
      have hp := (tc.next_mono him hm).2.1
      refine ⟨r, base, vs, el, fz, g1, g2, g3, fun j c hc => ?_⟩
      obtain ⟨u, hu, hr'⟩ := g4 j c hc
      exact ⟨u, hu, Rel.mono hp (ThLe.refl θ') _ _ hr'⟩
    · have hlt := tc.lt hm id cs hf
      obtain ⟨k0, k1, k2, k3⟩ := tc.own_ex him hm (Nat.le_of_not_lt hold) hlt
      have hb := h.mem m hm id cs hf
        (fun k hk => by
          rcases (in_set hi').1 (c1 k hk) with rfl | q
          · obtain ⟨_, q1, q2⟩ := hk; omega
          · exact q)
        (fun s hss hsD => c2 s hss ((in_set hi').2 (.inr hsD)))
        (fun s hss hsm => by
          rcases c3 s hss hsm with q | q
          · rcases (in_set hi').1 q with rfl | q
            · exact .inr ⟨k0, k3, by omega⟩
            · exact .inl q
          · exact .inr q)
      refine brel_keep hb r3 ?_ (Pfx.refl _)
      intro r base j b hid j1 j2 hj
      have hroj : ro ≤ j := by have := tc.ro0; rw [n0.2.2] at j1; omega
      have := h.inj.2 j id r b base hroj hj hid
      omega

end
end Go.Proofs.Ytconlkliclhbpaa.Sx
