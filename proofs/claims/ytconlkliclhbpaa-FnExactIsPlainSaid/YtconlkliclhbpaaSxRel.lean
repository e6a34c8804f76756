/- The relation between the evaluator's values and the model's. -/
import Derived.Test.YtconlkliclhbpaaSxEv
import Derived.Orders
import Derived.Below
namespace Go.Proofs.Ytconlkliclhbpaa.Sx
open Go

def FRel (k : FloatKind) (b : Nat) (d : Option Nat) : Prop := fltOk k b = true ∧ canon k b = d
def ik : FloatKind → IntKind | .f32 => .u32 | .f64 => .u64
abbrev Th := Nat → Option (Nat × Nat)

mutual
def Rel (env : List Sc) (θ : Th) : AV → Value → Prop
  | .undef, v => v = .tuple #[]
  | .bool b, v => v = .bool b
  | .int k n, v => v = .int k n
  | .flt k r, v => ∃ d b, env[r]? = some (.f k d) ∧ v = .float k b ∧ FRel k b d
  | .bits k r, v => ∃ d b, env[r]? = some (.f k d) ∧ v = .int (ik k) (b : Nat) ∧ FRel k b d
  | .abits r, v => ∃ d b, env[r]? = some (.f .f64 d) ∧ v = .int .u64 ((b % 2 ^ 63 : Nat) : Int) ∧ FRel .f64 b d
  | .ptr b off, v => ∃ r base, θ b = some (r, base) ∧ v = .pointer (some ⟨r, base + off, none⟩)
  | .slice b off len cap, v => ∃ r base, θ b = some (r, base) ∧ v = .slice (some ⟨r, base + off, none⟩) len cap
  | .func f cap, v => ∃ vs, v = .func (.func f) #[] ⟨vs⟩ ∧ RelL env θ cap vs
  | .agg cs, v => ∃ vs, v = .agg ⟨vs⟩ ∧ RelL env θ cs vs
  | .tuple cs, v => ∃ vs, v = .tuple ⟨vs⟩ ∧ RelL env θ cs vs
def RelL (env : List Sc) (θ : Th) : List AV → List Value → Prop
  | [], vs => vs = []
  | c :: cs, vs => ∃ v vs', vs = v :: vs' ∧ Rel env θ c v ∧ RelL env θ cs vs'
end

def Pfx (e e' : List Sc) : Prop := ∃ x, e' = e ++ x
theorem Pfx.refl (e : List Sc) : Pfx e e := ⟨[], by simp⟩
theorem Pfx.trans {a b c : List Sc} (h : Pfx a b) (k : Pfx b c) : Pfx a c := by
  obtain ⟨x, rfl⟩ := h; obtain ⟨y, rfl⟩ := k; exact ⟨x ++ y, by simp⟩
theorem Pfx.get {e e' : List Sc} (h : Pfx e e') {i : Nat} {x : Sc} (hx : e[i]? = some x) : e'[i]? = some x := by
  obtain ⟨y, rfl⟩ := h
  rw [List.getElem?_append_left]
  · exact hx
  · exact (List.getElem?_eq_some_iff.1 hx).1
theorem Pfx.len {e e' : List Sc} (h : Pfx e e') : e.length ≤ e'.length := by
  obtain ⟨y, rfl⟩ := h; simp

def ThLe (θ θ' : Th) : Prop := ∀ i x, θ i = some x → θ' i = some x
theorem ThLe.refl (θ : Th) : ThLe θ θ := fun _ _ h => h
theorem ThLe.trans {a b c : Th} (h : ThLe a b) (k : ThLe b c) : ThLe a c := fun i x hx => k i x (h i x hx)

mutual
theorem Rel.mono {e e' : List Sc} {θ θ' : Th} (he : Pfx e e') (ht : ThLe θ θ') : ∀ (a : AV) (v : Value), Rel e θ a v → Rel e' θ' a v
  | .undef, v, h => h
  | .bool b, v, h => h
  | .int k n, v, h => h
  | .flt k r, v, h => by
    simp only [Rel] at h ⊢; obtain ⟨d, b, h1, h2, h3⟩ := h; exact ⟨d, b, he.get h1, h2, h3⟩
  | .bits k r, v, h => by
    simp only [Rel] at h ⊢; obtain ⟨d, b, h1, h2, h3⟩ := h; exact ⟨d, b, he.get h1, h2, h3⟩
  | .abits r, v, h => by
    simp only [Rel] at h ⊢; obtain ⟨d, b, h1, h2, h3⟩ := h; exact ⟨d, b, he.get h1, h2, h3⟩
  | .ptr b off, v, h => by
    simp only [Rel] at h ⊢; obtain ⟨r, s, h1, h2⟩ := h; exact ⟨r, s, ht _ _ h1, h2⟩
  | .slice b off len cap, v, h => by
    simp only [Rel] at h ⊢; obtain ⟨r, s, h1, h2⟩ := h; exact ⟨r, s, ht _ _ h1, h2⟩
  | .func f cap, v, h => by
    simp only [Rel] at h ⊢; obtain ⟨vs, h1, h2⟩ := h; exact ⟨vs, h1, RelL.mono he ht cap vs h2⟩
  | .agg cs, v, h => by
    simp only [Rel] at h ⊢; obtain ⟨vs, h1, h2⟩ := h; exact ⟨vs, h1, RelL.mono he ht cs vs h2⟩
  | .tuple cs, v, h => by
    simp only [Rel] at h ⊢; obtain ⟨vs, h1, h2⟩ := h; exact ⟨vs, h1, RelL.mono he ht cs vs h2⟩
theorem RelL.mono {e e' : List Sc} {θ θ' : Th} (he : Pfx e e') (ht : ThLe θ θ') : ∀ (a : List AV) (v : List Value), RelL e θ a v → RelL e' θ' a v
  | [], v, h => h
  | c :: cs, v, h => by
    simp only [RelL] at h ⊢; obtain ⟨x, xs, h1, h2, h3⟩ := h; exact ⟨x, xs, h1, Rel.mono he ht c x h2, RelL.mono he ht cs xs h3⟩
end

/-! Lists -/
theorem RelL.nil {e : List Sc} {θ : Th} : RelL e θ [] [] := by simp [RelL]
theorem RelL.cons {e : List Sc} {θ : Th} {c : AV} {cs : List AV} {v : Value} {vs : List Value} (h : Rel e θ c v) (t : RelL e θ cs vs) : RelL e θ (c :: cs) (v :: vs) := by
  simp only [RelL]; exact ⟨v, vs, rfl, h, t⟩
theorem RelL.length {e : List Sc} {θ : Th} : ∀ {cs : List AV} {vs : List Value}, RelL e θ cs vs → vs.length = cs.length
  | [], vs, h => by simp only [RelL] at h; subst h; rfl
  | c :: cs, vs, h => by
    simp only [RelL] at h; obtain ⟨x, xs, rfl, _, h3⟩ := h
    simp [RelL.length h3]
theorem RelL.get {e : List Sc} {θ : Th} : ∀ {cs : List AV} {vs : List Value}, RelL e θ cs vs → ∀ {i : Nat} {c : AV}, cs[i]? = some c → ∃ v, vs[i]? = some v ∧ Rel e θ c v
  | [], vs, h, i, c, hc => by simp at hc
  | c :: cs, vs, h, i, d, hc => by
    simp only [RelL] at h; obtain ⟨x, xs, rfl, h2, h3⟩ := h
    cases i with
    | zero => simp at hc; subst hc; exact ⟨x, by simp, h2⟩
    | succ i =>
      obtain ⟨v, hv, hr⟩ := RelL.get h3 (i := i) (by simpa using hc)
      exact ⟨v, by simpa using hv, hr⟩
theorem RelL.append {e : List Sc} {θ : Th} : ∀ {cs ds : List AV} {vs ws : List Value}, RelL e θ cs vs → RelL e θ ds ws → RelL e θ (cs ++ ds) (vs ++ ws)
  | [], ds, vs, ws, h, k => by simp only [RelL] at h; subst h; simpa using k
  | c :: cs, ds, vs, ws, h, k => by
    simp only [RelL] at h; obtain ⟨x, xs, rfl, h2, h3⟩ := h
    exact RelL.cons h2 (RelL.append h3 k)
theorem RelL.drop {e : List Sc} {θ : Th} : ∀ (n : Nat) {cs : List AV} {vs : List Value}, RelL e θ cs vs → RelL e θ (cs.drop n) (vs.drop n)
  | 0, cs, vs, h => by simpa using h
  | n + 1, [], vs, h => by simp only [RelL] at h; subst h; simp [RelL]
  | n + 1, c :: cs, vs, h => by
    simp only [RelL] at h; obtain ⟨x, xs, rfl, h2, h3⟩ := h
    simpa using RelL.drop n h3
theorem RelL.take {e : List Sc} {θ : Th} : ∀ (n : Nat) {cs : List AV} {vs : List Value}, RelL e θ cs vs → RelL e θ (cs.take n) (vs.take n)
  | 0, cs, vs, h => by simp [RelL]
  | n + 1, [], vs, h => by simp only [RelL] at h; subst h; simp [RelL]
  | n + 1, c :: cs, vs, h => by
    simp only [RelL] at h; obtain ⟨x, xs, rfl, h2, h3⟩ := h
    simpa using RelL.cons h2 (RelL.take n h3)
theorem RelL.of_get {e : List Sc} {θ : Th} : ∀ {cs : List AV} {vs : List Value}, vs.length = cs.length → (∀ (i : Nat) (c : AV) (v : Value), cs[i]? = some c → vs[i]? = some v → Rel e θ c v) → RelL e θ cs vs
  | [], vs, h, _ => by simp at h; subst h; exact RelL.nil
  | c :: cs, [], h, _ => by simp at h
  | c :: cs, v :: vs, h, k => RelL.cons (k 0 c v rfl rfl) (RelL.of_get (by simpa using h) (fun i a b ha hb => k (i + 1) a b (by simpa using ha) (by simpa using hb)))

theorem Rel.agg {e : List Sc} {θ : Th} {cs : List AV} {vs : List Value} (h : RelL e θ cs vs) : Rel e θ (.agg cs) (.agg ⟨vs⟩) := by simp only [Rel]; exact ⟨vs, rfl, h⟩
theorem Rel.tuple {e : List Sc} {θ : Th} {cs : List AV} {vs : List Value} (h : RelL e θ cs vs) : Rel e θ (.tuple cs) (.tuple ⟨vs⟩) := by simp only [Rel]; exact ⟨vs, rfl, h⟩

theorem Rel.cells {e : List Sc} {θ : Th} {a : AV} {v : Value} (h : Rel e θ a v) : RelL e θ a.cells v.cells.toList := by
  cases a with
  | agg cs => simp only [Rel] at h; obtain ⟨vs, rfl, h⟩ := h; simpa [AV.cells, Value.cells] using h
  | undef => have h' := h; simp only [Rel] at h; subst h; exact RelL.cons h' RelL.nil
  | bool b => have h' := h; simp only [Rel] at h; subst h; exact RelL.cons h' RelL.nil
  | int k n => have h' := h; simp only [Rel] at h; subst h; exact RelL.cons h' RelL.nil
  | flt k r => have h' := h; simp only [Rel] at h; obtain ⟨d, b, _, rfl, _⟩ := h; exact RelL.cons h' RelL.nil
  | bits k r => have h' := h; simp only [Rel] at h; obtain ⟨d, b, _, rfl, _⟩ := h; exact RelL.cons h' RelL.nil
  | abits r => have h' := h; simp only [Rel] at h; obtain ⟨d, b, _, rfl, _⟩ := h; exact RelL.cons h' RelL.nil
  | ptr b o => have h' := h; simp only [Rel] at h; obtain ⟨d, b, _, rfl⟩ := h; exact RelL.cons h' RelL.nil
  | slice b o l c => have h' := h; simp only [Rel] at h; obtain ⟨d, b, _, rfl⟩ := h; exact RelL.cons h' RelL.nil
  | func f c => have h' := h; simp only [Rel] at h; obtain ⟨d, rfl, _⟩ := h; exact RelL.cons h' RelL.nil
  | tuple c => have h' := h; simp only [Rel] at h; obtain ⟨d, rfl, _⟩ := h; exact RelL.cons h' RelL.nil

/-! no block of lo or more is met: other names there do not matter -/
mutual
theorem Rel.low {e : List Sc} {θ θ' : Th} {lo : Nat} (ht : ∀ i, i < lo → θ' i = θ i) : ∀ (a : AV) (v : Value), a.low lo = true → Rel e θ a v → Rel e θ' a v
  | .undef, v, _, h => h
  | .bool b, v, _, h => h
  | .int k n, v, _, h => h
  | .flt k r, v, _, h => by simp only [Rel] at h ⊢; exact h
  | .bits k r, v, _, h => by simp only [Rel] at h ⊢; exact h
  | .abits r, v, _, h => by simp only [Rel] at h ⊢; exact h
  | .ptr b off, v, l, h => by
    simp only [Rel] at h ⊢; obtain ⟨r, s, h1, h2⟩ := h
    simp [AV.low, Nat.blt] at l
    exact ⟨r, s, by rw [ht _ (by omega)]; exact h1, h2⟩
  | .slice b off len cap, v, l, h => by
    simp only [Rel] at h ⊢; obtain ⟨r, s, h1, h2⟩ := h
    simp [AV.low, Nat.blt] at l
    exact ⟨r, s, by rw [ht _ (by omega)]; exact h1, h2⟩
  | .func f cap, v, l, h => by
    simp only [Rel] at h ⊢; obtain ⟨vs, h1, h2⟩ := h; exact ⟨vs, h1, RelL.low ht cap vs (by simpa [AV.low] using l) h2⟩
  | .agg cs, v, l, h => by
    simp only [Rel] at h ⊢; obtain ⟨vs, h1, h2⟩ := h; exact ⟨vs, h1, RelL.low ht cs vs (by simpa [AV.low] using l) h2⟩
  | .tuple cs, v, l, h => by
    simp only [Rel] at h ⊢; obtain ⟨vs, h1, h2⟩ := h; exact ⟨vs, h1, RelL.low ht cs vs (by simpa [AV.low] using l) h2⟩
theorem RelL.low {e : List Sc} {θ θ' : Th} {lo : Nat} (ht : ∀ i, i < lo → θ' i = θ i) : ∀ (a : List AV) (v : List Value), AV.low.go lo a = true → RelL e θ a v → RelL e θ' a v
  | [], v, _, h => h
  | c :: cs, v, l, h => by
    simp only [RelL] at h ⊢; obtain ⟨x, xs, h1, h2, h3⟩ := h
    simp [AV.low.go] at l
    exact ⟨x, xs, h1, Rel.low ht c x l.1 h2, RelL.low ht cs xs l.2 h3⟩
end

/-! Tries -/
theorem Tr.get_nil {α : Type} (k : Nat) : (Tr.nil : Tr α).get k = none := rfl
theorem Tr.get_setF {α : Type} (x : α) : ∀ (n : Nat) (t : Tr α) (k j : Nat), k ≤ n → (t.setF x n k).get j = if j = k then some x else t.get j := by
  intro n
  induction n with
  | zero =>
    intro t k j hk
    obtain rfl : k = 0 := by omega
    cases j with
    | zero => simp [Tr.setF, Tr.get]
    | succ j =>
      cases t <;> simp [Tr.setF, Tr.get, Tr.left, Tr.right, Nat.beq]
      split <;> rfl
  | succ n ih =>
    intro t k j hk
    unfold Tr.setF
    cases hk0 : Nat.beq k 0 with
    | true =>
      obtain rfl : k = 0 := Nat.eq_of_beq_eq_true hk0
      cases j with
      | zero => simp [Tr.get]
      | succ j =>
        cases t <;> simp [Tr.get, Tr.left, Tr.right, Nat.beq]
        split <;> rfl
    | false =>
      have hk1 : k ≠ 0 := by rintro rfl; simp at hk0
      cases hm : Nat.beq (Nat.mod k 2) 1 with
      | true =>
        have hm' : k % 2 = 1 := Nat.eq_of_beq_eq_true hm
        simp only [Tr.get]
        cases hj0 : Nat.beq j 0 with
        | true =>
          obtain rfl : j = 0 := Nat.eq_of_beq_eq_true hj0
          cases t <;> simp [Tr.get, Tr.here, hk1.symm]
        | false =>
          have hj1 : j ≠ 0 := by rintro rfl; simp at hj0
          cases hjm : Nat.beq (Nat.mod j 2) 1 with
          | true =>
            have hjm' : j % 2 = 1 := Nat.eq_of_beq_eq_true hjm
            simp only []
            rw [ih _ _ _ (by show k / 2 ≤ n; omega)]
            have : (Nat.div j 2 = Nat.div k 2) ↔ j = k := by show (j / 2 = k / 2) ↔ _; omega
            by_cases e : j = k
            · simp [e]
            · rw [if_neg (by rw [this]; exact e), if_neg e]
              cases t <;> simp [Tr.get, Tr.left, hj0, hjm]
          | false =>
            have hne : j ≠ k := by rintro rfl; rw [hm] at hjm; cases hjm
            rw [if_neg hne]
            cases t <;> simp [Tr.get, Tr.right, hj0, hjm]
      | false =>
        have hm' : k % 2 ≠ 1 := by intro h; rw [show Nat.mod k 2 = 1 from h] at hm; simp at hm
        simp only [Tr.get]
        cases hj0 : Nat.beq j 0 with
        | true =>
          obtain rfl : j = 0 := Nat.eq_of_beq_eq_true hj0
          cases t <;> simp [Tr.get, Tr.here, hk1.symm]
        | false =>
          have hj1 : j ≠ 0 := by rintro rfl; simp at hj0
          cases hjm : Nat.beq (Nat.mod j 2) 1 with
          | true =>
            have hne : j ≠ k := by rintro rfl; rw [hm] at hjm; cases hjm
            rw [if_neg hne]
            cases t <;> simp [Tr.get, Tr.left, hj0, hjm]
          | false =>
            have hjm' : j % 2 ≠ 1 := by intro h; rw [show Nat.mod j 2 = 1 from h] at hjm; simp at hjm
            simp only []
            rw [ih _ _ _ (by show k / 2 - 1 ≤ n; omega)]
            have : (Nat.sub (Nat.div j 2) 1 = Nat.sub (Nat.div k 2) 1) ↔ j = k := by show (j / 2 - 1 = k / 2 - 1) ↔ _; omega
            by_cases e : j = k
            · simp [e]
            · rw [if_neg (by rw [this]; exact e), if_neg e]
              cases t <;> simp [Tr.get, Tr.right, hj0, hjm]
theorem Tr.get_set {α : Type} (t : Tr α) (k j : Nat) (x : α) : (t.set k x).get j = if j = k then some x else t.get j :=
  Tr.get_setF x k t k j (Nat.le_refl _)

/-! The temporaries -/
def look (tm : Tr AV) (t : Nat) : AV := match tm.get t with | some v => v | none => .undef
def TmRel (env : List Sc) (θ : Th) (tm : Tr AV) (tmps : Array Value) : Prop := ∀ t, Rel env θ (look tm t) (tmps.getD t undef)

/-! Memory -/
def BRel (env : List Sc) (θ : Th) (ro : Nat) (w : World) (id : Nat) (cs : List AV) : Prop :=
  ∃ r base vs e fz, θ id = some (r, base) ∧ w.heap[r]? = some (.cells vs e fz) ∧ (ro ≤ id → fz = (0, 0)) ∧
    ∀ j c, cs[j]? = some c → ∃ v, vs[base + j]? = some v ∧ Rel env θ c v
def WRel (env : List Sc) (θ : Th) (ro : Nat) (heap : List (Nat × List AV)) (w : World) : Prop :=
  ∀ id cs, findB id heap = some cs → BRel env θ ro w id cs
def Inj (θ : Th) (ro : Nat) (w : World) : Prop :=
  (∀ i r b, θ i = some (r, b) → r < w.heap.size) ∧ ∀ i j r b b', ro ≤ i → θ i = some (r, b) → θ j = some (r, b') → i = j
def Fresh (θ : Th) (lo hi : Nat) : Prop := ∀ i, lo ≤ i → i < hi → θ i = none

/-- one step of the world: blocks lo .. hi have been made, blocks from wlo on may have been written -/
structure Stp (θ θ' : Th) (lo hi wlo : Nat) (w w' : World) : Prop where
  ext : ThLe θ θ'
  new : ∀ i r b, θ' i = some (r, b) → θ i = none → lo ≤ i ∧ i < hi ∧ w.heap.size ≤ r ∧ r < w'.heap.size
  inj : ∀ i j r b b', θ i = none → θ j = none → θ' i = some (r, b) → θ' j = some (r, b') → i = j
  os : w'.os = w.os
  tape : w'.tape = w.tape
  output : w'.output = w.output
  size : w.heap.size ≤ w'.heap.size
  block : ∀ r, r < w.heap.size → (∀ i b, wlo ≤ i → i < hi → θ i ≠ some (r, b)) → w'.heap[r]? = w.heap[r]?

theorem Stp.refl (θ : Th) (lo hi wlo : Nat) (w : World) : Stp θ θ lo hi wlo w w :=
  ⟨ThLe.refl _, fun i r b h k => (by rw [h] at k; cases k), fun i j r b b' h _ k => (by rw [h] at k; cases k), rfl, rfl, rfl, Nat.le_refl _, fun _ _ _ => rfl⟩

theorem Stp.drew {θ θ' : Th} {lo hi wlo : Nat} {w w' : World} (h : Stp θ θ' lo hi wlo w w') (n : Nat) : Stp θ θ' lo hi wlo w { w' with drawn := n } :=
  ⟨h.ext, h.new, h.inj, h.os, h.tape, h.output, h.size, h.block⟩

theorem Stp.trans {θ1 θ2 θ3 : Th} {lo mid hi wlo : Nat} {w1 w2 w3 : World} (h : Stp θ1 θ2 lo mid wlo w1 w2) (k : Stp θ2 θ3 mid hi wlo w2 w3)
    (h1 : lo ≤ mid) (h2 : mid ≤ hi) : Stp θ1 θ3 lo hi wlo w1 w3 := by
  refine ⟨h.ext.trans k.ext, ?_, ?_, k.os.trans h.os, k.tape.trans h.tape, k.output.trans h.output, Nat.le_trans h.size k.size, ?_⟩
  · intro i r b h3 hn
    cases h2' : θ2 i with
    | none =>
      obtain ⟨a1, a2, a3, a4⟩ := k.new i r b h3 h2'
      have := h.size
      exact ⟨by omega, a2, by omega, a4⟩
    | some x =>
      have := k.ext i x h2'
      rw [h3] at this; cases this
      obtain ⟨a1, a2, a3, a4⟩ := h.new i r b h2' hn
      have := k.size
      exact ⟨a1, by omega, a3, by omega⟩
  · intro i j r b b' hi hj h3 h3'
    cases e : θ2 i with
    | none =>
      cases e' : θ2 j with
      | none => exact k.inj i j r b b' e e' h3 h3'
      | some y =>
        have := k.ext j y e'; rw [h3'] at this; cases this
        have p := k.new i r b h3 e
        have q := h.new j r b' e' hj
        omega
    | some x =>
      have := k.ext i x e; rw [h3] at this; cases this
      cases e' : θ2 j with
      | none =>
        have p := k.new j r b' h3' e'
        have q := h.new i r b e hi
        omega
      | some y =>
        have := k.ext j y e'; rw [h3'] at this; cases this
        exact h.inj i j r b b' hi hj e e'
  · intro r hr hno
    rw [k.block r (Nat.lt_of_lt_of_le hr h.size) ?_, h.block r hr (fun i b hw hl => hno i b hw (by omega))]
    intro i b hw hl h2'
    cases e : θ1 i with
    | none =>
      have q := h.new i r b h2' e
      omega
    | some x =>
      have := h.ext i x e; rw [h2'] at this; cases this
      exact hno i b hw hl e

theorem Inj.step {θ θ' : Th} {ro lo hi wlo : Nat} {w w' : World} (h : Inj θ ro w) (k : Stp θ θ' lo hi wlo w w') : Inj θ' ro w' := by
  refine ⟨?_, ?_⟩
  · intro i r b h'
    cases e : θ i with
    | none => exact (k.new i r b h' e).2.2.2
    | some x =>
      have := k.ext i x e; rw [h'] at this; cases this
      exact Nat.lt_of_lt_of_le (h.1 i r b e) k.size
  · intro i j r b b' hr h1 h2
    cases e : θ i with
    | none =>
      cases e' : θ j with
      | none => exact k.inj i j r b b' e e' h1 h2
      | some y =>
        have := k.ext j y e'; rw [h2] at this; cases this
        have p := k.new i r b h1 e
        have q := h.1 j r b' e'
        omega
    | some x =>
      have := k.ext i x e; rw [h1] at this; cases this
      cases e' : θ j with
      | none =>
        have p := k.new j r b' h2 e'
        have q := h.1 i r b e
        omega
      | some y =>
        have := k.ext j y e'; rw [h2] at this; cases this
        exact h.2 i j r b b' hr e e'

theorem Fresh.step {θ θ' : Th} {lo mid hi wlo : Nat} {w w' : World} (h : Fresh θ lo hi) (k : Stp θ θ' lo mid wlo w w') (hm : lo ≤ mid) : Fresh θ' mid hi := by
  intro i h1 h2
  cases e : θ' i with
  | none => rfl
  | some x =>
    have hn := h i (by omega) h2
    have := k.new i x.1 x.2 e hn
    omega

end Go.Proofs.Ytconlkliclhbpaa.Sx
