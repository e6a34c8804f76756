/- The engine's states and what they stand for. -/
import Derived.Test.YtconlkliclhbpaaSxEng
import Derived.Test.YtconlkliclhbpaaSxRel
namespace Go.Proofs.Ytconlkliclhbpaa.Sx
open Go

abbrev Val := Nat → Option Nat
def NdOk (nn : Nat) (ν : Val) : Nd → Option Nat → Prop
  | .inp _, _ => True
  | .cst _ b, d => d = some b
  | .nan _, d => d = none
  | .un o k a, d => a < nn ∧ o.den k (ν a) = some d
  | .bin o k a b, d => a < nn ∧ b < nn ∧ d = o.den k (ν a) (ν b)
def FactOk (nn : Nat) (ν : Val) (i : Nat) (f : Fact) : Prop :=
  i < nn ∧ f.o < nn ∧ cmp4 f.c f.k (match f.first with | true => ν i | false => ν f.o) (match f.first with | true => ν f.o | false => ν i) = f.v
def SVRel (nn : Nat) (ν : Val) : SV → Sc → Prop
  | .f k i, x => i < nn ∧ x = .f k (ν i)
  | .b v, x => x = .b v
  | .i k n, x => x = .i k n
def SVRels (nn : Nat) (ν : Val) : List SV → List Sc → Prop
  | [], xs => xs = []
  | v :: vs, xs => ∃ x xs', xs = x :: xs' ∧ SVRel nn ν v x ∧ SVRels nn ν vs xs'

abbrev Cls := Nat → List Sc → Option (List Sc)
structure Good (C : Cls) (st : ES) (ν : Val) : Prop where
  node : ∀ i nd, st.nodes.get i = some nd → i < st.nn ∧ NdOk st.nn ν nd (ν i)
  tab : ∀ h p, p ∈ bucket st h → st.nodes.get p.2 = some p.1
  fact : ∀ i f, f ∈ factsAt st i → FactOk st.nn ν i f
  memo : ∀ c vs ws, (c, vs, ws) ∈ st.memo → ∃ xs ys, SVRels st.nn ν vs xs ∧ SVRels st.nn ν ws ys ∧ C c xs = some ys
structure Le (st : ES) (ν : Val) (st' : ES) (ν' : Val) : Prop where
  nn : st.nn ≤ st'.nn
  eq : ∀ i, i < st.nn → ν' i = ν i
theorem Le.refl (st : ES) (ν : Val) : Le st ν st ν := ⟨Nat.le_refl _, fun _ _ => rfl⟩
theorem Le.trans {s1 s2 s3 : ES} {n1 n2 n3 : Val} (h : Le s1 n1 s2 n2) (k : Le s2 n2 s3 n3) : Le s1 n1 s3 n3 :=
  ⟨Nat.le_trans h.nn k.nn, fun i hi => by rw [k.eq i (Nat.lt_of_lt_of_le hi h.nn), h.eq i hi]⟩

theorem NdOk.mono {nn nn' : Nat} {ν ν' : Val} (hn : nn ≤ nn') (he : ∀ i, i < nn → ν' i = ν i) {nd : Nd} {d : Option Nat} (h : NdOk nn ν nd d) : NdOk nn' ν' nd d := by
  cases nd with
  | inp k => trivial
  | cst k b => exact h
  | nan k => exact h
  | un o k a => exact ⟨Nat.lt_of_lt_of_le h.1 hn, by rw [he a h.1]; exact h.2⟩
  | bin o k a b => exact ⟨Nat.lt_of_lt_of_le h.1 hn, Nat.lt_of_lt_of_le h.2.1 hn, by rw [he a h.1, he b h.2.1]; exact h.2.2⟩
theorem FactOk.mono {nn nn' : Nat} {ν ν' : Val} (hn : nn ≤ nn') (he : ∀ i, i < nn → ν' i = ν i) {i : Nat} {f : Fact} (h : FactOk nn ν i f) : FactOk nn' ν' i f :=
  ⟨Nat.lt_of_lt_of_le h.1 hn, Nat.lt_of_lt_of_le h.2.1 hn, by rw [he i h.1, he f.o h.2.1]; exact h.2.2⟩
theorem SVRel.mono {nn nn' : Nat} {ν ν' : Val} (hn : nn ≤ nn') (he : ∀ i, i < nn → ν' i = ν i) {v : SV} {x : Sc} (h : SVRel nn ν v x) : SVRel nn' ν' v x := by
  cases v with
  | f k i => exact ⟨Nat.lt_of_lt_of_le h.1 hn, by rw [he i h.1]; exact h.2⟩
  | b v => exact h
  | i k n => exact h
theorem SVRels.mono {nn nn' : Nat} {ν ν' : Val} (hn : nn ≤ nn') (he : ∀ i, i < nn → ν' i = ν i) : ∀ {vs : List SV} {xs : List Sc}, SVRels nn ν vs xs → SVRels nn' ν' vs xs
  | [], _, h => h
  | v :: vs, _, ⟨x, xs', e, h1, h2⟩ => ⟨x, xs', e, h1.mono hn he, SVRels.mono hn he h2⟩
theorem SVRels.len {nn : Nat} {ν : Val} : ∀ {vs : List SV} {xs : List Sc}, SVRels nn ν vs xs → xs.length = vs.length
  | [], _, h => by rw [show _ = [] from h]; rfl
  | v :: vs, _, ⟨x, xs', e, h1, h2⟩ => by rw [e]; simp [h2.len]
theorem SVRels.get {nn : Nat} {ν : Val} : ∀ {vs : List SV} {xs : List Sc}, SVRels nn ν vs xs → ∀ {j : Nat} {v : SV}, vs[j]? = some v → ∃ x, xs[j]? = some x ∧ SVRel nn ν v x
  | [], _, h, j, v, hv => by simp at hv
  | v :: vs, _, ⟨x, xs', e, h1, h2⟩, 0, w, hv => by simp at hv; subst hv; exact ⟨x, by rw [e]; rfl, h1⟩
  | v :: vs, _, ⟨x, xs', e, h1, h2⟩, j + 1, w, hv => by
    obtain ⟨y, hy, hr⟩ := h2.get (j := j) (v := w) (by simpa using hv)
    exact ⟨y, by rw [e]; simpa using hy, hr⟩
theorem SVRel.uniq {nn : Nat} {ν : Val} {v : SV} {x y : Sc} (h : SVRel nn ν v x) (k : SVRel nn ν v y) : x = y := by
  cases v with
  | f k i => exact h.2.trans k.2.symm
  | b v => exact Eq.trans h (Eq.symm k)
  | i k n => exact Eq.trans h (Eq.symm k)
theorem SVRels.uniq {nn : Nat} {ν : Val} : ∀ {vs : List SV} {xs ys : List Sc}, SVRels nn ν vs xs → SVRels nn ν vs ys → xs = ys
  | [], _, _, h, k => by rw [h, k]
  | v :: vs, _, _, ⟨x, xs', e, h1, h2⟩, ⟨y, ys', e', k1, k2⟩ => by rw [e, e', h1.uniq k1, h2.uniq k2]

theorem Good.ext {C : Cls} {st : ES} {ν ν' : Val} (h : Good C st ν) (he : ∀ i, i < st.nn → ν' i = ν i) : Good C st ν' := by
  refine ⟨fun i nd hi => ?_, h.tab, fun i f hf => (h.fact i f hf).mono (Nat.le_refl _) he, fun c vs ws hm => ?_⟩
  · obtain ⟨h1, h2⟩ := h.node i nd hi
    exact ⟨h1, by rw [he i h1]; exact h2.mono (Nat.le_refl _) he⟩
  · obtain ⟨xs, ys, h1, h2, h3⟩ := h.memo c vs ws hm
    exact ⟨xs, ys, h1.mono (Nat.le_refl _) he, h2.mono (Nat.le_refl _) he, h3⟩

def upd (ν : Val) (n : Nat) (d : Option Nat) : Val := fun i => if i = n then d else ν i
theorem upd_lt {ν : Val} {n : Nat} {d : Option Nat} : ∀ i, i < n → upd ν n d i = ν i := by
  intro i hi; unfold upd; rw [if_neg (by omega)]
theorem upd_at {ν : Val} {n : Nat} {d : Option Nat} : upd ν n d n = d := by unfold upd; rw [if_pos rfl]

/-- a new node -/
theorem Good.add {C : Cls} {st : ES} {ν : Val} (h : Good C st ν) {x : Nd} {d : Option Nat} (hx : NdOk st.nn ν x d) (tab : Tr (List (Nd × Nat)))
    (ht : ∀ h' p, p ∈ (match tab.get h' with | some l => l | none => []) → p = (x, st.nn) ∨ p ∈ bucket st h') :
    Good C { st with nn := Nat.add st.nn 1, nodes := st.nodes.set st.nn x, itab := tab } (upd ν st.nn d) := by
  have hle : st.nn ≤ Nat.add st.nn 1 := Nat.le_add_right _ _
  refine ⟨fun i nd hi => ?_, fun h' p hp => ?_, fun i f hf => (h.fact i f hf).mono hle upd_lt, fun c vs ws hm => ?_⟩
  · dsimp only at hi
    rw [Tr.get_set] at hi
    by_cases e : i = st.nn
    · subst e
      rw [if_pos rfl] at hi; cases hi
      exact ⟨Nat.lt_succ_self _, by rw [upd_at]; exact hx.mono hle upd_lt⟩
    · rw [if_neg e] at hi
      obtain ⟨h1, h2⟩ := h.node i nd hi
      exact ⟨Nat.lt_of_lt_of_le h1 hle, by rw [upd_lt i h1]; exact h2.mono hle upd_lt⟩
  · show (st.nodes.set st.nn x).get p.2 = some p.1
    rw [Tr.get_set]
    rcases ht h' p hp with rfl | hp
    · simp
    · have := h.tab h' p hp
      have hlt := (h.node _ _ this).1
      rw [if_neg (by omega)]; exact this
  · obtain ⟨xs, ys, h1, h2, h3⟩ := h.memo c vs ws hm
    exact ⟨xs, ys, h1.mono hle upd_lt, h2.mono hle upd_lt, h3⟩
theorem Good.addNd {C : Cls} {st : ES} {ν : Val} (h : Good C st ν) {x : Nd} {d : Option Nat} (hx : NdOk st.nn ν x d) : Good C (addNd x st) (upd ν st.nn d) := by
  refine h.add hx _ fun h' p hp => ?_
  rw [Tr.get_set] at hp
  by_cases e : h' = hashNd x
  · subst e
    rw [if_pos rfl] at hp
    rcases List.mem_cons.1 hp with hp | hp
    · exact .inl hp
    · exact .inr hp
  · rw [if_neg e] at hp
    exact .inr hp
theorem Good.addInp {C : Cls} {st : ES} {ν : Val} (h : Good C st ν) (k : FloatKind) (d : Option Nat) : Good C (addInp k st) (upd ν st.nn d) :=
  h.add (x := .inp k) trivial _ fun h' p hp => .inr hp

theorem fkEq_eq {a b : FloatKind} (h : fkEq a b = true) : a = b := by
  cases a <;> cases b <;> first | rfl | simp [fkEq] at h
theorem ndEq_eq {x y : Nd} (h : ndEq x y = true) : x = y := by
  cases x <;> cases y <;> unfold ndEq at h <;> (try (cases h; done))
  case cst k b l c =>
    dsimp only at h
    split at h
    · rename_i e; rw [fkEq_eq e, Nat.eq_of_beq_eq_true h]
    · cases h
  case nan k l => rw [fkEq_eq h]
  case un o k a p l b =>
    dsimp only at h
    split at h
    · rename_i e1
      split at h
      · rename_i e2
        rw [fkEq_eq h, Nat.eq_of_beq_eq_true e1]
        congr
        have := Nat.eq_of_beq_eq_true e2
        cases o <;> cases p <;> first | rfl | simp [uoN] at this
      · cases h
    · cases h
  case bin o k a b p l c d =>
    dsimp only at h
    split at h
    · rename_i e1
      split at h
      · rename_i e3
        split at h
        · rename_i e2
          rw [fkEq_eq h, Nat.eq_of_beq_eq_true e1, Nat.eq_of_beq_eq_true e3]
          congr
          have := Nat.eq_of_beq_eq_true e2
          cases o <;> cases p <;> first | rfl | simp [boN] at this
        · cases h
      · cases h
    · cases h
theorem findNd_ok {x : Nd} : ∀ {l : List (Nd × Nat)} {i : Nat}, findNd x l = some i → (x, i) ∈ l
  | [], i, h => by simp [findNd] at h
  | (y, j) :: r, i, h => by
    unfold findNd at h
    split at h
    · rename_i e; rw [ndEq_eq e]; cases h; exact List.mem_cons_self
    · exact List.mem_cons_of_mem _ (findNd_ok h)
theorem lookNd_ok {C : Cls} {st : ES} {ν : Val} (hg : Good C st ν) {x : Nd} {i : Nat} (h : lookNd x st = some i) : i < st.nn ∧ NdOk st.nn ν x (ν i) := by
  have := hg.tab _ _ (findNd_ok h)
  exact hg.node _ _ this
theorem node_ok {C : Cls} {st : ES} {ν : Val} (hg : Good C st ν) {x : Nd} {i : Nat} (h : node st i = some x) : i < st.nn ∧ NdOk st.nn ν x (ν i) := hg.node _ _ h

/-- what a continuation gets -/
def Got (C : Cls) (st : ES) (ν : Val) (d : Option Nat) (kk : K1) : Prop :=
  ∃ i st' ν', kk i st' = .ok ∧ Good C st' ν' ∧ Le st ν st' ν' ∧ i < st'.nn ∧ ν' i = d
theorem NdOk.det {nn : Nat} {ν : Val} {x : Nd} {d d' : Option Nat} (hx : ∀ k, x ≠ .inp k) (h : NdOk nn ν x d) (k : NdOk nn ν x d') : d = d' := by
  cases x with
  | inp l => exact absurd rfl (hx l)
  | cst l b => exact Eq.trans h (Eq.symm k)
  | nan l => exact Eq.trans h (Eq.symm k)
  | un o l a => have := h.2.symm.trans k.2; simpa using this
  | bin o l a b => exact h.2.2.trans k.2.2.symm
theorem intern_ok {C : Cls} {st : ES} {ν : Val} (hg : Good C st ν) {x : Nd} {d : Option Nat} {kk : K1} (hn : ∀ k, x ≠ .inp k) (hx : NdOk st.nn ν x d) (h : intern x st kk = .ok) : Got C st ν d kk := by
  unfold intern at h
  split at h
  · rename_i i e
    obtain ⟨h1, h2⟩ := lookNd_ok hg e
    exact ⟨i, st, ν, h, hg, Le.refl _ _, h1, h2.det hn hx⟩
  · exact ⟨st.nn, addNd x st, upd ν st.nn d, h, hg.addNd hx, ⟨Nat.le_add_right _ _, upd_lt⟩, Nat.lt_succ_self _, upd_at⟩
theorem mkD_ok {C : Cls} {st : ES} {ν : Val} (hg : Good C st ν) {k : FloatKind} {d : Option Nat} {kk : K1} (h : mkD k d st kk = .ok) : Got C st ν d kk := by
  unfold mkD at h
  cases d with
  | some b => exact intern_ok hg (x := .cst k b) (by simp) rfl h
  | none => exact intern_ok hg (x := .nan k) (by simp) rfl h
theorem dOf_ok {C : Cls} {st : ES} {ν : Val} (hg : Good C st ν) {k : FloatKind} {i : Nat} {d : Option Nat} (h : dOf st k i = some d) : ν i = d := by
  unfold dOf at h
  split at h
  · rename_i l b e
    split at h
    · cases h; exact (node_ok hg e).2
    · cases h
  · rename_i l e
    split at h
    · cases h; exact (node_ok hg e).2
    · cases h
  · cases h
theorem cstOf_ok {C : Cls} {st : ES} {ν : Val} (hg : Good C st ν) {k : FloatKind} {i b : Nat} (h : cstOf st k i = some b) : ν i = some b := by
  unfold cstOf at h
  split at h
  · rename_i l b e
    split at h
    · cases h; exact (node_ok hg e).2
    · cases h
  · cases h

/-! Facts -/
theorem lookF_ok {c : Nat} {k : FloatKind} {o : Nat} {first v : Bool} : ∀ {l : List Fact}, lookF c k o first l = some v → ⟨c, k, o, first, v⟩ ∈ l
  | [], h => by simp [lookF] at h
  | f :: r, h => by
    unfold lookF at h
    split at h
    · exact List.mem_cons_of_mem _ (lookF_ok h)
    · rename_i e1
      split at h
      · exact List.mem_cons_of_mem _ (lookF_ok h)
      · rename_i e2
        split at h
        · rename_i e3
          simp only [Bool.and_eq_true, beq_iff_eq] at e3
          have := fkEq_eq e3.2
          cases h
          obtain ⟨c', k', o', f', v'⟩ := f
          simp at e1 e2 e3 this
          obtain ⟨rfl, _⟩ := e3
          subst e1 e2 this
          exact List.mem_cons_self
        · exact List.mem_cons_of_mem _ (lookF_ok h)
theorem known_ok {C : Cls} {st : ES} {ν : Val} (hg : Good C st ν) {c : Nat} {k : FloatKind} {a b : Nat} {v : Bool} (h : known c k a b st = some v) : cmp4 c k (ν a) (ν b) = v := by
  unfold known at h
  split at h
  · exact (hg.fact _ _ (lookF_ok h)).2.2
  · exact (hg.fact _ _ (lookF_ok h)).2.2
theorem factsAt_addF (i : Nat) (f : Fact) (st : ES) (j : Nat) : factsAt (addF i f st) j = if j = i then f :: factsAt st i else factsAt st j := by
  show (match (st.facts.set i (f :: factsAt st i)).get j with | some l => l | none => []) = _
  rw [Tr.get_set]
  by_cases e : j = i
  · rw [if_pos e, if_pos e]
  · rw [if_neg e, if_neg e]; rfl
theorem Good.addF {C : Cls} {st : ES} {ν : Val} (hg : Good C st ν) {i : Nat} {f : Fact} (hf : FactOk st.nn ν i f) : Good C (addF i f st) ν := by
  refine ⟨hg.node, hg.tab, fun j g hj => ?_, hg.memo⟩
  rw [factsAt_addF] at hj
  by_cases e : j = i
  · subst e
    rw [if_pos rfl] at hj
    rcases List.mem_cons.1 hj with rfl | hj
    · exact hf
    · exact hg.fact _ _ hj
  · rw [if_neg e] at hj
    exact hg.fact _ _ hj
theorem assume_ok {C : Cls} {st : ES} {ν : Val} (hg : Good C st ν) {c : Nat} {k : FloatKind} {a b : Nat} (ha : a < st.nn) (hb : b < st.nn) {v : Bool} (h : cmp4 c k (ν a) (ν b) = v) :
    Good C (assume c k a b v st) ν ∧ (assume c k a b v st).nn = st.nn := by
  have h1 : ∀ s : ES, Good C s ν → s.nn = st.nn → Good C (Sx.addF a ⟨c, k, b, true, v⟩ s) ν := fun s hs hn => hs.addF ⟨by rw [hn]; exact ha, by rw [hn]; exact hb, h⟩
  have h2 : ∀ s : ES, Good C s ν → s.nn = st.nn → Good C (Sx.addF b ⟨c, k, a, false, v⟩ s) ν := fun s hs hn => hs.addF ⟨by rw [hn]; exact hb, by rw [hn]; exact ha, h⟩
  unfold assume
  split <;> split
  · exact ⟨hg, rfl⟩
  · exact ⟨h2 _ hg rfl, rfl⟩
  · exact ⟨h1 _ hg rfl, rfl⟩
  · exact ⟨h2 _ (h1 _ hg rfl) rfl, rfl⟩

def GotB (C : Cls) (st : ES) (ν : Val) (v : Bool) (kk : Bool → ES → Out) : Prop :=
  ∃ st', kk v st' = .ok ∧ Good C st' ν ∧ st'.nn = st.nn
theorem fork_ok {C : Cls} {st : ES} {ν : Val} (hg : Good C st ν) {c : Nat} {k : FloatKind} {a b : Nat} (ha : a < st.nn) (hb : b < st.nn) {kk : Bool → ES → Out} (h : fork c k a b st kk = .ok) :
    GotB C st ν (cmp4 c k (ν a) (ν b)) kk := by
  unfold fork at h
  split at h
  · rename_i e
    cases hv : cmp4 c k (ν a) (ν b) with
    | true => obtain ⟨h1, h2⟩ := assume_ok hg ha hb hv; exact ⟨_, e, h1, h2⟩
    | false => obtain ⟨h1, h2⟩ := assume_ok hg ha hb hv; exact ⟨_, h, h1, h2⟩
  · rename_i hne
    exact absurd h hne
end Go.Proofs.Ytconlkliclhbpaa.Sx
