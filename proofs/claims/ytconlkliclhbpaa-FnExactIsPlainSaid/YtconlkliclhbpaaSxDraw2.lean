/- A region that draws its order: the trace in the order of the text, and every other order. -/
import Derived.Test.YtconlkliclhbpaaSxDraw
namespace Go.Proofs.Ytconlkliclhbpaa.Sx
open Go

structure Pt where
  env : List Sc
  st : St
  tm : Tr AV
  own : List (Nat × Nat)
  av : AV
  run : Bool

section
variable {P : Program} {G : Gs} {rs : List Sc} {ro N : Nat} {sm : List (FuncId × Sum)} {ex : List (FuncId × Ext)} {call : CallK}

def hidden (p : Pt) (o : Oper) (bef : Nat) : St := { p.st with heap := (match looksAtMemory o.op with | true => hideHeap p.own bef p.st.heap | false => []), wlo := p.st.next }

structure StepOk (P : Program) (ro : Nat) (ops : Array Oper) (j : Nat) (o : Oper) (bef : Nat) (p q : Pt) : Prop where
  tm : q.tm = setT p.tm o.dst p.av
  leaf : Leaf p.env q.env p.st q.st
  wants : wants ops p.tm o = p.run
  sel : p.run = true → ∀ cs b, o.op ≠ .select cs b
  skip : p.run = false → p.av = .undef ∧ q.st = p.st ∧ q.own = p.own ∧ q.env = p.env
  own : p.run = true → q.own = (j, p.st.next) :: p.own
  store : p.run = true → isStore o.op = true → allVis p.own bef p.st.heap = true ∧ idsEq q.st.heap p.st.heap = true ∧ Sound P ro p.env q.env p.st q.st (restr p.tm (opTmps o.op)) o p.av
  quiet : p.run = true → isStore o.op = false → ∃ st', q.st = { st' with heap := newOnes p.st.next st'.next st'.heap p.st.heap, wlo := p.st.wlo } ∧ Sound P ro p.env q.env (hidden p o bef) st' (restr p.tm (opTmps o.op)) o p.av

theorem no_select {o : Op} {tm : Tr AV} {st : St} {kk : K} {env : List Sc} (h : (evOp P sm ex call tm o st kk).den G env = some rs) : ∀ cs b, o ≠ .select cs b := by
  rintro cs b rfl
  simp [evOp, T.den] at h

theorem trace (hctx : Ctx P sm ex call G) (ops : Array Oper) : ∀ (l : List Oper) (bs : List Nat) (j : Nat) (own : List (Nat × Nat)) {env : List Sc} {tm : Tr AV} {st : St} {kk : Tr AV → St → T}, ro ≤ st.wlo → ro ≤ st.next →
    (runDraw P sm ex call ops j l bs own tm st kk).den G env = some rs → st.nn = env.length →
    ∃ pt : Nat → Pt, (pt 0).env = env ∧ (pt 0).st = st ∧ (pt 0).tm = tm ∧ (pt 0).own = own ∧ (kk (pt l.length).tm (pt l.length).st).den G (pt l.length).env = some rs ∧
      ∀ i o, l[i]? = some o → ∃ b, bs[i]? = some b ∧ StepOk P ro ops (j + i) o b (pt i) (pt (i + 1))
  | [], bs, j, own, env, tm, st, kk, hro, hrn, h, hn => by
    refine ⟨fun _ => ⟨env, st, tm, own, .undef, false⟩, rfl, rfl, rfl, rfl, ?_, fun i o h => by simp at h⟩
    cases bs <;> simpa [runDraw] using h
  | o :: l, [], j, own, env, tm, st, kk, hro, hrn, h, hn => by simp [runDraw, T.den] at h
  | o :: l, b :: bs, j, own, env, tm, st, kk, hro, hrn, h, hn => by
    unfold runDraw at h
    have fin : ∀ (p : Pt), p.env = env → p.st = st → p.tm = tm → p.own = own → ∀ (env1 : List Sc) (st1 : St) (own1 : List (Nat × Nat)), ro ≤ st1.wlo → ro ≤ st1.next →
        (runDraw P sm ex call ops (Nat.add j 1) l bs own1 (setT tm o.dst p.av) st1 kk).den G env1 = some rs → st1.nn = env1.length →
        (∀ q : Pt, q.env = env1 → q.st = st1 → q.tm = setT tm o.dst p.av → q.own = own1 → StepOk P ro ops j o b p q) →
        ∃ pt : Nat → Pt, (pt 0).env = env ∧ (pt 0).st = st ∧ (pt 0).tm = tm ∧ (pt 0).own = own ∧ (kk (pt (o :: l).length).tm (pt (o :: l).length).st).den G (pt (o :: l).length).env = some rs ∧
          ∀ i o', (o :: l)[i]? = some o' → ∃ b', (b :: bs)[i]? = some b' ∧ StepOk P ro ops (j + i) o' b' (pt i) (pt (i + 1)) := by
      intro p h1 h2 h3 h4 env1 st1 own1 r1 r2 hrun hnn hstep
      obtain ⟨pt, a1, a2, a3, a4, a5, a6⟩ := trace hctx ops l bs (Nat.add j 1) own1 r1 r2 hrun hnn
      refine ⟨fun i => match i with | 0 => p | i + 1 => pt i, h1, h2, h3, h4, a5, ?_⟩
      intro i o' ho'
      cases i with
      | zero =>
        simp at ho'; subst ho'
        exact ⟨b, rfl, hstep _ a1 a2 a3 a4⟩
      | succ i =>
        obtain ⟨b', hb', hs⟩ := a6 i o' (by simpa using ho')
        refine ⟨b', by simpa using hb', ?_⟩
        have : j + (i + 1) = Nat.add j 1 + i := by show j + (i + 1) = j + 1 + i; omega
        rw [this]; exact hs
    cases hw : wants ops tm o with
    | false =>
      simp only [hw] at h
      refine fin ⟨env, st, tm, own, .undef, false⟩ rfl rfl rfl rfl env st own hro hrn h hn ?_
      intro q q1 q2 q3 q4
      exact ⟨q3, ⟨by rw [q1]; exact Pfx.refl _, by rw [q1, q2]; exact hn, by rw [q2]; exact Nat.le_refl _, by rw [q2]⟩, hw, fun h => (by cases h), fun _ => ⟨rfl, q2, q4, q1⟩, fun h => (by cases h), fun h => (by cases h), fun h => (by cases h)⟩
    | true =>
      simp only [hw] at h
      have hag := restr_agree tm o.op
      cases hs : isStore o.op with
      | true =>
        simp only [hs] at h
        cases hv : allVis own b st.heap with
        | false => simp [hv, T.den] at h
        | true =>
          simp only [hv] at h
          have hsel := no_select h
          rw [evOp_congr hag] at h
          obtain ⟨e1, av, s1, h1, p1, n1, x1, w1, snd⟩ := op_ok (o := o) hctx hro hrn h hn
          cases hid : idsEq s1.heap st.heap with
          | false => simp [hid, T.den] at h1
          | true =>
            simp only [hid] at h1
            refine fin ⟨env, st, tm, own, av, true⟩ rfl rfl rfl rfl e1 s1 ((j, st.next) :: own) (by omega) (by omega) h1 n1 ?_
            intro q q1 q2 q3 q4
            exact ⟨q3, ⟨by rw [q1]; exact p1, by rw [q1, q2]; exact n1, by rw [q2]; exact x1, by rw [q2]; exact w1⟩, hw, fun _ => hsel, fun h => (by cases h), fun _ => q4, fun _ _ => ⟨hv, by rw [q2]; exact hid, by rw [q1, q2]; exact snd⟩, fun _ h => (by rw [hs] at h; cases h)⟩
      | false =>
        simp only [hs] at h
        have hsel := no_select h
        rw [evOp_congr hag] at h
        obtain ⟨e1, av, s1, h1, p1, n1, x1, w1, snd⟩ := op_ok (o := o) (ro := ro) (st := hidden ⟨env, st, tm, own, .undef, true⟩ o b) hctx hrn hrn h hn
        refine fin ⟨env, st, tm, own, av, true⟩ rfl rfl rfl rfl e1 { s1 with heap := newOnes st.next s1.next s1.heap st.heap, wlo := st.wlo } ((j, st.next) :: own) hro (Nat.le_trans hrn x1) h1 n1 ?_
        intro q q1 q2 q3 q4
        exact ⟨q3, ⟨by rw [q1]; exact p1, by rw [q1, q2]; exact n1, by rw [q2]; exact x1, by rw [q2]⟩, hw, fun _ => hsel, fun h => (by cases h), fun _ => q4, fun _ h => (by rw [hs] at h; cases h), fun _ _ => ⟨s1, q2, by rw [q1]; exact snd⟩⟩

/-! ### Along the trace -/
structure Tc (P : Program) (ro N : Nat) (ops : Array Oper) (pt : Nat → Pt) : Prop where
  step : ∀ (i : Nat) (o : Oper), ops[i]? = some o → StepOk P ro ops i o ((Region.before ops).getD i 0) (pt i) (pt (i + 1))
  ok : drawOk ops = true
  dst : ∀ (i : Nat) (o : Oper), ops[i]? = some o → ∀ t, o.dst = some t → t < N
  lt0 : ∀ id cs, findB id (pt 0).st.heap = some cs → id < (pt 0).st.next
  own0 : (pt 0).own = []
  wlo0 : (pt 0).st.wlo ≤ (pt 0).st.next
  ro0 : ro ≤ (pt 0).st.wlo

variable {ops : Array Oper} {pt : Nat → Pt}
def StAt (ops : Array Oper) (pt : Nat → Pt) (s : Nat) : Prop := ∃ o, ops[s]? = some o ∧ isStore o.op = true ∧ (pt s).run = true
def Own (pt : Nat → Pt) (n k id : Nat) : Prop := k < n ∧ (pt k).st.next ≤ id ∧ id < (pt (k + 1)).st.next

theorem Tc.get (h : Tc P ro N ops pt) {i : Nat} (hi : i < ops.size) : ∃ o, ops[i]? = some o := ⟨ops[i], by simp [hi]⟩
theorem Tc.mono1 (h : Tc P ro N ops pt) {i : Nat} (hi : i < ops.size) : Leaf (pt i).env (pt (i + 1)).env (pt i).st (pt (i + 1)).st := by
  obtain ⟨o, ho⟩ := h.get hi
  exact (h.step i o ho).leaf
theorem Tc.next_mono (h : Tc P ro N ops pt) : ∀ {i j : Nat}, i ≤ j → j ≤ ops.size → (pt i).st.next ≤ (pt j).st.next ∧ Pfx (pt i).env (pt j).env ∧ (pt j).st.wlo = (pt i).st.wlo := by
  intro i j hij
  induction hij with
  | refl => intro _; exact ⟨Nat.le_refl _, Pfx.refl _, rfl⟩
  | step hij ih =>
    rename_i m
    intro hm
    obtain ⟨a, b, c⟩ := ih (by omega)
    have l := h.mono1 (i := m) (by omega)
    exact ⟨Nat.le_trans a l.next, b.trans l.pfx, l.wlo.trans c⟩
theorem Tc.own_uniq (h : Tc P ro N ops pt) {k l id : Nat} (h1 : Own pt ops.size k id) (h2 : Own pt ops.size l id) : k = l := by
  obtain ⟨a1, a2, a3⟩ := h1
  obtain ⟨b1, b2, b3⟩ := h2
  rcases Nat.lt_trichotomy k l with q | q | q
  · have := (h.next_mono (i := k + 1) (j := l) (by omega) (by omega)).1; omega
  · exact q
  · have := (h.next_mono (i := l + 1) (j := k) (by omega) (by omega)).1; omega
theorem Tc.own_ex (h : Tc P ro N ops pt) {a id : Nat} : ∀ {b : Nat}, a ≤ b → b ≤ ops.size → (pt a).st.next ≤ id → id < (pt b).st.next → ∃ k, a ≤ k ∧ k < b ∧ Own pt ops.size k id := by
  intro b hab
  induction hab with
  | refl => intro _ h1 h2; omega
  | step hab ih =>
    rename_i m
    intro hm h1 h2
    by_cases h3 : id < (pt m).st.next
    · obtain ⟨k, k1, k2, k3⟩ := ih (by omega) h1 h3
      exact ⟨k, k1, by omega, k3⟩
    · exact ⟨m, hab, by omega, by omega, by omega, h2⟩

theorem Tc.lt (h : Tc P ro N ops pt) : ∀ {m : Nat}, m ≤ ops.size → ∀ id cs, findB id (pt m).st.heap = some cs → id < (pt m).st.next := by
  intro m
  induction m with
  | zero => intro _; exact h.lt0
  | succ m ih =>
    intro hm id cs hf
    obtain ⟨o, ho⟩ := h.get (i := m) (by omega)
    have st := h.step m o ho
    have ihm := ih (by omega)
    cases hr : (pt m).run with
    | false =>
      obtain ⟨_, e, _, _⟩ := st.skip hr
      rw [e] at hf ⊢; exact ihm id cs hf
    | true =>
      cases hs : isStore o.op with
      | true =>
        obtain ⟨_, hid, _⟩ := st.store hr hs
        have := findB_isSome_of_ids hid id
        rw [hf] at this
        cases hq : findB id (pt m).st.heap with
        | none => rw [hq] at this; cases this
        | some ds => exact Nat.lt_of_lt_of_le (ihm id ds hq) st.leaf.next
      | false =>
        obtain ⟨s', e, _⟩ := st.quiet hr hs
        by_cases hlo : id < (pt m).st.next
        · exact Nat.lt_of_lt_of_le hlo st.leaf.next
        · rw [e] at hf ⊢
          exact (newOnes_ge ihm (by omega) hf).2

theorem Tc.dom (h : Tc P ro N ops pt) {a id : Nat} : ∀ {b : Nat}, a ≤ b → b ≤ ops.size → id < (pt a).st.next → (findB id (pt b).st.heap).isSome = (findB id (pt a).st.heap).isSome := by
  intro b hab
  induction hab with
  | refl => intro _ _; rfl
  | step hab ih =>
    rename_i m
    intro hm hlt
    rw [← ih (by omega) hlt]
    obtain ⟨o, ho⟩ := h.get (i := m) (by omega)
    have st := h.step m o ho
    cases hr : (pt m).run with
    | false => obtain ⟨_, e, _, _⟩ := st.skip hr; rw [e]
    | true =>
      cases hs : isStore o.op with
      | true =>
        obtain ⟨_, hid, _⟩ := st.store hr hs
        exact findB_isSome_of_ids hid id
      | false =>
        obtain ⟨s', e, _⟩ := st.quiet hr hs
        have hm' := (h.next_mono hab (by omega)).1
        rw [e]
        show (findB id (newOnes _ _ _ _)).isSome = _
        rw [newOnes_lt (by omega)]

theorem Tc.same (h : Tc P ro N ops pt) {a id : Nat} : ∀ {b : Nat}, a ≤ b → b ≤ ops.size → id < (pt a).st.next → (∀ s, a ≤ s → s < b → ¬ StAt ops pt s) → findB id (pt b).st.heap = findB id (pt a).st.heap := by
  intro b hab
  induction hab with
  | refl => intro _ _ _; rfl
  | step hab ih =>
    rename_i m
    intro hm hlt hno
    rw [← ih (by omega) hlt (fun s h1 h2 => hno s h1 (by omega))]
    obtain ⟨o, ho⟩ := h.get (i := m) (by omega)
    have st := h.step m o ho
    cases hr : (pt m).run with
    | false => obtain ⟨_, e, _, _⟩ := st.skip hr; rw [e]
    | true =>
      cases hs : isStore o.op with
      | true => exact absurd ⟨o, ho, hs, hr⟩ (hno m hab (by omega))
      | false =>
        obtain ⟨s', e, _⟩ := st.quiet hr hs
        have hm' := (h.next_mono hab (by omega)).1
        rw [e]
        show findB id (newOnes _ _ _ _) = _
        rw [newOnes_lt (by omega)]

/-- whoever owns a block stands in the list -/
theorem Tc.ownerOk_own (h : Tc P ro N ops pt) {bef k id : Nat} : ∀ {i : Nat}, i ≤ ops.size → Own pt ops.size k id → k < i → ownerOk (pt i).own bef id = true → bef.testBit k = true := by
  intro i
  induction i with
  | zero => intro _ _ h; omega
  | succ i ih =>
    intro hi ho hk hok
    obtain ⟨o, hop⟩ := h.get (i := i) (by omega)
    have st := h.step i o hop
    cases hr : (pt i).run with
    | false =>
      obtain ⟨_, e, e2, _⟩ := st.skip hr
      rw [e2] at hok
      have hne : k ≠ i := by
        rintro rfl
        obtain ⟨_, q1, q2⟩ := ho
        rw [e] at q2; omega
      exact ih (by omega) ho (by omega) hok
    | true =>
      rw [st.own hr] at hok
      unfold ownerOk at hok
      cases hle : Nat.ble (pt i).st.next id with
      | true =>
        rw [hle] at hok
        have hle' : (pt i).st.next ≤ id := Nat.le_of_ble_eq_true hle
        have : k = i := by
          by_cases e : k = i
          · exact e
          · obtain ⟨q0, q1, q2⟩ := ho
            have := (h.next_mono (i := k + 1) (j := i) (by omega) (by omega)).1
            omega
        subst this; exact hok
      | false =>
        rw [hle] at hok
        have hne : k ≠ i := by
          rintro rfl
          obtain ⟨q0, q1, q2⟩ := ho
          rw [Nat.ble_eq_true_of_le q1] at hle; cases hle
        exact ih (by omega) ho (by omega) hok

/-- the temporaries along the trace -/
theorem Tc.look_tm (h : Tc P ro N ops pt) (t : Nat) : ∀ {i : Nat}, i ≤ ops.size →
    (∃ k : Nat, ∃ o : Oper, k < i ∧ ops[k]? = some o ∧ o.dst = some t ∧ (∀ (k' : Nat) (o' : Oper), k < k' → k' < i → ops[k']? = some o' → o'.dst ≠ some t) ∧ look (pt i).tm t = (pt k).av) ∨
    ((∀ (k : Nat) (o : Oper), k < i → ops[k]? = some o → o.dst ≠ some t) ∧ look (pt i).tm t = look (pt 0).tm t) := by
  intro i
  induction i with
  | zero => intro _; exact .inr ⟨fun k o h => by omega, rfl⟩
  | succ i ih =>
    intro hi
    obtain ⟨o, ho⟩ := h.get (i := i) (by omega)
    have st := h.step i o ho
    by_cases hd : o.dst = some t
    · refine .inl ⟨i, o, by omega, ho, hd, fun k' o' h1 h2 => by omega, ?_⟩
      rw [st.tm, hd]
      show look ((pt i).tm.set t _) t = _
      rw [look_set, if_pos rfl]
    · have e : look (pt (i + 1)).tm t = look (pt i).tm t := by
        rw [st.tm]
        cases hq : o.dst with
        | none => rfl
        | some d =>
          show look ((pt i).tm.set d _) t = _
          rw [look_set, if_neg]
          rintro rfl; exact hd hq
      rcases ih (by omega) with ⟨k, p, a1, a2, a3, a4, a5⟩ | ⟨a1, a2⟩
      · refine .inl ⟨k, p, by omega, a2, a3, fun k' o' h1 h2 h3 => ?_, by rw [e, a5]⟩
        by_cases e2 : k' = i
        · subst e2; rw [ho] at h3; cases h3; exact hd
        · exact a4 k' o' h1 (by omega) h3
      · refine .inr ⟨fun k p h1 h2 => ?_, by rw [e, a2]⟩
        by_cases e2 : k = i
        · subst e2; rw [ho] at h2; cases h2; exact hd
        · exact a1 k p (by omega) h2

end
end Go.Proofs.Ytconlkliclhbpaa.Sx
