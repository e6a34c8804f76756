/- Regions in the order of the text; what an operation looks at. -/
import Derived.Test.YtconlkliclhbpaaSxOp6
namespace Go.Proofs.Ytconlkliclhbpaa.Sx
open Go

theorem look_set (tm : Tr AV) (t j : Nat) (v : AV) : look (tm.set t v) j = if j = t then v else look tm j := by
  unfold look
  rw [Tr.get_set]
  by_cases h : j = t <;> simp [h]

theorem put_getD (a : Act) (t : Nat) (v : Value) (h : t < a.tmps.size) (j : Nat) : (a.put (some t) v).tmps.getD j undef = if j = t then v else a.tmps.getD j undef := by
  simp only [Act.put, Array.getD_eq_getD_getElem?, Array.getElem?_setIfInBounds]
  by_cases e : t = j
  · subst e; simp [h]
  · rw [if_neg e, if_neg (fun h => e h.symm)]

theorem TmRel.put {env : List Sc} {θ : Th} {tm : Tr AV} {a : Act} {d : Option Tmp} {av : AV} {v : Value} {N : Nat} (h : TmRel env θ tm a.tmps) (hr : Rel env θ av v) (hd : ∀ t, d = some t → t < N) (hs : N ≤ a.tmps.size) : TmRel env θ (setT tm d av) (a.put d v).tmps := by
  cases d with
  | none => exact h
  | some t =>
    intro j
    have ht := hd t rfl
    show Rel env θ (look (tm.set t av) j) _
    rw [look_set, put_getD a t v (Nat.lt_of_lt_of_le ht hs)]
    by_cases e : j = t
    · rw [if_pos e, if_pos e]; exact hr
    · rw [if_neg e, if_neg e]; exact h j

theorem put_size (a : Act) (d : Option Tmp) (v : Value) : (a.put d v).tmps.size = a.tmps.size := by
  cases d <;> simp [Act.put]
theorem put_defers (a : Act) (d : Option Tmp) (v : Value) : (a.put d v).defers = a.defers := by
  cases d <;> simp [Act.put]

theorem rel_bool {env : List Sc} {θ : Th} {av : AV} {b : Bool} (h : Rel env θ av (.bool b)) : av = .bool b := by
  cases av <;> simp only [Rel] at h
  · cases h
  · cases h; rfl
  · cases h
  · obtain ⟨_, _, _, h, _⟩ := h; cases h
  · obtain ⟨_, _, _, h, _⟩ := h; cases h
  · obtain ⟨_, _, _, h, _⟩ := h; cases h
  · obtain ⟨_, _, _, h⟩ := h; cases h
  · obtain ⟨_, _, _, h⟩ := h; cases h
  · obtain ⟨_, h, _⟩ := h; cases h
  · obtain ⟨_, h, _⟩ := h; cases h
  · obtain ⟨_, h, _⟩ := h; cases h

/-- the guard's answer, of one temporary -/
theorem yield_eq {env : List Sc} {θ : Th} {tm : Tr AV} {tmps : Array Value} {t : Nat} (h : Rel env θ (look tm t) (tmps.getD t undef)) (want : Bool) :
    (match tm.get t with | some (.bool b) => b == want | _ => false) = ((match tmps[t]? with | some (.bool b) => some b | _ => none) == some want) := by
  unfold look at h
  cases hv : tmps[t]? with
  | none =>
    have hu : tmps.getD t undef = .tuple #[] := by simp [Array.getD_eq_getD_getElem?, hv, undef]
    rw [hu] at h
    cases hg : tm.get t with
    | none => rfl
    | some av =>
      rw [hg] at h
      cases av <;> try rfl
      simp only [Rel] at h; cases h
  | some v =>
    have hu : tmps.getD t undef = v := by simp [Array.getD_eq_getD_getElem?, hv]
    rw [hu] at h
    cases hg : tm.get t with
    | none =>
      rw [hg] at h; simp only [Rel] at h; subst h; rfl
    | some av =>
      rw [hg] at h
      cases v <;> try (cases av <;> first | rfl | (simp only [Rel] at h; first | (cases h; done) | (obtain ⟨_, _, _, h, _⟩ := h; cases h; done) | (obtain ⟨_, _, _, h⟩ := h; cases h; done) | (obtain ⟨_, h, _⟩ := h; cases h; done)))
      have := rel_bool h
      subst this
      cases want <;> rename_i b <;> cases b <;> rfl

theorem wants_eq {env : List Sc} {θ : Th} {ops : Array Oper} {tm : Tr AV} {tmps : Array Value} {o : Oper} (h : ∀ t, o.guard.isSome = true → (∃ j w, o.guard = some (j, w) ∧ (ops[j]?).bind (·.dst) = some t) → Rel env θ (look tm t) (tmps.getD t undef)) :
    wants ops tm o = Region.wanted o (yielded ops tmps) := by
  unfold wants Region.wanted
  cases hg : o.guard with
  | none => rfl
  | some jw =>
    obtain ⟨j, want⟩ := jw
    simp only [yielded]
    cases hd : (ops[j]?).bind (·.dst) with
    | none => rfl
    | some t =>
      simp only [Option.bind_some]
      exact yield_eq (h t (by simp [hg]) ⟨j, want, hg, hd⟩) want

theorem wants_tm {env : List Sc} {θ : Th} {ops : Array Oper} {tm : Tr AV} {a : Act} {o : Oper} (h : TmRel env θ tm a.tmps) : wants ops tm o = Region.wanted o (yielded ops a.tmps) :=
  wants_eq fun t _ _ => h t

section
variable {P : Program} {G : Gs} {rs : List Sc} {ro N : Nat} {sm : List (FuncId × Sum)} {ex : List (FuncId × Ext)} {call : CallK}

/-- the leaf behind a piece of code -/
structure Leaf (env env' : List Sc) (st st' : St) : Prop where
  pfx : Pfx env env'
  nn : st'.nn = env'.length
  next : st.next ≤ st'.next
  wlo : st'.wlo = st.wlo

/-- what is sound of a piece that runs to its end -/
def Piece (ro N : Nat) (env env' : List Sc) (tm tm' : Tr AV) (st st' : St) (a : Act) (w : World) (θ : Th) (a' : Act) (w' : World) : Prop :=
  ∃ θ', OpPre ro env' θ' tm' st' a' w' ∧ N ≤ a'.tmps.size ∧ a'.defers = a.defers ∧ Stp θ θ' st.next st'.next st.wlo w w'

theorem runOps_ok (hctx : Ctx P sm ex call G) (ops : Array Oper) : ∀ (l : List Oper) (k : Nat) {env : List Sc} {tm : Tr AV} {st : St} {kk : Tr AV → St → T}, (∀ j, l[j]? = ops[k + j]?) → l.all (dstOk N) = true → ro ≤ st.wlo → ro ≤ st.next →
    (runOps P sm ex call ops l tm st kk).den G env = some rs → st.nn = env.length →
    ∃ env' tm' st', (kk tm' st').den G env' = some rs ∧ Leaf env env' st st' ∧
      ∀ (a : Act) (w : World) (θ : Th) (Q : Exit → Act → World → Prop), OpPre ro env θ tm st a w → N ≤ a.tmps.size → Fresh θ st.next st'.next →
        (∀ a' w', Piece ro N env env' tm tm' st st' a w θ a' w' → Q .normal a' w') → wpOps P ops Q (List.range' k l.length) a w
  | [], k, env, tm, st, kk, hl, hd, hro, hrn, h, hn => by
    refine ⟨env, tm, st, h, ⟨Pfx.refl _, hn, Nat.le_refl _, rfl⟩, fun a w θ Q hp hs hf hq => ?_⟩
    exact hq a w ⟨θ, hp, hs, rfl, Stp.refl _ _ _ _ _⟩
  | o :: l, k, env, tm, st, kk, hl, hd, hro, hrn, h, hn => by
    simp only [List.all_cons, Bool.and_eq_true] at hd
    obtain ⟨hd1, hd2⟩ := hd
    have hdst : ∀ t, o.dst = some t → t < N := by
      intro t ht
      simp only [dstOk, ht, Nat.blt_eq] at hd1; exact hd1
    have ho : ops[k]? = some o := by have := hl 0; simpa using this.symm
    have hl' : ∀ j, l[j]? = ops[k + 1 + j]? := fun j => by
      have := hl (j + 1)
      simp only [List.getElem?_cons_succ] at this
      rw [this]; congr 1; omega
    unfold runOps at h
    cases hw : wants ops tm o with
    | false =>
      simp only [hw] at h
      obtain ⟨env', tm', st', h1, h2, h3⟩ := runOps_ok hctx ops l (k + 1) hl' hd2 hro hrn h hn
      refine ⟨env', tm', st', h1, h2, fun a w θ Q hp hs hf hq => ?_⟩
      simp only [List.length_cons, List.range'_succ, wpOps, ho]
      rw [← wants_tm hp.tm, hw]
      simp only [Bool.false_eq_true, if_false]
      refine h3 (a.put o.dst undef) w θ Q ⟨hp.tm.put (by simp [Rel, undef]) hdst hs, hp.wr, hp.inj⟩ (by rw [put_size]; exact hs) hf ?_
      intro a' w' ⟨θ', g1, g2, g3, g4⟩
      exact hq a' w' ⟨θ', g1, g2, by rw [g3, put_defers], g4⟩
    | true =>
      simp only [hw] at h
      obtain ⟨e1, av, s1, h1, p1, n1, x1, w1, snd⟩ := op_ok (o := o) hctx hro hrn h hn
      obtain ⟨env', tm', st', h2, lf, h3⟩ := runOps_ok hctx ops l (k + 1) hl' hd2 (by omega) (by omega) h1 n1
      refine ⟨env', tm', st', h2, ⟨p1.trans lf.pfx, lf.nn, by have := lf.next; omega, lf.wlo.trans w1⟩, fun a w θ Q hp hs hf hq => ?_⟩
      simp only [List.length_cons, List.range'_succ, wpOps, ho]
      rw [← wants_tm hp.tm, hw]
      simp only [if_true]
      refine .inl (Gives.wp (snd a w θ hp (fun i i1 i2 => hf i i1 (by have := lf.next; omega))) ?_)
      intro v w' ⟨θ', r1, r2, r3⟩
      have hp' : OpPre ro e1 θ' (setT tm o.dst av) s1 (a.put o.dst v) w' :=
        ⟨(hp.tm.mono p1 r3.ext).put r1 hdst hs, r2, hp.inj.step r3⟩
      refine h3 (a.put o.dst v) w' θ' Q hp' (by rw [put_size]; exact hs) (Fresh.step hf r3 x1) ?_
      intro a' w'' ⟨θ'', g1, g2, g3, g4⟩
      refine hq a' w'' ⟨θ'', g1, g2, by rw [g3, put_defers], ?_⟩
      rw [w1] at g4
      exact r3.trans g4 x1 lf.next

/-! What an operation looks at -/
def Agree (tm tm' : Tr AV) (x : Operand) : Prop := ∀ t, x = .tmp t → tm.get t = tm'.get t
theorem opd_congr {tm tm' : Tr AV} {x : Operand} {st : St} {kk : K} (h : Agree tm tm' x) : opd tm x st kk = opd tm' x st kk := by
  cases x <;> simp only [opd]
  rw [h _ rfl]
theorem opd_congr2 {tm tm' : Tr AV} {x : Operand} {st : St} {kk kk' : K} (h : Agree tm tm' x) (hk : kk = kk') : opd tm x st kk = opd tm' x st kk' := by
  subst hk; exact opd_congr h
theorem opds_congr {tm tm' : Tr AV} : ∀ {xs : List Operand} {st : St} {kk : List AV → St → T}, (∀ x ∈ xs, Agree tm tm' x) → opds tm xs st kk = opds tm' xs st kk
  | [], st, kk, h => rfl
  | x :: xs, st, kk, h => by
    simp only [opds]
    exact opd_congr2 (h x (by simp)) (by funext v s; exact opds_congr fun y hy => h y (by simp [hy]))
theorem opdParts_congr {tm tm' : Tr AV} : ∀ {xs : List (Nat × Operand)} {st : St} {kk : List (Nat × AV) → St → T}, (∀ p ∈ xs, Agree tm tm' p.2) → opdParts tm xs st kk = opdParts tm' xs st kk
  | [], st, kk, h => rfl
  | (i, x) :: xs, st, kk, h => by
    simp only [opdParts]
    exact opd_congr2 (h (i, x) (by simp)) (by funext v s; exact opdParts_congr fun y hy => h y (by simp [hy]))

theorem evOp_congr {tm tm' : Tr AV} {o : Op} {st : St} {kk : K} (h : ∀ x ∈ o.operands, Agree tm tm' x) : evOp P sm ex call tm o st kk = evOp P sm ex call tm' o st kk := by
  cases o <;> simp only [evOp] <;> simp only [Op.operands] at h
  case move x => exact opd_congr (h x (by simp))
  case assign x => exact opd_congr (h x (by simp))
  case pick c a b =>
    refine opd_congr2 (h c (by simp)) ?_
    funext cv s
    unfold kPick
    cases cv <;> try rfl
    rename_i q
    cases q
    · exact opd_congr (h b (by simp))
    · exact opd_congr (h a (by simp))
  case box t x => exact opd_congr (h x (by simp))
  case build t ps =>
    unfold evBuild
    exact opdParts_congr fun p hp => h p.2 (by simp; exact ⟨p.1, by simpa using hp⟩)
  case buildSlice t n ps =>
    unfold evBuildSlice
    exact opdParts_congr fun p hp => h p.2 (by simp; exact ⟨p.1, by simpa using hp⟩)
  case load t x => exact opd_congr (h x (by simp))
  case store t x y =>
    unfold evStore
    exact opd_congr2 (h x (by simp)) (by funext v s; exact opd_congr (h y (by simp)))
  case nilCheck x => exact opd_congr (h x (by simp))
  case binOp op t x y ty =>
    unfold evBin
    exact opd_congr2 (h x (by simp)) (by funext v s; exact opd_congr (h y (by simp)))
  case unOp op t x => exact opd_congr (h x (by simp))
  case convert s d x => exact opd_congr (h x (by simp))
  case makeFunc fn first cs =>
    unfold evMakeFunc
    cases fn <;> try rfl
    cases hz : first.size with
    | zero =>
      simp only [hz]
      exact opds_congr fun x hx => h x (by simp; exact .inr (by simpa using hx))
    | succ n => simp only [hz]
  case slice t x l hi m =>
    unfold evSliceO
    cases l <;> cases hi <;> cases m <;> try rfl
    exact opd_congr (h x (by simp))
  case fieldAddr s x f => exact opd_congr (h x (by simp))
  case field t x f => exact opd_congr (h x (by simp))
  case indexAddr t x i =>
    unfold evIndexAddr
    exact opd_congr2 (h x (by simp)) (by funext v s; exact opd_congr (h i (by simp)))
  case index t x i =>
    unfold evIndex
    exact opd_congr2 (h x (by simp)) (by funext v s; exact opd_congr (h i (by simp)))
  case extract x i => exact opd_congr (h x (by simp))
  case call c =>
    unfold evCall
    unfold Call.operands at h
    cases hc : c.callee with
    | value f =>
      simp only [hc] at h ⊢
      exact opd_congr2 (h f (by simp)) (by funext v s; exact opds_congr fun x hx => h x (by simp; exact .inr (by simpa using hx)))
    | invoke r m => rfl
    | builtin b =>
      simp only [hc] at h
      cases b <;> try rfl
      simp only []
      split
      · split
        · exact opds_congr fun x hx => h x (by simp; simpa using hx)
        · rfl
      · rfl

end
end Go.Proofs.Ytconlkliclhbpaa.Sx
