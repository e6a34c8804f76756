/- Regions of code, drawn ones among them, and functions: a function's tree is a summary of it, for every input. -/
import Derived.Test.YtejbahdihfnbcaaDoorSxA
import Derived.LoopN
import Derived.Scope
/- Regions in the order of the text; what an operation looks at. -/
namespace Go.Proofs.YtejbahdihfnbcaaDoor.Sx
open Go
set_option linter.unusedSimpArgs false
set_option linter.unusedVariables false

theorem look_set (tm : Tr AV) (t j : Nat) (v : AV) : look (tm.set t v) j = if j = t then v else look tm j := by
  unfold look
  rw [Tr.get_set]
  by_cases h : j = t <;> simp [h]

theorem put_getD (a : Act) (t : Nat) (v : Value) (h : t < a.tmps.size) (j : Nat) : (a.put (some t) v).tmps.getD j undef = if j = t then v else a.tmps.getD j undef := by
  simp only [Act.put, Array.getD_eq_getD_getElem?, Array.getElem?_setIfInBounds]
  by_cases e : t = j
  · subst e; simp [h]
  · rw [if_neg e, if_neg (fun h => e h.symm)]

theorem TmRel.put {env : List Sc} {θ : Th} {tm : Tr AV} {a : Act} {d : Option Tmp} {av : AV} {v : Value} {N : Nat} (h : TmRel env θ tm a.tmps) (hr : Rel env θ av v) (hd : ∀ t, d = some t → t < N) (hs : N ≤ a.tmps.size) : TmRel env θ (setT tm d av) (a.put d v).tmps := by
  cases d with
  | none => exact h
  | some t =>
    intro j
    have ht := hd t rfl
    show Rel env θ (look (tm.set t av) j) _
    rw [look_set, put_getD a t v (Nat.lt_of_lt_of_le ht hs)]
    by_cases e : j = t
    · rw [if_pos e, if_pos e]; exact hr
    · rw [if_neg e, if_neg e]; exact h j

theorem put_size (a : Act) (d : Option Tmp) (v : Value) : (a.put d v).tmps.size = a.tmps.size := by
  cases d <;> simp [Act.put]
theorem put_defers (a : Act) (d : Option Tmp) (v : Value) : (a.put d v).defers = a.defers := by
  cases d <;> simp [Act.put]

theorem rel_bool {env : List Sc} {θ : Th} {av : AV} {b : Bool} (h : Rel env θ av (.bool b)) : av = .bool b := by
  cases av <;> simp only [Rel] at h
  · cases h
  · cases h; rfl
  · cases h
  · obtain ⟨_, _, _, h, _⟩ := h; cases h
  · obtain ⟨_, _, _, h, _⟩ := h; cases h
  · obtain ⟨_, _, _, h, _⟩ := h; cases h
  · obtain ⟨_, _, _, h⟩ := h; cases h
  · obtain ⟨_, _, _, h⟩ := h; cases h
  · cases h
  · obtain ⟨_, h, _⟩ := h; cases h
  · obtain ⟨_, h, _⟩ := h; cases h
  · obtain ⟨_, h, _⟩ := h; cases h

/-- the guard's answer, of one temporary -/
theorem yield_eq {env : List Sc} {θ : Th} {tm : Tr AV} {tmps : Array Value} {t : Nat} (h : Rel env θ (look tm t) (tmps.getD t undef)) (want : Bool) :
    (match tm.get t with | some (.bool b) => b == want | _ => false) = ((match tmps[t]? with | some (.bool b) => some b | _ => none) == some want) := by
  unfold look at h
  cases hv : tmps[t]? with
  | none =>
    have hu : tmps.getD t undef = .tuple #[] := by simp [Array.getD_eq_getD_getElem?, hv, undef]
    rw [hu] at h
    cases hg : tm.get t with
    | none => rfl
    | some av =>
      rw [hg] at h
      cases av <;> try rfl
      simp only [Rel] at h; cases h
  | some v =>
    have hu : tmps.getD t undef = v := by simp [Array.getD_eq_getD_getElem?, hv]
    rw [hu] at h
    cases hg : tm.get t with
    | none =>
      rw [hg] at h; simp only [Rel] at h; subst h; rfl
    | some av =>
      rw [hg] at h
      cases v <;> try (cases av <;> first | rfl | (simp only [Rel] at h; first | (cases h; done) | (obtain ⟨_, _, _, h, _⟩ := h; cases h; done) | (obtain ⟨_, _, _, h⟩ := h; cases h; done) | (obtain ⟨_, h, _⟩ := h; cases h; done)))
      have := rel_bool h
      subst this
      cases want <;> rename_i b <;> cases b <;> rfl

theorem wants_eq {env : List Sc} {θ : Th} {ops : Array Oper} {tm : Tr AV} {tmps : Array Value} {o : Oper} (h : ∀ t, o.guard.isSome = true → (∃ j w, o.guard = some (j, w) ∧ (ops[j]?).bind (·.dst) = some t) → Rel env θ (look tm t) (tmps.getD t undef)) :
    wants ops tm o = Region.wanted o (yielded ops tmps) := by
  unfold wants Region.wanted
  cases hg : o.guard with
  | none => rfl
  | some jw =>
    obtain ⟨j, want⟩ := jw
    simp only [yielded]
    cases hd : (ops[j]?).bind (·.dst) with
    | none => rfl
    | some t =>
      simp only [Option.bind_some]
      exact yield_eq (h t (by simp [hg]) ⟨j, want, hg, hd⟩) want

theorem wants_tm {env : List Sc} {θ : Th} {ops : Array Oper} {tm : Tr AV} {a : Act} {o : Oper} (h : TmRel env θ tm a.tmps) : wants ops tm o = Region.wanted o (yielded ops a.tmps) :=
  wants_eq fun t _ _ => h t

section
variable {P : Program} {G : Gs} {rs : List Sc} {ro N : Nat} {sm : List (FuncId × Sum)} {ex : List (FuncId × Ext)} {call : CallK}

/-- the leaf behind a piece of code -/
structure Leaf (env env' : List Sc) (st st' : St) : Prop where
  pfx : Pfx env env'
  nn : st'.nn = env'.length
  next : st.next ≤ st'.next
  wlo : st'.wlo = st.wlo

/-- what is sound of a piece that runs to its end -/
def Piece (ro N : Nat) (env env' : List Sc) (tm tm' : Tr AV) (st st' : St) (a : Act) (w : World) (θ : Th) (a' : Act) (w' : World) : Prop :=
  ∃ θ', OpPre ro env' θ' tm' st' a' w' ∧ N ≤ a'.tmps.size ∧ a'.defers = a.defers ∧ Stp θ θ' st.next st'.next st.wlo w w'

theorem runOps_ok (hctx : Ctx P sm ex call G) (ops : Array Oper) : ∀ (l : List Oper) (k : Nat) {env : List Sc} {tm : Tr AV} {st : St} {kk : Tr AV → St → T}, (∀ j, l[j]? = ops[k + j]?) → l.all (dstOk N) = true → ro ≤ st.wlo → ro ≤ st.next →
    (runOps P sm ex call ops l tm st kk).den G env = some rs → st.nn = env.length →
    ∃ env' tm' st', (kk tm' st').den G env' = some rs ∧ Leaf env env' st st' ∧
      ∀ (a : Act) (w : World) (θ : Th) (Q : Exit → Act → World → Prop), OpPre ro env θ tm st a w → N ≤ a.tmps.size → Fresh θ st.next st'.next →
        (∀ a' w', Piece ro N env env' tm tm' st st' a w θ a' w' → Q .normal a' w') → wpOps P ops Q (List.range' k l.length) a w
  | [], k, env, tm, st, kk, hl, hd, hro, hrn, h, hn => by
    refine ⟨env, tm, st, h, ⟨Pfx.refl _, hn, Nat.le_refl _, rfl⟩, fun a w θ Q hp hs hf hq => ?_⟩
    exact hq a w ⟨θ, hp, hs, rfl, Stp.refl _ _ _ _ _⟩
  | o :: l, k, env, tm, st, kk, hl, hd, hro, hrn, h, hn => by
    simp only [List.all_cons, Bool.and_eq_true] at hd
    obtain ⟨hd1, hd2⟩ := hd
    have hdst : ∀ t, o.dst = some t → t < N := by
      intro t ht
      simp only [dstOk, ht, Nat.blt_eq] at hd1; exact hd1
    have ho : ops[k]? = some o := by have := hl 0; simpa using this.symm
    have hl' : ∀ j, l[j]? = ops[k + 1 + j]? := fun j => by
      have := hl (j + 1)
      simp only [List.getElem?_cons_succ] at this
      rw [this]; congr 1; omega
    unfold runOps at h
    cases hw : wants ops tm o with
    | false =>
      simp only [hw] at h
      obtain ⟨env', tm', st', h1, h2, h3⟩ := runOps_ok hctx ops l (k + 1) hl' hd2 hro hrn h hn
      refine ⟨env', tm', st', h1, h2, fun a w θ Q hp hs hf hq => ?_⟩
      simp only [List.length_cons, List.range'_succ, wpOps, ho]
      rw [← wants_tm hp.tm, hw]
      simp only [Bool.false_eq_true, if_false]
      refine h3 (a.put o.dst undef) w θ Q ⟨hp.tm.put (by simp [Rel, undef]) hdst hs, hp.wr, hp.inj⟩ (by rw [put_size]; exact hs) hf ?_
      intro a' w' ⟨θ', g1, g2, g3, g4⟩
      exact hq a' w' ⟨θ', g1, g2, by rw [g3, put_defers], g4⟩
    | true =>
      simp only [hw] at h
      obtain ⟨e1, av, s1, h1, p1, n1, x1, w1, snd⟩ := op_ok (o := o) hctx hro hrn h hn
      obtain ⟨env', tm', st', h2, lf, h3⟩ := runOps_ok hctx ops l (k + 1) hl' hd2 (by omega) (by omega) h1 n1
      refine ⟨env', tm', st', h2, ⟨p1.trans lf.pfx, lf.nn, by have := lf.next; omega, lf.wlo.trans w1⟩, fun a w θ Q hp hs hf hq => ?_⟩
      simp only [List.length_cons, List.range'_succ, wpOps, ho]
      rw [← wants_tm hp.tm, hw]
      simp only [if_true]
      refine .inl (Gives.wp (snd a w θ hp (fun i i1 i2 => hf i i1 (by have := lf.next; omega))) ?_)
      intro v w' ⟨θ', r1, r2, r3⟩
      have hp' : OpPre ro e1 θ' (setT tm o.dst av) s1 (a.put o.dst v) w' :=
        ⟨(hp.tm.mono p1 r3.ext).put r1 hdst hs, r2, hp.inj.step r3⟩
      refine h3 (a.put o.dst v) w' θ' Q hp' (by rw [put_size]; exact hs) (Fresh.step hf r3 x1) ?_
      intro a' w'' ⟨θ'', g1, g2, g3, g4⟩
      refine hq a' w'' ⟨θ'', g1, g2, by rw [g3, put_defers], ?_⟩
      rw [w1] at g4
      exact r3.trans g4 x1 lf.next

/-! What an operation looks at -/
def Agree (tm tm' : Tr AV) (x : Operand) : Prop := ∀ t, x = .tmp t → tm.get t = tm'.get t
theorem opd_congr {tm tm' : Tr AV} {x : Operand} {st : St} {kk : K} (h : Agree tm tm' x) : opd tm x st kk = opd tm' x st kk := by
  cases x <;> simp only [opd]
  rw [h _ rfl]
theorem opd_congr2 {tm tm' : Tr AV} {x : Operand} {st : St} {kk kk' : K} (h : Agree tm tm' x) (hk : kk = kk') : opd tm x st kk = opd tm' x st kk' := by
  subst hk; exact opd_congr h
theorem opds_congr {tm tm' : Tr AV} : ∀ {xs : List Operand} {st : St} {kk : List AV → St → T}, (∀ x ∈ xs, Agree tm tm' x) → opds tm xs st kk = opds tm' xs st kk
  | [], st, kk, h => rfl
  | x :: xs, st, kk, h => by
    simp only [opds]
    exact opd_congr2 (h x (by simp)) (by funext v s; exact opds_congr fun y hy => h y (by simp [hy]))
theorem opdParts_congr {tm tm' : Tr AV} : ∀ {xs : List (Nat × Operand)} {st : St} {kk : List (Nat × AV) → St → T}, (∀ p ∈ xs, Agree tm tm' p.2) → opdParts tm xs st kk = opdParts tm' xs st kk
  | [], st, kk, h => rfl
  | (i, x) :: xs, st, kk, h => by
    simp only [opdParts]
    exact opd_congr2 (h (i, x) (by simp)) (by funext v s; exact opdParts_congr fun y hy => h y (by simp [hy]))

theorem evOp_congr {tm tm' : Tr AV} {o : Op} {st : St} {kk : K} (h : ∀ x ∈ o.operands, Agree tm tm' x) : evOp P sm ex call tm o st kk = evOp P sm ex call tm' o st kk := by
  cases o <;> simp only [evOp] <;> simp only [Op.operands] at h
  case move x => exact opd_congr (h x (by simp))
  case assign x => exact opd_congr (h x (by simp))
  case pick c a b =>
    refine opd_congr2 (h c (by simp)) ?_
    funext cv s
    unfold kPick
    cases cv <;> try rfl
    rename_i q
    cases q
    · exact opd_congr (h b (by simp))
    · exact opd_congr (h a (by simp))
  case box t x => exact opd_congr (h x (by simp))
  case build t ps =>
    unfold evBuild
    exact opdParts_congr fun p hp => h p.2 (by simp; exact ⟨p.1, by simpa using hp⟩)
  case buildSlice t n ps =>
    unfold evBuildSlice
    exact opdParts_congr fun p hp => h p.2 (by simp; exact ⟨p.1, by simpa using hp⟩)
  case load t x => exact opd_congr (h x (by simp))
  case store t x y =>
    unfold evStore
    exact opd_congr2 (h x (by simp)) (by funext v s; exact opd_congr (h y (by simp)))
  case nilCheck x => exact opd_congr (h x (by simp))
  case binOp op t x y ty =>
    unfold evBin
    exact opd_congr2 (h x (by simp)) (by funext v s; exact opd_congr (h y (by simp)))
  case unOp op t x => exact opd_congr (h x (by simp))
  case convert s d x => exact opd_congr (h x (by simp))
  case makeFunc fn first cs =>
    unfold evMakeFunc
    cases fn <;> try rfl
    cases hz : first.size with
    | zero =>
      simp only [hz]
      exact opds_congr fun x hx => h x (by simp; exact .inr (by simpa using hx))
    | succ n => simp only [hz]
  case slice t x l hi m =>
    unfold evSliceO
    cases l <;> cases hi <;> cases m <;> try rfl
    exact opd_congr (h x (by simp))
  case fieldAddr s x f => exact opd_congr (h x (by simp))
  case field t x f => exact opd_congr (h x (by simp))
  case indexAddr t x i =>
    unfold evIndexAddr
    exact opd_congr2 (h x (by simp)) (by funext v s; exact opd_congr (h i (by simp)))
  case index t x i =>
    unfold evIndex
    exact opd_congr2 (h x (by simp)) (by funext v s; exact opd_congr (h i (by simp)))
  case extract x i => exact opd_congr (h x (by simp))
  case call c =>
    unfold evCall
    unfold Call.operands at h
    cases hc : c.callee with
    | value f =>
      simp only [hc] at h ⊢
      exact opd_congr2 (h f (by simp)) (by funext v s; exact opds_congr fun x hx => h x (by simp; exact .inr (by simpa using hx)))
    | invoke r m => rfl
    | builtin b =>
      simp only [hc] at h
      cases b <;> try rfl
      simp only []
      split
      · split
        · exact opds_congr fun x hx => h x (by simp; simpa using hx)
        · rfl
      · rfl

end
end Go.Proofs.YtejbahdihfnbcaaDoor.Sx

/- A region that draws its order: one evaluation in the order of the text serves every order. -/
namespace Go.Proofs.YtejbahdihfnbcaaDoor.Sx
open Go
set_option linter.unusedSimpArgs false
set_option linter.unusedVariables false

/-! Which operations stand before an operation -/
def Binds (o : Oper) (j : Nat) : Prop := ∃ e ∈ o.after.toList, Region.binds .any e = true ∧ e.on = j
def BefSpec (ops : List Oper) (acc : Array Nat) : Prop :=
  acc.size = ops.length ∧ ∀ i o, ops[i]? = some o → ∀ k, (acc.getD i 0).testBit k = true → ∃ j, Binds o j ∧ (k = j ∨ (j < i ∧ (acc.getD j 0).testBit k = true))

def befStep (acc : Array Nat) (o : Oper) : Array Nat :=
  acc.push (o.after.foldl (fun s e => if Region.binds .any e then s ||| 2 ^ e.on ||| acc.getD e.on 0 else s) 0)
theorem bef_fold (acc : Array Nat) (k : Nat) : ∀ (l : List Edge) (s : Nat), (l.foldl (fun s e => if Region.binds .any e then s ||| 2 ^ e.on ||| acc.getD e.on 0 else s) s).testBit k = true →
    s.testBit k = true ∨ ∃ e ∈ l, Region.binds .any e = true ∧ (k = e.on ∨ (acc.getD e.on 0).testBit k = true)
  | [], s, h => .inl h
  | e :: l, s, h => by
    simp only [List.foldl_cons] at h
    rcases bef_fold acc k l _ h with h | ⟨e', he, hb, hk⟩
    · by_cases hb : Region.binds .any e = true
      · rw [if_pos hb] at h
        simp only [Nat.testBit_or, Bool.or_eq_true, Nat.testBit_two_pow, decide_eq_true_eq] at h
        rcases h with (h | h) | h
        · exact .inl h
        · exact .inr ⟨e, by simp, hb, .inl h.symm⟩
        · exact .inr ⟨e, by simp, hb, .inr h⟩
      · rw [if_neg hb] at h; exact .inl h
    · exact .inr ⟨e', by simp [he], hb, hk⟩

theorem bef_step {ops : List Oper} {acc : Array Nat} (h : BefSpec ops acc) (o : Oper) : BefSpec (ops ++ [o]) (befStep acc o) := by
  obtain ⟨h1, h2⟩ := h
  have hold : ∀ j, j < acc.size → (befStep acc o).getD j 0 = acc.getD j 0 := by
    intro j hj
    simp only [befStep, Array.getD_eq_getD_getElem?, Array.getElem?_push]
    rw [if_neg (by omega)]
  refine ⟨by simp [befStep, h1], fun i q hi k hk => ?_⟩
  by_cases hlt : i < ops.length
  · rw [List.getElem?_append_left hlt] at hi
    rw [hold i (by omega)] at hk
    obtain ⟨j, hb, hj⟩ := h2 i q hi k hk
    refine ⟨j, hb, hj.imp id fun ⟨h3, h4⟩ => ⟨h3, by rw [hold j (by omega)]; exact h4⟩⟩
  · have hie : i = ops.length := by
      have := (List.getElem?_eq_some_iff.1 hi).1
      simp at this; omega
    subst hie
    simp at hi; subst hi
    have hnew : (befStep acc o).getD ops.length 0 = o.after.foldl (fun s e => if Region.binds .any e then s ||| 2 ^ e.on ||| acc.getD e.on 0 else s) 0 := by
      simp only [befStep, Array.getD_eq_getD_getElem?, Array.getElem?_push]
      rw [if_pos h1.symm]; rfl
    rw [hnew, ← Array.foldl_toList] at hk
    rcases bef_fold acc k _ _ hk with h | ⟨e, he, hb, hk⟩
    · simp at h
    · refine ⟨e.on, ⟨e, he, hb, rfl⟩, hk.imp id fun h3 => ?_⟩
      have hlt' : e.on < acc.size := by
        rcases Nat.lt_or_ge e.on acc.size with h | h
        · exact h
        · simp [Array.getD_eq_getD_getElem?, Array.getElem?_eq_none h] at h3
      exact ⟨by omega, by rw [hold _ hlt']; exact h3⟩

theorem bef_all : ∀ (l pre : List Oper) (acc : Array Nat), BefSpec pre acc → BefSpec (pre ++ l) (l.foldl befStep acc)
  | [], pre, acc, h => by simpa using h
  | o :: l, pre, acc, h => by
    simp only [List.foldl_cons]
    have := bef_all l (pre ++ [o]) _ (bef_step h o)
    simpa using this
theorem bef_spec (ops : Array Oper) : BefSpec ops.toList (Region.before ops) := by
  have : Region.before ops = ops.toList.foldl befStep #[] := by
    unfold Region.before
    rw [← Array.foldl_toList]; rfl
  rw [this]
  have := bef_all ops.toList [] #[] ⟨rfl, fun i o h => by simp at h⟩
  simpa using this

/-! What the check says -/
theorem draw_edge {ops : Array Oper} (h : drawOk ops = true) {i : Nat} {o : Oper} (ho : ops[i]? = some o) {j : Nat} (hb : Binds o j) : j < i := by
  simp only [drawOk, List.all_eq_true, Bool.and_eq_true] at h
  have hm : (o, i) ∈ ops.toList.zipIdx := by
    rw [List.mem_zipIdx_iff_getElem?]; simpa using ho
  obtain ⟨h1, _⟩ := h (o, i) hm
  obtain ⟨e, he, hb, rfl⟩ := hb
  have := Array.all_eq_true'.1 h1 e (by simpa using he)
  simp [hb, Nat.blt_eq] at this
  exact this

theorem draw_cmp {ops : Array Oper} (h : drawOk ops = true) {i j : Nat} {o p : Oper} (ho : ops[i]? = some o) (hp : ops[j]? = some p) (hlt : j < i) :
    ((Region.before ops).getD i 0).testBit j = true ∨
      (hard o.op p.op = false ∧ hard p.op o.op = false ∧ (∀ d, o.dst = some d → d ∉ namesOf ops p) ∧ ∀ d, p.dst = some d → d ∉ namesOf ops o) := by
  simp only [drawOk, List.all_eq_true, Bool.and_eq_true] at h
  have hm : (o, i) ∈ ops.toList.zipIdx := by rw [List.mem_zipIdx_iff_getElem?]; simpa using ho
  have hm' : (p, j) ∈ ops.toList.zipIdx := by rw [List.mem_zipIdx_iff_getElem?]; simpa using hp
  obtain ⟨_, h2⟩ := h (o, i) hm
  have h3 := h2 (p, j) hm'
  simp only [Bool.or_eq_true, Bool.not_eq_true', Bool.and_eq_true] at h3
  rcases h3 with (h3 | h3) | h3
  · have : Nat.blt j i = true := by simpa [Nat.blt_eq] using hlt
    rw [this] at h3; cases h3
  · exact .inl h3
  · obtain ⟨⟨⟨a1, a2⟩, a3⟩, a4⟩ := h3
    refine .inr ⟨a1, a2, fun d hd => ?_, fun d hd => ?_⟩
    · unfold apartD at a3
      rw [hd] at a3
      simpa using a3
    · unfold apartD at a4
      rw [hd] at a4
      simpa using a4

/-! The temporaries that an operation reads, alone -/
def opTmps (o : Op) : List Tmp := o.operands.toList.filterMap fun | .tmp t => some t | _ => none
def restr (tm : Tr AV) : List Tmp → Tr AV
  | [] => .nil
  | t :: ts => match tm.get t with | some v => (restr tm ts).set t v | none => restr tm ts
theorem restr_get (tm : Tr AV) : ∀ (ts : List Tmp) (t : Nat), (restr tm ts).get t = if t ∈ ts then tm.get t else none
  | [], t => by simp [restr, Tr.get]
  | s :: ts, t => by
    unfold restr
    cases hs : tm.get s with
    | none =>
      simp only []
      rw [restr_get tm ts t]
      by_cases e : t = s
      · subst e; simp [hs]
      · simp [e]
    | some v =>
      simp only []
      rw [Tr.get_set, restr_get tm ts t]
      by_cases e : t = s
      · subst e; simp [hs]
      · simp [e]
theorem restr_agree (tm : Tr AV) (o : Op) : ∀ x ∈ o.operands, Agree tm (restr tm (opTmps o)) x := by
  intro x hx t ht
  subst ht
  rw [restr_get, if_pos]
  simp only [opTmps, List.mem_filterMap]
  exact ⟨.tmp t, by simpa using hx, rfl⟩

def virt (a : Act) (ts : List Tmp) : Act := { tmps := (Array.range a.tmps.size).map fun t => if t ∈ ts then a.tmps.getD t undef else undef, defers := a.defers }
theorem virt_getD (a : Act) (ts : List Tmp) (t : Nat) : (virt a ts).tmps.getD t undef = if t ∈ ts then a.tmps.getD t undef else undef := by
  simp only [virt, Array.getD_eq_getD_getElem?, Array.getElem?_map, Array.getElem?_range]
  by_cases h : t < a.tmps.size
  · simp [h]
  · simp [h]
theorem virt_exec (a : Act) (o : Oper) (hs : ∀ cs b, o.op ≠ .select cs b) : execOp (virt a (opTmps o.op)).eval o = execOp a.eval o := by
  apply execOp_congr o hs
  intro x hx
  cases x with
  | tmp t =>
    show (virt a _).tmps.getD t undef = a.tmps.getD t undef
    rw [virt_getD, if_pos]
    simp only [opTmps, List.mem_filterMap]
    exact ⟨.tmp t, by simpa using hx, rfl⟩
  | _ => rfl

/-! The heap as it goes on -/
theorem findB_isSome_of_ids : ∀ {h1 h2 : List (Nat × List AV)}, idsEq h1 h2 = true → ∀ id, (findB id h1).isSome = (findB id h2).isSome
  | [], [], _, id => rfl
  | [], _ :: _, h, id => by simp [idsEq] at h
  | _ :: _, [], h, id => by simp [idsEq] at h
  | (i, a) :: r, (j, b) :: s, h, id => by
    simp only [idsEq, Bool.and_eq_true] at h
    obtain rfl : i = j := Nat.eq_of_beq_eq_true h.1
    unfold findB
    cases Nat.beq id i
    · exact findB_isSome_of_ids h.2 id
    · rfl
theorem findB_ne {id j : Nat} {cs : List AV} {h : List (Nat × List AV)} (hne : id ≠ j) : findB id ((j, cs) :: h) = findB id h := by
  rw [findB, show Nat.beq id j = false from by
    cases q : Nat.beq id j
    · rfl
    · exact absurd (Nat.eq_of_beq_eq_true q) hne]
theorem newOnes_lt {lo hi : Nat} {full : List (Nat × List AV)} : ∀ {h : List (Nat × List AV)} {id : Nat}, id < lo → findB id (newOnes lo hi h full) = findB id full
  | [], id, hid => rfl
  | (j, cs) :: r, id, hid => by
    unfold newOnes
    split
    · rename_i hc
      simp only [Bool.and_eq_true] at hc
      have : lo ≤ j := Nat.le_of_ble_eq_true hc.1
      rw [findB_ne (by omega)]
      exact newOnes_lt hid
    · rfl
theorem newOnes_ge {lo hi : Nat} {full : List (Nat × List AV)} (hf : ∀ id cs, findB id full = some cs → id < lo) : ∀ {h : List (Nat × List AV)} {id : Nat} {cs : List AV}, lo ≤ id → findB id (newOnes lo hi h full) = some cs → findB id h = some cs ∧ id < hi
  | [], id, cs, hid, h => by
    have := hf id cs h; omega
  | (j, ds) :: r, id, cs, hid, h => by
    unfold newOnes at h
    split at h
    · rename_i hc
      simp only [Bool.and_eq_true, Nat.blt_eq] at hc
      rcases findB_cons h with ⟨rfl, rfl⟩ | ⟨hne, h⟩
      · exact ⟨by simp [findB], hc.2⟩
      · obtain ⟨h1, h2⟩ := newOnes_ge hf hid h
        refine ⟨?_, h2⟩
        rw [findB_ne hne]
        exact h1
    · have := hf id cs h; omega
theorem allLt_spec {hi : Nat} : ∀ {h : List (Nat × List AV)}, allLt hi h = true → ∀ id cs, findB id h = some cs → id < hi
  | [], _, id, cs, h => by simp [findB] at h
  | (j, ds) :: r, hl, id, cs, h => by
    simp only [allLt, Bool.and_eq_true, Nat.blt_eq] at hl
    rcases findB_cons h with ⟨rfl, rfl⟩ | ⟨hne, h⟩
    · exact hl.1
    · exact allLt_spec hl.2 id cs h
theorem hide_spec {own : List (Nat × Nat)} {bef : Nat} : ∀ {h : List (Nat × List AV)} {id : Nat} {cs : List AV}, findB id (hideHeap own bef h) = some cs → ownerOk own bef id = true ∧ findB id h = some cs
  | [], id, cs, h => by simp [hideHeap, findB] at h
  | (j, ds) :: r, id, cs, h => by
    unfold hideHeap at h
    split at h
    · rename_i ho
      rcases findB_cons h with ⟨rfl, rfl⟩ | ⟨hne, h⟩
      · exact ⟨ho, by simp [findB]⟩
      · obtain ⟨h1, h2⟩ := hide_spec h
        refine ⟨h1, ?_⟩
        rw [findB_ne hne]
        exact h2
    · rename_i ho
      obtain ⟨h1, h2⟩ := hide_spec h
      refine ⟨h1, ?_⟩
      rw [findB_ne (by rintro rfl; rw [h1] at ho; cases ho)]
      exact h2
theorem onlyB_spec {b id : Nat} {cs : List AV} {h : List (Nat × List AV)} (hf : findB id (onlyB b h) = some cs) : id = b ∧ findB id h = some cs := by
  unfold onlyB at hf
  split at hf
  · rename_i ds hq
    rcases findB_cons hf with ⟨rfl, rfl⟩ | ⟨_, hf⟩
    · exact ⟨rfl, hq⟩
    · simp [findB] at hf
  · simp [findB] at hf
theorem acOk_spec {sto : Bool} {b bef : Nat} : ∀ {ac : List (Nat × Bool × Nat)}, acOk sto b bef ac = true → ∀ i s, (i, s, b) ∈ ac → s ≠ sto → bef.testBit i = true
  | [], _, i, s, h, _ => by simp at h
  | (j, t, c) :: r, h, i, s, hm, hne => by
    simp only [acOk, Bool.and_eq_true, Bool.or_eq_true, Bool.not_eq_true'] at h
    rcases List.mem_cons.1 hm with e | hm
    · cases e
      rcases h.1 with (h1 | h1) | h1
      · simp at h1; exact absurd h1 hne
      · rw [Nat.beq_refl] at h1; cases h1
      · exact h1
    · exact acOk_spec h.2 i s hm hne
theorem tgt_restr (tm : Tr AV) (o : Op) : tgt (restr tm (opTmps o)) o = tgt tm o := by
  have key : ∀ t : Nat, t ∈ opTmps o → (restr tm (opTmps o)).get t = tm.get t := fun t h => by rw [restr_get, if_pos h]
  cases o <;> try rfl
  · rename_i t a
    cases a <;> try rfl
    rename_i k
    have : k ∈ opTmps (.load t (.tmp k)) := by simp [opTmps, Op.operands]
    show ptrB (Tr.get _ k) = ptrB (tm.get k)
    rw [key k this]
  · rename_i t a x
    cases a <;> try rfl
    rename_i k
    have : k ∈ opTmps (.store t (.tmp k) x) := by simp [opTmps, Op.operands]
    show ptrB (Tr.get _ k) = ptrB (tm.get k)
    rw [key k this]
theorem allVis_spec {own : List (Nat × Nat)} {bef : Nat} : ∀ {h : List (Nat × List AV)}, allVis own bef h = true → ∀ id cs, findB id h = some cs → ownerOk own bef id = true
  | [], _, id, cs, h => by simp [findB] at h
  | (j, ds) :: r, hl, id, cs, h => by
    simp only [allVis, Bool.and_eq_true] at hl
    rcases findB_cons h with ⟨rfl, rfl⟩ | ⟨hne, h⟩
    · exact hl.1
    · exact allVis_spec hl.2 id cs h

end Go.Proofs.YtejbahdihfnbcaaDoor.Sx

/- A region that draws its order: the trace in the order of the text, and every other order. -/
namespace Go.Proofs.YtejbahdihfnbcaaDoor.Sx
open Go
set_option linter.unusedSimpArgs false
set_option linter.unusedVariables false

structure Pt where
  env : List Sc
  st : St
  tm : Tr AV
  own : List (Nat × Nat)
  ac : List (Nat × Bool × Nat)
  av : AV
  run : Bool

section
variable {P : Program} {G : Gs} {rs : List Sc} {ro N : Nat} {sm : List (FuncId × Sum)} {ex : List (FuncId × Ext)} {call : CallK}

def hidden (p : Pt) (o : Oper) (bef : Nat) : St := { p.st with heap := visOf p.tm o.op p.own bef p.st.heap, wlo := p.st.next }

structure StepOk (P : Program) (ro : Nat) (ops : Array Oper) (j : Nat) (o : Oper) (bef : Nat) (p q : Pt) : Prop where
  tm : q.tm = setT p.tm o.dst p.av
  leaf : Leaf p.env q.env p.st q.st
  wants : wants ops p.tm o = p.run
  sel : p.run = true → ∀ cs b, o.op ≠ .select cs b
  skip : p.run = false → p.av = .undef ∧ q.st = p.st ∧ q.own = p.own ∧ q.env = p.env
  acSkip : p.run = false → q.ac = p.ac
  acRun : p.run = true → stepAc p.tm o.op j bef p.ac = some q.ac
  own : p.run = true → q.own = (j, p.st.next) :: p.own
  store : p.run = true → isStore o.op = true → allVis p.own bef p.st.heap = true ∧ idsEq q.st.heap p.st.heap = true ∧ StoreOk P ro p.env q.env p.st q.st (restr p.tm (opTmps o.op)) o p.av
  quiet : p.run = true → isStore o.op = false → ∃ st', q.st = { st' with heap := newOnes p.st.next st'.next st'.heap p.st.heap, wlo := p.st.wlo } ∧ Sound P ro p.env q.env (hidden p o bef) st' (restr p.tm (opTmps o.op)) o p.av

theorem StepOk.tgt_some {ops : Array Oper} {j : Nat} {o : Oper} {bef : Nat} {p q : Pt} (h : StepOk P ro ops j o bef p q) (hr : p.run = true) (hm : (isStore o.op || isLoad o.op) = true) : ∃ z, tgt p.tm o.op = some z := by
  have ha := h.acRun hr
  unfold stepAc at ha
  rw [hm] at ha
  simp only [] at ha
  split at ha
  · rename_i b hb; exact ⟨b, hb⟩
  · cases ha

theorem no_select {o : Op} {tm : Tr AV} {st : St} {kk : K} {env : List Sc} (h : (evOp P sm ex call tm o st kk).den G env = some rs) : ∀ cs b, o ≠ .select cs b := by
  rintro cs b rfl
  simp [evOp, T.den] at h

theorem op_store_ok {o : Oper} {tm : Tr AV} {st : St} {kk : K} {env : List Sc} (hs : isStore o.op = true) (hro : ro ≤ st.wlo) (h : (evOp P sm ex call tm o.op st kk).den G env = some rs) (hn : st.nn = env.length) : Lands G rs env st kk fun e av s => StoreOk P ro env e st s tm o av := by
  cases ho : o.op <;> rw [ho] at hs <;> (try (simp [isStore] at hs; done))
  rw [ho] at h
  exact ok_store2 _ _ _ hro ho h hn

theorem trace (hctx : Ctx P sm ex call G) (ops : Array Oper) : ∀ (l : List Oper) (bs : List Nat) (j : Nat) (own : List (Nat × Nat)) (ac : List (Nat × Bool × Nat)) {env : List Sc} {tm : Tr AV} {st : St} {kk : Tr AV → St → T}, ro ≤ st.wlo → ro ≤ st.next →
    (runDraw P sm ex call ops j l bs own ac tm st kk).den G env = some rs → st.nn = env.length →
    ∃ pt : Nat → Pt, (pt 0).env = env ∧ (pt 0).st = st ∧ (pt 0).tm = tm ∧ (pt 0).own = own ∧ (pt 0).ac = ac ∧ (kk (pt l.length).tm (pt l.length).st).den G (pt l.length).env = some rs ∧
      ∀ i o, l[i]? = some o → ∃ b, bs[i]? = some b ∧ StepOk P ro ops (j + i) o b (pt i) (pt (i + 1))
  | [], bs, j, own, ac, env, tm, st, kk, hro, hrn, h, hn => by
    refine ⟨fun _ => ⟨env, st, tm, own, ac, .undef, false⟩, rfl, rfl, rfl, rfl, rfl, ?_, fun i o h => by simp at h⟩
    cases bs <;> simpa [runDraw] using h
  | o :: l, [], j, own, ac, env, tm, st, kk, hro, hrn, h, hn => by simp [runDraw, T.den] at h
  | o :: l, b :: bs, j, own, ac, env, tm, st, kk, hro, hrn, h, hn => by
    unfold runDraw at h
    have fin : ∀ (p : Pt), p.env = env → p.st = st → p.tm = tm → p.own = own → p.ac = ac → ∀ (env1 : List Sc) (st1 : St) (own1 : List (Nat × Nat)) (ac1 : List (Nat × Bool × Nat)), ro ≤ st1.wlo → ro ≤ st1.next →
        (runDraw P sm ex call ops (Nat.add j 1) l bs own1 ac1 (setT tm o.dst p.av) st1 kk).den G env1 = some rs → st1.nn = env1.length →
        (∀ q : Pt, q.env = env1 → q.st = st1 → q.tm = setT tm o.dst p.av → q.own = own1 → q.ac = ac1 → StepOk P ro ops j o b p q) →
        ∃ pt : Nat → Pt, (pt 0).env = env ∧ (pt 0).st = st ∧ (pt 0).tm = tm ∧ (pt 0).own = own ∧ (pt 0).ac = ac ∧ (kk (pt (o :: l).length).tm (pt (o :: l).length).st).den G (pt (o :: l).length).env = some rs ∧
          ∀ i o', (o :: l)[i]? = some o' → ∃ b', (b :: bs)[i]? = some b' ∧ StepOk P ro ops (j + i) o' b' (pt i) (pt (i + 1)) := by
      intro p h1 h2 h3 h4 h5 env1 st1 own1 ac1 r1 r2 hrun hnn hstep
      obtain ⟨pt, a1, a2, a3, a4, a4', a5, a6⟩ := trace hctx ops l bs (Nat.add j 1) own1 ac1 r1 r2 hrun hnn
      refine ⟨fun i => match i with | 0 => p | i + 1 => pt i, h1, h2, h3, h4, h5, a5, ?_⟩
      intro i o' ho'
      cases i with
      | zero =>
        simp at ho'; subst ho'
        exact ⟨b, rfl, hstep _ a1 a2 a3 a4 a4'⟩
      | succ i =>
        obtain ⟨b', hb', hs⟩ := a6 i o' (by simpa using ho')
        refine ⟨b', by simpa using hb', ?_⟩
        have : j + (i + 1) = Nat.add j 1 + i := by show j + (i + 1) = j + 1 + i; omega
        rw [this]; exact hs
    cases hw : wants ops tm o with
    | false =>
      simp only [hw] at h
      refine fin ⟨env, st, tm, own, ac, .undef, false⟩ rfl rfl rfl rfl rfl env st own ac hro hrn h hn ?_
      intro q q1 q2 q3 q4 q5
      exact ⟨q3, ⟨by rw [q1]; exact Pfx.refl _, by rw [q1, q2]; exact hn, by rw [q2]; exact Nat.le_refl _, by rw [q2]⟩, hw, fun h => (by cases h), fun _ => ⟨rfl, q2, q4, q1⟩, fun _ => q5, fun h => (by cases h), fun h => (by cases h), fun h => (by cases h), fun h => (by cases h)⟩
    | true =>
      simp only [hw] at h
      have hag := restr_agree tm o.op
      cases hac : stepAc tm o.op j b ac with
      | none => simp [hac, T.den] at h
      | some ac' =>
      simp only [hac] at h
      cases hs : isStore o.op with
      | true =>
        simp only [hs] at h
        cases hv : allVis own b st.heap with
        | false => simp [hv, T.den] at h
        | true =>
          simp only [hv] at h
          have hsel := no_select h
          rw [evOp_congr hag] at h
          obtain ⟨e1, av, s1, h1, p1, n1, x1, w1, snd⟩ := op_store_ok (o := o) hs hro h hn
          cases hid : idsEq s1.heap st.heap with
          | false => simp [hid, T.den] at h1
          | true =>
            simp only [hid] at h1
            refine fin ⟨env, st, tm, own, ac, av, true⟩ rfl rfl rfl rfl rfl e1 s1 ((j, st.next) :: own) ac' (by omega) (by omega) h1 n1 ?_
            intro q q1 q2 q3 q4 q5
            exact ⟨q3, ⟨by rw [q1]; exact p1, by rw [q1, q2]; exact n1, by rw [q2]; exact x1, by rw [q2]; exact w1⟩, hw, fun _ => hsel, fun h => (by cases h), fun h => (by cases h), fun _ => by rw [q5]; exact hac, fun _ => q4, fun _ _ => ⟨hv, by rw [q2]; exact hid, by rw [q1, q2]; exact snd⟩, fun _ h => (by rw [hs] at h; cases h)⟩
      | false =>
        simp only [hs] at h
        have hsel := no_select h
        rw [evOp_congr hag] at h
        obtain ⟨e1, av, s1, h1, p1, n1, x1, w1, snd⟩ := op_ok (o := o) (ro := ro) (st := hidden ⟨env, st, tm, own, ac, .undef, true⟩ o b) hctx hrn hrn h hn
        refine fin ⟨env, st, tm, own, ac, av, true⟩ rfl rfl rfl rfl rfl e1 { s1 with heap := newOnes st.next s1.next s1.heap st.heap, wlo := st.wlo } ((j, st.next) :: own) ac' hro (Nat.le_trans hrn x1) h1 n1 ?_
        intro q q1 q2 q3 q4 q5
        exact ⟨q3, ⟨by rw [q1]; exact p1, by rw [q1, q2]; exact n1, by rw [q2]; exact x1, by rw [q2]⟩, hw, fun _ => hsel, fun h => (by cases h), fun h => (by cases h), fun _ => by rw [q5]; exact hac, fun _ => q4, fun _ h => (by rw [hs] at h; cases h), fun _ _ => ⟨s1, q2, by rw [q1]; exact snd⟩⟩

/-! ### Along the trace -/
structure Tc (P : Program) (ro N : Nat) (ops : Array Oper) (pt : Nat → Pt) : Prop where
  step : ∀ (i : Nat) (o : Oper), ops[i]? = some o → StepOk P ro ops i o ((Region.before ops).getD i 0) (pt i) (pt (i + 1))
  ok : drawOk ops = true
  dst : ∀ (i : Nat) (o : Oper), ops[i]? = some o → ∀ t, o.dst = some t → t < N
  lt0 : ∀ id cs, findB id (pt 0).st.heap = some cs → id < (pt 0).st.next
  own0 : (pt 0).own = []
  ac0 : (pt 0).ac = []
  wlo0 : (pt 0).st.wlo ≤ (pt 0).st.next
  ro0 : ro ≤ (pt 0).st.wlo

variable {ops : Array Oper} {pt : Nat → Pt}
def StAt (ops : Array Oper) (pt : Nat → Pt) (s : Nat) : Prop := ∃ o, ops[s]? = some o ∧ isStore o.op = true ∧ (pt s).run = true
/-- store s writes block id -/
def StW (ops : Array Oper) (pt : Nat → Pt) (s id : Nat) : Prop := ∃ o, ops[s]? = some o ∧ isStore o.op = true ∧ (pt s).run = true ∧ tgt (pt s).tm o.op = some id
def Own (pt : Nat → Pt) (n k id : Nat) : Prop := k < n ∧ (pt k).st.next ≤ id ∧ id < (pt (k + 1)).st.next

theorem Tc.get (h : Tc P ro N ops pt) {i : Nat} (hi : i < ops.size) : ∃ o, ops[i]? = some o := ⟨ops[i], by simp [hi]⟩
theorem Tc.mono1 (h : Tc P ro N ops pt) {i : Nat} (hi : i < ops.size) : Leaf (pt i).env (pt (i + 1)).env (pt i).st (pt (i + 1)).st := by
  obtain ⟨o, ho⟩ := h.get hi
  exact (h.step i o ho).leaf
theorem Tc.next_mono (h : Tc P ro N ops pt) : ∀ {i j : Nat}, i ≤ j → j ≤ ops.size → (pt i).st.next ≤ (pt j).st.next ∧ Pfx (pt i).env (pt j).env ∧ (pt j).st.wlo = (pt i).st.wlo := by
  intro i j hij
  induction hij with
  | refl => intro _; exact ⟨Nat.le_refl _, Pfx.refl _, rfl⟩
  | step hij ih =>
    rename_i m
    intro hm
    obtain ⟨a, b, c⟩ := ih (by omega)
    have l := h.mono1 (i := m) (by omega)
    exact ⟨Nat.le_trans a l.next, b.trans l.pfx, l.wlo.trans c⟩
theorem Tc.own_uniq (h : Tc P ro N ops pt) {k l id : Nat} (h1 : Own pt ops.size k id) (h2 : Own pt ops.size l id) : k = l := by
  obtain ⟨a1, a2, a3⟩ := h1
  obtain ⟨b1, b2, b3⟩ := h2
  rcases Nat.lt_trichotomy k l with q | q | q
  · have := (h.next_mono (i := k + 1) (j := l) (by omega) (by omega)).1; omega
  · exact q
  · have := (h.next_mono (i := l + 1) (j := k) (by omega) (by omega)).1; omega
theorem Tc.own_ex (h : Tc P ro N ops pt) {a id : Nat} : ∀ {b : Nat}, a ≤ b → b ≤ ops.size → (pt a).st.next ≤ id → id < (pt b).st.next → ∃ k, a ≤ k ∧ k < b ∧ Own pt ops.size k id := by
  intro b hab
  induction hab with
  | refl => intro _ h1 h2; omega
  | step hab ih =>
    rename_i m
    intro hm h1 h2
    by_cases h3 : id < (pt m).st.next
    · obtain ⟨k, k1, k2, k3⟩ := ih (by omega) h1 h3
      exact ⟨k, k1, by omega, k3⟩
    · exact ⟨m, hab, by omega, by omega, by omega, h2⟩

theorem Tc.lt (h : Tc P ro N ops pt) : ∀ {m : Nat}, m ≤ ops.size → ∀ id cs, findB id (pt m).st.heap = some cs → id < (pt m).st.next := by
  intro m
  induction m with
  | zero => intro _; exact h.lt0
  | succ m ih =>
    intro hm id cs hf
    obtain ⟨o, ho⟩ := h.get (i := m) (by omega)
    have st := h.step m o ho
    have ihm := ih (by omega)
    cases hr : (pt m).run with
    | false =>
      obtain ⟨_, e, _, _⟩ := st.skip hr
      rw [e] at hf ⊢; exact ihm id cs hf
    | true =>
      cases hs : isStore o.op with
      | true =>
        obtain ⟨_, hid, _⟩ := st.store hr hs
        have := findB_isSome_of_ids hid id
        rw [hf] at this
        cases hq : findB id (pt m).st.heap with
        | none => rw [hq] at this; cases this
        | some ds => exact Nat.lt_of_lt_of_le (ihm id ds hq) st.leaf.next
      | false =>
        obtain ⟨s', e, _⟩ := st.quiet hr hs
        by_cases hlo : id < (pt m).st.next
        · exact Nat.lt_of_lt_of_le hlo st.leaf.next
        · rw [e] at hf ⊢
          exact (newOnes_ge ihm (by omega) hf).2

theorem Tc.dom (h : Tc P ro N ops pt) {a id : Nat} : ∀ {b : Nat}, a ≤ b → b ≤ ops.size → id < (pt a).st.next → (findB id (pt b).st.heap).isSome = (findB id (pt a).st.heap).isSome := by
  intro b hab
  induction hab with
  | refl => intro _ _; rfl
  | step hab ih =>
    rename_i m
    intro hm hlt
    rw [← ih (by omega) hlt]
    obtain ⟨o, ho⟩ := h.get (i := m) (by omega)
    have st := h.step m o ho
    cases hr : (pt m).run with
    | false => obtain ⟨_, e, _, _⟩ := st.skip hr; rw [e]
    | true =>
      cases hs : isStore o.op with
      | true =>
        obtain ⟨_, hid, _⟩ := st.store hr hs
        exact findB_isSome_of_ids hid id
      | false =>
        obtain ⟨s', e, _⟩ := st.quiet hr hs
        have hm' := (h.next_mono hab (by omega)).1
        rw [e]
        show (findB id (newOnes _ _ _ _)).isSome = _
        rw [newOnes_lt (by omega)]

theorem Tc.same (h : Tc P ro N ops pt) {a id : Nat} : ∀ {b : Nat}, a ≤ b → b ≤ ops.size → id < (pt a).st.next → (∀ s, a ≤ s → s < b → ¬ StW ops pt s id) → findB id (pt b).st.heap = findB id (pt a).st.heap := by
  intro b hab
  induction hab with
  | refl => intro _ _ _; rfl
  | step hab ih =>
    rename_i m
    intro hm hlt hno
    rw [← ih (by omega) hlt (fun s h1 h2 => hno s h1 (by omega))]
    obtain ⟨o, ho⟩ := h.get (i := m) (by omega)
    have st := h.step m o ho
    cases hr : (pt m).run with
    | false => obtain ⟨_, e, _, _⟩ := st.skip hr; rw [e]
    | true =>
      cases hs : isStore o.op with
      | true =>
        obtain ⟨_, _, b', _, _, _, hsame, htg, _⟩ := st.store hr hs
        rw [tgt_restr] at htg
        refine hsame id ?_
        rintro rfl
        obtain ⟨z, hz⟩ := st.tgt_some hr (by simp [hs])
        have := htg z hz
        subst this
        exact hno m hab (by omega) ⟨o, ho, hs, hr, hz⟩
      | false =>
        obtain ⟨s', e, _⟩ := st.quiet hr hs
        have hm' := (h.next_mono hab (by omega)).1
        rw [e]
        show findB id (newOnes _ _ _ _) = _
        rw [newOnes_lt (by omega)]

theorem Tc.ac_mem (h : Tc P ro N ops pt) {k b : Nat} {o : Oper} (ho : ops[k]? = some o) (hr : (pt k).run = true) (hm : (isStore o.op || isLoad o.op) = true) (ht : tgt (pt k).tm o.op = some b) : ∀ {m : Nat}, k < m → m ≤ ops.size → (k, isStore o.op, b) ∈ (pt m).ac := by
  intro m
  induction m with
  | zero => intro q; omega
  | succ m ih =>
    intro hk hm'
    obtain ⟨p, hp⟩ := h.get (i := m) (by omega)
    have st := h.step m p hp
    by_cases e : k = m
    · subst e
      rw [ho] at hp; cases hp
      have ha := st.acRun hr
      unfold stepAc at ha
      rw [hm, ht] at ha
      simp only [] at ha
      split at ha
      · rw [← Option.some.inj ha]; simp
      · cases ha
    · have hin := ih (by omega) (by omega)
      cases hr' : (pt m).run with
      | false => rw [st.acSkip hr']; exact hin
      | true =>
        have ha := st.acRun hr'
        unfold stepAc at ha
        split at ha
        · rw [← Option.some.inj ha]; exact hin
        · split at ha
          · split at ha
            · rw [← Option.some.inj ha]; exact List.mem_cons_of_mem _ hin
            · cases ha
          · cases ha

/-- a load and a store of one block: the later in the text stands behind the earlier -/
theorem Tc.ac_bef (h : Tc P ro N ops pt) {i k b : Nat} {o p : Oper} (ho : ops[i]? = some o) (hr : (pt i).run = true) (hm : (isStore o.op || isLoad o.op) = true) (ht : tgt (pt i).tm o.op = some b)
    (hp : ops[k]? = some p) (hr' : (pt k).run = true) (hm' : (isStore p.op || isLoad p.op) = true) (ht' : tgt (pt k).tm p.op = some b) (hlt : k < i) (hne : isStore p.op ≠ isStore o.op) : ((Region.before ops).getD i 0).testBit k = true := by
  have hin := h.ac_mem hp hr' hm' ht' hlt (by have := (Array.getElem?_eq_some_iff.1 ho).1; omega)
  have ha := (h.step i o ho).acRun hr
  unfold stepAc at ha
  rw [hm, ht] at ha
  simp only [] at ha
  split at ha
  · rename_i hq
    exact acOk_spec hq k _ hin hne
  · cases ha

/-- whoever owns a block stands in the list -/
theorem Tc.ownerOk_own (h : Tc P ro N ops pt) {bef k id : Nat} : ∀ {i : Nat}, i ≤ ops.size → Own pt ops.size k id → k < i → ownerOk (pt i).own bef id = true → bef.testBit k = true := by
  intro i
  induction i with
  | zero => intro _ _ h; omega
  | succ i ih =>
    intro hi ho hk hok
    obtain ⟨o, hop⟩ := h.get (i := i) (by omega)
    have st := h.step i o hop
    cases hr : (pt i).run with
    | false =>
      obtain ⟨_, e, e2, _⟩ := st.skip hr
      rw [e2] at hok
      have hne : k ≠ i := by
        rintro rfl
        obtain ⟨_, q1, q2⟩ := ho
        rw [e] at q2; omega
      exact ih (by omega) ho (by omega) hok
    | true =>
      rw [st.own hr] at hok
      unfold ownerOk at hok
      cases hle : Nat.ble (pt i).st.next id with
      | true =>
        rw [hle] at hok
        have hle' : (pt i).st.next ≤ id := Nat.le_of_ble_eq_true hle
        have : k = i := by
          by_cases e : k = i
          · exact e
          · obtain ⟨q0, q1, q2⟩ := ho
            have := (h.next_mono (i := k + 1) (j := i) (by omega) (by omega)).1
            omega
        subst this; exact hok
      | false =>
        rw [hle] at hok
        have hne : k ≠ i := by
          rintro rfl
          obtain ⟨q0, q1, q2⟩ := ho
          rw [Nat.ble_eq_true_of_le q1] at hle; cases hle
        exact ih (by omega) ho (by omega) hok

/-- the temporaries along the trace -/
theorem Tc.look_tm (h : Tc P ro N ops pt) (t : Nat) : ∀ {i : Nat}, i ≤ ops.size →
    (∃ k : Nat, ∃ o : Oper, k < i ∧ ops[k]? = some o ∧ o.dst = some t ∧ (∀ (k' : Nat) (o' : Oper), k < k' → k' < i → ops[k']? = some o' → o'.dst ≠ some t) ∧ look (pt i).tm t = (pt k).av) ∨
    ((∀ (k : Nat) (o : Oper), k < i → ops[k]? = some o → o.dst ≠ some t) ∧ look (pt i).tm t = look (pt 0).tm t) := by
  intro i
  induction i with
  | zero => intro _; exact .inr ⟨fun k o h => by omega, rfl⟩
  | succ i ih =>
    intro hi
    obtain ⟨o, ho⟩ := h.get (i := i) (by omega)
    have st := h.step i o ho
    by_cases hd : o.dst = some t
    · refine .inl ⟨i, o, by omega, ho, hd, fun k' o' h1 h2 => by omega, ?_⟩
      rw [st.tm, hd]
      show look ((pt i).tm.set t _) t = _
      rw [look_set, if_pos rfl]
    · have e : look (pt (i + 1)).tm t = look (pt i).tm t := by
        rw [st.tm]
        cases hq : o.dst with
        | none => rfl
        | some d =>
          show look ((pt i).tm.set d _) t = _
          rw [look_set, if_neg]
          rintro rfl; exact hd hq
      rcases ih (by omega) with ⟨k, p, a1, a2, a3, a4, a5⟩ | ⟨a1, a2⟩
      · refine .inl ⟨k, p, by omega, a2, a3, fun k' o' h1 h2 h3 => ?_, by rw [e, a5]⟩
        by_cases e2 : k' = i
        · subst e2; rw [ho] at h3; cases h3; exact hd
        · exact a4 k' o' h1 (by omega) h3
      · refine .inr ⟨fun k p h1 h2 => ?_, by rw [e, a2]⟩
        by_cases e2 : k = i
        · subst e2; rw [ho] at h2; cases h2; exact hd
        · exact a1 k p (by omega) h2

end
end Go.Proofs.YtejbahdihfnbcaaDoor.Sx

/- A region that draws its order: any order. -/
namespace Go.Proofs.YtejbahdihfnbcaaDoor.Sx
open Go
set_option linter.unusedSimpArgs false
set_option linter.unusedVariables false

section
variable {P : Program} {G : Gs} {rs : List Sc} {ro N : Nat} {ops : Array Oper} {pt : Nat → Pt}

abbrev In (D : Array Bool) (i : Nat) : Prop := D.getD i false = true

/-- what holds when just the operations D have been done, in whatever order -/
structure AInv (P : Program) (ro N : Nat) (ops : Array Oper) (pt : Nat → Pt) (a0 : Act) (w0 : World) (θ0 : Th) (D : Array Bool) (a : Act) (w : World) (θ : Th) : Prop where
  sz : D.size = ops.size
  closed : ∀ (i k : Nat), In D i → ((Region.before ops).getD i 0).testBit k = true → In D k
  tm : ∀ t : Nat, (∃ (i : Nat) (o : Oper), In D i ∧ ops[i]? = some o ∧ o.dst = some t ∧ (∀ (k : Nat) (p : Oper), In D k → ops[k]? = some p → p.dst = some t → k ≤ i) ∧ Rel (pt (i + 1)).env θ (pt i).av (a.tmps.getD t undef)) ∨
    ((∀ (i : Nat) (o : Oper), In D i → ops[i]? = some o → o.dst ≠ some t) ∧ Rel (pt 0).env θ (look (pt 0).tm t) (a.tmps.getD t undef))
  mem : ∀ m, m ≤ ops.size → ∀ id cs, findB id (pt m).st.heap = some cs → (∀ k, Own pt ops.size k id → In D k) → (∀ s, StW ops pt s id → In D s → s < m) → (∀ s, StW ops pt s id → s < m → In D s) → BRel (pt m).env θ ro w id cs
  inj : Inj θ ro w
  names : ∀ i x, θ i = some x → θ0 i = some x ∨ ∃ k, In D k ∧ Own pt ops.size k i
  stp : Stp θ0 θ (pt 0).st.next (pt ops.size).st.next (pt 0).st.wlo w0 w
  size : N ≤ a.tmps.size
  defers : a.defers = a0.defers

theorem Stp.then {θ1 θ2 θ3 : Th} {c0 cn wlo x y wl : Nat} {w1 w2 w3 : World} (h : Stp θ1 θ2 c0 cn wlo w1 w2) (k : Stp θ2 θ3 x y wl w2 w3) (h1 : c0 ≤ x) (h2 : y ≤ cn) (h3 : wlo ≤ wl) : Stp θ1 θ3 c0 cn wlo w1 w3 := by
  refine ⟨h.ext.trans k.ext, ?_, ?_, k.os.trans h.os, k.tape.trans h.tape, k.output.trans h.output, Nat.le_trans h.size k.size, ?_⟩
  · intro i r b h3 hn
    cases e : θ2 i with
    | none =>
      obtain ⟨a1, a2, a3, a4⟩ := k.new i r b h3 e
      have := h.size
      exact ⟨by omega, by omega, by omega, a4⟩
    | some z =>
      have := k.ext i z e
      rw [h3] at this; cases this
      obtain ⟨a1, a2, a3, a4⟩ := h.new i r b e hn
      have := k.size
      exact ⟨a1, a2, a3, by omega⟩
  · intro i j r b b' hi hj h3 h3'
    cases e : θ2 i with
    | none =>
      cases e' : θ2 j with
      | none => exact k.inj i j r b b' e e' h3 h3'
      | some z =>
        have := k.ext j z e'; rw [h3'] at this; cases this
        have p := k.new i r b h3 e
        have q := h.new j r b' e' hj
        omega
    | some z =>
      have := k.ext i z e; rw [h3] at this; cases this
      cases e' : θ2 j with
      | none =>
        have p := k.new j r b' h3' e'
        have q := h.new i r b e hi
        omega
      | some z =>
        have := k.ext j z e'; rw [h3'] at this; cases this
        exact h.inj i j r b b' hi hj e e'
  · intro r hr hno
    rw [k.block r (Nat.lt_of_lt_of_le hr h.size) ?_, h.block r hr hno]
    intro i b hw hl h2'
    cases e : θ1 i with
    | none =>
      have q := h.new i r b h2' e
      omega
    | some z =>
      have := h.ext i z e; rw [h2'] at this; cases this
      exact hno i b (by omega) (by omega) e

variable {a0 : Act} {w0 : World} {θ0 : Th} {D : Array Bool} {a : Act} {w : World} {θ : Th}

theorem In.lt {i : Nat} (h : In D i) : i < D.size := by
  rcases Nat.lt_or_ge i D.size with q | q
  · exact q
  · simp [In, Array.getD_eq_getD_getElem?, Array.getElem?_eq_none q] at h
theorem in_set {i k : Nat} (hi : i < D.size) : In (D.setIfInBounds i true) k ↔ k = i ∨ In D k := by
  simp only [In, Array.getD_eq_getD_getElem?, Array.getElem?_setIfInBounds]
  by_cases e : i = k
  · subst e; simp [hi]
  · rw [if_neg e]
    constructor
    · exact .inr
    · rintro (rfl | h)
      · exact absurd rfl e
      · exact h

/-- two operations that the check holds apart, seen from D -/
theorem AInv.cmp (tc : Tc P ro N ops pt) (h : AInv P ro N ops pt a0 w0 θ0 D a w θ) {i j : Nat} {o p : Oper} (ho : ops[i]? = some o) (hp : ops[j]? = some p) (hne : i ≠ j) (hiD : ¬ In D i)
    (hbef : ∀ k, ((Region.before ops).getD i 0).testBit k = true → In D k)
    (hc : hard o.op p.op = true ∨ hard p.op o.op = true ∨ (∃ d, o.dst = some d ∧ d ∈ namesOf ops p) ∨ (∃ d, p.dst = some d ∧ d ∈ namesOf ops o)) :
    (j < i ∧ In D j) ∨ (i < j ∧ ¬ In D j) := by
  rcases Nat.lt_or_ge j i with hlt | hge
  · left
    refine ⟨hlt, ?_⟩
    rcases draw_cmp tc.ok ho hp hlt with hb | ⟨c1, c2, c3, c4⟩
    · exact hbef j hb
    · rcases hc with hc | hc | ⟨d, hd, hm⟩ | ⟨d, hd, hm⟩
      · rw [c1] at hc; cases hc
      · rw [c2] at hc; cases hc
      · exact absurd hm (c3 d hd)
      · exact absurd hm (c4 d hd)
  · right
    have hlt : i < j := by omega
    refine ⟨hlt, fun hj => hiD ?_⟩
    rcases draw_cmp tc.ok hp ho hlt with hb | ⟨c1, c2, c3, c4⟩
    · exact h.closed j i hj hb
    · rcases hc with hc | hc | ⟨d, hd, hm⟩ | ⟨d, hd, hm⟩
      · rw [c2] at hc; cases hc
      · rw [c1] at hc; cases hc
      · exact absurd hm (c4 d hd)
      · exact absurd hm (c3 d hd)

/-- a temporary that operation i names, where i is ready -/
theorem AInv.tmp (tc : Tc P ro N ops pt) (h : AInv P ro N ops pt a0 w0 θ0 D a w θ) {i : Nat} {o : Oper} (ho : ops[i]? = some o) (hiD : ¬ In D i)
    (hbef : ∀ k, ((Region.before ops).getD i 0).testBit k = true → In D k) {t : Nat} (ht : t ∈ namesOf ops o) : Rel (pt i).env θ (look (pt i).tm t) (a.tmps.getD t undef) := by
  have hi : i < ops.size := (Array.getElem?_eq_some_iff.1 ho).1
  have hcmp : ∀ (k : Nat) (p : Oper), ops[k]? = some p → p.dst = some t → k ≠ i → (k < i ∧ In D k) ∨ (i < k ∧ ¬ In D k) := fun k p hp hd hne =>
    h.cmp tc ho hp (fun e => hne e.symm) hiD hbef (.inr (.inr (.inr ⟨t, hd, ht⟩)))
  rcases tc.look_tm t (i := i) (by omega) with ⟨k, p, k1, k2, k3, k4, k5⟩ | ⟨k1, k2⟩
  · have hkD : In D k := by
      rcases hcmp k p k2 k3 (by omega) with q | q
      · exact q.2
      · omega
    rcases h.tm t with ⟨i', o', a1, a2, a3, a4, a5⟩ | ⟨a1, a2⟩
    · have hle := a4 k p hkD k2 k3
      have hi' : i' < i := by
        have hne : i' ≠ i := by rintro rfl; exact hiD a1
        rcases hcmp i' o' a2 a3 hne with q | q
        · exact q.1
        · exact absurd a1 q.2
      have : i' = k := by
        by_cases e : i' = k
        · exact e
        · exact absurd a3 (k4 i' o' (by omega) hi' a2)
      subst this
      rw [k5]
      exact Rel.mono (tc.next_mono (i := i' + 1) (j := i) (by omega) (by omega)).2.1 (ThLe.refl θ) _ _ a5
    · exact absurd k3 (a1 k p hkD k2)
  · rw [k2]
    rcases h.tm t with ⟨i', o', a1, a2, a3, a4, a5⟩ | ⟨a1, a2⟩
    · have hne : i' ≠ i := by rintro rfl; exact hiD a1
      rcases hcmp i' o' a2 a3 hne with q | q
      · exact absurd a3 (k1 i' o' q.1 a2)
      · exact absurd a1 q.2
    · exact Rel.mono (tc.next_mono (i := 0) (j := i) (by omega) (by omega)).2.1 (ThLe.refl θ) _ _ a2

theorem store_looks {o : Op} (h : isStore o = true) : looksAtMemory o = true := by cases o <;> simp [isStore] at h <;> rfl

theorem store_noload {o : Op} (h : isStore o = true) : isLoad o = false := by cases o <;> simp [isStore] at h <;> rfl

/-- the blocks that operation i sees, where i is ready -/
theorem AInv.sees (tc : Tc P ro N ops pt) (h : AInv P ro N ops pt a0 w0 θ0 D a w θ) {i : Nat} {o : Oper} (ho : ops[i]? = some o) (hiD : ¬ In D i)
    (hbef : ∀ k, ((Region.before ops).getD i 0).testBit k = true → In D k) {id : Nat} {cs : List AV} (hf : findB id (pt i).st.heap = some cs) (hok : ownerOk (pt i).own ((Region.before ops).getD i 0) id = true)
    (hst : ∀ s, StW ops pt s id → s ≠ i → (s < i ∧ In D s) ∨ (i < s ∧ ¬ In D s)) :
    BRel (pt i).env θ ro w id cs := by
  have hi : i < ops.size := (Array.getElem?_eq_some_iff.1 ho).1
  have hlt := tc.lt (m := i) (by omega) id cs hf
  refine h.mem i (by omega) id cs hf ?_ ?_ ?_
  · intro k hk
    have hki : k < i := by
      rcases Nat.lt_or_ge k i with q | q
      · exact q
      · obtain ⟨q0, q1, q2⟩ := hk
        have := (tc.next_mono (i := i) (j := k) q (by omega)).1
        omega
    exact hbef k (tc.ownerOk_own (by omega) hk hki hok)
  · intro s hs hsD
    have hne : s ≠ i := by rintro rfl; exact hiD hsD
    rcases hst s hs hne with q | q
    · exact q.1
    · exact absurd hsD q.2
  · intro s hs hsi
    rcases hst s hs (by omega) with q | q
    · exact q.2
    · omega

/-- stores and an operation that is ready: a store or a call -/
theorem AInv.st_hard (tc : Tc P ro N ops pt) (h : AInv P ro N ops pt a0 w0 θ0 D a w θ) {i : Nat} {o : Oper} (ho : ops[i]? = some o) (hiD : ¬ In D i)
    (hbef : ∀ k, ((Region.before ops).getD i 0).testBit k = true → In D k) (hl : looksAtMemory o.op = true) (hnl : isLoad o.op = false) :
    ∀ s id, StW ops pt s id → s ≠ i → (s < i ∧ In D s) ∨ (i < s ∧ ¬ In D s) := by
  intro s id ⟨p, hp, hps, _, _⟩ hne
  exact h.cmp tc ho hp (fun e => hne e.symm) hiD hbef (.inr (.inl (by simp [hard, hps, hl, hnl])))

/-- stores and a load that is ready: the block that it reads -/
theorem AInv.st_load (tc : Tc P ro N ops pt) (h : AInv P ro N ops pt a0 w0 θ0 D a w θ) {i : Nat} {o : Oper} (ho : ops[i]? = some o) (hiD : ¬ In D i)
    (hbef : ∀ k, ((Region.before ops).getD i 0).testBit k = true → In D k) (hl : isLoad o.op = true) (hr : (pt i).run = true) {id : Nat} (ht : tgt (pt i).tm o.op = some id) :
    ∀ s, StW ops pt s id → s ≠ i → (s < i ∧ In D s) ∨ (i < s ∧ ¬ In D s) := by
  intro s ⟨p, hp, hps, hpr, hpt⟩ hne
  have hns : isStore o.op = false := by
    cases e : isStore o.op with
    | false => rfl
    | true => rw [store_noload e] at hl; cases hl
  rcases Nat.lt_or_ge s i with q | q
  · exact .inl ⟨q, hbef s (tc.ac_bef ho hr (by simp [hl]) ht hp hpr (by simp [hps]) hpt q (by simp [hps, hns]))⟩
  · refine .inr ⟨by omega, fun hsD => hiD (h.closed s i hsD (tc.ac_bef hp hpr (by simp [hps]) hpt ho hr (by simp [hl]) ht (by omega) (by simp [hps, hns])))⟩

theorem brel_keep {e e' : List Sc} {θ θ' : Th} {lo hi wl : Nat} {w w' : World} {id : Nat} {cs : List AV} (hb : BRel e θ ro w id cs) (hs : Stp θ θ' lo hi wl w w')
    (hno : ∀ r base i b, θ id = some (r, base) → wl ≤ i → i < hi → θ i ≠ some (r, b)) (he : Pfx e e') : BRel e' θ' ro w' id cs := by
  obtain ⟨r, base, vs, el, fz, h1, h2, h3, h4⟩ := hb
  have hlt : r < w.heap.size := (Array.getElem?_eq_some_iff.1 h2).1
  refine ⟨r, base, vs, el, fz, hs.ext _ _ h1, by rw [hs.block r hlt (fun i b q1 q2 => hno r base i b h1 q1 q2)]; exact h2, h3, fun j c hc => ?_⟩
  obtain ⟨v, hv, hr⟩ := h4 j c hc
  exact ⟨v, hv, Rel.mono he hs.ext c v hr⟩

/-- the names that operation i makes are free before it -/
theorem AInv.fresh (tc : Tc P ro N ops pt) (h : AInv P ro N ops pt a0 w0 θ0 D a w θ) (hf0 : Fresh θ0 (pt 0).st.next (pt ops.size).st.next) {i : Nat} (hi : i < ops.size) (hiD : ¬ In D i) : Fresh θ (pt i).st.next (pt (i + 1)).st.next := by
  intro id h1 h2
  cases e : θ id with
  | none => rfl
  | some x =>
    rcases h.names id x e with q | ⟨k, k1, k2⟩
    · have n1 := (tc.next_mono (i := 0) (j := i) (by omega) (by omega)).1
      have n2 := (tc.next_mono (i := i + 1) (j := ops.size) (by omega) (by omega)).1
      rw [hf0 id (by omega) (by omega)] at q; cases q
    · have := tc.own_uniq k2 ⟨hi, h1, h2⟩
      subst this; exact absurd k1 hiD

/-- the temporaries behind operation i -/
theorem AInv.tm_put (tc : Tc P ro N ops pt) (h : AInv P ro N ops pt a0 w0 θ0 D a w θ) {i : Nat} {o : Oper} (ho : ops[i]? = some o) (hiD : ¬ In D i)
    (hbef : ∀ k, ((Region.before ops).getD i 0).testBit k = true → In D k) {θ' : Th} (ht : ThLe θ θ') {v : Value} (hv : Rel (pt (i + 1)).env θ' (pt i).av v) :
    ∀ t : Nat, (∃ (j : Nat) (q : Oper), In (D.setIfInBounds i true) j ∧ ops[j]? = some q ∧ q.dst = some t ∧ (∀ (k : Nat) (p : Oper), In (D.setIfInBounds i true) k → ops[k]? = some p → p.dst = some t → k ≤ j) ∧ Rel (pt (j + 1)).env θ' (pt j).av ((a.put o.dst v).tmps.getD t undef)) ∨
    ((∀ (j : Nat) (q : Oper), In (D.setIfInBounds i true) j → ops[j]? = some q → q.dst ≠ some t) ∧ Rel (pt 0).env θ' (look (pt 0).tm t) ((a.put o.dst v).tmps.getD t undef)) := by
  intro t
  have hi : i < D.size := by rw [h.sz]; exact (Array.getElem?_eq_some_iff.1 ho).1
  by_cases hd : o.dst = some t
  · left
    refine ⟨i, o, (in_set hi).2 (.inl rfl), ho, hd, ?_, ?_⟩
    · intro k p hk hp hpd
      rcases (in_set hi).1 hk with rfl | hk
      · exact Nat.le_refl _
      · have hne : i ≠ k := by rintro rfl; exact hiD hk
        have hm : t ∈ namesOf ops p := by simp [namesOf, hpd]
        rcases h.cmp tc ho hp hne hiD hbef (.inr (.inr (.inl ⟨t, hd, hm⟩))) with q | q
        · omega
        · exact absurd hk q.2
    · rw [hd, put_getD a t v (Nat.lt_of_lt_of_le (tc.dst i o ho t hd) h.size), if_pos rfl]
      exact hv
  · have hsame : (a.put o.dst v).tmps.getD t undef = a.tmps.getD t undef := by
      cases hq : o.dst with
      | none => rfl
      | some d =>
        rw [put_getD a d v (Nat.lt_of_lt_of_le (tc.dst i o ho d hq) h.size), if_neg]
        rintro rfl; exact hd hq
    rw [hsame]
    rcases h.tm t with ⟨j, q, a1, a2, a3, a4, a5⟩ | ⟨a1, a2⟩
    · refine .inl ⟨j, q, (in_set hi).2 (.inr a1), a2, a3, ?_, Rel.mono (Pfx.refl _) ht _ _ a5⟩
      intro k p hk hp hpd
      rcases (in_set hi).1 hk with rfl | hk
      · rw [ho] at hp; cases hp; exact absurd hpd hd
      · exact a4 k p hk hp hpd
    · refine .inr ⟨?_, Rel.mono (Pfx.refl _) ht _ _ a2⟩
      intro k p hk hp
      rcases (in_set hi).1 hk with rfl | hk
      · rw [ho] at hp; cases hp; exact hd
      · exact a1 k p hk hp

theorem AInv.closed' (tc : Tc P ro N ops pt) (h : AInv P ro N ops pt a0 w0 θ0 D a w θ) {i : Nat} (hi : i < ops.size)
    (hbef : ∀ k, ((Region.before ops).getD i 0).testBit k = true → In D k) : ∀ (j k : Nat), In (D.setIfInBounds i true) j → ((Region.before ops).getD j 0).testBit k = true → In (D.setIfInBounds i true) k := by
  have hi' : i < D.size := by rw [h.sz]; exact hi
  intro j k hj hk
  rcases (in_set hi').1 hj with rfl | hj
  · exact (in_set hi').2 (.inr (hbef k hk))
  · exact (in_set hi').2 (.inr (h.closed j k hj hk))

/-- an operation that is passed over -/
theorem AInv.skip (tc : Tc P ro N ops pt) (h : AInv P ro N ops pt a0 w0 θ0 D a w θ) {i : Nat} {o : Oper} (ho : ops[i]? = some o) (hiD : ¬ In D i)
    (hbef : ∀ k, ((Region.before ops).getD i 0).testBit k = true → In D k) (hr : (pt i).run = false) : AInv P ro N ops pt a0 w0 θ0 (D.setIfInBounds i true) (a.put o.dst undef) w θ := by
  have hi : i < ops.size := (Array.getElem?_eq_some_iff.1 ho).1
  have hi' : i < D.size := by rw [h.sz]; exact hi
  have st := tc.step i o ho
  obtain ⟨e1, e2, e3, e4⟩ := st.skip hr
  have hno : ∀ s id, StW ops pt s id → s ≠ i := by
    rintro s id ⟨p, hp, _, hpr, _⟩ rfl
    rw [hr] at hpr; cases hpr
  refine ⟨by simp [h.sz], h.closed' tc hi hbef, ?_, ?_, h.inj, ?_, h.stp, by rw [put_size]; exact h.size, by rw [put_defers]; exact h.defers⟩
  · exact h.tm_put tc ho hiD hbef (ThLe.refl θ) (by rw [e1]; simp [Rel, undef])
  · intro m hm id cs hf c1 c2 c3
    refine h.mem m hm id cs hf ?_ ?_ ?_
    · intro k hk
      rcases (in_set hi').1 (c1 k hk) with rfl | q
      · obtain ⟨_, q1, q2⟩ := hk
        rw [e2] at q2; omega
      · exact q
    · intro s hs hsD
      exact c2 s hs ((in_set hi').2 (.inr hsD))
    · intro s hs hsm
      rcases (in_set hi').1 (c3 s hs hsm) with rfl | q
      · exact absurd rfl (hno _ _ hs)
      · exact q
  · intro j x hx
    rcases h.names j x hx with q | ⟨k, k1, k2⟩
    · exact .inl q
    · exact .inr ⟨k, (in_set hi').2 (.inr k1), k2⟩

/-- an operation that runs -/
theorem AInv.run (tc : Tc P ro N ops pt) (h : AInv P ro N ops pt a0 w0 θ0 D a w θ) (hf0 : Fresh θ0 (pt 0).st.next (pt ops.size).st.next) {i : Nat} {o : Oper} (ho : ops[i]? = some o) (hiD : ¬ In D i)
    (hbef : ∀ k, ((Region.before ops).getD i 0).testBit k = true → In D k) (hr : (pt i).run = true) :
    Gives P ((execOp a.eval o).run P w) fun v w' => ∃ θ', AInv P ro N ops pt a0 w0 θ0 (D.setIfInBounds i true) (a.put o.dst v) w' θ' := by
  have hi : i < ops.size := (Array.getElem?_eq_some_iff.1 ho).1
  have hi' : i < D.size := by rw [h.sz]; exact hi
  have st := tc.step i o ho
  have hfr := h.fresh tc hf0 hi hiD
  have n0 := tc.next_mono (i := 0) (j := i) (by omega) (by omega)
  have n1 := tc.next_mono (i := i) (j := i + 1) (by omega) (by omega)
  have n2 := tc.next_mono (i := i + 1) (j := ops.size) (by omega) (by omega)
  have htm : TmRel (pt i).env θ (restr (pt i).tm (opTmps o.op)) (virt a (opTmps o.op)).tmps := by
    intro t
    rw [virt_getD]
    have hl : look (restr (pt i).tm (opTmps o.op)) t = if t ∈ opTmps o.op then look (pt i).tm t else .undef := by
      unfold look
      rw [restr_get]
      by_cases e : t ∈ opTmps o.op
      · simp only [if_pos e]
      · simp only [if_neg e]
    rw [hl]
    by_cases e : t ∈ opTmps o.op
    · simp only [if_pos e]
      exact h.tmp tc ho hiD hbef (by simp only [namesOf, List.mem_append]; exact .inl (.inr e))
    · simp only [if_neg e]; simp [Rel, undef]
  have hex := virt_exec a o (st.sel hr)
  have hstD : ∀ s id, StW ops pt s id → ∀ p, ops[s]? = some p → isStore p.op = true := by
    rintro s id ⟨p, hp, hps, _⟩ q hq
    rw [hp] at hq; cases hq; exact hps
  -- what is left of the names
  have hnames : ∀ {θ' : Th} {w' : World} {wl : Nat}, Stp θ θ' (pt i).st.next (pt (i + 1)).st.next wl w w' → ∀ j x, θ' j = some x → θ0 j = some x ∨ ∃ k, In (D.setIfInBounds i true) k ∧ Own pt ops.size k j := by
    intro θ' w' wl hs j x hx
    cases e : θ j with
    | none =>
      obtain ⟨q1, q2, _, _⟩ := hs.new j x.1 x.2 hx e
      exact .inr ⟨i, (in_set hi').2 (.inl rfl), hi, q1, q2⟩
    | some y =>
      have := hs.ext j y e
      rw [hx] at this; cases this
      rcases h.names j x e with q | ⟨k, k1, k2⟩
      · exact .inl q
      · exact .inr ⟨k, (in_set hi').2 (.inr k1), k2⟩
  cases hs : isStore o.op with
  | false =>
    obtain ⟨s', e', snd⟩ := st.quiet hr hs
    have hnext : s'.next = (pt (i + 1)).st.next := by rw [e']
    have hpre : OpPre ro (pt i).env θ (restr (pt i).tm (opTmps o.op)) (hidden (pt i) o ((Region.before ops).getD i 0)) (virt a (opTmps o.op)) w := by
      refine ⟨htm, ?_, h.inj⟩
      intro id cs hc
      simp only [hidden, visOf] at hc
      cases hl : looksAtMemory o.op with
      | false => rw [hl] at hc; simp [findB] at hc
      | true =>
        rw [hl] at hc
        simp only [] at hc
        cases hld : isLoad o.op with
        | false =>
          rw [hld] at hc
          obtain ⟨q1, q2⟩ := hide_spec hc
          exact h.sees tc ho hiD hbef q2 q1 fun s => h.st_hard tc ho hiD hbef hl hld s id
        | true =>
          rw [hld] at hc
          simp only [] at hc
          split at hc
          · rename_i z hz
            obtain ⟨he, hc'⟩ := onlyB_spec hc
            subst he
            obtain ⟨q1, q2⟩ := hide_spec hc'
            exact h.sees tc ho hiD hbef q2 q1 (h.st_load tc ho hiD hbef hld hr hz)
          · simp [findB] at hc
    have hg := snd _ w θ hpre (by show Fresh θ (pt i).st.next s'.next; rw [hnext]; exact hfr)
    rw [hex] at hg
    refine hg.mono fun v w' ⟨θ', r1, r2, r3⟩ => ⟨θ', ?_⟩
    have r3' : Stp θ θ' (pt i).st.next (pt (i + 1)).st.next (pt i).st.next w w' := by rw [← hnext]; exact r3
    have hnotSt : ∀ s id, StW ops pt s id → s ≠ i := by
      rintro s id hss rfl
      rw [hstD _ _ hss o ho] at hs; cases hs
    refine ⟨by simp [h.sz], h.closed' tc hi hbef, h.tm_put tc ho hiD hbef r3.ext r1, ?_, h.inj.step r3, hnames r3', h.stp.then r3' n0.1 n2.1 (by have := tc.wlo0; omega), by rw [put_size]; exact h.size, by rw [put_defers]; exact h.defers⟩
    intro m hm id cs hf c1 c2 c3
    by_cases hown : Own pt ops.size i id
    · obtain ⟨_, o1, o2⟩ := hown
      have hlt := tc.lt hm id cs hf
      have him : i + 1 ≤ m := by
        rcases Nat.lt_or_ge i m with q | q
        · exact q
        · have := (tc.next_mono (i := m) (j := i) q (by omega)).1; omega
      have hdom := tc.dom him hm o2
      have hno : ∀ s, i + 1 ≤ s → s < m → ¬ StW ops pt s id := by
        intro s s1 s2 hss
        have hsD : In D s := by
          rcases (in_set hi').1 (c3 s hss s2) with rfl | q
          · exact absurd rfl (hnotSt _ _ hss)
          · exact q
        obtain ⟨p, hp, hps, hpr, _⟩ := hss
        obtain ⟨v1, _, _⟩ := (tc.step s p hp).store hpr hps
        have hds := tc.dom (a := i + 1) (b := s) s1 (by omega) o2
        rw [hf] at hdom
        cases hq : findB id (pt s).st.heap with
        | none => rw [hq] at hds; rw [← hdom] at hds; cases hds
        | some ds =>
          have hvis := allVis_spec v1 id ds hq
          have := tc.ownerOk_own (i := s) (by omega) (k := i) (id := id) ⟨hi, o1, o2⟩ (by omega) hvis
          exact hiD (h.closed s i hsD this)
      have heq := tc.same him hm o2 hno
      rw [hf] at heq
      have heq' : findB id (newOnes (pt i).st.next s'.next s'.heap (pt i).st.heap) = some cs := by
        have : findB id (pt (i + 1)).st.heap = some cs := heq.symm
        rw [e'] at this; exact this
      have hin := (newOnes_ge (tc.lt (m := i) (by omega)) o1 heq').1
      obtain ⟨r, base, vs, el, fz, g1, g2, g3, g4⟩ := r2 id cs hin
      have hp := (tc.next_mono him hm).2.1
      refine ⟨r, base, vs, el, fz, g1, g2, g3, fun j c hc => ?_⟩
      obtain ⟨u, hu, hr'⟩ := g4 j c hc
      exact ⟨u, hu, Rel.mono hp (ThLe.refl θ') _ _ hr'⟩
    · have hb := h.mem m hm id cs hf
        (fun k hk => by
          rcases (in_set hi').1 (c1 k hk) with rfl | q
          · exact absurd hk hown
          · exact q)
        (fun s hss hsD => c2 s hss ((in_set hi').2 (.inr hsD)))
        (fun s hss hsm => by
          rcases (in_set hi').1 (c3 s hss hsm) with rfl | q
          · exact absurd rfl (hnotSt _ _ hss)
          · exact q)
      refine brel_keep hb r3' ?_ (Pfx.refl _)
      intro r base j b _ j1 j2 hj
      rw [hfr j j1 j2] at hj; cases hj
  | true =>
    obtain ⟨v1, v2, b, hb1, hb2, hb3, hb4, hb5, snd⟩ := st.store hr hs
    rw [tgt_restr] at hb5
    have htb : tgt (pt i).tm o.op = some b := by
      obtain ⟨z, hz⟩ := st.tgt_some hr (by simp [hs])
      rw [hz, hb5 z hz]
    have hcmp := h.st_hard tc ho hiD hbef (store_looks hs) (store_noload hs)
    have hpre : OpPre ro (pt i).env θ (restr (pt i).tm (opTmps o.op)) (pt i).st (virt a (opTmps o.op)) w := by
      refine ⟨htm, ?_, h.inj⟩
      intro id cs hc
      exact h.sees tc ho hiD hbef hc (allVis_spec v1 id cs hc) fun s => hcmp s id
    have hg := snd _ w θ hpre
    rw [hex] at hg
    refine hg.mono fun v w' ⟨⟨θ', r1, r2, r3⟩, only⟩ => ⟨θ', ?_⟩
    have hSti : StW ops pt i b := ⟨o, ho, hs, hr, htb⟩
    refine ⟨by simp [h.sz], h.closed' tc hi hbef, h.tm_put tc ho hiD hbef r3.ext r1, ?_, h.inj.step r3, hnames r3, h.stp.then r3 n0.1 n2.1 (by rw [n0.2.2]; exact Nat.le_refl _), by rw [put_size]; exact h.size, by rw [put_defers]; exact h.defers⟩
    intro m hm id cs hf c1 c2 c3
    by_cases hid : id = b
    · subst hid
      have him : i + 1 ≤ m := c2 i hSti ((in_set hi').2 (.inl rfl))
      have hold : id < (pt (i + 1)).st.next := by
        rw [hb3]
        cases hq : findB id (pt i).st.heap with
        | none => rw [hq] at hb2; cases hb2
        | some ds => exact tc.lt (m := i) (by omega) id ds hq
      have hno : ∀ s, i + 1 ≤ s → s < m → ¬ StW ops pt s id := by
        intro s s1 s2 hss
        rcases (in_set hi').1 (c3 s hss s2) with rfl | q
        · omega
        · rcases hcmp s id hss (by omega) with z | z
          · omega
          · exact z.2 q
      have heq := tc.same him hm hold hno
      rw [hf] at heq
      obtain ⟨r, base, vs, el, fz, g1, g2, g3, g4⟩ := r2 id cs heq.symm
      have hp := (tc.next_mono him hm).2.1
      refine ⟨r, base, vs, el, fz, g1, g2, g3, fun j c hc => ?_⟩
      obtain ⟨u, hu, hr'⟩ := g4 j c hc
      exact ⟨u, hu, Rel.mono hp (ThLe.refl θ') _ _ hr'⟩
    · have hb := h.mem m hm id cs hf
        (fun k hk => by
          rcases (in_set hi').1 (c1 k hk) with rfl | q
          · obtain ⟨_, q1, q2⟩ := hk; omega
          · exact q)
        (fun s hss hsD => c2 s hss ((in_set hi').2 (.inr hsD)))
        (fun s hss hsm => by
          rcases (in_set hi').1 (c3 s hss hsm) with rfl | q
          · obtain ⟨o', ho', _, _, ht'⟩ := hss
            rw [ho] at ho'; cases ho'
            rw [htb] at ht'; cases ht'
            exact absurd rfl hid
          · exact q)
      obtain ⟨r, base, vs, el, fz, g1, g2, g3, g4⟩ := hb
      refine ⟨r, base, vs, el, fz, r3.ext _ _ g1, ?_, g3, fun j c hc => ?_⟩
      · rw [only r ?_]; exact g2
        intro base' hbr
        exact hid (h.inj.2 b id r _ _ hb1 hbr g1).symm
      · obtain ⟨u, hu, hr'⟩ := g4 j c hc
        exact ⟨u, hu, Rel.mono (Pfx.refl _) r3.ext _ _ hr'⟩

end
end Go.Proofs.YtejbahdihfnbcaaDoor.Sx

/- A region that draws its order: whole. -/
namespace Go.Proofs.YtejbahdihfnbcaaDoor.Sx
open Go
set_option linter.unusedSimpArgs false
set_option linter.unusedVariables false

section
variable {P : Program} {G : Gs} {rs : List Sc} {ro N : Nat} {ops : Array Oper} {pt : Nat → Pt} {a0 : Act} {w0 : World} {θ0 : Th} {D : Array Bool} {a : Act} {w : World} {θ : Th}
variable {sm : List (FuncId × Sum)} {ex : List (FuncId × Ext)} {call : CallK}

theorem AInv.bef (tc : Tc P ro N ops pt) (h : AInv P ro N ops pt a0 w0 θ0 D a w θ) {i : Nat} (hi : i ∈ Region.ready .any ops D) :
    ∃ o, ops[i]? = some o ∧ ¬ In D i ∧ ∀ k, ((Region.before ops).getD i 0).testBit k = true → In D k := by
  simp only [Region.ready, List.mem_filter, List.mem_range, Bool.and_eq_true, Bool.not_eq_true'] at hi
  obtain ⟨h1, h2, h3⟩ := hi
  have ho : ops[i]? = some ops[i] := by simp [h1]
  refine ⟨_, ho, ?_, ?_⟩
  · intro hin
    have hlt := In.lt hin
    simp only [In, Array.getD_eq_getD_getElem?] at hin
    simp only [Array.getD_eq_getD_getElem?] at h2
    rw [Array.getElem?_eq_getElem hlt] at hin h2
    simp at hin h2
    rw [hin] at h2; cases h2
  · intro k hk
    rw [ho] at h3
    simp only [Option.map_some, Option.getD_some] at h3
    have hedge : ∀ j, Binds ops[i] j → In D j := by
      rintro j ⟨e, he, hb, rfl⟩
      have := Array.all_eq_true'.1 h3 e (by simpa using he)
      simp [hb] at this
      simpa [In, Array.getD_eq_getD_getElem?] using this
    obtain ⟨_, hs⟩ := bef_spec ops
    obtain ⟨j, hb, hj⟩ := hs i ops[i] (by simp [h1]) k hk
    rcases hj with rfl | ⟨_, hj⟩
    · exact hedge _ hb
    · exact h.closed j k (hedge j hb) hj

theorem ready_nil (tc : Tc P ro N ops pt) (h : AInv P ro N ops pt a0 w0 θ0 D a w θ) (hr : Region.ready .any ops D = []) : ∀ i, i < ops.size → In D i := by
  intro i
  induction i using Nat.strongRecOn with
  | ind i ih =>
    intro hi
    cases hd : D.getD i false with
    | true => exact hd
    | false =>
      exfalso
      have hlt : i < D.size := by rw [h.sz]; exact hi
      have : i ∈ Region.ready .any ops D := by
        simp only [Region.ready, List.mem_filter, List.mem_range, Bool.and_eq_true, Bool.not_eq_true']
        refine ⟨hi, ?_, ?_⟩
        · simp only [Array.getD_eq_getD_getElem?] at hd ⊢
          rw [Array.getElem?_eq_getElem hlt] at hd ⊢
          simpa using hd
        · have ho : ops[i]? = some ops[i] := by simp [hi]
          rw [ho]
          simp only [Option.map_some, Option.getD_some]
          rw [Array.all_eq_true']
          intro e he
          cases hb : Region.binds .any e with
          | false => rfl
          | true =>
            have hlt' := draw_edge tc.ok ho (j := e.on) ⟨e, by simpa using he, hb, rfl⟩
            have := ih e.on hlt' (by omega)
            simpa [In, Array.getD_eq_getD_getElem?] using this
      rw [hr] at this; cases this

/-- what is left to do -/
def left (n : Nat) (D : Array Bool) : Nat := ((List.range n).filter fun i => !D.getD i false).length
theorem left_set {n i : Nat} (hi : i < n) (hs : D.size = n) (hn : ¬ In D i) : left n (D.setIfInBounds i true) < left n D := by
  unfold left
  have hmem : i ∈ (List.range n).filter fun i => !D.getD i false := by
    simp only [List.mem_filter, List.mem_range, Bool.not_eq_true']
    refine ⟨hi, ?_⟩
    cases h : D.getD i false
    · rfl
    · exact absurd h hn
  have hsub : ((List.range n).filter fun k => !(D.setIfInBounds i true).getD k false) = ((List.range n).filter fun k => !D.getD k false).filter (fun k => k != i) := by
    rw [List.filter_filter]
    apply List.filter_congr
    intro k _
    by_cases e : k = i
    · subst e
      have : In (D.setIfInBounds k true) k := (in_set (by omega)).2 (.inl rfl)
      unfold In at this
      rw [this]; simp
    · have : (D.setIfInBounds i true).getD k false = D.getD k false := by
        simp only [Array.getD_eq_getD_getElem?, Array.getElem?_setIfInBounds]
        rw [if_neg (fun q => e q.symm)]
      rw [this]; simp [e]
  rw [hsub]
  generalize (List.range n).filter (fun i => !D.getD i false) = l at hmem
  induction l with
  | nil => cases hmem
  | cons x l ih =>
    by_cases e : x = i
    · subst e
      simp only [List.filter_cons, bne_self_eq_false, Bool.false_eq_true, if_false, List.length_cons]
      exact Nat.lt_succ_of_le (List.length_filter_le _ _)
    · have : i ∈ l := by
        rcases List.mem_cons.1 hmem with q | q
        · exact absurd q.symm e
        · exact q
      have hx : (x != i) = true := by simp [e]
      simp only [List.filter_cons, hx, if_true, List.length_cons]
      exact Nat.succ_lt_succ (ih this)

theorem AInv.finish (tc : Tc P ro N ops pt) (h : AInv P ro N ops pt a0 w0 θ0 D a w θ) (hall : ∀ i, i < ops.size → In D i) :
    OpPre ro (pt ops.size).env θ (pt ops.size).tm (pt ops.size).st a w := by
  refine ⟨?_, ?_, h.inj⟩
  · intro t
    rcases tc.look_tm t (i := ops.size) (Nat.le_refl _) with ⟨k, p, k1, k2, k3, k4, k5⟩ | ⟨k1, k2⟩
    · rcases h.tm t with ⟨j, q, a1, a2, a3, a4, a5⟩ | ⟨a1, a2⟩
      · have hle := a4 k p (hall k k1) k2 k3
        have hj : j < ops.size := (Array.getElem?_eq_some_iff.1 a2).1
        have : j = k := by
          by_cases e : j = k
          · exact e
          · exact absurd a3 (k4 j q (by omega) hj a2)
        subst this
        rw [k5]
        exact Rel.mono (tc.next_mono (i := j + 1) (j := ops.size) (by omega) (Nat.le_refl _)).2.1 (ThLe.refl θ) _ _ a5
      · exact absurd k3 (a1 k p (hall k k1) k2)
    · rw [k2]
      rcases h.tm t with ⟨j, q, a1, a2, a3, a4, a5⟩ | ⟨a1, a2⟩
      · exact absurd a3 (k1 j q (Array.getElem?_eq_some_iff.1 a2).1 a2)
      · exact Rel.mono (tc.next_mono (i := 0) (j := ops.size) (by omega) (Nat.le_refl _)).2.1 (ThLe.refl θ) _ _ a2
  · intro id cs hc
    exact h.mem ops.size (Nat.le_refl _) id cs hc (fun k hk => hall k hk.1) (fun s ⟨o, ho, _⟩ _ => (Array.getElem?_eq_some_iff.1 ho).1) (fun s _ hs => hall s hs)

theorem any_order (tc : Tc P ro N ops pt) (hf0 : Fresh θ0 (pt 0).st.next (pt ops.size).st.next) (Q : Exit → Act → World → Prop)
    (hq : ∀ a' w', Piece ro N (pt 0).env (pt ops.size).env (pt 0).tm (pt ops.size).tm (pt 0).st (pt ops.size).st a0 w0 θ0 a' w' → Q .normal a' w') :
    ∀ (fuel : Nat) (D : Array Bool) (a : Act) (w : World) (θ : Th), AInv P ro N ops pt a0 w0 θ0 D a w θ → left ops.size D ≤ fuel → wpAny P .any ops Q fuel D a w := by
  intro fuel
  have hdone : ∀ (D : Array Bool) (a : Act) (w : World) (θ : Th), AInv P ro N ops pt a0 w0 θ0 D a w θ → Region.ready .any ops D = [] → Q .normal a w := by
    intro D a w θ h hr
    exact hq a w ⟨θ, h.finish tc (ready_nil tc h hr), h.size, h.defers, h.stp⟩
  induction fuel with
  | zero =>
    intro D a w θ h hl
    have hr : Region.ready .any ops D = [] := by
      apply List.eq_nil_iff_forall_not_mem.2
      intro i hi
      obtain ⟨o, ho, hn, _⟩ := h.bef tc hi
      have := left_set (Array.getElem?_eq_some_iff.1 ho).1 h.sz hn
      omega
    exact ⟨hr, hdone D a w θ h hr⟩
  | succ fuel ih =>
    intro D a w θ h hl
    refine ⟨hdone D a w θ h, fun i hi => ?_⟩
    obtain ⟨o, ho, hn, hbef⟩ := h.bef tc hi
    have hlt := left_set (Array.getElem?_eq_some_iff.1 ho).1 h.sz hn
    unfold wpOp
    simp only [ho]
    have hw : wants ops (pt i).tm o = Region.wanted o (yielded ops a.tmps) := by
      refine wants_eq fun t hg ⟨j, wv, hgd, hd⟩ => h.tmp tc ho hn hbef ?_
      simp only [namesOf, List.mem_append, hgd, hd]
      exact .inr (by simp)
    rw [← hw, (tc.step i o ho).wants]
    cases hr : (pt i).run with
    | false =>
      simp only [Bool.false_eq_true, if_false]
      exact ih _ _ _ θ (h.skip tc ho hn hbef hr) (by omega)
    | true =>
      simp only [if_true]
      refine .inl (Gives.wp (h.run tc hf0 ho hn hbef hr) ?_)
      intro v w' ⟨θ', h'⟩
      exact ih _ _ _ θ' h' (by omega)

theorem runDraw_ok (hctx : Ctx P sm ex call G) (hm : P.follows .mixedOrders = true) (id : Nat) {env : List Sc} {tm : Tr AV} {st : St} {kk : Tr AV → St → T} (hok : drawOk ops = true) (hd : ops.toList.all (dstOk N) = true) (hro : ro ≤ st.wlo) (hrn : ro ≤ st.next)
    (h : (runDraw0 P sm ex call ops tm st kk).den G env = some rs) (hn : st.nn = env.length) :
    ∃ env' tm' st', (kk tm' st').den G env' = some rs ∧ Leaf env env' st st' ∧
      ∀ (a : Act) (w : World) (θ : Th) (Q : Exit → Act → World → Prop), OpPre ro env θ tm st a w → N ≤ a.tmps.size → Fresh θ st.next st'.next →
        (∀ a' w', Piece ro N env env' tm tm' st st' a w θ a' w' → Q .normal a' w') → (Code.region id ops true).wp P Q a w := by
  unfold runDraw0 at h
  cases hc : allLt st.next st.heap && Nat.ble st.wlo st.next with
  | false => simp [hc, T.den] at h
  | true =>
    simp only [hc] at h
    simp only [Bool.and_eq_true] at hc
    obtain ⟨c1, c2⟩ := hc
    obtain ⟨pt, e1, e2, e3, e4, e5, hk, hsteps⟩ := trace (ro := ro) hctx ops ops.toList (Region.before ops).toList 0 [] [] hro hrn h hn
    simp only [Array.length_toList] at hk
    have tc : Tc P ro N ops pt := by
      refine ⟨?_, hok, ?_, ?_, e4, e5, ?_, ?_⟩
      · intro i o ho
        obtain ⟨b, hb, hs⟩ := hsteps i o (by simpa using ho)
        have hbe : (Region.before ops).getD i 0 = b := by
          simp only [Array.getD_eq_getD_getElem?]
          have : (Region.before ops)[i]? = some b := by simpa using hb
          rw [this]; rfl
        rw [hbe]
        simpa using hs
      · intro i o ho t ht
        have := List.all_eq_true.1 hd o (by
          have : ops.toList[i]? = some o := by simpa using ho
          exact List.mem_of_getElem? this)
        simp only [dstOk, ht, Nat.blt_eq] at this
        exact this
      · rw [e2]; exact allLt_spec c1
      · rw [e2]; exact Nat.le_of_ble_eq_true c2
      · rw [e2]; exact hro
    have hlast := tc.next_mono (i := 0) (j := ops.size) (Nat.zero_le _) (Nat.le_refl _)
    have hnn : (pt ops.size).st.nn = (pt ops.size).env.length := by
      rcases Nat.eq_zero_or_pos ops.size with q | q
      · rw [q, e2, e1]; exact hn
      · have := (tc.mono1 (i := ops.size - 1) (by omega)).nn
        rw [show ops.size - 1 + 1 = ops.size from by omega] at this
        exact this
    refine ⟨(pt ops.size).env, (pt ops.size).tm, (pt ops.size).st, hk, ⟨by rw [← e1]; exact hlast.2.1, hnn, by rw [← e2]; exact hlast.1, by rw [hlast.2.2, e2]⟩, ?_⟩
    intro a w θ Q hp hs hf hq
    refine wp_region_any hm ?_
    refine any_order (a0 := a) (w0 := { w with drawn := w.drawn + 1 }) (θ0 := θ) tc (by rw [e2]; exact hf) Q ?_ ops.size _ a _ θ ?_ ?_
    · intro a' w' ⟨θ', g1, g2, g3, g4⟩
      rw [e2] at g4
      refine hq a' w' ⟨θ', g1, g2, g3, ?_⟩
      exact ⟨g4.ext, g4.new, g4.inj, g4.os, g4.tape, g4.output, g4.size, g4.block⟩
    · have hno : ∀ i, ¬ In (Array.replicate ops.size false) i := by
        intro i hi
        simp only [In, Array.getD_eq_getD_getElem?, Array.getElem?_replicate] at hi
        split at hi <;> simp at hi
      refine ⟨by simp, fun i k hi => absurd hi (hno i), fun t => .inr ⟨fun i o hi => absurd hi (hno i), ?_⟩, ?_, hp.inj, fun i x hx => .inl hx, (Stp.refl θ _ _ _ _), hs, rfl⟩
      · rw [e1, e3]; exact hp.tm t
      · intro m hm id cs hfb c1' c2' c3'
        have hlt : id < (pt 0).st.next := by
          rcases Nat.lt_or_ge id (pt 0).st.next with q | q
          · exact q
          · obtain ⟨k, _, _, k3⟩ := tc.own_ex (Nat.zero_le m) hm q (tc.lt hm id cs hfb)
            exact absurd (c1' k k3) (hno k)
        have hsame := tc.same (Nat.zero_le m) hm hlt (fun s _ hs hst => hno s (c3' s hst hs))
        rw [hfb, e2] at hsame
        obtain ⟨r, base, vs, el, fz, g1, g2, g3, g4⟩ := hp.wr id cs hsame.symm
        have hpf := (tc.next_mono (Nat.zero_le m) hm).2.1
        rw [e1] at hpf
        refine ⟨r, base, vs, el, fz, g1, g2, g3, fun j c hc => ?_⟩
        obtain ⟨u, hu, hr'⟩ := g4 j c hc
        exact ⟨u, hu, Rel.mono hpf (ThLe.refl θ) _ _ hr'⟩
    · unfold left
      exact Nat.le_trans (List.length_filter_le _ _) (by simp)

end
end Go.Proofs.YtejbahdihfnbcaaDoor.Sx

/- Code, and functions. -/
namespace Go.Proofs.YtejbahdihfnbcaaDoor.Sx
open Go
set_option linter.unusedSimpArgs false
set_option linter.unusedVariables false

def exitOf : Ex → Exit
  | .normal => .normal
  | .ret => .ret
  | .exit id => .exit id

section
variable {P : Program} {G : Gs} {rs : List Sc} {ro N : Nat} {sm : List (FuncId × Sum)} {ex : List (FuncId × Ext)} {call : CallK}

/-- what is sound of code: 'run' is the way in which it is run -/
def CodeLands (G : Gs) (rs : List Sc) (ro N : Nat) (env : List Sc) (tm : Tr AV) (st : St) (kk : Ex → Tr AV → St → T) (run : Nat → (Exit → Act → World → Prop) → Act → World → Prop) : Prop :=
  ∃ e env' tm' st' m, (kk e tm' st').den G env' = some rs ∧ Leaf env env' st st' ∧
    ∀ (a : Act) (w : World) (θ : Th) (Q : Exit → Act → World → Prop), OpPre ro env θ tm st a w → N ≤ a.tmps.size → Fresh θ st.next st'.next →
      (∀ a' w', Piece ro N env env' tm tm' st st' a w θ a' w' → Q (exitOf e) a' w') → run m Q a w

theorem Leaf.refl {env : List Sc} {st : St} (h : st.nn = env.length) : Leaf env env st st := ⟨Pfx.refl _, h, Nat.le_refl _, rfl⟩
theorem Leaf.trans {e1 e2 e3 : List Sc} {s1 s2 s3 : St} (h : Leaf e1 e2 s1 s2) (k : Leaf e2 e3 s2 s3) : Leaf e1 e3 s1 s3 :=
  ⟨h.pfx.trans k.pfx, k.nn, Nat.le_trans h.next k.next, k.wlo.trans h.wlo⟩

theorem here {env : List Sc} {tm : Tr AV} {st : St} {kk : Ex → Tr AV → St → T} {run : Nat → (Exit → Act → World → Prop) → Act → World → Prop} (e : Ex) (h : (kk e tm st).den G env = some rs) (hn : st.nn = env.length)
    (hr : ∀ Q a w, Q (exitOf e) a w → run 0 Q a w) : CodeLands G rs ro N env tm st kk run :=
  ⟨e, env, tm, st, 0, h, Leaf.refl hn, fun a w θ Q hp hs hf hq => hr Q a w (hq a w ⟨θ, hp, hs, rfl, Stp.refl _ _ _ _ _⟩)⟩

theorem Piece.trans {e1 e2 e3 : List Sc} {t1 t2 t3 : Tr AV} {s1 s2 s3 : St} {a a' a'' : Act} {w w' w'' : World} {θ θ' : Th} (h2 : Stp θ θ' s1.next s2.next s1.wlo w w') (hd : a'.defers = a.defers) (l1 : Leaf e1 e2 s1 s2) (l2 : Leaf e2 e3 s2 s3)
    (h : Piece ro N e2 e3 t2 t3 s2 s3 a' w' θ' a'' w'') : Piece ro N e1 e3 t1 t3 s1 s3 a w θ a'' w'' := by
  obtain ⟨θ'', g1, g2, g3, g4⟩ := h
  rw [l1.wlo] at g4
  exact ⟨θ'', g1, g2, g3.trans hd, h2.trans g4 l1.next l2.next⟩

theorem runCode_ok (hctx : Ctx P sm ex call G) (hm : P.follows .mixedOrders = true) : ∀ n,
    (∀ c {env tm st kk}, ro ≤ St.wlo st → ro ≤ st.next → codeOk N c = true → (runCode P sm ex call n c tm st kk).den G env = some rs → st.nn = env.length → CodeLands G rs ro N env tm st kk fun _ Q a w => c.wp P Q a w) ∧
    (∀ b {env tm st kk}, ro ≤ St.wlo st → ro ≤ st.next → codeOk N b = true → (runCode P sm ex call n (.loop b) tm st kk).den G env = some rs → st.nn = env.length → CodeLands G rs ro N env tm st kk fun m Q a w => Code.rounds P b Q m a w) := by
  intro n
  induction n with
  | zero =>
    refine ⟨?_, ?_⟩
    · intro c env tm st kk _ _ _ h; simp [runCode, T.den] at h
    · intro c env tm st kk _ _ _ h; simp [runCode, T.den] at h
  | succ n ih =>
    obtain ⟨ihA, ihB⟩ := ih
    have loop : ∀ b {env tm st kk}, ro ≤ St.wlo st → ro ≤ st.next → codeOk N b = true → (runCode P sm ex call (n + 1) (.loop b) tm st kk).den G env = some rs → st.nn = env.length → CodeLands G rs ro N env tm st kk fun m Q a w => Code.rounds P b Q m a w := by
      intro b env tm st kk hro hrn hok h hn
      simp only [runCode] at h
      obtain ⟨e1, env1, tm1, st1, _, h1, l1, s1⟩ := ihA b hro hrn hok h hn
      cases e1 with
      | normal =>
        simp only at h1
        obtain ⟨e2, env2, tm2, st2, m, h2, l2, s2⟩ := ihB b (by rw [l1.wlo]; exact hro) (Nat.le_trans hrn l1.next) hok h1 l1.nn
        refine ⟨e2, env2, tm2, st2, m + 1, h2, l1.trans l2, fun a w θ Q hp hs hf hq => ?_⟩
        show b.wp P (Exit.then (Code.rounds P b Q m) Q) a w
        refine s1 a w θ _ hp hs (fun i i1 i2 => hf i i1 (Nat.lt_of_lt_of_le i2 l2.next)) ?_
        intro a' w' ⟨θ', g1, g2, g3, g4⟩
        show Code.rounds P b Q m a' w'
        refine s2 a' w' θ' Q g1 g2 (Fresh.step hf g4 l1.next) ?_
        intro a'' w'' hpc
        exact hq a'' w'' (Piece.trans g4 g3 l1 l2 hpc)
      | ret =>
        refine ⟨.ret, env1, tm1, st1, 1, h1, l1, fun a w θ Q hp hs hf hq => ?_⟩
        show b.wp P (Exit.then (Code.rounds P b Q 0) Q) a w
        exact s1 a w θ _ hp hs hf fun a' w' hpc => hq a' w' hpc
      | exit id =>
        refine ⟨.exit id, env1, tm1, st1, 1, h1, l1, fun a w θ Q hp hs hf hq => ?_⟩
        show b.wp P (Exit.then (Code.rounds P b Q 0) Q) a w
        exact s1 a w θ _ hp hs hf fun a' w' hpc => hq a' w' hpc
    refine ⟨?_, loop⟩
    intro c env tm st kk hro hrn hok h hn
    cases c with
    | skip => exact here .normal (by simpa [runCode] using h) hn fun Q a w hq => wp_skip hq
    | label l => exact here .normal (by simpa [runCode] using h) hn fun Q a w hq => wp_label hq
    | ret => exact here .ret (by simpa [runCode] using h) hn fun Q a w hq => wp_ret hq
    | exit id => exact here (.exit id) (by simpa [runCode] using h) hn fun Q a w hq => wp_exit hq
    | goto l => simp [runCode, T.den] at h
    | refuse w => simp [runCode, T.den] at h
    | rangeFunc f ps x y => simp [runCode, T.den] at h
    | region id ops draw =>
      simp only [codeOk, Bool.and_eq_true] at hok
      obtain ⟨hd, hdr⟩ := hok
      cases draw with
      | false =>
        simp only [runCode] at h
        obtain ⟨env', tm', st', h1, l1, s1⟩ := runOps_ok (N := N) hctx ops ops.toList 0 (fun j => by simp) hd hro hrn h hn
        refine ⟨.normal, env', tm', st', 0, h1, l1, fun a w θ Q hp hs hf hq => wp_region ?_⟩
        have := s1 a w θ Q hp hs hf hq
        rw [Array.length_toList, ← List.range_eq_range'] at this
        exact this
      | true =>
        simp only [runCode] at h
        obtain ⟨env', tm', st', h1, l1, s1⟩ := runDraw_ok (N := N) hctx hm id hdr hd hro hrn h hn
        exact ⟨.normal, env', tm', st', 0, h1, l1, s1⟩
    | seq x y =>
      simp only [codeOk, Bool.and_eq_true] at hok
      simp only [runCode] at h
      obtain ⟨e1, env1, tm1, st1, _, h1, l1, s1⟩ := ihA x hro hrn hok.1 h hn
      cases e1 with
      | normal =>
        simp only at h1
        obtain ⟨e2, env2, tm2, st2, _, h2, l2, s2⟩ := ihA y (by rw [l1.wlo]; exact hro) (Nat.le_trans hrn l1.next) hok.2 h1 l1.nn
        refine ⟨e2, env2, tm2, st2, 0, h2, l1.trans l2, fun a w θ Q hp hs hf hq => wp_seq ?_⟩
        refine s1 a w θ _ hp hs (fun i i1 i2 => hf i i1 (Nat.lt_of_lt_of_le i2 l2.next)) ?_
        intro a' w' ⟨θ', g1, g2, g3, g4⟩
        show y.wp P Q a' w'
        refine s2 a' w' θ' Q g1 g2 (Fresh.step hf g4 l1.next) ?_
        intro a'' w'' hpc
        exact hq a'' w'' (Piece.trans g4 g3 l1 l2 hpc)
      | ret =>
        refine ⟨.ret, env1, tm1, st1, 0, h1, l1, fun a w θ Q hp hs hf hq => wp_seq ?_⟩
        exact s1 a w θ _ hp hs hf fun a' w' hpc => hq a' w' hpc
      | exit id =>
        refine ⟨.exit id, env1, tm1, st1, 0, h1, l1, fun a w θ Q hp hs hf hq => wp_seq ?_⟩
        exact s1 a w θ _ hp hs hf fun a' w' hpc => hq a' w' hpc
    | cond x y z =>
      simp only [codeOk, Bool.and_eq_true] at hok
      simp only [runCode] at h
      obtain ⟨e1, av, s1, h1, p1, n1, x1, w1, hh1, hx1, r1⟩ := opd_ok h hn
      have hpre : ∀ {a : Act} {w : World} {θ : Th}, OpPre ro env θ tm st a w → OpPre ro e1 θ tm s1 a w := fun hp => ⟨hp.tm.mono p1 (ThLe.refl _), by rw [hh1]; exact hp.wr.mono p1 (ThLe.refl _), hp.inj⟩
      have l0 : Leaf env e1 st s1 := ⟨p1, n1, x1, w1⟩
      cases av <;> (try simp only [T.den] at h1) <;> (try (cases h1; done))
      rename_i b
      cases b with
      | true =>
        simp only at h1
        obtain ⟨e2, env2, tm2, st2, _, h2, l2, s2⟩ := ihA y (by rw [w1]; exact hro) (by omega) hok.1 h1 n1
        refine ⟨e2, env2, tm2, st2, 0, h2, l0.trans l2, fun a w θ Q hp hs hf hq => ?_⟩
        have hc := r1 a θ hp.tm
        simp only [Rel] at hc
        refine wp_cond_true hc (s2 a w θ Q (hpre hp) hs (by rw [hx1]; exact hf) fun a' w' hpc => hq a' w' ?_)
        obtain ⟨θ', g1, g2, g3, g4⟩ := hpc
        rw [hx1, w1] at g4
        exact ⟨θ', g1, g2, g3, g4⟩
      | false =>
        simp only at h1
        obtain ⟨e2, env2, tm2, st2, _, h2, l2, s2⟩ := ihA z (by rw [w1]; exact hro) (by omega) hok.2 h1 n1
        refine ⟨e2, env2, tm2, st2, 0, h2, l0.trans l2, fun a w θ Q hp hs hf hq => ?_⟩
        have hc := r1 a θ hp.tm
        simp only [Rel] at hc
        refine wp_cond_false hc (s2 a w θ Q (hpre hp) hs (by rw [hx1]; exact hf) fun a' w' hpc => hq a' w' ?_)
        obtain ⟨θ', g1, g2, g3, g4⟩ := hpc
        rw [hx1, w1] at g4
        exact ⟨θ', g1, g2, g3, g4⟩
    | block id b =>
      simp only [codeOk] at hok
      simp only [runCode] at h
      obtain ⟨e1, env1, tm1, st1, _, h1, l1, s1⟩ := ihA b hro hrn hok h hn
      cases e1 with
      | normal =>
        refine ⟨.normal, env1, tm1, st1, 0, h1, l1, fun a w θ Q hp hs hf hq => wp_block ?_⟩
        exact s1 a w θ _ hp hs hf fun a' w' hpc => hq a' w' hpc
      | ret =>
        refine ⟨.ret, env1, tm1, st1, 0, h1, l1, fun a w θ Q hp hs hf hq => wp_block ?_⟩
        exact s1 a w θ _ hp hs hf fun a' w' hpc => hq a' w' hpc
      | exit j =>
        simp only at h1
        cases hj : Nat.beq id j with
        | true =>
          simp only [hj] at h1
          obtain rfl : id = j := Nat.eq_of_beq_eq_true hj
          refine ⟨.normal, env1, tm1, st1, 0, h1, l1, fun a w θ Q hp hs hf hq => wp_block ?_⟩
          refine s1 a w θ _ hp hs hf fun a' w' hpc => ?_
          show (if id = id then Q .normal a' w' else _)
          rw [if_pos rfl]
          exact hq a' w' hpc
        | false =>
          simp only [hj] at h1
          have hne : j ≠ id := by
            rintro rfl
            rw [show Nat.beq j j = true from Nat.beq_refl j] at hj; cases hj
          refine ⟨.exit j, env1, tm1, st1, 0, h1, l1, fun a w θ Q hp hs hf hq => wp_block ?_⟩
          refine s1 a w θ _ hp hs hf fun a' w' hpc => ?_
          show (if j = id then _ else Q (.exit j) a' w')
          rw [if_neg hne]
          exact hq a' w' hpc
    | loop b =>
      simp only [codeOk] at hok
      obtain ⟨e1, env1, tm1, st1, m, h1, l1, s1⟩ := loop b hro hrn hok h hn
      exact ⟨e1, env1, tm1, st1, 0, h1, l1, fun a w θ Q hp hs hf hq => wp_loop_rounds m (s1 a w θ Q hp hs hf hq)⟩
    | scope b =>
      simp only [codeOk] at hok
      simp only [runCode] at h
      obtain ⟨e1, env1, tm1, st1, _, h1, l1, s1⟩ := ihA b hro hrn hok h hn
      refine ⟨e1, env1, tm1, st1, 0, h1, l1, fun a w θ Q hp hs hf hq => wp_scope_straight ?_⟩
      refine s1 a w θ _ hp hs hf fun a' w' hpc => ?_
      cases e1 <;> exact hq a' w' hpc

end
end Go.Proofs.YtejbahdihfnbcaaDoor.Sx

/- Functions: the evaluator's tree of a function is a summary of it. -/
namespace Go.Proofs.YtejbahdihfnbcaaDoor.Sx
open Go
set_option linter.unusedSimpArgs false
set_option linter.unusedVariables false

theorem look_setArgs : ∀ (args : List AV) (i : Nat) (tm : Tr AV) (t : Nat), look (setArgs i args tm) t = if i ≤ t ∧ t < i + args.length then args.getD (t - i) .undef else look tm t
  | [], i, tm, t => by
    rw [if_neg (by simp)]; rfl
  | a :: args, i, tm, t => by
    unfold setArgs
    rw [look_setArgs args (Nat.add i 1) (tm.set i a) t, look_set]
    show (if i + 1 ≤ t ∧ t < i + 1 + args.length then args.getD (t - (i + 1)) .undef else _) = _
    by_cases h : t = i
    · subst h
      rw [if_neg (by omega), if_pos rfl, if_pos ⟨by omega, by simp⟩]
      simp
    · by_cases h2 : i + 1 ≤ t ∧ t < i + 1 + args.length
      · rw [if_pos h2, if_pos ⟨by omega, by simp; omega⟩]
        have : t - i = (t - (i + 1)) + 1 := by omega
        rw [this]; simp
      · rw [if_neg h2, if_neg h, if_neg (by simp; omega)]

theorem args_tm {env : List Sc} {θ : Th} {args : List AV} {vals : List Value} (h : RelL env θ args vals) (n : Nat) : TmRel env θ (setArgs 0 args .nil) ((⟨vals⟩ : Array Value) ++ Array.replicate n undef) := by
  intro t
  have hl := h.length
  rw [look_setArgs]
  simp only [Nat.zero_le, true_and, Nat.zero_add, Nat.sub_zero]
  by_cases ht : t < args.length
  · rw [if_pos ht]
    obtain ⟨v, hv, hr⟩ := h.get (List.getElem?_eq_getElem ht)
    have e1 : args.getD t .undef = args[t] := by simp [List.getD, ht]
    have e2 : ((⟨vals⟩ : Array Value) ++ Array.replicate n undef).getD t undef = v := by
      simp only [Array.getD_eq_getD_getElem?]
      rw [Array.getElem?_append_left (by simpa [hl] using ht)]
      have : (⟨vals⟩ : Array Value)[t]? = some v := by simpa using hv
      rw [this]; rfl
    rw [e1, e2]; exact hr
  · rw [if_neg ht]
    have e2 : ((⟨vals⟩ : Array Value) ++ Array.replicate n undef).getD t undef = undef := by
      simp only [Array.getD_eq_getD_getElem?]
      rw [Array.getElem?_append_right (by simp; omega)]
      simp only [Array.getElem?_replicate]
      split <;> rfl
    rw [e2]
    simp [look, Tr.get, Rel, undef]

theorem dropHeap_lt {lo : Nat} : ∀ {h : List (Nat × List AV)} {id : Nat} {cs : List AV}, findB id (dropHeap lo h) = some cs → id < lo
  | [], id, cs, hf => by simp [dropHeap, findB] at hf
  | (j, ds) :: r, id, cs, hf => by
    unfold dropHeap at hf
    split at hf
    · exact dropHeap_lt hf
    · rename_i hn
      rcases findB_cons hf with ⟨rfl, rfl⟩ | ⟨hne, hf⟩
      · rcases Nat.lt_or_ge id lo with q | q
        · exact q
        · rw [Nat.ble_eq_true_of_le q] at hn; cases hn
      · exact dropHeap_lt hf
theorem dropHeap_spec {lo : Nat} : ∀ {h : List (Nat × List AV)} {id : Nat} {cs : List AV}, findB id (dropHeap lo h) = some cs → findB id h = some cs
  | [], id, cs, hf => by simp [dropHeap, findB] at hf
  | (j, ds) :: r, id, cs, hf => by
    unfold dropHeap at hf
    split at hf
    · rename_i hle
      have hle' : lo ≤ j := Nat.le_of_ble_eq_true hle
      have hlt := dropHeap_lt hf
      rw [findB_ne (by omega)]
      exact dropHeap_spec hf
    · rcases findB_cons hf with ⟨rfl, rfl⟩ | ⟨hne, hf⟩
      · simp [findB]
      · rw [findB_ne hne]; exact dropHeap_spec hf

section
variable {P : Program} {G : Gs} {rs : List Sc} {ro : Nat} {sm : List (FuncId × Sum)} {ex : List (FuncId × Ext)}

def oneRes (tmps : Array Value) : ResultVar → Sem Value
  | .tmp t => pure (tmps.getD t undef)
  | .cell a t => do loadVar t (← asAddr (tmps.getD a undef))

theorem resVals_ok {tm : Tr AV} {st : St} : ∀ {rvs : List ResultVar} {env : List Sc} {kk : List AV → T}, (resVals P rvs tm st kk).den G env = some rs →
    ∃ avs, (kk avs).den G env = some rs ∧ ∀ ro θ (a : Act) w, TmRel env θ tm a.tmps → WRel env θ ro st.heap w → ∃ vs, (rvs.mapM (oneRes a.tmps)).run P w = .ok vs w ∧ RelL env θ avs vs
  | [], env, kk, h => ⟨[], h, fun ro θ a w ht hw => ⟨[], rfl, RelL.nil⟩⟩
  | .tmp t :: r, env, kk, h => by
    unfold resVals at h
    obtain ⟨avs, h1, h2⟩ := resVals_ok h
    refine ⟨look tm t :: avs, h1, fun ro θ a w ht hw => ?_⟩
    obtain ⟨vs, hv, hr⟩ := h2 ro θ a w ht hw
    refine ⟨a.tmps.getD t undef :: vs, ?_, RelL.cons (ht t) hr⟩
    simp only [List.mapM_cons, Sem.run_bind, oneRes, Sem.run_pure, Result.andThen_ok, hv]
  | .cell x t :: r, env, kk, h => by
    unfold resVals at h
    cases hg : tm.get x with
    | none => simp [hg, T.den] at h
    | some av =>
      simp only [hg] at h
      cases av <;> (try simp only [T.den] at h) <;> (try (cases h; done))
      rename_i b off
      obtain ⟨av, h1, hl⟩ := loadT_ok h
      obtain ⟨avs, h3, h4⟩ := resVals_ok h1
      refine ⟨av :: avs, h3, fun ro θ a w ht hw => ?_⟩
      obtain ⟨vs, hv, hr⟩ := h4 ro θ a w ht hw
      obtain ⟨r, base, v, hθ, hrel, hrun⟩ := hl ro θ w hw
      have hx := ht x
      unfold look at hx
      rw [hg] at hx
      obtain ⟨r', base', hθ', hptr⟩ := hx.ptr
      rw [hθ] at hθ'; cases hθ'
      refine ⟨v :: vs, ?_, RelL.cons hrel hr⟩
      simp only [List.mapM_cons, Sem.run_bind, oneRes, hptr, asAddr, Sem.run_pure, Result.andThen_ok, hrun, hv]

theorem results_run {fn : Func} {tmps : Array Value} {w : World} {vs : List Value} (h : (fn.results.toList.mapM (oneRes tmps)).run P w = .ok vs w) : (results fn tmps).run P w = .ok (tupV vs) w := by
  have e : results fn tmps = (do let vs ← fn.results.mapM (oneRes tmps); pure (if h : vs.size = 1 then vs[0] else .tuple vs)) := by
    unfold results
    have : (fun x : ResultVar => (match x with
      | .tmp t => pure (tmps.getD t undef)
      | .cell a t => do loadVar t (← asAddr (tmps.getD a undef)) : Sem Value)) = oneRes tmps := by
      funext x; cases x <;> rfl
    rw [← this]
    rfl
  rw [e, Array.mapM_eq_mapM_toList]
  rw [Sem.run_bind, Sem.run_map, h]
  simp only [Result.andThen_ok, Sem.run_pure]
  congr 1
  match vs with
  | [] => rfl
  | [v] => rfl
  | a :: b :: c => simp [tupV]

theorem enters_of {f : FuncId} {fn : Func} (hf : P.funcs[f]? = some fn) (hn : (fn.name == "runtime.NumGoroutine") = false) {c : Code} (hb : fn.body = some c) : Enters P f := by
  intro args w
  have h1 : fn.name ≠ "runtime.NumGoroutine" := by simpa using hn
  simp [callFunc, hf, h1, hb]

theorem runFn_ok (hsum : ∀ f s, findS f sm = some s → SumOk P f s G) (hext : ∀ f e, findE f ex = some e → ExtOk P f e) (hm : P.follows .mixedOrders = true) : ∀ n, CallKOk P G (runFn P sm ex n) := by
  intro n
  induction n with
  | zero =>
    intro ro f args st kk env rs _ _ h
    simp [runFn, T.den] at h
  | succ n ih =>
    intro ro f args st kk env rs hro hrn h hn
    have hctx : Ctx P sm ex (runFn P sm ex n) G := ⟨hsum, hext, ih⟩
    unfold runFn at h
    cases hf : P.funcs[f]? with
    | none => simp [hf, T.den] at h
    | some fn =>
      simp only [hf] at h
      cases hb : fn.body with
      | none => simp [hb, T.den] at h
      | some c =>
        simp only [hb] at h
        cases hname : fn.name == "runtime.NumGoroutine" with
        | true => simp only [hname] at h; simp [T.den] at h
        | false =>
          cases hok : codeOk fn.ntmps c with
          | false => simp only [hname, hok] at h; simp [T.den] at h
          | true =>
            simp only [hname, hok] at h
            obtain ⟨e, env1, tm1, st1, _, h1, l1, s1⟩ := (runCode_ok (ro := ro) (N := fn.ntmps) hctx hm 100000).1 c hro hrn hok h hn
            have fin : ∀ (hx : exitOf e = .normal ∨ exitOf e = .ret), (resVals P fn.results.toList tm1 st1 fun vs => match (tupleOf vs).low st.next with | true => kk (tupleOf vs) { st1 with heap := dropHeap st.next st1.heap } | false => kk (tupleOf vs) st1).den G env1 = some rs →
                Lands G rs env st kk fun e av s => Enters P f ∧ ∀ (vals : List Value) w θ, RelL env θ args vals → WRel env θ ro st.heap w → Inj θ ro w → Fresh θ st.next s.next →
                  Calls P f ⟨vals⟩ w fun en w' => ∃ v, en = .returned v ∧ OpPost ro e θ st s av w v w' := by
              intro hx hres
              obtain ⟨avs, h2, hr⟩ := resVals_ok hres
              have main : ∀ (s : St), s.next = st1.next → (∀ id cs, findB id s.heap = some cs → findB id st1.heap = some cs) → ∀ (vals : List Value) w θ, RelL env θ args vals → WRel env θ ro st.heap w → Inj θ ro w → Fresh θ st.next s.next →
                  Calls P f ⟨vals⟩ w fun en w' => ∃ v, en = .returned v ∧ OpPost ro env1 θ st s (tupleOf avs) w v w' := by
                intro s hsn hsh vals w θ ha hw hi hfr
                refine calls_of_wp hf hb ?_
                refine s1 _ w θ _ ⟨args_tm ha _, hw, hi⟩ (by simp; omega) (by rw [← hsn]; exact hfr) ?_
                intro a' w' ⟨θ', g1, g2, g3, g4⟩
                obtain ⟨vs, hv, hrel⟩ := hr ro θ' a' w' g1.tm g1.wr
                have hpost : bodyPost P fn (fun en w' => ∃ v, en = Ending.returned v ∧ OpPost ro env1 θ st s (tupleOf avs) w v w') .normal a' w' := by
                  refine ⟨g3, tupV vs, results_run hv, _, rfl, θ', tupleOf_rel hrel, ?_, by rw [hsn]; exact g4⟩
                  intro id cs hc
                  exact g1.wr id cs (hsh id cs hc)
                rcases hx with hx | hx <;> rw [hx] <;> exact hpost
              cases hlow : (tupleOf avs).low st.next with
              | true =>
                simp only [hlow] at h2
                exact ⟨env1, _, _, h2, l1.pfx, l1.nn, l1.next, l1.wlo, enters_of hf hname hb, main _ rfl fun id cs hc => dropHeap_spec hc⟩
              | false =>
                simp only [hlow] at h2
                exact ⟨env1, _, _, h2, l1.pfx, l1.nn, l1.next, l1.wlo, enters_of hf hname hb, main _ rfl fun id cs hc => hc⟩
            cases e with
            | normal => exact fin (.inl rfl) h1
            | ret => exact fin (.inr rfl) h1
            | exit id => simp [T.den] at h1

/-! The arguments of a summary -/
theorem argSKs_ok : ∀ {ss : List SK} {r : Nat} {env : List Sc} {kk : List AV → T} {xs : List Sc} {vs : List Value}, (argSKs ss r kk).den G env = some rs → ScRels ss xs vs → Seg env r xs →
    ∃ avs, (kk avs).den G env = some rs ∧ avs.length = ss.length ∧ ∀ θ, RelL env θ avs vs
  | [], r, env, kk, xs, vs, h, hs, hseg => by
    simp only [ScRels] at hs
    obtain ⟨_, rfl⟩ := hs
    exact ⟨[], h, rfl, fun θ => RelL.nil⟩
  | s :: ss, r, env, kk, xs, vs, h, hs, hseg => by
    simp only [ScRels] at hs
    obtain ⟨x, xs', v, vs', rfl, rfl, h1, h2⟩ := hs
    unfold argSKs at h
    cases s with
    | f k =>
      simp only [argRK] at h
      obtain ⟨avs, h3, h4, h5⟩ := argSKs_ok h h2 hseg.tail
      refine ⟨.flt k r :: avs, h3, by simp [h4], fun θ => RelL.cons ?_ (h5 θ)⟩
      obtain ⟨d, b, rfl, rfl, f⟩ := h1
      simp only [Rel]; exact ⟨d, b, hseg.head, rfl, f⟩
    | b => simp [argRK, T.den] at h
    | i k => simp [argRK, T.den] at h

/-- what the arguments' names stand for -/
structure ArgsOk (env : List Sc) (w : World) (st : St) (θ : Th) : Prop where
  wr : ∀ id cs, findB id st.heap = some cs → ∃ r base vs e fz, θ id = some (r, base) ∧ w.heap[r]? = some (.cells vs e fz) ∧ ∀ j c, cs[j]? = some c → ∃ v, vs[base + j]? = some v ∧ Rel env θ c v
  names : ∀ id x, θ id = some x → id < st.next ∧ x.1 < w.heap.size
  wlo : st.wlo = st.next

theorem ArgsOk.add {env : List Sc} {w : World} {st : St} {θ : Th} (h : ArgsOk env w st θ) {r o : Nat} {us : List Value} {avs : List AV} (hc : CellsAt w r o us) (hr : ∀ θ, RelL env θ avs us) (nn : Nat) :
    ∃ θ', ThLe θ θ' ∧ θ' st.next = some (r, o) ∧ ArgsOk env w { nn := nn, heap := (st.next, avs) :: st.heap, next := Nat.add st.next 1, wlo := Nat.add st.next 1 } θ' := by
  let θ' : Th := fun i => if i = st.next then some (r, o) else θ i
  have hle : ThLe θ θ' := by
    intro i x hx
    show (if i = st.next then _ else _) = _
    rw [if_neg]
    · exact hx
    · rintro rfl
      have := (h.names _ _ hx).1; omega
  obtain ⟨vs, e, fz, g1, g2⟩ := hc
  refine ⟨θ', hle, by simp [θ'], ⟨?_, ?_, rfl⟩⟩
  · intro id cs hf
    rcases findB_cons hf with ⟨rfl, rfl⟩ | ⟨hne, hf⟩
    · refine ⟨r, o, vs, e, fz, by simp [θ'], g1, fun j c hj => ?_⟩
      obtain ⟨v, hv, hrel⟩ := (hr θ').get hj
      exact ⟨v, g2 j v hv, hrel⟩
    · obtain ⟨r2, b2, vs2, e2, fz2, q1, q2, q3⟩ := h.wr id cs hf
      refine ⟨r2, b2, vs2, e2, fz2, hle _ _ q1, q2, fun j c hj => ?_⟩
      obtain ⟨v, hv, hrel⟩ := q3 j c hj
      exact ⟨v, hv, Rel.mono (Pfx.refl _) hle _ _ hrel⟩
  · intro id x hx
    by_cases hid : id = st.next
    · subst hid
      have : θ' st.next = some (r, o) := by simp [θ']
      rw [this] at hx; cases hx
      exact ⟨by show st.next < st.next + 1; omega, (Array.getElem?_eq_some_iff.1 g1).1⟩
    · have : θ' id = θ id := by simp [θ', hid]
      rw [this] at hx
      have := h.names id x hx
      exact ⟨by show id < st.next + 1; omega, this.2⟩

theorem argSh_ok {s : Sh} {env : List Sc} {st : St} {θ : Th} {w : World} {kk : AV → St → T} {xs : List Sc} {v : Value} (h : (argSh s st kk).den G env = some rs) (hs : ArgRel w s xs v) (hseg : Seg env st.nn xs) (hok : ArgsOk env w st θ) :
    ∃ av st' θ', (kk av st').den G env = some rs ∧ st'.nn = st.nn + xs.length ∧ ThLe θ θ' ∧ ArgsOk env w st' θ' ∧ Rel env θ' av v := by
  cases s with
  | val k =>
    obtain ⟨x, rfl, hx⟩ := hs
    simp only [argSh] at h
    cases k with
    | f k =>
      simp only [argRK] at h
      refine ⟨_, _, θ, h, rfl, ThLe.refl θ, ⟨hok.wr, hok.names, hok.wlo⟩, ?_⟩
      obtain ⟨d, b, rfl, rfl, f⟩ := hx
      simp only [Rel]; exact ⟨d, b, hseg.head, rfl, f⟩
    | b => simp [argRK, T.den] at h
    | i k => simp [argRK, T.den] at h
  | agg ks =>
    obtain ⟨vs, rfl, hx⟩ := hs
    simp only [argSh] at h
    obtain ⟨avs, h1, h2, h3⟩ := argSKs_ok h hx hseg
    refine ⟨_, _, θ, h1, ?_, ThLe.refl θ, ⟨hok.wr, hok.names, hok.wlo⟩, Rel.agg (h3 θ)⟩
    show st.nn + ks.length = _
    rw [hx.length]
  | ptr ks =>
    obtain ⟨r, o, us, rfl, hx, hc⟩ := hs
    simp only [argSh] at h
    obtain ⟨avs, h1, h2, h3⟩ := argSKs_ok h hx hseg
    obtain ⟨θ', q1, q2, q3⟩ := hok.add hc h3 (Nat.add st.nn ks.length)
    refine ⟨_, _, θ', h1, ?_, q1, q3, ?_⟩
    · show st.nn + ks.length = _
      rw [hx.length]
    · simp only [Rel]; exact ⟨r, o, q2, rfl⟩
  | slice n ks =>
    obtain ⟨r, o, us, rfl, hx, hc⟩ := hs
    simp only [argSh] at h
    obtain ⟨avs, h1, h2, h3⟩ := argSKs_ok h hx hseg
    obtain ⟨θ', q1, q2, q3⟩ := hok.add hc h3 (Nat.add st.nn ks.length)
    refine ⟨_, _, θ', h1, ?_, q1, q3, ?_⟩
    · show st.nn + ks.length = _
      rw [hx.length]
    · simp only [Rel]; exact ⟨r, o, q2, rfl⟩

theorem argShs_ok : ∀ {ss : List Sh} {env : List Sc} {st : St} {θ : Th} {w : World} {kk : List AV → St → T} {xs : List Sc} {vs : List Value}, (argShs ss st kk).den G env = some rs → ArgRels w ss xs vs → Seg env st.nn xs → ArgsOk env w st θ →
    ∃ avs st' θ', (kk avs st').den G env = some rs ∧ st'.nn = st.nn + xs.length ∧ ThLe θ θ' ∧ ArgsOk env w st' θ' ∧ RelL env θ' avs vs
  | [], env, st, θ, w, kk, xs, vs, h, hs, hseg, hok => by
    simp only [ArgRels] at hs
    obtain ⟨rfl, rfl⟩ := hs
    exact ⟨[], st, θ, h, rfl, ThLe.refl θ, hok, RelL.nil⟩
  | s :: ss, env, st, θ, w, kk, xs, vs, h, hs, hseg, hok => by
    simp only [ArgRels] at hs
    obtain ⟨x, xs', v, vs', rfl, rfl, h1, h2⟩ := hs
    unfold argShs at h
    obtain ⟨av, st1, θ1, g1, g2, g3, g4, g5⟩ := argSh_ok h h1 hseg.left hok
    have hr := hseg.right
    rw [show Nat.add st.nn x.length = st1.nn from g2.symm] at hr
    obtain ⟨avs, st2, θ2, k1, k2, k3, k4, k5⟩ := argShs_ok g1 h2 hr g4
    exact ⟨av :: avs, st2, θ2, k1, by rw [k2, g2]; simp; omega, g3.trans k3, k4, RelL.cons (Rel.mono (Pfx.refl _) k3 _ _ g5) k5⟩

/-! The results -/
theorem rfRs_eq : ∀ (qs : List RK) (as : List AV), rfRs qs as = rfsOf (qs.map RK.sk) as
  | [], [] => rfl
  | [], _ :: _ => rfl
  | q :: qs, [] => rfl
  | q :: qs, a :: as => by
    have : rfR q a = rfOf q.sk a := by cases q <;> rfl
    simp only [rfRs, List.map_cons, rfsOf, this, rfRs_eq qs as]

theorem rfRes_ok {env : List Sc} {θ : Th} {s : Rs} {a : AV} {v : Value} {rfs : List Rf} (h : rfRes s a = some rfs) (hr : Rel env θ a v) : ∃ xs, denL env rfs = some xs ∧ RsRel s xs v := by
  cases s with
  | val q =>
    simp only [rfRes, rfRs_eq] at h
    obtain ⟨xs, h1, h2⟩ := rfsOf_ok h (RelL.cons hr RelL.nil)
    refine ⟨xs, h1, ?_⟩
    simp only [List.map_cons, List.map_nil, ScRels] at h2
    obtain ⟨x, xs', v', vs', rfl, hv, hs, rfl, _⟩ := h2
    cases hv
    exact ⟨x, rfl, hs⟩
  | agg qs =>
    cases a <;> simp [rfRes] at h
    rw [rfRs_eq] at h
    simp only [Rel] at hr
    obtain ⟨vs, rfl, hr⟩ := hr
    obtain ⟨xs, h1, h2⟩ := rfsOf_ok h hr
    exact ⟨xs, h1, vs, rfl, h2⟩

theorem rfRess_ok {env : List Sc} {θ : Th} : ∀ {ss : List Rs} {as : List AV} {vs : List Value} {rfs : List Rf}, rfRess ss as = some rfs → RelL env θ as vs → as.length = ss.length ∧ ∃ xs, denL env rfs = some xs ∧ RsRels ss xs vs
  | [], [], vs, rfs, h, hr => by
    simp [rfRess] at h; simp only [RelL] at hr; subst h hr
    exact ⟨rfl, [], rfl, rfl, rfl⟩
  | [], _ :: _, vs, rfs, h, hr => by simp [rfRess] at h
  | _ :: _, [], vs, rfs, h, hr => by simp [rfRess] at h
  | s :: ss, a :: as, vs, rfs, h, hr => by
    simp only [RelL] at hr
    obtain ⟨v, vs', rfl, h1, h2⟩ := hr
    unfold rfRess at h
    cases e1 : rfRes s a with
    | none => simp [e1] at h
    | some r =>
      cases e2 : rfRess ss as with
      | none => simp [e1, e2] at h
      | some rr =>
        simp [e1, e2] at h; subst h
        obtain ⟨x, g1, g2⟩ := rfRes_ok e1 h1
        obtain ⟨hl, xs, k1, k2⟩ := rfRess_ok e2 h2
        exact ⟨by simp [hl], x ++ xs, denL_append g1 k1, x, xs, v, vs', rfl, rfl, g2, k2⟩

/-- THE SUMMARY of a function is its tree. -/
theorem treeOf_ok (hsum : ∀ f s, findS f sm = some s → SumOk P f s G) (hext : ∀ f e, findE f ex = some e → ExtOk P f e) (hm : P.follows .mixedOrders = true) (f : FuncId) (s : Sum) :
    CallOk P f s fun scs => (treeOf P sm ex f s).den G scs := by
  intro scs rs args w ha h
  unfold treeOf at h
  have h0 : ArgsOk scs w { nn := 0, heap := [], next := 0, wlo := 0 } (fun _ => none) := ⟨fun id cs hf => (by simp [findB] at hf), fun id x hx => (by cases hx), rfl⟩
  obtain ⟨avs, st, θ, h1, h2, _, h4, h5⟩ := argShs_ok h ha (fun j x hj => by simpa using hj) h0
  have hnn : st.nn = scs.length := by rw [h2]; simp
  obtain ⟨env, av, st', k1, k2, k3, k4, k5, _, kc⟩ := runFn_ok hsum hext hm 1000 st.next f avs st _ scs rs (by rw [h4.wlo]; exact Nat.le_refl _) (Nat.le_refl _) h1 hnn
  have hinj : Inj θ st.next w := by
    refine ⟨fun i r b hi => (h4.names i _ hi).2, fun i j r b b' hi h1 _ => ?_⟩
    have := (h4.names i _ h1).1; omega
  have hfr : Fresh θ st.next st'.next := by
    intro i hi _
    cases e : θ i with
    | none => rfl
    | some x => have := (h4.names i x e).1; omega
  have hwr : WRel scs θ st.next st.heap w := by
    intro id cs hf
    obtain ⟨r, base, vs, e, fz, q1, q2, q3⟩ := h4.wr id cs hf
    refine ⟨r, base, vs, e, fz, q1, q2, fun hle => ?_, q3⟩
    have := (h4.names id _ q1).1; omega
  refine Calls.mono (kc args w θ h5 hwr hinj hfr) fun en w' hq => ?_
  obtain ⟨v, rfl, θ', r1, r2, r3⟩ := hq
  refine ⟨v, rfl, ?_, ?_⟩
  · dsimp only at k1
    split at k1
    · rename_i rfs hrf
      simp only [T.den] at k1
      have hun : ∃ vs, RelL env θ' (unTuple s.res.length av) vs ∧ ((unTuple s.res.length av).length = s.res.length → v = tupV vs) := by
        unfold unTuple
        split
        · exact ⟨[v], RelL.cons r1 RelL.nil, fun _ => rfl⟩
        · rename_i n hn1
          split
          · rename_i vs'
            simp only [Rel] at r1
            obtain ⟨us, rfl, hr⟩ := r1
            refine ⟨us, hr, fun hl => ?_⟩
            have hlen := hr.length
            match us, hlen with
            | [], _ => rfl
            | [u], hlen => simp at hlen; exfalso; exact hn1 (by rw [← hl]; exact hlen.symm)
            | a :: b :: c, _ => rfl
          · refine ⟨[.tuple #[]], RelL.cons (by simp [Rel]) RelL.nil, fun hl => ?_⟩
            exfalso
            exact hn1 (by rw [← hl]; rfl)
      obtain ⟨vs, hrl, hv⟩ := hun
      obtain ⟨hl, xs, hd, hrs⟩ := rfRess_ok hrf hrl
      rw [hd] at k1; cases k1
      exact ⟨vs, hrs, hv hl⟩
    · simp [T.den] at k1
  · refine ⟨r3.os, r3.tape, r3.output, r3.size, fun k hk => r3.block k hk ?_⟩
    intro i b hi _ hth
    have := (h4.names i _ hth).1
    rw [h4.wlo] at hi; omega

end
end Go.Proofs.YtejbahdihfnbcaaDoor.Sx

