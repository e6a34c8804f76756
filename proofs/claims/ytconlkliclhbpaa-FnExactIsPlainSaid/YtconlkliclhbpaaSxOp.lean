/- Operations: what the evaluator says of each is what the model runs. -/
import Derived.Test.YtconlkliclhbpaaSxFl2
import Derived.Laws.CopyRow
import Derived.Laws.Cells
namespace Go.Proofs.Ytconlkliclhbpaa.Sx
open Go

abbrev Gs := Nat → List Sc → Option (List Sc)

structure OpPre (ro : Nat) (env : List Sc) (θ : Th) (tm : Tr AV) (st : St) (a : Act) (w : World) : Prop where
  tm : TmRel env θ tm a.tmps
  wr : WRel env θ ro st.heap w
  inj : Inj θ ro w

def OpPost (ro : Nat) (env : List Sc) (θ : Th) (st st' : St) (av : AV) (w : World) (v : Value) (w' : World) : Prop :=
  ∃ θ', Rel env θ' av v ∧ WRel env θ' ro st'.heap w' ∧ Stp θ θ' st.next st'.next st.wlo w w'

/-- the leaf at which the evaluator goes on -/
def Lands (G : Gs) (rs : List Sc) (env : List Sc) (st : St) (kk : K) (Φ : List Sc → AV → St → Prop) : Prop :=
  ∃ env' av st', (kk av st').den G env' = some rs ∧ Pfx env env' ∧ st'.nn = env'.length ∧ st.next ≤ st'.next ∧ st'.wlo = st.wlo ∧ Φ env' av st'

theorem Lands.imp {G : Gs} {rs env : List Sc} {st : St} {kk : K} {Φ Ψ : List Sc → AV → St → Prop} (h : Lands G rs env st kk Φ) (hi : ∀ e a s, Pfx env e → s.nn = e.length → st.next ≤ s.next → s.wlo = st.wlo → Φ e a s → Ψ e a s) : Lands G rs env st kk Ψ := by
  obtain ⟨e, a, s, h1, h2, h3, h4, h5, h6⟩ := h
  exact ⟨e, a, s, h1, h2, h3, h4, h5, hi e a s h2 h3 h4 h5 h6⟩

/-- what is sound of an operation that is no call -/
def Runs (P : Program) (ro : Nat) (env0 env : List Sc) (st st' : St) (tm : Tr AV) (o : Oper) (av : AV) : Prop :=
  ∀ a w θ, OpPre ro env0 θ tm st a w → Fresh θ st.next st'.next →
    ∃ v w', ((execOp a.eval o).run P w = .ok (.value v) w' ∨ ((execOp a.eval o).run P w = .ok .skip w' ∧ v = undef)) ∧ OpPost ro env θ st st' av w v w'

/-- what an operation's run gives -/
def Gives (P : Program) (r : Result Next) (Ψ : Value → World → Prop) : Prop :=
  match r with
  | .ok (.value v) w' => Ψ v w'
  | .ok .skip w' => Ψ undef w'
  | .ok (.enter f args) w' => Calls P f args w' fun e w'' => ∃ v, e = .returned v ∧ Ψ v w''
  | _ => False
theorem Gives.wp {P : Program} {o : Oper} {a : Act} {w : World} {Ψ : Value → World → Prop} {K : Act → World → Prop} {Q : Exit → Act → World → Prop} (h : Gives P ((execOp a.eval o).run P w) Ψ) (hk : ∀ v w', Ψ v w' → K (a.put o.dst v) w') : o.wp P a w K Q := by
  unfold Oper.wp
  generalize (execOp a.eval o).run P w = r at h ⊢
  cases r with
  | halt x w' => exact h.elim
  | ok n w' =>
    cases n <;> (try exact h.elim)
    · exact hk _ _ h
    · exact hk _ _ h
    · exact Calls.mono h fun e w'' ⟨v, he, hp⟩ => by subst he; exact hk _ _ hp

/-- what is sound of any operation -/
def Sound (P : Program) (ro : Nat) (env0 env : List Sc) (st st' : St) (tm : Tr AV) (o : Oper) (av : AV) : Prop :=
  ∀ a w θ, OpPre ro env0 θ tm st a w → Fresh θ st.next st'.next → Gives P ((execOp a.eval o).run P w) (OpPost ro env θ st st' av w)

theorem Runs.sound {P : Program} {ro : Nat} {env0 env : List Sc} {st st' : St} {tm : Tr AV} {o : Oper} {av : AV} (h : Runs P ro env0 env st st' tm o av) : Sound P ro env0 env st st' tm o av := by
  intro a w θ hp hf
  obtain ⟨v, w', hr, hpost⟩ := h a w θ hp hf
  rcases hr with hr | ⟨hr, rfl⟩
  · rw [hr]; exact hpost
  · rw [hr]; exact hpost

theorem WRel.mono {e e' : List Sc} {θ θ' : Th} {ro : Nat} {heap : List (Nat × List AV)} {w : World} (he : Pfx e e') (ht : ThLe θ θ') (h : WRel e θ ro heap w) : WRel e' θ' ro heap w := by
  intro id cs hc
  obtain ⟨r, base, vs, el, fz, h1, h2, h3, h4⟩ := h id cs hc
  refine ⟨r, base, vs, el, fz, ht _ _ h1, h2, h3, fun j c hj => ?_⟩
  obtain ⟨v, hv, hr⟩ := h4 j c hj
  exact ⟨v, hv, Rel.mono he ht c v hr⟩
theorem WRel.drew {e : List Sc} {θ : Th} {ro : Nat} {heap : List (Nat × List AV)} {w w' : World} (h : WRel e θ ro heap w) (d : Drew w w') : WRel e θ ro heap w' := by
  obtain ⟨n, rfl⟩ := d; exact h
theorem TmRel.mono {e e' : List Sc} {θ θ' : Th} {tm : Tr AV} {tmps : Array Value} (he : Pfx e e') (ht : ThLe θ θ') (h : TmRel e θ tm tmps) : TmRel e' θ' tm tmps :=
  fun t => Rel.mono he ht _ _ (h t)
theorem Stp.of_drew {θ : Th} {lo hi wlo : Nat} {w w' : World} (d : Drew w w') : Stp θ θ lo hi wlo w w' := by
  obtain ⟨n, rfl⟩ := d; exact (Stp.refl θ lo hi wlo w).drew n

/-- a plain value, the world but for a draw -/
theorem post_plain {ro : Nat} {env env' : List Sc} {θ : Th} {tm : Tr AV} {st st' : St} {a : Act} {av : AV} {w w' : World} {v : Value} (hp : OpPre ro env θ tm st a w) (he : Pfx env env') (hh : st'.heap = st.heap) (hn : st.next ≤ st'.next) (hr : Rel env' θ av v) (d : Drew w w') :
    OpPost ro env' θ st st' av w v w' :=
  ⟨θ, hr, by rw [hh]; exact (hp.wr.mono he (ThLe.refl θ)).drew d, Stp.of_drew d⟩

/-! Constants and operands -/
theorem cstF_ok {G : Gs} {rs env : List Sc} {k : FloatKind} {b : Nat} {st : St} {kk : K} (h : (cstF k b st kk).den G env = some rs) (hn : st.nn = env.length) :
    Lands G rs env st kk fun e av s => s.heap = st.heap ∧ s.next = st.next ∧ ∀ θ, Rel e θ av (.float k b) := by
  unfold cstF at h
  cases hb : fltOk k b with
  | false => rw [hb] at h; simp [T.den] at h
  | true =>
    rw [hb] at h
    simp only [T.den] at h
    refine ⟨env ++ [.f k (canon k b)], .flt k st.nn, st.up, h, ⟨_, rfl⟩, by simp [St.up, hn], Nat.le_refl _, rfl, rfl, rfl, fun θ => ?_⟩
    simp only [Rel]
    exact ⟨canon k b, b, by simp [hn], rfl, hb, rfl⟩

theorem ofValue_ok {G : Gs} {rs env : List Sc} {v : Value} {st : St} {kk : K} (h : (ofValue v st kk).den G env = some rs) (hn : st.nn = env.length) :
    Lands G rs env st kk fun e av s => s.heap = st.heap ∧ s.next = st.next ∧ ∀ θ, Rel e θ av v := by
  cases v <;> simp only [ofValue, T.den] at h <;> try (cases h; done)
  · rename_i b; exact ⟨env, .bool b, st, h, Pfx.refl _, hn, Nat.le_refl _, rfl, rfl, rfl, fun θ => by simp [Rel]⟩
  · rename_i k n; exact ⟨env, .int k n, st, h, Pfx.refl _, hn, Nat.le_refl _, rfl, rfl, rfl, fun θ => by simp [Rel]⟩
  · rename_i k b; exact cstF_ok h hn

theorem opd_ok {G : Gs} {rs env : List Sc} {tm : Tr AV} {x : Operand} {st : St} {kk : K} (h : (opd tm x st kk).den G env = some rs) (hn : st.nn = env.length) :
    Lands G rs env st kk fun e av s => s.heap = st.heap ∧ s.next = st.next ∧ ∀ (a : Act) θ, TmRel env θ tm a.tmps → Rel e θ av (a.eval x) := by
  cases x with
  | tmp t =>
    have h' : (kk (look tm t) st).den G env = some rs := by
      simp only [opd] at h
      unfold look
      cases e : tm.get t <;> simp only [e] at h ⊢ <;> exact h
    exact ⟨env, _, st, h', Pfx.refl _, hn, Nat.le_refl _, rfl, rfl, rfl, fun a θ ht => ht t⟩
  | const v =>
    unfold opd at h
    exact (ofValue_ok h hn).imp fun e av s _ _ _ _ hq => ⟨hq.1, hq.2.1, fun a θ _ => hq.2.2 θ⟩
  | global g => simp [opd, T.den] at h
  | func f =>
    unfold opd at h
    exact ⟨env, _, st, h, Pfx.refl _, hn, Nat.le_refl _, rfl, rfl, rfl, fun a θ ht => by simp only [Rel]; exact ⟨[], rfl, RelL.nil⟩⟩

def LandsL (G : Gs) (rs : List Sc) (env : List Sc) (st : St) (kk : List AV → St → T) (Φ : List Sc → List AV → St → Prop) : Prop :=
  ∃ env' av st', (kk av st').den G env' = some rs ∧ Pfx env env' ∧ st'.nn = env'.length ∧ st.next ≤ st'.next ∧ st'.wlo = st.wlo ∧ Φ env' av st'

theorem ofValues_ok {G : Gs} {rs : List Sc} : ∀ (vs : List Value) {env : List Sc} {st : St} {kk : List AV → St → T}, (ofValues vs st kk).den G env = some rs → st.nn = env.length →
    LandsL G rs env st kk fun e av s => s.heap = st.heap ∧ s.next = st.next ∧ ∀ θ, RelL e θ av vs
  | [], env, st, kk, h, hn => ⟨env, [], st, h, Pfx.refl _, hn, Nat.le_refl _, rfl, rfl, rfl, fun θ => RelL.nil⟩
  | v :: vs, env, st, kk, h, hn => by
    unfold ofValues at h
    obtain ⟨e1, a1, s1, h1, p1, n1, x1, w1, hh1, hx1, r1⟩ := ofValue_ok h hn
    obtain ⟨e2, a2, s2, h2, p2, n2, x2, w2, hh2, hx2, r2⟩ := ofValues_ok vs h1 n1
    exact ⟨e2, a1 :: a2, s2, h2, p1.trans p2, n2, by omega, w2.trans w1, hh2.trans hh1, hx2.trans hx1, fun θ => RelL.cons (Rel.mono p2 (ThLe.refl θ) _ _ (r1 θ)) (r2 θ)⟩

theorem opds_ok {G : Gs} {rs : List Sc} {tm : Tr AV} : ∀ (xs : List Operand) {env : List Sc} {st : St} {kk : List AV → St → T}, (opds tm xs st kk).den G env = some rs → st.nn = env.length →
    LandsL G rs env st kk fun e av s => s.heap = st.heap ∧ s.next = st.next ∧ ∀ (a : Act) θ, TmRel env θ tm a.tmps → RelL e θ av (xs.map a.eval)
  | [], env, st, kk, h, hn => ⟨env, [], st, h, Pfx.refl _, hn, Nat.le_refl _, rfl, rfl, rfl, fun a θ _ => RelL.nil⟩
  | x :: xs, env, st, kk, h, hn => by
    unfold opds at h
    obtain ⟨e1, a1, s1, h1, p1, n1, x1, w1, hh1, hx1, r1⟩ := opd_ok h hn
    obtain ⟨e2, a2, s2, h2, p2, n2, x2, w2, hh2, hx2, r2⟩ := opds_ok xs h1 n1
    exact ⟨e2, a1 :: a2, s2, h2, p1.trans p2, n2, by omega, w2.trans w1, hh2.trans hh1, hx2.trans hx1, fun a θ ht => RelL.cons (Rel.mono p2 (ThLe.refl θ) _ _ (r1 a θ ht)) (r2 a θ (ht.mono p1 (ThLe.refl θ)))⟩

/-- parts of a build -/
def RelP (e : List Sc) (θ : Th) : List (Nat × AV) → List (Nat × Value) → Prop
  | [], vs => vs = []
  | (i, c) :: cs, vs => ∃ v vs', vs = (i, v) :: vs' ∧ Rel e θ c v ∧ RelP e θ cs vs'
theorem RelP.mono {e e' : List Sc} {θ θ' : Th} (he : Pfx e e') (ht : ThLe θ θ') : ∀ {cs : List (Nat × AV)} {vs : List (Nat × Value)}, RelP e θ cs vs → RelP e' θ' cs vs
  | [], vs, h => h
  | (i, c) :: cs, vs, h => by
    obtain ⟨v, vs', rfl, h2, h3⟩ := h
    exact ⟨v, vs', rfl, Rel.mono he ht _ _ h2, RelP.mono he ht h3⟩
def LandsP (G : Gs) (rs : List Sc) (env : List Sc) (st : St) (kk : List (Nat × AV) → St → T) (Φ : List Sc → List (Nat × AV) → St → Prop) : Prop :=
  ∃ env' av st', (kk av st').den G env' = some rs ∧ Pfx env env' ∧ st'.nn = env'.length ∧ st.next ≤ st'.next ∧ st'.wlo = st.wlo ∧ Φ env' av st'
theorem opdParts_ok {G : Gs} {rs : List Sc} {tm : Tr AV} : ∀ (xs : List (Nat × Operand)) {env : List Sc} {st : St} {kk : List (Nat × AV) → St → T}, (opdParts tm xs st kk).den G env = some rs → st.nn = env.length →
    LandsP G rs env st kk fun e av s => s.heap = st.heap ∧ s.next = st.next ∧ ∀ (a : Act) θ, TmRel env θ tm a.tmps → RelP e θ av (xs.map fun p => (p.1, a.eval p.2))
  | [], env, st, kk, h, hn => ⟨env, [], st, h, Pfx.refl _, hn, Nat.le_refl _, rfl, rfl, rfl, fun a θ _ => rfl⟩
  | (i, x) :: xs, env, st, kk, h, hn => by
    unfold opdParts at h
    obtain ⟨e1, a1, s1, h1, p1, n1, x1, w1, hh1, hx1, r1⟩ := opd_ok h hn
    obtain ⟨e2, a2, s2, h2, p2, n2, x2, w2, hh2, hx2, r2⟩ := opdParts_ok xs h1 n1
    exact ⟨e2, (i, a1) :: a2, s2, h2, p1.trans p2, n2, by omega, w2.trans w1, hh2.trans hh1, hx2.trans hx1, fun a θ ht => ⟨_, _, rfl, Rel.mono p2 (ThLe.refl θ) _ _ (r1 a θ ht), r2 a θ (ht.mono p1 (ThLe.refl θ))⟩⟩

theorem run_value {P : Program} {s : Sem Value} {w w' : World} {v : Value} (h : s.run P w = .ok v w') : (do pure (Next.value (← s)) : Sem Next).run P w = .ok (.value v) w' := by
  rw [Sem.run_bind, h]; rfl

/-! Memory -/
theorem add_addr (r b o n : Nat) : (⟨r, b + o, none⟩ : Addr).add n = ⟨r, b + (o + n), none⟩ := by
  unfold Addr.add
  by_cases h : n = 0
  · simp [h]
  · simp [h, Nat.add_assoc]

theorem findB_cons {id j : Nat} {cs ds : List AV} {heap : List (Nat × List AV)} (h : findB id ((j, cs) :: heap) = some ds) : (id = j ∧ ds = cs) ∨ (id ≠ j ∧ findB id heap = some ds) := by
  unfold findB at h
  cases e : Nat.beq id j with
  | true => rw [e] at h; exact .inl ⟨Nat.eq_of_beq_eq_true e, by simpa using h.symm⟩
  | false =>
    rw [e] at h
    refine .inr ⟨?_, h⟩
    rintro rfl
    rw [Nat.beq_refl _] at e
    cases e

theorem size?_run {P : Program} {t n : Nat} (h : size? P t = some n) (w : World) : (Go.sizeOf t).run P w = .ok n w := by
  unfold size? at h
  cases e : P.info? t with
  | none => simp [e] at h
  | some i => simp [e] at h; simp [Go.sizeOf, typeInfo, e, h]
theorem underlying_run {P : Program} {t : Nat} {d : TypeDesc} (h : P.underlying t = some d) (w : World) : (underlying t).run P w = .ok d w := by
  simp [underlying, h]
theorem aggT_run {P : Program} {t : Nat} {b : Bool} (h : aggT P t = some b) (w : World) : (isAgg t).run P w = .ok b w := by
  unfold aggT at h
  cases e : P.underlying t with
  | none => simp [e] at h
  | some d =>
    unfold isAgg
    rw [Sem.run_bind, underlying_run e]
    simp only [e] at h
    cases d <;> simp_all

/-- reading n cells of a block that the evaluator knows -/
theorem load_cells {e : List Sc} {θ : Th} {ro : Nat} {w : World} {id off n : Nat} {cs avs : List AV} (hb : BRel e θ ro w id cs) (ht : takeAt off n cs = some avs) :
    ∃ r base vals, θ id = some (r, base) ∧ vals.length = n ∧ RelL e θ avs vals ∧ ∀ j v, vals[j]? = some v → w.cell? ⟨r, base + (off + j), none⟩ = some v := by
  obtain ⟨r, base, vs, el, fz, h1, h2, h3, h4⟩ := hb
  unfold takeAt at ht
  cases hle : Nat.ble (Nat.add off n) cs.length with
  | false => rw [hle] at ht; cases ht
  | true =>
    rw [hle] at ht
    have hle' : off + n ≤ cs.length := Nat.le_of_ble_eq_true hle
    cases ht
    have hsz : ∀ j, j < n → ∃ v, vs[base + (off + j)]? = some v ∧ True := by
      intro j hj
      have hlt : off + j < cs.length := by omega
      obtain ⟨v, hv, hr⟩ := h4 (off + j) cs[off + j] (by simp [hlt])
      exact ⟨v, hv, trivial⟩
    refine ⟨r, base, (vs.toList.drop (base + off)).take n, h1, ?_, ?_, ?_⟩
    · rw [List.length_take, List.length_drop]
      by_cases hn0 : n = 0
      · omega
      · obtain ⟨v, hv, _⟩ := hsz (n - 1) (by omega)
        have := (Array.getElem?_eq_some_iff.1 hv).1
        simp only [Array.length_toList]; omega
    · apply RelL.of_get
      · rw [List.length_take, List.length_drop, List.length_take, List.length_drop]
        by_cases hn0 : n = 0
        · omega
        · obtain ⟨v, hv, _⟩ := hsz (n - 1) (by omega)
          have := (Array.getElem?_eq_some_iff.1 hv).1
          simp only [Array.length_toList]; omega
      · intro i c v hc hv
        have hi : i < n := by
          have := (List.getElem?_eq_some_iff.1 hc).1
          simp only [List.length_take] at this; omega
        rw [List.getElem?_take_of_lt hi, List.getElem?_drop] at hc hv
        obtain ⟨v', hv', hr⟩ := h4 (off + i) c hc
        have : vs.toList[base + off + i]? = some v' := by rw [Array.getElem?_toList, Nat.add_assoc]; exact hv'
        rw [this] at hv; cases hv
        exact hr
    · intro j v hv
      have hj : j < n := by
        have := (List.getElem?_eq_some_iff.1 hv).1
        simp only [List.length_take] at this; omega
      rw [List.getElem?_take_of_lt hj, List.getElem?_drop] at hv
      simp only [World.cell?, h2]
      simpa [Nat.add_assoc] using hv

theorem load_one {e : List Sc} {θ : Th} {ro : Nat} {w : World} {id off : Nat} {cs : List AV} {c : AV} (hb : BRel e θ ro w id cs) (hc : cs[off]? = some c) :
    ∃ r base v, θ id = some (r, base) ∧ Rel e θ c v ∧ w.cell? ⟨r, base + off, none⟩ = some v := by
  obtain ⟨r, base, vs, el, fz, h1, h2, h3, h4⟩ := hb
  obtain ⟨v, hv, hr⟩ := h4 off c hc
  exact ⟨r, base, v, h1, hr, by simp [World.cell?, h2, hv]⟩

/-- a load, as the evaluator makes it -/
theorem loadT_ok {G : Gs} {P : Program} {rs env : List Sc} {t b off : Nat} {st : St} {kk : K} (h : (loadT P t b off st kk).den G env = some rs) :
    ∃ av, (kk av st).den G env = some rs ∧ ∀ ro θ w, WRel env θ ro st.heap w → ∃ r base v, θ b = some (r, base) ∧ Rel env θ av v ∧ (loadVar t ⟨r, base + off, none⟩).run P w = .ok v w := by
  unfold loadT at h
  cases hf : findB b st.heap with
  | none => simp [hf, T.den] at h
  | some cs =>
    cases ha : aggT P t with
    | none => simp [hf, ha, T.den] at h
    | some g =>
      cases hs : size? P t with
      | none => simp [hf, ha, hs, T.den] at h
      | some n =>
        cases g with
        | true =>
          simp only [hf, ha, hs] at h
          cases htk : takeAt off n cs with
          | none => simp [htk, T.den] at h
          | some avs =>
            simp only [htk] at h
            refine ⟨.agg avs, h, fun ro θ w hw => ?_⟩
            obtain ⟨r, base, vals, h1, h2, h3, h4⟩ := load_cells (hw b cs hf) htk
            refine ⟨r, base, .agg ⟨vals⟩, h1, Rel.agg h3, ?_⟩
            have hl := run_loadCells_list (P := P) w ⟨r, base + off, none⟩ vals (fun j v hv => by rw [add_addr]; exact h4 j v hv)
            rw [h2] at hl
            unfold loadVar
            rw [Sem.run_bind, aggT_run ha]
            simp only [Result.andThen_ok, if_true, Sem.run_bind, size?_run hs, hl, Sem.run_pure]
        | false =>
          simp only [hf, ha, hs] at h
          cases hc : cs[off]? with
          | none => simp [hc, T.den] at h
          | some c =>
            simp only [hc] at h
            refine ⟨c, h, fun ro θ w hw => ?_⟩
            obtain ⟨r, base, v, h1, h2, h3⟩ := load_one (hw b cs hf) hc
            refine ⟨r, base, v, h1, h2, ?_⟩
            unfold loadVar
            rw [Sem.run_bind, aggT_run ha]
            simp only [Result.andThen_ok, Bool.false_eq_true, if_false, run_load, h3]

/-- a new block -/
theorem new_block {e : List Sc} {θ : Th} {ro : Nat} {heap : List (Nat × List AV)} {w : World} {next wlo : Nat} {cs : List AV} {vs : List Value} (t : TypeId) (hw : WRel e θ ro heap w) (hr : RelL e θ cs vs) (hi : Inj θ ro w) (hn : θ next = none) :
    ∃ θ', θ' next = some (w.heap.size, 0) ∧ ThLe θ θ' ∧ WRel e θ' ro ((next, cs) :: heap) { w with heap := w.heap.push (.cells ⟨vs⟩ t) } ∧ Stp θ θ' next (next + 1) wlo w { w with heap := w.heap.push (.cells ⟨vs⟩ t) } := by
  let θ' : Th := fun i => if i = next then some (w.heap.size, 0) else θ i
  have hle : ThLe θ θ' := by
    intro i x hx
    show (if i = next then _ else _) = _
    rw [if_neg]
    · exact hx
    · rintro rfl; rw [hn] at hx; cases hx
  refine ⟨θ', by simp [θ'], hle, ?_, ⟨hle, ?_, ?_, rfl, rfl, rfl, by simp, ?_⟩⟩
  · intro id ds hd
    rcases findB_cons hd with ⟨rfl, rfl⟩ | ⟨hne, hd⟩
    · refine ⟨w.heap.size, 0, ⟨vs⟩, t, (0, 0), by simp [θ'], by simp, fun _ => rfl, fun j c hc => ?_⟩
      obtain ⟨v, hv, hr'⟩ := hr.get hc
      exact ⟨v, by simpa using hv, Rel.mono (Pfx.refl e) hle _ _ hr'⟩
    · obtain ⟨r, base, us, el, fz, h1, h2, h3, h4⟩ := hw id ds hd
      have hlt : r < w.heap.size := (Array.getElem?_eq_some_iff.1 h2).1
      refine ⟨r, base, us, el, fz, hle _ _ h1, by rw [Array.getElem?_push, if_neg (by omega)]; exact h2, h3, fun j c hc => ?_⟩
      obtain ⟨v, hv, hr'⟩ := h4 j c hc
      exact ⟨v, hv, Rel.mono (Pfx.refl e) hle _ _ hr'⟩
  · intro i r b h' hi0
    have : i = next := by
      by_cases e : i = next
      · exact e
      · have : θ' i = θ i := by simp [θ', e]
        rw [this, hi0] at h'; cases h'
    subst this
    have : θ' i = some (w.heap.size, 0) := by simp [θ']
    rw [this] at h'; cases h'
    simp
  · intro i j r b b' hi0 hj0 h1 h2
    have e1 : i = next := by
      by_cases e : i = next
      · exact e
      · have : θ' i = θ i := by simp [θ', e]
        rw [this, hi0] at h1; cases h1
    have e2 : j = next := by
      by_cases e : j = next
      · exact e
      · have : θ' j = θ j := by simp [θ', e]
        rw [this, hj0] at h2; cases h2
    rw [e1, e2]
  · intro r hr' _
    show (w.heap.push _)[r]? = _
    rw [Array.getElem?_push, if_neg (by omega)]

theorem findB_setB {id b : Nat} {cs' : List AV} : ∀ {heap : List (Nat × List AV)} {ds : List AV}, findB id (setB b cs' heap) = some ds → (id = b ∧ ds = cs' ∧ ∃ x, findB b heap = some x) ∨ (id ≠ b ∧ findB id heap = some ds)
  | [], ds, h => by simp [setB, findB] at h
  | (j, es) :: heap, ds, h => by
    unfold setB at h
    cases e : Nat.beq b j with
    | true =>
      rw [e] at h
      have ej : b = j := Nat.eq_of_beq_eq_true e
      subst ej
      rcases findB_cons h with ⟨rfl, rfl⟩ | ⟨hne, h⟩
      · exact .inl ⟨rfl, rfl, es, by simp [findB, e]⟩
      · refine .inr ⟨hne, ?_⟩
        unfold findB
        rw [show Nat.beq id b = false from by
          cases q : Nat.beq id b
          · rfl
          · exact absurd (Nat.eq_of_beq_eq_true q) hne]
        exact h
    | false =>
      rw [e] at h
      rcases findB_cons h with ⟨rfl, rfl⟩ | ⟨hne, h⟩
      · refine .inr ⟨?_, by simp [findB, Nat.beq_refl _]⟩
        rintro rfl
        rw [Nat.beq_refl _] at e; cases e
      · rcases findB_setB h with ⟨rfl, rfl, x, hx⟩ | ⟨hne', h⟩
        · refine .inl ⟨rfl, rfl, x, ?_⟩
          unfold findB; rw [e]; exact hx
        · refine .inr ⟨hne', ?_⟩
          unfold findB
          rw [show Nat.beq id j = false from by
            cases q : Nat.beq id j
            · rfl
            · exact absurd (Nat.eq_of_beq_eq_true q) hne]
          exact h

theorem one_cell {e : List Sc} {θ : Th} {a : AV} {v : Value} (h : Rel e θ a v) (h1 : a.one = true) : v.oneCell' = true := by
  cases a <;> simp [AV.one] at h1 <;> simp only [Rel] at h
  · subst h; rfl
  · subst h; rfl
  · obtain ⟨_, _, _, rfl, _⟩ := h; rfl
  · obtain ⟨_, _, _, rfl, _⟩ := h; rfl
  · obtain ⟨_, _, _, rfl, _⟩ := h; rfl
  · obtain ⟨_, _, _, rfl⟩ := h; rfl
  · obtain ⟨_, _, _, rfl⟩ := h; rfl
  · obtain ⟨_, rfl, _⟩ := h; rfl

end Go.Proofs.Ytconlkliclhbpaa.Sx
