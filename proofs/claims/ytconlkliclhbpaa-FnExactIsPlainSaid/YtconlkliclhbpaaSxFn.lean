/- Functions: the evaluator's tree of a function is a summary of it. -/
import Derived.Test.YtconlkliclhbpaaSxCode
namespace Go.Proofs.Ytconlkliclhbpaa.Sx
open Go

theorem look_setArgs : ∀ (args : List AV) (i : Nat) (tm : Tr AV) (t : Nat), look (setArgs i args tm) t = if i ≤ t ∧ t < i + args.length then args.getD (t - i) .undef else look tm t
  | [], i, tm, t => by
    rw [if_neg (by simp)]; rfl
  | a :: args, i, tm, t => by
    unfold setArgs
    rw [look_setArgs args (Nat.add i 1) (tm.set i a) t, look_set]
    show (if i + 1 ≤ t ∧ t < i + 1 + args.length then args.getD (t - (i + 1)) .undef else _) = _
    by_cases h : t = i
    · subst h
      rw [if_neg (by omega), if_pos rfl, if_pos ⟨by omega, by simp⟩]
      simp
    · by_cases h2 : i + 1 ≤ t ∧ t < i + 1 + args.length
      · rw [if_pos h2, if_pos ⟨by omega, by simp; omega⟩]
        have : t - i = (t - (i + 1)) + 1 := by omega
        rw [this]; simp
      · rw [if_neg h2, if_neg h, if_neg (by simp; omega)]

theorem args_tm {env : List Sc} {θ : Th} {args : List AV} {vals : List Value} (h : RelL env θ args vals) (n : Nat) : TmRel env θ (setArgs 0 args .nil) ((⟨vals⟩ : Array Value) ++ Array.replicate n undef) := by
  intro t
  have hl := h.length
  rw [look_setArgs]
  simp only [Nat.zero_le, true_and, Nat.zero_add, Nat.sub_zero]
  by_cases ht : t < args.length
  · rw [if_pos ht]
    obtain ⟨v, hv, hr⟩ := h.get (List.getElem?_eq_getElem ht)
    have e1 : args.getD t .undef = args[t] := by simp [List.getD, ht]
    have e2 : ((⟨vals⟩ : Array Value) ++ Array.replicate n undef).getD t undef = v := by
      simp only [Array.getD_eq_getD_getElem?]
      rw [Array.getElem?_append_left (by simpa [hl] using ht)]
      have : (⟨vals⟩ : Array Value)[t]? = some v := by simpa using hv
      rw [this]; rfl
    rw [e1, e2]; exact hr
  · rw [if_neg ht]
    have e2 : ((⟨vals⟩ : Array Value) ++ Array.replicate n undef).getD t undef = undef := by
      simp only [Array.getD_eq_getD_getElem?]
      rw [Array.getElem?_append_right (by simp; omega)]
      simp only [Array.getElem?_replicate]
      split <;> rfl
    rw [e2]
    simp [look, Tr.get, Rel, undef]

theorem dropHeap_lt {lo : Nat} : ∀ {h : List (Nat × List AV)} {id : Nat} {cs : List AV}, findB id (dropHeap lo h) = some cs → id < lo
  | [], id, cs, hf => by simp [dropHeap, findB] at hf
  | (j, ds) :: r, id, cs, hf => by
    unfold dropHeap at hf
    split at hf
    · exact dropHeap_lt hf
    · rename_i hn
      rcases findB_cons hf with ⟨rfl, rfl⟩ | ⟨hne, hf⟩
      · rcases Nat.lt_or_ge id lo with q | q
        · exact q
        · rw [Nat.ble_eq_true_of_le q] at hn; cases hn
      · exact dropHeap_lt hf
theorem dropHeap_spec {lo : Nat} : ∀ {h : List (Nat × List AV)} {id : Nat} {cs : List AV}, findB id (dropHeap lo h) = some cs → findB id h = some cs
  | [], id, cs, hf => by simp [dropHeap, findB] at hf
  | (j, ds) :: r, id, cs, hf => by
    unfold dropHeap at hf
    split at hf
    · rename_i hle
      have hle' : lo ≤ j := Nat.le_of_ble_eq_true hle
      have hlt := dropHeap_lt hf
      rw [findB_ne (by omega)]
      exact dropHeap_spec hf
    · rcases findB_cons hf with ⟨rfl, rfl⟩ | ⟨hne, hf⟩
      · simp [findB]
      · rw [findB_ne hne]; exact dropHeap_spec hf

section
variable {P : Program} {G : Gs} {rs : List Sc} {ro : Nat} {sm : List (FuncId × Sum)} {ex : List (FuncId × Ext)}

def oneRes (tmps : Array Value) : ResultVar → Sem Value
  | .tmp t => pure (tmps.getD t undef)
  | .cell a t => do loadVar t (← asAddr (tmps.getD a undef))

theorem resVals_ok {tm : Tr AV} {st : St} : ∀ {rvs : List ResultVar} {env : List Sc} {kk : List AV → T}, (resVals P rvs tm st kk).den G env = some rs →
    ∃ avs, (kk avs).den G env = some rs ∧ ∀ ro θ (a : Act) w, TmRel env θ tm a.tmps → WRel env θ ro st.heap w → ∃ vs, (rvs.mapM (oneRes a.tmps)).run P w = .ok vs w ∧ RelL env θ avs vs
  | [], env, kk, h => ⟨[], h, fun ro θ a w ht hw => ⟨[], rfl, RelL.nil⟩⟩
  | .tmp t :: r, env, kk, h => by
    unfold resVals at h
    obtain ⟨avs, h1, h2⟩ := resVals_ok h
    refine ⟨look tm t :: avs, h1, fun ro θ a w ht hw => ?_⟩
    obtain ⟨vs, hv, hr⟩ := h2 ro θ a w ht hw
    refine ⟨a.tmps.getD t undef :: vs, ?_, RelL.cons (ht t) hr⟩
    simp only [List.mapM_cons, Sem.run_bind, oneRes, Sem.run_pure, Result.andThen_ok, hv]
  | .cell x t :: r, env, kk, h => by
    unfold resVals at h
    cases hg : tm.get x with
    | none => simp [hg, T.den] at h
    | some av =>
      simp only [hg] at h
      cases av <;> (try simp only [T.den] at h) <;> (try (cases h; done))
      rename_i b off
      obtain ⟨av, h1, hl⟩ := loadT_ok h
      obtain ⟨avs, h3, h4⟩ := resVals_ok h1
      refine ⟨av :: avs, h3, fun ro θ a w ht hw => ?_⟩
      obtain ⟨vs, hv, hr⟩ := h4 ro θ a w ht hw
      obtain ⟨r, base, v, hθ, hrel, hrun⟩ := hl ro θ w hw
      have hx := ht x
      unfold look at hx
      rw [hg] at hx
      obtain ⟨r', base', hθ', hptr⟩ := hx.ptr
      rw [hθ] at hθ'; cases hθ'
      refine ⟨v :: vs, ?_, RelL.cons hrel hr⟩
      simp only [List.mapM_cons, Sem.run_bind, oneRes, hptr, asAddr, Sem.run_pure, Result.andThen_ok, hrun, hv]

theorem results_run {fn : Func} {tmps : Array Value} {w : World} {vs : List Value} (h : (fn.results.toList.mapM (oneRes tmps)).run P w = .ok vs w) : (results fn tmps).run P w = .ok (tupV vs) w := by
  have e : results fn tmps = (do let vs ← fn.results.mapM (oneRes tmps); pure (if h : vs.size = 1 then vs[0] else .tuple vs)) := by
    unfold results
    have : (fun x : ResultVar => (match x with
      | .tmp t => pure (tmps.getD t undef)
      | .cell a t => do loadVar t (← asAddr (tmps.getD a undef)) : Sem Value)) = oneRes tmps := by
      funext x; cases x <;> rfl
    rw [← this]
    rfl
  rw [e, Array.mapM_eq_mapM_toList]
  rw [Sem.run_bind, Sem.run_map, h]
  simp only [Result.andThen_ok, Sem.run_pure]
  congr 1
  match vs with
  | [] => rfl
  | [v] => rfl
  | a :: b :: c => simp [tupV]

theorem enters_of {f : FuncId} {fn : Func} (hf : P.funcs[f]? = some fn) (hn : (fn.name == "runtime.NumGoroutine") = false) {c : Code} (hb : fn.body = some c) : Enters P f := by
  intro args w
  have h1 : fn.name ≠ "runtime.NumGoroutine" := by simpa using hn
  simp [callFunc, hf, h1, hb]

theorem runFn_ok (hsum : ∀ f s, findS f sm = some s → SumOk P f s G) (hext : ∀ f e, findE f ex = some e → ExtOk P f e) (hm : P.follows .mixedOrders = true) : ∀ n, CallKOk P G (runFn P sm ex n) := by
  intro n
  induction n with
  | zero =>
    intro ro f args st kk env rs _ _ h
    simp [runFn, T.den] at h
  | succ n ih =>
    intro ro f args st kk env rs hro hrn h hn
    have hctx : Ctx P sm ex (runFn P sm ex n) G := ⟨hsum, hext, ih⟩
    unfold runFn at h
    cases hf : P.funcs[f]? with
    | none => simp [hf, T.den] at h
    | some fn =>
      simp only [hf] at h
      cases hb : fn.body with
      | none => simp [hb, T.den] at h
      | some c =>
        simp only [hb] at h
        cases hname : fn.name == "runtime.NumGoroutine" with
        | true => simp only [hname] at h; simp [T.den] at h
        | false =>
          cases hok : codeOk fn.ntmps c with
          | false => simp only [hname, hok] at h; simp [T.den] at h
          | true =>
            simp only [hname, hok] at h
            obtain ⟨e, env1, tm1, st1, _, h1, l1, s1⟩ := (runCode_ok (ro := ro) (N := fn.ntmps) hctx hm 100000).1 c hro hrn hok h hn
            have fin : ∀ (hx : exitOf e = .normal ∨ exitOf e = .ret), (resVals P fn.results.toList tm1 st1 fun vs => match (tupleOf vs).low st.next with | true => kk (tupleOf vs) { st1 with heap := dropHeap st.next st1.heap } | false => kk (tupleOf vs) st1).den G env1 = some rs →
                Lands G rs env st kk fun e av s => Enters P f ∧ ∀ (vals : List Value) w θ, RelL env θ args vals → WRel env θ ro st.heap w → Inj θ ro w → Fresh θ st.next s.next →
                  Calls P f ⟨vals⟩ w fun en w' => ∃ v, en = .returned v ∧ OpPost ro e θ st s av w v w' := by
              intro hx hres
              obtain ⟨avs, h2, hr⟩ := resVals_ok hres
              have main : ∀ (s : St), s.next = st1.next → (∀ id cs, findB id s.heap = some cs → findB id st1.heap = some cs) → ∀ (vals : List Value) w θ, RelL env θ args vals → WRel env θ ro st.heap w → Inj θ ro w → Fresh θ st.next s.next →
                  Calls P f ⟨vals⟩ w fun en w' => ∃ v, en = .returned v ∧ OpPost ro env1 θ st s (tupleOf avs) w v w' := by
                intro s hsn hsh vals w θ ha hw hi hfr
                refine calls_of_wp hf hb ?_
                refine s1 _ w θ _ ⟨args_tm ha _, hw, hi⟩ (by simp; omega) (by rw [← hsn]; exact hfr) ?_
                intro a' w' ⟨θ', g1, g2, g3, g4⟩
                obtain ⟨vs, hv, hrel⟩ := hr ro θ' a' w' g1.tm g1.wr
                have hpost : bodyPost P fn (fun en w' => ∃ v, en = Ending.returned v ∧ OpPost ro env1 θ st s (tupleOf avs) w v w') .normal a' w' := by
                  refine ⟨g3, tupV vs, results_run hv, _, rfl, θ', tupleOf_rel hrel, ?_, by rw [hsn]; exact g4⟩
                  intro id cs hc
                  exact g1.wr id cs (hsh id cs hc)
                rcases hx with hx | hx <;> rw [hx] <;> exact hpost
              cases hlow : (tupleOf avs).low st.next with
              | true =>
                simp only [hlow] at h2
                exact ⟨env1, _, _, h2, l1.pfx, l1.nn, l1.next, l1.wlo, enters_of hf hname hb, main _ rfl fun id cs hc => dropHeap_spec hc⟩
              | false =>
                simp only [hlow] at h2
                exact ⟨env1, _, _, h2, l1.pfx, l1.nn, l1.next, l1.wlo, enters_of hf hname hb, main _ rfl fun id cs hc => hc⟩
            cases e with
            | normal => exact fin (.inl rfl) h1
            | ret => exact fin (.inr rfl) h1
            | exit id => simp [T.den] at h1

/-! The arguments of a summary -/
theorem argSKs_ok : ∀ {ss : List SK} {r : Nat} {env : List Sc} {kk : List AV → T} {xs : List Sc} {vs : List Value}, (argSKs ss r kk).den G env = some rs → ScRels ss xs vs → Seg env r xs →
    ∃ avs, (kk avs).den G env = some rs ∧ avs.length = ss.length ∧ ∀ θ, RelL env θ avs vs
  | [], r, env, kk, xs, vs, h, hs, hseg => by
    simp only [ScRels] at hs
    obtain ⟨_, rfl⟩ := hs
    exact ⟨[], h, rfl, fun θ => RelL.nil⟩
  | s :: ss, r, env, kk, xs, vs, h, hs, hseg => by
    simp only [ScRels] at hs
    obtain ⟨x, xs', v, vs', rfl, rfl, h1, h2⟩ := hs
    unfold argSKs at h
    cases s with
    | f k =>
      simp only [argRK] at h
      obtain ⟨avs, h3, h4, h5⟩ := argSKs_ok h h2 hseg.tail
      refine ⟨.flt k r :: avs, h3, by simp [h4], fun θ => RelL.cons ?_ (h5 θ)⟩
      obtain ⟨d, b, rfl, rfl, f⟩ := h1
      simp only [Rel]; exact ⟨d, b, hseg.head, rfl, f⟩
    | b => simp [argRK, T.den] at h
    | i k => simp [argRK, T.den] at h

/-- what the arguments' names stand for -/
structure ArgsOk (env : List Sc) (w : World) (st : St) (θ : Th) : Prop where
  wr : ∀ id cs, findB id st.heap = some cs → ∃ r base vs e fz, θ id = some (r, base) ∧ w.heap[r]? = some (.cells vs e fz) ∧ ∀ j c, cs[j]? = some c → ∃ v, vs[base + j]? = some v ∧ Rel env θ c v
  names : ∀ id x, θ id = some x → id < st.next ∧ x.1 < w.heap.size
  wlo : st.wlo = st.next

theorem ArgsOk.add {env : List Sc} {w : World} {st : St} {θ : Th} (h : ArgsOk env w st θ) {r o : Nat} {us : List Value} {avs : List AV} (hc : CellsAt w r o us) (hr : ∀ θ, RelL env θ avs us) (nn : Nat) :
    ∃ θ', ThLe θ θ' ∧ θ' st.next = some (r, o) ∧ ArgsOk env w { nn := nn, heap := (st.next, avs) :: st.heap, next := Nat.add st.next 1, wlo := Nat.add st.next 1 } θ' := by
  let θ' : Th := fun i => if i = st.next then some (r, o) else θ i
  have hle : ThLe θ θ' := by
    intro i x hx
    show (if i = st.next then _ else _) = _
    rw [if_neg]
    · exact hx
    · rintro rfl
      have := (h.names _ _ hx).1; omega
  obtain ⟨vs, e, fz, g1, g2⟩ := hc
  refine ⟨θ', hle, by simp [θ'], ⟨?_, ?_, rfl⟩⟩
  · intro id cs hf
    rcases findB_cons hf with ⟨rfl, rfl⟩ | ⟨hne, hf⟩
    · refine ⟨r, o, vs, e, fz, by simp [θ'], g1, fun j c hj => ?_⟩
      obtain ⟨v, hv, hrel⟩ := (hr θ').get hj
      exact ⟨v, g2 j v hv, hrel⟩
    · obtain ⟨r2, b2, vs2, e2, fz2, q1, q2, q3⟩ := h.wr id cs hf
      refine ⟨r2, b2, vs2, e2, fz2, hle _ _ q1, q2, fun j c hj => ?_⟩
      obtain ⟨v, hv, hrel⟩ := q3 j c hj
      exact ⟨v, hv, Rel.mono (Pfx.refl _) hle _ _ hrel⟩
  · intro id x hx
    by_cases hid : id = st.next
    · subst hid
      have : θ' st.next = some (r, o) := by simp [θ']
      rw [this] at hx; cases hx
      exact ⟨by show st.next < st.next + 1; omega, (Array.getElem?_eq_some_iff.1 g1).1⟩
    · have : θ' id = θ id := by simp [θ', hid]
      rw [this] at hx
      have := h.names id x hx
      exact ⟨by show id < st.next + 1; omega, this.2⟩

theorem argSh_ok {s : Sh} {env : List Sc} {st : St} {θ : Th} {w : World} {kk : AV → St → T} {xs : List Sc} {v : Value} (h : (argSh s st kk).den G env = some rs) (hs : ArgRel w s xs v) (hseg : Seg env st.nn xs) (hok : ArgsOk env w st θ) :
    ∃ av st' θ', (kk av st').den G env = some rs ∧ st'.nn = st.nn + xs.length ∧ ThLe θ θ' ∧ ArgsOk env w st' θ' ∧ Rel env θ' av v := by
  cases s with
  | val k =>
    obtain ⟨x, rfl, hx⟩ := hs
    simp only [argSh] at h
    cases k with
    | f k =>
      simp only [argRK] at h
      refine ⟨_, _, θ, h, rfl, ThLe.refl θ, ⟨hok.wr, hok.names, hok.wlo⟩, ?_⟩
      obtain ⟨d, b, rfl, rfl, f⟩ := hx
      simp only [Rel]; exact ⟨d, b, hseg.head, rfl, f⟩
    | b => simp [argRK, T.den] at h
    | i k => simp [argRK, T.den] at h
  | agg ks =>
    obtain ⟨vs, rfl, hx⟩ := hs
    simp only [argSh] at h
    obtain ⟨avs, h1, h2, h3⟩ := argSKs_ok h hx hseg
    refine ⟨_, _, θ, h1, ?_, ThLe.refl θ, ⟨hok.wr, hok.names, hok.wlo⟩, Rel.agg (h3 θ)⟩
    show st.nn + ks.length = _
    rw [hx.length]
  | ptr ks =>
    obtain ⟨r, o, us, rfl, hx, hc⟩ := hs
    simp only [argSh] at h
    obtain ⟨avs, h1, h2, h3⟩ := argSKs_ok h hx hseg
    obtain ⟨θ', q1, q2, q3⟩ := hok.add hc h3 (Nat.add st.nn ks.length)
    refine ⟨_, _, θ', h1, ?_, q1, q3, ?_⟩
    · show st.nn + ks.length = _
      rw [hx.length]
    · simp only [Rel]; exact ⟨r, o, q2, rfl⟩
  | slice n ks =>
    obtain ⟨r, o, us, rfl, hx, hc⟩ := hs
    simp only [argSh] at h
    obtain ⟨avs, h1, h2, h3⟩ := argSKs_ok h hx hseg
    obtain ⟨θ', q1, q2, q3⟩ := hok.add hc h3 (Nat.add st.nn ks.length)
    refine ⟨_, _, θ', h1, ?_, q1, q3, ?_⟩
    · show st.nn + ks.length = _
      rw [hx.length]
    · simp only [Rel]; exact ⟨r, o, q2, rfl⟩

theorem argShs_ok : ∀ {ss : List Sh} {env : List Sc} {st : St} {θ : Th} {w : World} {kk : List AV → St → T} {xs : List Sc} {vs : List Value}, (argShs ss st kk).den G env = some rs → ArgRels w ss xs vs → Seg env st.nn xs → ArgsOk env w st θ →
    ∃ avs st' θ', (kk avs st').den G env = some rs ∧ st'.nn = st.nn + xs.length ∧ ThLe θ θ' ∧ ArgsOk env w st' θ' ∧ RelL env θ' avs vs
  | [], env, st, θ, w, kk, xs, vs, h, hs, hseg, hok => by
    simp only [ArgRels] at hs
    obtain ⟨rfl, rfl⟩ := hs
    exact ⟨[], st, θ, h, rfl, ThLe.refl θ, hok, RelL.nil⟩
  | s :: ss, env, st, θ, w, kk, xs, vs, h, hs, hseg, hok => by
    simp only [ArgRels] at hs
    obtain ⟨x, xs', v, vs', rfl, rfl, h1, h2⟩ := hs
    unfold argShs at h
    obtain ⟨av, st1, θ1, g1, g2, g3, g4, g5⟩ := argSh_ok h h1 hseg.left hok
    have hr := hseg.right
    rw [show Nat.add st.nn x.length = st1.nn from g2.symm] at hr
    obtain ⟨avs, st2, θ2, k1, k2, k3, k4, k5⟩ := argShs_ok g1 h2 hr g4
    exact ⟨av :: avs, st2, θ2, k1, by rw [k2, g2]; simp; omega, g3.trans k3, k4, RelL.cons (Rel.mono (Pfx.refl _) k3 _ _ g5) k5⟩

/-! The results -/
theorem rfRs_eq : ∀ (qs : List RK) (as : List AV), rfRs qs as = rfsOf (qs.map RK.sk) as
  | [], [] => rfl
  | [], _ :: _ => rfl
  | q :: qs, [] => rfl
  | q :: qs, a :: as => by
    have : rfR q a = rfOf q.sk a := by cases q <;> rfl
    simp only [rfRs, List.map_cons, rfsOf, this, rfRs_eq qs as]

theorem rfRes_ok {env : List Sc} {θ : Th} {s : Rs} {a : AV} {v : Value} {rfs : List Rf} (h : rfRes s a = some rfs) (hr : Rel env θ a v) : ∃ xs, denL env rfs = some xs ∧ RsRel s xs v := by
  cases s with
  | val q =>
    simp only [rfRes, rfRs_eq] at h
    obtain ⟨xs, h1, h2⟩ := rfsOf_ok h (RelL.cons hr RelL.nil)
    refine ⟨xs, h1, ?_⟩
    simp only [List.map_cons, List.map_nil, ScRels] at h2
    obtain ⟨x, xs', v', vs', rfl, hv, hs, rfl, _⟩ := h2
    cases hv
    exact ⟨x, rfl, hs⟩
  | agg qs =>
    cases a <;> simp [rfRes] at h
    rw [rfRs_eq] at h
    simp only [Rel] at hr
    obtain ⟨vs, rfl, hr⟩ := hr
    obtain ⟨xs, h1, h2⟩ := rfsOf_ok h hr
    exact ⟨xs, h1, vs, rfl, h2⟩

theorem rfRess_ok {env : List Sc} {θ : Th} : ∀ {ss : List Rs} {as : List AV} {vs : List Value} {rfs : List Rf}, rfRess ss as = some rfs → RelL env θ as vs → as.length = ss.length ∧ ∃ xs, denL env rfs = some xs ∧ RsRels ss xs vs
  | [], [], vs, rfs, h, hr => by
    simp [rfRess] at h; simp only [RelL] at hr; subst h hr
    exact ⟨rfl, [], rfl, rfl, rfl⟩
  | [], _ :: _, vs, rfs, h, hr => by simp [rfRess] at h
  | _ :: _, [], vs, rfs, h, hr => by simp [rfRess] at h
  | s :: ss, a :: as, vs, rfs, h, hr => by
    simp only [RelL] at hr
    obtain ⟨v, vs', rfl, h1, h2⟩ := hr
    unfold rfRess at h
    cases e1 : rfRes s a with
    | none => simp [e1] at h
    | some r =>
      cases e2 : rfRess ss as with
      | none => simp [e1, e2] at h
      | some rr =>
        simp [e1, e2] at h; subst h
        obtain ⟨x, g1, g2⟩ := rfRes_ok e1 h1
        obtain ⟨hl, xs, k1, k2⟩ := rfRess_ok e2 h2
        exact ⟨by simp [hl], x ++ xs, denL_append g1 k1, x, xs, v, vs', rfl, rfl, g2, k2⟩

/-- THE SUMMARY of a function is its tree. -/
theorem treeOf_ok (hsum : ∀ f s, findS f sm = some s → SumOk P f s G) (hext : ∀ f e, findE f ex = some e → ExtOk P f e) (hm : P.follows .mixedOrders = true) (f : FuncId) (s : Sum) :
    CallOk P f s fun scs => (treeOf P sm ex f s).den G scs := by
  intro scs rs args w ha h
  unfold treeOf at h
  have h0 : ArgsOk scs w { nn := 0, heap := [], next := 0, wlo := 0 } (fun _ => none) := ⟨fun id cs hf => (by simp [findB] at hf), fun id x hx => (by cases hx), rfl⟩
  obtain ⟨avs, st, θ, h1, h2, _, h4, h5⟩ := argShs_ok h ha (fun j x hj => by simpa using hj) h0
  have hnn : st.nn = scs.length := by rw [h2]; simp
  obtain ⟨env, av, st', k1, k2, k3, k4, k5, _, kc⟩ := runFn_ok hsum hext hm 1000 st.next f avs st _ scs rs (by rw [h4.wlo]; exact Nat.le_refl _) (Nat.le_refl _) h1 hnn
  have hinj : Inj θ st.next w := by
    refine ⟨fun i r b hi => (h4.names i _ hi).2, fun i j r b b' hi h1 _ => ?_⟩
    have := (h4.names i _ h1).1; omega
  have hfr : Fresh θ st.next st'.next := by
    intro i hi _
    cases e : θ i with
    | none => rfl
    | some x => have := (h4.names i x e).1; omega
  have hwr : WRel scs θ st.next st.heap w := by
    intro id cs hf
    obtain ⟨r, base, vs, e, fz, q1, q2, q3⟩ := h4.wr id cs hf
    refine ⟨r, base, vs, e, fz, q1, q2, fun hle => ?_, q3⟩
    have := (h4.names id _ q1).1; omega
  refine Calls.mono (kc args w θ h5 hwr hinj hfr) fun en w' hq => ?_
  obtain ⟨v, rfl, θ', r1, r2, r3⟩ := hq
  refine ⟨v, rfl, ?_, ?_⟩
  · dsimp only at k1
    split at k1
    · rename_i rfs hrf
      simp only [T.den] at k1
      have hun : ∃ vs, RelL env θ' (unTuple s.res.length av) vs ∧ ((unTuple s.res.length av).length = s.res.length → v = tupV vs) := by
        unfold unTuple
        split
        · exact ⟨[v], RelL.cons r1 RelL.nil, fun _ => rfl⟩
        · rename_i n hn1
          split
          · rename_i vs'
            simp only [Rel] at r1
            obtain ⟨us, rfl, hr⟩ := r1
            refine ⟨us, hr, fun hl => ?_⟩
            have hlen := hr.length
            match us, hlen with
            | [], _ => rfl
            | [u], hlen => simp at hlen; exfalso; exact hn1 (by rw [← hl]; exact hlen.symm)
            | a :: b :: c, _ => rfl
          · refine ⟨[.tuple #[]], RelL.cons (by simp [Rel]) RelL.nil, fun hl => ?_⟩
            exfalso
            exact hn1 (by rw [← hl]; rfl)
      obtain ⟨vs, hrl, hv⟩ := hun
      obtain ⟨hl, xs, hd, hrs⟩ := rfRess_ok hrf hrl
      rw [hd] at k1; cases k1
      exact ⟨vs, hrs, hv hl⟩
    · simp [T.den] at k1
  · refine ⟨r3.os, r3.tape, r3.output, r3.size, fun k hk => r3.block k hk ?_⟩
    intro i b hi _ hth
    have := (h4.names i _ hth).1
    rw [h4.wlo] at hi; omega

end
end Go.Proofs.Ytconlkliclhbpaa.Sx
