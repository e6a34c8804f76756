/- Calls; any operation. -/
import Derived.Test.YtconlkliclhbpaaSxOp5
namespace Go.Proofs.Ytconlkliclhbpaa.Sx
open Go

theorem rfOf_ok {env : List Sc} {θ : Th} {s : SK} {a : AV} {v : Value} {r : Rf} (h : rfOf s a = some r) (hr : Rel env θ a v) : ∃ x, r.den env = some x ∧ ScRel s x v := by
  cases s with
  | f k =>
    cases a <;> simp [rfOf] at h
    rename_i l q
    cases hk : fkEq k l with
    | false => simp [hk] at h
    | true =>
      simp [hk] at h
      obtain rfl := fkEq_eq hk
      obtain ⟨d, b, g, rfl, f⟩ := hr.flt
      subst h
      exact ⟨_, g, d, b, rfl, rfl, f⟩
  | b =>
    cases a <;> simp [rfOf] at h
    simp only [Rel] at hr; subst hr h
    exact ⟨_, rfl, _, rfl, rfl⟩
  | i k =>
    cases a <;> simp [rfOf] at h
    rename_i l n
    cases hk : ikEq k l with
    | false => simp [hk] at h
    | true =>
      simp [hk] at h
      obtain rfl := ikEq_eq hk
      simp only [Rel] at hr; subst hr h
      exact ⟨_, rfl, _, rfl, rfl⟩

theorem rfsOf_ok {env : List Sc} {θ : Th} : ∀ {ss : List SK} {as : List AV} {vs : List Value} {rfs : List Rf}, rfsOf ss as = some rfs → RelL env θ as vs → ∃ xs, denL env rfs = some xs ∧ ScRels ss xs vs
  | [], [], vs, rfs, h, hr => by
    simp [rfsOf] at h; simp only [RelL] at hr; subst h hr
    exact ⟨[], rfl, rfl, rfl⟩
  | [], _ :: _, vs, rfs, h, hr => by simp [rfsOf] at h
  | _ :: _, [], vs, rfs, h, hr => by simp [rfsOf] at h
  | s :: ss, a :: as, vs, rfs, h, hr => by
    simp only [RelL] at hr
    obtain ⟨v, vs', rfl, h1, h2⟩ := hr
    unfold rfsOf at h
    cases e1 : rfOf s a with
    | none => simp [e1] at h
    | some r =>
      cases e2 : rfsOf ss as with
      | none => simp [e1, e2] at h
      | some rr =>
        simp [e1, e2] at h; subst h
        obtain ⟨x, g1, g2⟩ := rfOf_ok e1 h1
        obtain ⟨xs, k1, k2⟩ := rfsOf_ok e2 h2
        exact ⟨x :: xs, by simp [denL, g1, k1], x, xs, v, vs', rfl, rfl, g2, k2⟩

theorem denL_append {env : List Sc} : ∀ {a b : List Rf} {xs ys : List Sc}, denL env a = some xs → denL env b = some ys → denL env (a ++ b) = some (xs ++ ys)
  | [], b, xs, ys, h, k => by simp [denL] at h; subst h; simpa using k
  | r :: a, b, xs, ys, h, k => by
    unfold denL at h
    cases e1 : r.den env with
    | none => simp [e1] at h
    | some x =>
      cases e2 : denL env a with
      | none => simp [e1, e2] at h
      | some zs =>
        simp [e1, e2] at h; subst h
        simp [denL, e1, denL_append e2 k]

theorem cells_at {e : List Sc} {θ : Th} {ro : Nat} {w : World} {id off n : Nat} {cs avs : List AV} (hb : BRel e θ ro w id cs) (ht : takeAt off n cs = some avs) :
    ∃ r base vals, θ id = some (r, base) ∧ RelL e θ avs vals ∧ CellsAt w r (base + off) vals := by
  obtain ⟨r, base, vals, h1, h2, h3, h4⟩ := load_cells hb ht
  obtain ⟨r', base', vs, el, fz, g1, g2, g3, g4⟩ := hb
  rw [h1] at g1; cases g1
  refine ⟨r, base, vals, h1, h3, vs, el, fz, g2, fun j u hu => ?_⟩
  have := h4 j u hu
  simp only [World.cell?, g2] at this
  simpa [Nat.add_assoc] using this

theorem rfsSh_ok {env : List Sc} {θ : Th} {ro : Nat} {heap : List (Nat × List AV)} {w : World} {s : Sh} {a : AV} {v : Value} {rfs : List Rf} (h : rfsSh heap s a = some rfs) (hr : Rel env θ a v) (hw : WRel env θ ro heap w) :
    ∃ xs, denL env rfs = some xs ∧ ArgRel w s xs v := by
  cases s with
  | val k =>
    simp only [rfsSh] at h
    obtain ⟨xs, h1, h2⟩ := rfsOf_ok h (RelL.cons hr RelL.nil)
    refine ⟨xs, h1, ?_⟩
    simp only [ScRels] at h2
    obtain ⟨x, xs', v', vs', rfl, hv, hs, rfl, _⟩ := h2
    cases hv
    exact ⟨x, rfl, hs⟩
  | agg ks =>
    cases a <;> simp [rfsSh] at h
    simp only [Rel] at hr
    obtain ⟨vs, rfl, hr⟩ := hr
    obtain ⟨xs, h1, h2⟩ := rfsOf_ok h hr
    exact ⟨xs, h1, vs, rfl, h2⟩
  | ptr ks =>
    cases a <;> simp [rfsSh] at h
    rename_i b off
    cases hf : findB b heap with
    | none => simp [hf] at h
    | some cs =>
      simp only [hf] at h
      cases ht : takeAt off ks.length cs with
      | none => simp [ht] at h
      | some vs =>
        simp only [ht] at h
        obtain ⟨r, base, hθ, rfl⟩ := hr.ptr
        obtain ⟨r', base', vals, g1, g2, g3⟩ := cells_at (hw b cs hf) ht
        rw [hθ] at g1; cases g1
        obtain ⟨xs, h1, h2⟩ := rfsOf_ok h g2
        exact ⟨xs, h1, r, base + off, vals, rfl, h2, g3⟩
  | slice n ks =>
    cases a <;> simp [rfsSh] at h
    rename_i b off len cap
    cases hnl : Nat.beq n len && Nat.beq n cap with
    | false => rw [hnl] at h; simp at h
    | true =>
      cases hf : findB b heap with
      | none => rw [hnl] at h; simp [hf] at h
      | some cs =>
        rw [hnl] at h
        simp only [hf] at h
        cases ht : takeAt off ks.length cs with
        | none => simp [ht] at h
        | some vs =>
          simp only [ht] at h
          simp only [Rel] at hr
          obtain ⟨r, base, hθ, rfl⟩ := hr
          obtain ⟨r', base', vals, g1, g2, g3⟩ := cells_at (hw b cs hf) ht
          rw [hθ] at g1; cases g1
          obtain ⟨xs, h1, h2⟩ := rfsOf_ok h g2
          simp only [Bool.and_eq_true] at hnl
          obtain rfl : n = len := Nat.eq_of_beq_eq_true hnl.1
          obtain rfl : n = cap := Nat.eq_of_beq_eq_true hnl.2
          exact ⟨xs, h1, r, base + off, vals, rfl, h2, g3⟩

theorem rfsShs_ok {env : List Sc} {θ : Th} {ro : Nat} {heap : List (Nat × List AV)} {w : World} (hw : WRel env θ ro heap w) : ∀ {ss : List Sh} {as : List AV} {vs : List Value} {rfs : List Rf}, rfsShs heap ss as = some rfs → RelL env θ as vs →
    ∃ xs, denL env rfs = some xs ∧ ArgRels w ss xs vs
  | [], [], vs, rfs, h, hr => by
    simp [rfsShs] at h; simp only [RelL] at hr; subst h hr
    exact ⟨[], rfl, rfl, rfl⟩
  | [], _ :: _, vs, rfs, h, hr => by simp [rfsShs] at h
  | _ :: _, [], vs, rfs, h, hr => by simp [rfsShs] at h
  | s :: ss, a :: as, vs, rfs, h, hr => by
    simp only [RelL] at hr
    obtain ⟨v, vs', rfl, h1, h2⟩ := hr
    unfold rfsShs at h
    cases e1 : rfsSh heap s a with
    | none => simp [e1] at h
    | some r =>
      cases e2 : rfsShs heap ss as with
      | none => simp [e1, e2] at h
      | some rr =>
        simp [e1, e2] at h; subst h
        obtain ⟨x, g1, g2⟩ := rfsSh_ok e1 h1 hw
        obtain ⟨xs, k1, k2⟩ := rfsShs_ok hw e2 h2
        exact ⟨x ++ xs, denL_append g1 k1, x, xs, v, vs', rfl, rfl, g2, k2⟩

/-! The results -/
def Seg (env : List Sc) (r : Nat) (xs : List Sc) : Prop := ∀ j x, xs[j]? = some x → env[r + j]? = some x
theorem Seg.head {env : List Sc} {r : Nat} {x : Sc} {xs : List Sc} (h : Seg env r (x :: xs)) : env[r]? = some x := h 0 x rfl
theorem Seg.tail {env : List Sc} {r : Nat} {x : Sc} {xs : List Sc} (h : Seg env r (x :: xs)) : Seg env (Nat.add r 1) xs := by
  intro j y hj
  have := h (j + 1) y (by simpa using hj)
  rw [show Nat.add r 1 + j = r + (j + 1) from by show r + 1 + j = _; omega]; exact this
theorem Seg.left {env : List Sc} {r : Nat} {xs ys : List Sc} (h : Seg env r (xs ++ ys)) : Seg env r xs := by
  intro j y hj
  exact h j y (by rw [List.getElem?_append_left (List.getElem?_eq_some_iff.1 hj).1]; exact hj)
theorem Seg.right {env : List Sc} {r : Nat} {xs ys : List Sc} (h : Seg env r (xs ++ ys)) : Seg env (Nat.add r xs.length) ys := by
  intro j y hj
  have := h (xs.length + j) y (by rw [List.getElem?_append_right (by omega)]; simpa using hj)
  rw [show Nat.add r xs.length + j = r + (xs.length + j) from by show r + xs.length + j = _; omega]; exact this

section
variable {P : Program} {G : Gs} {rs env : List Sc} {tm : Tr AV} {st : St} {kk : K} {ro : Nat} {o : Oper}

theorem swInt_ok {r : Nat} {k : IntKind} {x : Sc} {kk : AV → T} (hx : env[r]? = some x) : ∀ {may : List Int}, (swInt r k may kk).den G env = some rs → ∃ av, (kk av).den G env = some rs ∧ ∀ θ v, ScRel (.i k) x v → Rel env θ av v
  | [], h => by simp [swInt, T.den] at h
  | n :: may, h => by
    simp only [swInt, T.den, hx] at h
    cases x <;> (try (cases h; done)) <;> (try dsimp only at h)
    rename_i l m
    by_cases hm : m = n
    · rw [if_pos hm] at h
      refine ⟨_, h, fun θ v hv => ?_⟩
      obtain ⟨q, hq, rfl⟩ := hv
      cases hq
      simp only [Rel]; rw [hm]
    · rw [if_neg hm] at h
      exact swInt_ok hx h

theorem bindRK_ok {q : RK} {r : Nat} {x : Sc} {kk : AV → T} (hx : env[r]? = some x) (h : (bindRK q r kk).den G env = some rs) : ∃ av, (kk av).den G env = some rs ∧ ∀ θ v, ScRel q.sk x v → Rel env θ av v := by
  cases q with
  | f k =>
    refine ⟨_, h, fun θ v hv => ?_⟩
    obtain ⟨d, b, rfl, rfl, f⟩ := hv
    simp only [Rel]; exact ⟨d, b, hx, rfl, f⟩
  | b =>
    simp only [bindRK, T.den, hx] at h
    cases x <;> (try (cases h; done)) <;> (try dsimp only at h)
    rename_i y
    cases y with
    | true =>
      refine ⟨_, h, fun θ v hv => ?_⟩
      obtain ⟨z, hz, rfl⟩ := hv
      cases hz; simp only [Rel]
    | false =>
      refine ⟨_, h, fun θ v hv => ?_⟩
      obtain ⟨z, hz, rfl⟩ := hv
      cases hz; simp only [Rel]
  | i k may => exact swInt_ok hx h

theorem bindRKs_ok : ∀ {qs : List RK} {r : Nat} {xs : List Sc} {kk : List AV → T}, xs.length = qs.length → Seg env r xs → (bindRKs qs r kk).den G env = some rs → ∃ avs, (kk avs).den G env = some rs ∧ ∀ θ vs, ScRels (qs.map RK.sk) xs vs → RelL env θ avs vs
  | [], r, xs, kk, hl, hs, h => ⟨[], h, fun θ vs hv => by simp only [List.map_nil, ScRels] at hv; simp only [RelL]; exact hv.2⟩
  | q :: qs, r, [], kk, hl, hs, h => by simp at hl
  | q :: qs, r, x :: xs, kk, hl, hs, h => by
    unfold bindRKs at h
    obtain ⟨av, h1, h2⟩ := bindRK_ok hs.head h
    obtain ⟨avs, h3, h4⟩ := bindRKs_ok (by simpa using hl) hs.tail h1
    refine ⟨av :: avs, h3, fun θ vs hv => ?_⟩
    simp only [List.map_cons, ScRels] at hv
    obtain ⟨x', xs', v, vs', hxs, rfl, k1, k2⟩ := hv
    cases hxs
    exact RelL.cons (h2 θ v k1) (h4 θ vs' k2)

theorem ScRels.length : ∀ {ss : List SK} {xs : List Sc} {vs : List Value}, ScRels ss xs vs → xs.length = ss.length
  | [], xs, vs, h => by simp only [ScRels] at h; rw [h.1]; rfl
  | s :: ss, xs, vs, h => by
    simp only [ScRels] at h
    obtain ⟨x, xs', v, vs', rfl, rfl, _, h2⟩ := h
    simp [ScRels.length h2]
theorem RsRel.length {s : Rs} {xs : List Sc} {v : Value} (h : RsRel s xs v) : xs.length = s.len := by
  cases s with
  | val q => obtain ⟨x, rfl, _⟩ := h; rfl
  | agg qs => obtain ⟨vs, _, h2⟩ := h; simpa [Rs.len] using h2.length

theorem bindRs_ok {s : Rs} {r : Nat} {xs : List Sc} {kk : AV → T} (hl : xs.length = s.len) (hs : Seg env r xs) (h : (bindRs s r kk).den G env = some rs) : ∃ av, (kk av).den G env = some rs ∧ ∀ θ v, RsRel s xs v → Rel env θ av v := by
  cases s with
  | val q =>
    match xs, hl with
    | [x], _ =>
      obtain ⟨av, h1, h2⟩ := bindRK_ok hs.head h
      refine ⟨av, h1, fun θ v hv => ?_⟩
      obtain ⟨y, hy, hv⟩ := hv
      cases hy
      exact h2 θ v hv
  | agg qs =>
    obtain ⟨avs, h1, h2⟩ := bindRKs_ok (by simpa [Rs.len] using hl) hs h
    refine ⟨_, h1, fun θ v hv => ?_⟩
    obtain ⟨vs, rfl, hv⟩ := hv
    exact Rel.agg (h2 θ vs hv)

theorem bindRss_ok : ∀ {ss : List Rs} {r : Nat} {xs : List Sc} {kk : List AV → T}, xs.length = lens ss → Seg env r xs → (bindRss ss r kk).den G env = some rs → ∃ avs, (kk avs).den G env = some rs ∧ ∀ θ vs, RsRels ss xs vs → RelL env θ avs vs
  | [], r, xs, kk, hl, hs, h => ⟨[], h, fun θ vs hv => by simp only [RsRels] at hv; simp only [RelL]; exact hv.2⟩
  | s :: ss, r, xs, kk, hl, hs, h => by
    unfold bindRss at h
    have hlen : s.len ≤ xs.length := by rw [hl]; show s.len ≤ s.len + lens ss; omega
    have hxs : xs.take s.len ++ xs.drop s.len = xs := List.take_append_drop _ _
    have hl1 : (xs.take s.len).length = s.len := by simp [hlen]
    rw [← hxs] at hs
    obtain ⟨av, h1, h2⟩ := bindRs_ok hl1 hs.left h
    have hr := hs.right
    rw [hl1] at hr
    obtain ⟨avs, h3, h4⟩ := bindRss_ok (xs := xs.drop s.len) (by rw [List.length_drop, hl]; show s.len + lens ss - s.len = _; omega) hr h1
    refine ⟨av :: avs, h3, fun θ vs hv => ?_⟩
    simp only [RsRels] at hv
    obtain ⟨x, xs', v, vs', hx, rfl, k1, k2⟩ := hv
    have hxl := k1.length
    have e1 : xs.take s.len = x := by rw [hx, ← hxl]; simp
    have e2 : xs.drop s.len = xs' := by rw [hx, ← hxl]; simp
    rw [e1] at h2; rw [e2] at h4
    exact RelL.cons (h2 θ v k1) (h4 θ vs' k2)

theorem tupleOf_rel {θ : Th} {avs : List AV} {vs : List Value} (h : RelL env θ avs vs) : Rel env θ (tupleOf avs) (tupV vs) := by
  match avs, vs, h with
  | [], vs, h => simp only [RelL] at h; subst h; exact Rel.tuple RelL.nil
  | [a], vs, h =>
    simp only [RelL] at h
    obtain ⟨v, vs', rfl, h1, rfl⟩ := h
    exact h1
  | a :: b :: cs, vs, h =>
    have h' := h
    simp only [RelL] at h
    obtain ⟨v, vs', rfl, h1, v2, vs2, rfl, h2, h3⟩ := h
    exact Rel.tuple h'

/-! What a call runs -/
theorem run_call {c : Call} {fx : Operand} {a : Act} {w : World} {f : FuncId} {caps vals : List Value} (hc : c.callee = .value fx) (hf : a.eval fx = .func (.func f) #[] ⟨caps⟩) (hv : c.args.toList.map a.eval = vals) (ty : TypeId) :
    (do let d ← resolve a.eval c ty; invoke d.target d.args : Sem Next).run P w = (callFunc f ⟨vals ++ caps⟩).run P w := by
  have hm : c.args.map a.eval = ⟨vals⟩ := by apply Array.toList_inj.1; simpa using hv
  unfold resolve
  simp only [hc, hf, Deferred.ofValue, hm]
  show (invoke (.fn (.func f) ⟨caps⟩) (#[] ++ ⟨vals⟩)).run P w = _
  have : ((#[] ++ (⟨vals⟩ : Array Value)) ++ (⟨caps⟩ : Array Value)) = ⟨vals ++ caps⟩ := by apply Array.toList_inj.1; simp
  show (callFunc f ((#[] ++ (⟨vals⟩ : Array Value)) ++ (⟨caps⟩ : Array Value))).run P w = _
  rw [this]

theorem ext_ok {e : Ext} {args : List AV} {s : St} {e0 : List Sc} (h : (extCall e args s kk).den G e0 = some rs) (hn : s.nn = e0.length) :
    ∃ e' av, (kk av { s with nn := e'.length }).den G e' = some rs ∧ Pfx e0 e' ∧ ∀ θ vs w, RelL e0 θ args vs → ∃ r w', (e.sem ⟨vs⟩).run P w = .ok r w' ∧ Rel e' θ av r ∧ Drew w w' := by
  have same : ({ s with nn := e0.length } : St) = s := by cases s; simp at hn ⊢; exact hn.symm
  unfold extCall at h
  split at h
  case h_2 => simp [T.den] at h
  case h_1 x =>
  have one : ∀ {θ : Th} {vs : List Value}, RelL e0 θ [x] vs → ∃ v, vs = [v] ∧ Rel e0 θ x v := by
    intro θ vs hv
    simp only [RelL] at hv
    obtain ⟨v, vs', rfl, h1, rfl⟩ := hv
    exact ⟨v, rfl, h1⟩
  cases e <;> simp only [] at h
  · split at h
    · rename_i r
      refine ⟨e0, _, by rw [same]; exact h, Pfx.refl _, fun θ vs w hv => ?_⟩
      obtain ⟨v, rfl, hr⟩ := one hv
      obtain ⟨d, b, g, rfl, f⟩ := hr.flt
      exact ⟨_, w, rfl, by simp only [Rel]; exact ⟨d, b, g, rfl, f⟩, Drew.refl w⟩
    · simp [T.den] at h
  · split at h
    · rename_i n
      obtain ⟨e3, av, h3, p3, hr⟩ := cstF_at h hn
      refine ⟨e3, av, h3, p3, fun θ vs w hv => ?_⟩
      obtain ⟨v, rfl, hr'⟩ := one hv
      simp only [Rel] at hr'; subst hr'
      exact ⟨_, w, rfl, hr θ, Drew.refl w⟩
    · rename_i r
      obtain ⟨d, q, hg, hq, h3, hget⟩ := un_at (uo := .abs) (k := .f64) h hn
      refine ⟨_, _, h3, ⟨_, rfl⟩, fun θ vs w hv => ?_⟩
      obtain ⟨v, rfl, hr'⟩ := one hv
      simp only [Rel] at hr'
      obtain ⟨d', b, g, rfl, f⟩ := hr'
      rw [getF_of g] at hg; cases hg
      obtain ⟨q', hq', hf'⟩ := den_abs f
      rw [hq'] at hq; cases hq
      refine ⟨.float .f64 (b % 2 ^ 63), w, ?_, by simp only [Rel]; exact ⟨_, _, hget, rfl, hf'⟩, Drew.refl w⟩
      show Result.ok (Value.float .f64 ((b % 2 ^ 63 : Nat) : Int).toNat) w = _
      rw [Int.toNat_natCast]
    · simp [T.den] at h
  · split at h
    · rename_i r
      refine ⟨e0, _, by rw [same]; exact h, Pfx.refl _, fun θ vs w hv => ?_⟩
      obtain ⟨v, rfl, hr⟩ := one hv
      obtain ⟨d, b, g, rfl, f⟩ := hr.flt
      exact ⟨_, w, rfl, by simp only [Rel]; exact ⟨d, b, g, rfl, f⟩, Drew.refl w⟩
    · simp [T.den] at h
  · split at h
    · rename_i r
      obtain ⟨d, q, hg, hq, h3, hget⟩ := un_at (uo := .sqrt) (k := .f64) h hn
      refine ⟨_, _, h3, ⟨_, rfl⟩, fun θ vs w hv => ?_⟩
      obtain ⟨v, rfl, hr'⟩ := one hv
      obtain ⟨d', b, g, rfl, f⟩ := hr'.flt
      rw [getF_of g] at hg; cases hg
      obtain ⟨b', q', w', hrun, hq', hf', hd'⟩ := run_sqrt P b d f w
      rw [hq'] at hq; cases hq
      exact ⟨_, w', hrun, by simp only [Rel]; exact ⟨_, _, hget, rfl, hf'⟩, hd'⟩
    · simp [T.den] at h
  · split at h
    · rename_i r
      obtain ⟨d, q, hg, hq, h3, hget⟩ := un_at (uo := .rte) (k := .f64) h hn
      refine ⟨_, _, h3, ⟨_, rfl⟩, fun θ vs w hv => ?_⟩
      obtain ⟨v, rfl, hr'⟩ := one hv
      obtain ⟨d', b, g, rfl, f⟩ := hr'.flt
      rw [getF_of g] at hg; cases hg
      obtain ⟨b', q', w', hrun, hq', hf', hd'⟩ := run_rte P b d f w
      rw [hq'] at hq; cases hq
      exact ⟨_, w', hrun, by simp only [Rel]; exact ⟨_, _, hget, rfl, hf'⟩, hd'⟩
    · simp [T.den] at h

theorem below_stp {θ : Th} {lo hi wlo : Nat} {w w' : World} (h : RowKit.Below w.heap.size w w') : Stp θ θ lo hi wlo w w' :=
  ⟨ThLe.refl θ, fun i r b h k => (by rw [h] at k; cases k), fun i j r b b' h _ k => (by rw [h] at k; cases k), h.os, h.tape, h.output, h.size, fun r hr _ => h.block r hr⟩
theorem WRel.below {e : List Sc} {θ : Th} {ro : Nat} {heap : List (Nat × List AV)} {w w' : World} (h : WRel e θ ro heap w) (hb : RowKit.Below w.heap.size w w') : WRel e θ ro heap w' := by
  intro id cs hc
  obtain ⟨r, base, vs, el, fz, h1, h2, h3, h4⟩ := h id cs hc
  exact ⟨r, base, vs, el, fz, h1, by rw [hb.block r (Array.getElem?_eq_some_iff.1 h2).1]; exact h2, h3, h4⟩

variable {sm : List (FuncId × Sum)} {ex : List (FuncId × Ext)} {call : CallK}

theorem callF_ok (hctx : Ctx P sm ex call G) (c : Call) (fx : Operand) (hro : ro ≤ st.wlo) (hrn : ro ≤ st.next) (hcal : c.callee = .value fx) (ho : o.op = .call c) {s1 : St} {e1 : List Sc} {f : FuncId} {avs caps : List AV}
    (h : (callF sm ex call f (avs ++ caps) s1 kk).den G e1 = some rs) (hp : Pfx env e1) (hn : s1.nn = e1.length) (hh : s1.heap = st.heap) (hx : s1.next = st.next) (hw : s1.wlo = st.wlo)
    (hf : ∀ (a : Act) θ, TmRel env θ tm a.tmps → ∃ cv, a.eval fx = .func (.func f) #[] ⟨cv⟩ ∧ RelL e1 θ caps cv)
    (hv : ∀ (a : Act) θ, TmRel env θ tm a.tmps → RelL e1 θ avs (c.args.toList.map a.eval)) : OpLands P G rs env tm st kk ro o := by
  unfold callF at h
  cases hs : findS f sm with
  | some s =>
    simp only [hs] at h
    have hok := hctx.sums f s hs
    unfold callSum at h
    cases hr : rfsShs s1.heap s.args (avs ++ caps) with
    | none => simp [hr, T.den] at h
    | some rfs =>
      simp only [hr, T.den] at h
      cases hd : denL e1 rfs with
      | none => simp [hd] at h
      | some xs =>
        cases hg : G s.idx xs with
        | none => simp [hd, hg] at h
        | some rr =>
          simp only [hd, hg] at h
          by_cases hlen : rr.length = lens s.res
          · rw [if_pos hlen] at h
            have hseg : Seg (e1 ++ rr) s1.nn rr := by
              intro j x hj
              rw [hn, List.getElem?_append_right (by omega)]
              simpa using hj
            obtain ⟨ravs, h2, h3⟩ := bindRss_ok hlen hseg h
            refine ⟨e1 ++ rr, tupleOf ravs, _, h2, hp.trans ⟨rr, rfl⟩, by simp [hn, hlen], by show st.next ≤ s1.next; omega, hw, ?_⟩
            intro a w θ hpre hfr
            obtain ⟨cv, hcv, hcr⟩ := hf a θ hpre.tm
            have hargs := (hv a θ hpre.tm).append hcr
            have hwr : WRel e1 θ ro s1.heap w := by rw [hh]; exact hpre.wr.mono hp (ThLe.refl θ)
            obtain ⟨xs', hxs, harg⟩ := rfsShs_ok hwr hr hargs
            rw [hd] at hxs; cases hxs
            have hc := hok.call xs rr _ w harg hg
            rw [show (execOp a.eval o).run P w = .ok (.enter f ⟨c.args.toList.map a.eval ++ cv⟩) w from by
              simp only [execOp, ho]
              rw [run_call hcal hcv rfl, hok.enters]]
            refine Calls.mono hc fun e w' hq => ?_
            obtain ⟨v, rfl, ⟨vs, hrs, rfl⟩, hbel⟩ := hq
            refine ⟨_, rfl, θ, tupleOf_rel (h3 θ vs hrs), ?_, below_stp hbel⟩
            show WRel _ θ ro s1.heap w'
            exact (hwr.mono ⟨rr, rfl⟩ (ThLe.refl θ)).below hbel
          · rw [if_neg hlen] at h; cases h
  | none =>
    simp only [hs] at h
    cases he : findE f ex with
    | some e =>
      simp only [he] at h
      have hok := hctx.exts f e he
      obtain ⟨e2, av, h2, p2, hrun⟩ := ext_ok (P := P) h hn
      refine ⟨e2, av, _, h2, hp.trans p2, rfl, by show st.next ≤ s1.next; omega, hw, Runs.sound ?_⟩
      intro a w θ hpre hfr
      obtain ⟨cv, hcv, hcr⟩ := hf a θ hpre.tm
      have hargs := (hv a θ hpre.tm).append hcr
      obtain ⟨r, w', hr, hrel, hd⟩ := hrun θ _ w hargs
      refine ⟨r, w', .inl ?_, post_plain hpre (hp.trans p2) hh (by show st.next ≤ s1.next; omega) hrel hd⟩
      simp only [execOp, ho]
      rw [run_call hcal hcv rfl, hok, hr]; rfl
    | none =>
      simp only [he] at h
      obtain ⟨e2, av, s2, h2, p2, n2, x2, w2, hent, hcall⟩ := hctx.call ro f _ s1 kk e1 rs (by omega) (by omega) h hn
      refine ⟨e2, av, s2, h2, hp.trans p2, n2, by omega, w2.trans hw, ?_⟩
      intro a w θ hpre hfr
      obtain ⟨cv, hcv, hcr⟩ := hf a θ hpre.tm
      have hargs := (hv a θ hpre.tm).append hcr
      have hc := hcall _ w θ hargs (by rw [hh]; exact hpre.wr.mono hp (ThLe.refl θ)) hpre.inj (by rw [hx]; exact hfr)
      rw [show (execOp a.eval o).run P w = .ok (.enter f ⟨c.args.toList.map a.eval ++ cv⟩) w from by
        simp only [execOp, ho]
        rw [run_call hcal hcv rfl, hent]]
      refine Calls.mono hc fun e w' hq => ?_
      obtain ⟨v, rfl, hpost⟩ := hq
      refine ⟨_, rfl, ?_⟩
      unfold OpPost at hpost ⊢
      rw [hx, hw] at hpost
      exact hpost

theorem ok_call (hctx : Ctx P sm ex call G) (c : Call) (hro : ro ≤ st.wlo) (hrn : ro ≤ st.next) (ho : o.op = .call c) (h : (evCall P sm ex call tm c st kk).den G env = some rs) (hn : st.nn = env.length) : OpLands P G rs env tm st kk ro o := by
  unfold evCall at h
  cases hc : c.callee with
  | invoke r m => simp [hc, T.den] at h
  | value fx =>
    simp only [hc] at h
    obtain ⟨e1, a1, s1, h1, p1, n1, x1, w1, hh1, hx1, r1⟩ := opd_ok h hn
    obtain ⟨e2, a2, s2, h2, p2, n2, x2, w2, hh2, hx2, r2⟩ := opds_ok _ h1 n1
    unfold evCallV at h2
    cases a1 <;> (try simp only [T.den] at h2) <;> (try (cases h2; done))
    rename_i f caps
    refine callF_ok hctx c fx hro hrn hc ho h2 (p1.trans p2) n2 (hh2.trans hh1) (hx2.trans hx1) (w2.trans w1) ?_ ?_
    · intro a θ ht
      have := r1 a θ ht
      simp only [Rel] at this
      obtain ⟨vs, hv, hr⟩ := this
      exact ⟨vs, hv, RelL.mono p2 (ThLe.refl θ) _ _ hr⟩
    · intro a θ ht
      exact r2 a θ (ht.mono p1 (ThLe.refl θ))
  | builtin b =>
    cases b <;> (try simp only [hc] at h) <;> (try simp only [T.den] at h) <;> (try (cases h; done))
    split at h
    · rename_i t hty
      split at h
      · rename_i el hu
        obtain ⟨e1, a1, s1, h1, p1, n1, x1, w1, hh1, hx1, r1⟩ := opds_ok _ h hn
        unfold evLen at h1
        split at h1
        · rename_i bb off n cap
          refine ⟨e1, _, s1, h1, p1, n1, x1, w1, Runs.sound ?_⟩
          intro a w θ hp hf
          have hr := r1 a θ hp.tm
          simp only [RelL] at hr
          obtain ⟨v, vs', hvs, hrel, rfl⟩ := hr
          simp only [Rel] at hrel
          obtain ⟨r, base, hθ, rfl⟩ := hrel
          refine ⟨.int .i64 n, w, .inl ?_, post_plain hp p1 hh1 x1 (by simp [Rel]) (Drew.refl w)⟩
          have hm : c.args.map a.eval = #[.slice (some ⟨r, base + off, none⟩) n cap] := by apply Array.toList_inj.1; simpa using hvs
          have ht : c.argTypes = #[t] := by apply Array.toList_inj.1; simpa using hty
          have key : ∀ cb : Array Bool, (do let d ← (pure { target := Target.builtin .len c.argTypes o.type cb, args := #[.slice (some ⟨r, base + off, none⟩) n cap] } : Sem Deferred); invoke d.target d.args : Sem Next).run P w = .ok (.value (.int .i64 n)) w := by
            intro cb
            rw [ht]
            show (do pure (Next.value (← Builtin.len_ #[t] o.type #[.slice (some ⟨r, base + off, none⟩) n cap])) : Sem Next).run P w = _
            refine run_value ?_
            unfold Builtin.len_
            simp only [List.getElem?_toArray, List.getElem?_cons_zero]
            rw [Sem.run_bind, underlying_run hu]
            rfl
          simp only [execOp, ho]
          unfold resolve
          simp only [hc, hm]
          exact key _
        · simp [T.den] at h1
      · simp [T.den] at h
    · simp [T.den] at h

/-- any operation -/
theorem op_ok (hctx : Ctx P sm ex call G) (hro : ro ≤ st.wlo) (hrn : ro ≤ st.next) (h : (evOp P sm ex call tm o.op st kk).den G env = some rs) (hn : st.nn = env.length) : OpLands P G rs env tm st kk ro o := by
  cases ho : o.op <;> rw [ho] at h <;> simp only [evOp] at h <;> (try (simp [T.den] at h; done))
  · exact ok_move _ (.inl ho) h hn
  · exact ok_move _ (.inr ho) h hn
  · exact ok_pick _ _ _ ho h hn
  · exact ok_alloc _ ho h hn
  · exact ok_box _ _ ho h hn
  · exact ok_build _ _ ho h hn
  · exact ok_buildSlice _ _ _ ho h hn
  · exact ok_load _ _ ho h hn
  · exact ok_store _ _ _ hro ho h hn
  · exact ok_nil _ ho h hn
  · exact ok_bin _ _ _ _ _ ho h hn
  · exact ok_un _ _ _ ho h hn
  · exact ok_convert _ _ _ ho h hn
  · exact ok_makeFunc _ _ _ ho h hn
  · exact ok_slice _ _ _ _ _ ho h hn
  · exact ok_fieldAddr _ _ _ ho h hn
  · exact ok_field _ _ _ ho h hn
  · exact ok_indexAddr _ _ _ ho h hn
  · exact ok_index _ _ _ ho h hn
  · exact ok_extract _ _ ho h hn
  · exact ok_call hctx _ hro hrn ho h hn

end
end Go.Proofs.Ytconlkliclhbpaa.Sx
