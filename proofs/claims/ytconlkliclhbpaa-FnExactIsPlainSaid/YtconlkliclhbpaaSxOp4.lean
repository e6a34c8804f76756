/- Operations, the third part: arithmetic, conversions, stores. -/
import Derived.Test.YtconlkliclhbpaaSxOp3
namespace Go.Proofs.Ytconlkliclhbpaa.Sx
open Go

theorem fkEq_eq {a b : FloatKind} (h : fkEq a b = true) : a = b := by cases a <;> cases b <;> simp [fkEq] at h <;> rfl
theorem ikEq_eq {a b : IntKind} (h : ikEq a b = true) : a = b := by simpa [ikEq] using h

theorem getF_of {env : List Sc} {k : FloatKind} {a : Nat} {d : Option Nat} (h : env[a]? = some (.f k d)) : getF env k a = some d := by
  simp [getF, h]

theorem binOp_arith {op : BinOp} {o : BO} (h : boOf op = some o) (t : TypeId) (k : FloatKind) (x y : Nat) : Go.binOp op t (.float k x) (.float k y) = Op.floatArith op k x y := by
  cases op <;> simp [boOf] at h <;> simp [Go.binOp]
theorem binOp_cmp {op : BinOp} {c : Nat} {sw ng : Bool} (h : cmpN op = some (c, sw, ng)) (t : TypeId) (k : FloatKind) (x y : Nat) : Go.binOp op t (.float k x) (.float k y) = Op.floatCmp op k x y := by
  cases op <;> simp [cmpN] at h <;> simp [Go.binOp]

section
variable {P : Program} {G : Gs} {rs env : List Sc} {tm : Tr AV} {st : St} {kk : K} {ro : Nat} {o : Oper}

theorem Rel.flt {e : List Sc} {θ : Th} {k : FloatKind} {r : Nat} {v : Value} (h : Rel e θ (.flt k r) v) : ∃ d b, e[r]? = some (.f k d) ∧ v = .float k b ∧ FRel k b d := by simpa [Rel] using h
theorem Rel.bits {e : List Sc} {θ : Th} {k : FloatKind} {r : Nat} {v : Value} (h : Rel e θ (.bits k r) v) : ∃ d b, e[r]? = some (.f k d) ∧ v = .int (ik k) (b : Nat) ∧ FRel k b d := by simpa [Rel] using h

/-- what a run gives -/
def RunLands (P : Program) (G : Gs) (rs : List Sc) (e : List Sc) (s : St) (kk : K) (f : (Th → World → Sem Value → Prop)) : Prop := True

/-- from two operands on: the value of a pure operation of them -/
def VLands (P : Program) (G : Gs) (rs : List Sc) (e : List Sc) (s : St) (kk : K) (run : Value → Value → Sem Value) (x y : AV) : Prop :=
  ∃ e' av, (kk av { s with nn := e'.length }).den G e' = some rs ∧ Pfx e e' ∧ ∀ θ u v w, Rel e θ x u → Rel e θ y v → ∃ r w', (run u v).run P w = .ok r w' ∧ Rel e' θ av r ∧ Drew w w'

theorem VLands.same {e : List Sc} {s : St} {run : Value → Value → Sem Value} {x y av : AV} (hn : s.nn = e.length) (h : (kk av s).den G e = some rs)
    (hr : ∀ θ u v w, Rel e θ x u → Rel e θ y v → ∃ r w', (run u v).run P w = .ok r w' ∧ Rel e θ av r ∧ Drew w w') : VLands P G rs e s kk run x y := by
  refine ⟨e, av, ?_, Pfx.refl _, hr⟩
  have : { s with nn := e.length } = s := by cases s; simp at hn ⊢; exact hn.symm
  rw [this]; exact h

theorem VLands.int {e : List Sc} {s : St} {run : Value → Value → Sem Value} {x y : AV} {k : IntKind} {n : Int} (hn : s.nn = e.length) (h : (kk (.int k n) s).den G e = some rs)
    (hr : ∀ θ u v w, Rel e θ x u → Rel e θ y v → (run u v).run P w = .ok (.int k n) w) : VLands P G rs e s kk run x y :=
  VLands.same hn h fun θ u v w hu hv => ⟨_, w, hr θ u v w hu hv, by simp [Rel], Drew.refl w⟩
theorem VLands.bool {e : List Sc} {s : St} {run : Value → Value → Sem Value} {x y : AV} {b : Bool} (hn : s.nn = e.length) (h : (kk (.bool b) s).den G e = some rs)
    (hr : ∀ θ u v w, Rel e θ x u → Rel e θ y v → (run u v).run P w = .ok (.bool b) w) : VLands P G rs e s kk run x y :=
  VLands.same hn h fun θ u v w hu hv => ⟨_, w, hr θ u v w hu hv, by simp [Rel], Drew.refl w⟩

theorem up_eq {s : St} {e : List Sc} {x : Sc} (hn : s.nn = e.length) : s.up = { s with nn := (e ++ [x]).length } := by
  simp [St.up, hn]

theorem binFlt_ok {op : BinOp} {t : TypeId} {k : FloatKind} {a b : Nat} {s : St} {e : List Sc} (h : (binFlt op k a b s kk).den G e = some rs) (hn : s.nn = e.length) :
    VLands P G rs e s kk (Go.binOp op t) (.flt k a) (.flt k b) := by
  unfold binFlt at h
  cases hb : boOf op with
  | some bo =>
    simp only [hb, T.den] at h
    cases ha : getF e k a with
    | none => simp [ha] at h
    | some dx =>
      cases hbb : getF e k b with
      | none => simp [ha, hbb] at h
      | some dy =>
        simp only [ha, hbb] at h
        refine ⟨_, .flt k s.nn, by rw [← up_eq hn]; exact h, ⟨_, rfl⟩, fun θ u v w hu hv => ?_⟩
        obtain ⟨d1, b1, g1, rfl, f1⟩ := hu.flt
        obtain ⟨d2, b2, g2, rfl, f2⟩ := hv.flt
        rw [getF_of g1] at ha; cases ha
        rw [getF_of g2] at hbb; cases hbb
        obtain ⟨r, w', hrun, hf, hd⟩ := run_bin P op bo hb k b1 b2 _ _ f1 f2 w
        exact ⟨_, w', by rw [binOp_arith hb]; exact hrun, by simp only [Rel]; exact ⟨_, _, by simp [hn], rfl, hf⟩, hd⟩
  | none =>
    simp only [hb] at h
    cases hc : cmpN op with
    | none => simp [hc, T.den] at h
    | some q =>
      obtain ⟨c, sw, ng⟩ := q
      simp only [hc] at h
      unfold mkTst at h
      have key : ∀ (p q : Nat) (v : Bool), (match sw with | true => (p = b ∧ q = a) | false => (p = a ∧ q = b)) → ∀ dp dq, getF e k p = some dp → getF e k q = some dq → cmpD c k dp dq = v →
          ∀ θ u v' w, Rel e θ (.flt k a) u → Rel e θ (.flt k b) v' → ∃ r w', (Go.binOp op t u v').run P w = .ok r w' ∧ Rel e θ (.bool (v != ng)) r ∧ Drew w w' := by
        intro p q v hpq dp dq hp hq hcmp θ u v' w hu hv
        obtain ⟨d1, b1, g1, rfl, f1⟩ := hu.flt
        obtain ⟨d2, b2, g2, rfl, f2⟩ := hv.flt
        refine ⟨_, w, by rw [binOp_cmp hc]; exact run_cmp P op c sw ng hc k b1 b2 w, ?_, Drew.refl w⟩
        simp only [Rel]
        cases sw with
        | true =>
          obtain ⟨rfl, rfl⟩ := hpq
          rw [getF_of g2] at hp; cases hp
          rw [getF_of g1] at hq; cases hq
          rw [← hcmp, cmpD_eq c k b2 b1 _ _ f2 f1]
        | false =>
          obtain ⟨rfl, rfl⟩ := hpq
          rw [getF_of g1] at hp; cases hp
          rw [getF_of g2] at hq; cases hq
          rw [← hcmp, cmpD_eq c k b1 b2 _ _ f1 f2]
      cases sw with
      | true =>
        simp only [T.den] at h
        cases ha : getF e k b with
        | none => simp [ha] at h
        | some dp =>
          cases hbb : getF e k a with
          | none => simp [ha, hbb] at h
          | some dq =>
            simp only [ha, hbb] at h
            cases hv : cmpD c k dp dq with
            | true => rw [hv] at h; exact VLands.same hn h (by simpa using key b a true ⟨rfl, rfl⟩ dp dq ha hbb hv)
            | false => rw [hv] at h; exact VLands.same hn h (by simpa using key b a false ⟨rfl, rfl⟩ dp dq ha hbb hv)
      | false =>
        simp only [T.den] at h
        cases ha : getF e k a with
        | none => simp [ha] at h
        | some dp =>
          cases hbb : getF e k b with
          | none => simp [ha, hbb] at h
          | some dq =>
            simp only [ha, hbb] at h
            cases hv : cmpD c k dp dq with
            | true => rw [hv] at h; exact VLands.same hn h (by simpa using key a b true ⟨rfl, rfl⟩ dp dq ha hbb hv)
            | false => rw [hv] at h; exact VLands.same hn h (by simpa using key a b false ⟨rfl, rfl⟩ dp dq ha hbb hv)

theorem binInt_ok {op : BinOp} {t : TypeId} {k : IntKind} {a b : Int} {s : St} {e : List Sc} (h : (binInt op k a b s kk).den G e = some rs) (hn : s.nn = e.length) :
    VLands P G rs e s kk (Go.binOp op t) (.int k a) (.int k b) := by
  cases op <;> simp only [binInt, T.den] at h <;> (try (cases h; done)) <;>
    first
    | exact VLands.int hn h fun θ u v w hu hv => (by simp only [Rel] at hu hv; subst hu hv; simp [Go.binOp, Op.intArith, Op.intCmp])
    | exact VLands.bool hn h fun θ u v w hu hv => (by simp only [Rel] at hu hv; subst hu hv; simp [Go.binOp, Op.intArith, Op.intCmp])

theorem isBoolT_ok {t : TypeId} (h : isBoolT P t = true) : P.underlying t = some .bool := by
  unfold isBoolT at h
  split at h
  · assumption
  · cases h

theorem equal_bool {t : TypeId} (h : P.underlying t = some .bool) (a b : Bool) (w : World) : (Op.equal t (.bool a) (.bool b)).run P w = .ok (a == b) w := by
  show (Op.equalIn (9999 + 1) t (.bool a) (.bool b)).run P w = _
  unfold Op.equalIn
  rw [Sem.run_bind, underlying_run h]
  rfl

theorem binBool_ok {op : BinOp} {t : TypeId} {a b : Bool} {s : St} {e : List Sc} (h : (binBool P t op a b s kk).den G e = some rs) (hn : s.nn = e.length) :
    VLands P G rs e s kk (Go.binOp op t) (.bool a) (.bool b) := by
  unfold binBool at h
  cases hb : isBoolT P t with
  | false => simp [hb, T.den] at h
  | true =>
    have hu := isBoolT_ok hb
    simp only [hb] at h
    cases op <;> simp only [T.den] at h <;> (try (cases h; done)) <;>
      (refine VLands.same hn h fun θ u v w hu' hv => ?_; simp only [Rel] at hu' hv; subst hu' hv)
    · refine ⟨.bool (a == b), w, ?_, by simp [Rel], Drew.refl w⟩
      simp only [Go.binOp]
      rw [Sem.run_bind, equal_bool hu]; rfl
    · refine ⟨.bool (a != b), w, ?_, by simp [Rel], Drew.refl w⟩
      simp only [Go.binOp]
      rw [Sem.run_bind, equal_bool hu]; rfl

theorem binBits_ok {op : BinOp} {t : TypeId} {k : FloatKind} {a b : Nat} {s : St} {e : List Sc} (h : (binBits op k a b s kk).den G e = some rs) (hn : s.nn = e.length) :
    VLands P G rs e s kk (Go.binOp op t) (.bits k a) (.bits k b) := by
  have key : ∀ (p q : Nat) (v : Bool), getF e k a = some (some p) → getF e k b = some (some q) → Nat.beq p q = v → ∀ θ u v' , Rel e θ (.bits k a) u → Rel e θ (.bits k b) v' → ∃ x y : Nat, u = .int (ik k) x ∧ v' = .int (ik k) y ∧ ((x : Int) == (y : Int)) = v := by
    intro p q v hp hq hv θ u v' hu hv'
    obtain ⟨d1, b1, g1, rfl, f1⟩ := hu.bits
    obtain ⟨d2, b2, g2, rfl, f2⟩ := hv'.bits
    rw [getF_of g1] at hp; cases hp
    rw [getF_of g2] at hq; cases hq
    obtain ⟨rfl, _⟩ := f1.some
    obtain ⟨rfl, _⟩ := f2.some
    refine ⟨_, _, rfl, rfl, ?_⟩
    rw [← hv, Bool.eq_iff_iff]
    simp
    omega
  unfold binBits at h
  cases op <;> simp only [T.den] at h <;> (try (cases h; done))
  · split at h
    · rename_i p q hp hq
      split at h
      · rename_i hv
        refine VLands.same hn h fun θ u v w hu hv' => ?_
        obtain ⟨x, y, rfl, rfl, he⟩ := key p q true hp hq hv θ u v hu hv'
        refine ⟨.bool (((x : Int) == (y : Int))), w, ?_, by simp only [Rel]; rw [he], Drew.refl w⟩
        cases k <;> simp [Go.binOp, ik, Op.intCmp]
      · rename_i hv
        refine VLands.same hn h fun θ u v w hu hv' => ?_
        obtain ⟨x, y, rfl, rfl, he⟩ := key p q false hp hq hv θ u v hu hv'
        refine ⟨.bool (((x : Int) == (y : Int))), w, ?_, by simp only [Rel]; rw [he], Drew.refl w⟩
        cases k <;> simp [Go.binOp, ik, Op.intCmp]
    · cases h
  · split at h
    · rename_i p q hp hq
      split at h
      · rename_i hv
        refine VLands.same hn h fun θ u v w hu hv' => ?_
        obtain ⟨x, y, rfl, rfl, he⟩ := key p q true hp hq hv θ u v hu hv'
        refine ⟨.bool (((x : Int) != (y : Int))), w, ?_, by simp only [Rel, bne]; rw [he]; rfl, Drew.refl w⟩
        cases k <;> simp [Go.binOp, ik, Op.intCmp]
      · rename_i hv
        refine VLands.same hn h fun θ u v w hu hv' => ?_
        obtain ⟨x, y, rfl, rfl, he⟩ := key p q false hp hq hv θ u v hu hv'
        refine ⟨.bool (((x : Int) != (y : Int))), w, ?_, by simp only [Rel, bne]; rw [he]; rfl, Drew.refl w⟩
        cases k <;> simp [Go.binOp, ik, Op.intCmp]
    · cases h

theorem binAV_ok {op : BinOp} {t : TypeId} {x y : AV} {s : St} {e : List Sc} (h : (binAV P t op x y s kk).den G e = some rs) (hn : s.nn = e.length) :
    VLands P G rs e s kk (Go.binOp op t) x y ∧ (∀ θ u, Rel e θ x u → (u matches .nilIface | .agg _) = false) := by
  unfold binAV at h
  cases x <;> simp only [T.den] at h <;> (try (cases h; done))
  · rename_i a
    cases y <;> (try simp only [T.den] at h) <;> (try (cases h; done))
    exact ⟨binBool_ok h hn, fun θ u hu => by simp only [Rel] at hu; subst hu; rfl⟩
  · rename_i k a
    cases y <;> (try simp only [T.den] at h) <;> (try (cases h; done))
    rename_i l b
    split at h
    · rename_i hk
      obtain rfl := ikEq_eq hk
      exact ⟨binInt_ok h hn, fun θ u hu => by simp only [Rel] at hu; subst hu; rfl⟩
    · simp [T.den] at h
  · rename_i k a
    cases y <;> (try simp only [T.den] at h) <;> (try (cases h; done))
    rename_i l b
    split at h
    · rename_i hk
      obtain rfl := fkEq_eq hk
      exact ⟨binFlt_ok h hn, fun θ u hu => by obtain ⟨_, _, _, rfl, _⟩ := hu.flt; rfl⟩
    · simp [T.den] at h
  · rename_i k a
    refine ⟨?_, fun θ u hu => by obtain ⟨_, _, _, rfl, _⟩ := hu.bits; rfl⟩
    cases y <;> (try simp only [T.den] at h) <;> (try (cases h; done))
    · rename_i l n
      cases op <;> (try simp only [T.den] at h) <;> (try (cases h; done))
      split at h
      · rename_i hc
        simp only [Bool.and_eq_true, beq_iff_eq] at hc
        obtain ⟨⟨h1, h2⟩, rfl⟩ := hc
        obtain rfl := fkEq_eq h1
        obtain rfl := ikEq_eq h2
        refine VLands.same hn h fun θ u v w hu hv => ?_
        obtain ⟨d, b, g, rfl, f⟩ := hu.bits
        simp only [Rel] at hv; subst hv
        refine ⟨.int .u64 ((b % 2 ^ 63 : Nat) : Int), w, ?_, ?_, Drew.refl w⟩
        · have := run_andNot P b w
          simpa [Go.binOp, ik] using this
        · simp only [Rel]; exact ⟨d, b, g, rfl, f⟩
      · simp [T.den] at h
    · rename_i l b
      split at h
      · rename_i hk
        obtain rfl := fkEq_eq hk
        exact binBits_ok h hn
      · simp [T.den] at h

theorem ok_bin (op : BinOp) (t : TypeId) (x y : Operand) (ty : TypeId) (ho : o.op = .binOp op t x y ty) (h : (evBin P tm op t x y st kk).den G env = some rs) (hn : st.nn = env.length) : OpLands P G rs env tm st kk ro o := by
  unfold evBin at h
  obtain ⟨e1, a1, s1, h1, p1, n1, x1, w1, hh1, hx1, r1⟩ := opd_ok h hn
  obtain ⟨e2, a2, s2, h2, p2, n2, x2, w2, hh2, hx2, r2⟩ := opd_ok h1 n1
  obtain ⟨⟨e3, av, h3, p3, hv⟩, hg⟩ := binAV_ok h2 n2
  refine ⟨e3, av, _, h3, (p1.trans p2).trans p3, rfl, by show st.next ≤ s2.next; omega, w2.trans w1, Runs.sound ?_⟩
  intro a w θ hp hf
  have hu := Rel.mono p2 (ThLe.refl θ) _ _ (r1 a θ hp.tm)
  have hw := r2 a θ (hp.tm.mono p1 (ThLe.refl θ))
  obtain ⟨r, w', hrun, hrel, hd⟩ := hv θ _ _ w hu hw
  refine ⟨r, w', .inl ?_, post_plain hp ((p1.trans p2).trans p3) (by show s2.heap = st.heap; rw [hh2, hh1]) (by show st.next ≤ s2.next; omega) hrel hd⟩
  simp only [execOp, ho]
  refine run_value ?_
  rw [Sem.run_bind, eqGuard_run (hg θ _ hu)]
  exact hrun

theorem ok_un (op : UnOp) (t : TypeId) (x : Operand) (ho : o.op = .unOp op t x) (h : (opd tm x st fun v st => unAV op v st kk).den G env = some rs) (hn : st.nn = env.length) : OpLands P G rs env tm st kk ro o := by
  obtain ⟨e1, a1, s1, h1, p1, n1, x1, w1, hh1, hx1, r1⟩ := opd_ok h hn
  have fin : ∀ (e3 : List Sc) (av : AV), (kk av { s1 with nn := e3.length }).den G e3 = some rs → Pfx e1 e3 → (∀ θ u w, Rel e1 θ a1 u → ∃ r, (Op.unary op u).run P w = .ok r w ∧ Rel e3 θ av r) → OpLands P G rs env tm st kk ro o := by
    intro e3 av h3 p3 hv
    refine ⟨e3, av, _, h3, p1.trans p3, rfl, by show st.next ≤ s1.next; omega, w1, Runs.sound ?_⟩
    intro a w θ hp hf
    obtain ⟨r, hrun, hrel⟩ := hv θ _ w (r1 a θ hp.tm)
    refine ⟨r, w, .inl ?_, post_plain hp (p1.trans p3) hh1 (by show st.next ≤ s1.next; omega) hrel (Drew.refl w)⟩
    simp only [execOp, ho]
    exact run_value hrun
  have same : ({ s1 with nn := e1.length } : St) = s1 := by cases s1; simp at n1 ⊢; exact n1.symm
  unfold unAV at h1
  cases op <;> (try simp only [T.den] at h1) <;> (try (cases h1; done))
  · cases a1 <;> (try simp only [T.den] at h1) <;> (try (cases h1; done))
    · rename_i k n
      refine fin e1 _ (by rw [same]; exact h1) (Pfx.refl _) fun θ u w hu => ?_
      simp only [Rel] at hu; subst hu
      exact ⟨_, rfl, by simp [Rel]⟩
    · rename_i k r
      cases hg : getF e1 k r with
      | none => simp [hg] at h1
      | some d =>
        simp only [hg] at h1
        cases hd : UO.neg.den k d with
        | none => simp [hd] at h1
        | some q =>
          simp only [hd] at h1
          refine fin _ (.flt k s1.nn) (by rw [← up_eq n1]; exact h1) ⟨_, rfl⟩ fun θ u w hu => ?_
          obtain ⟨d', b, g, rfl, f⟩ := hu.flt
          rw [getF_of g] at hg; cases hg
          obtain ⟨q', hq', hf'⟩ := den_neg f
          rw [hq'] at hd; cases hd
          exact ⟨_, rfl, by simp only [Rel]; exact ⟨_, _, by simp [n1, UO.kind], rfl, hf'⟩⟩
  · cases a1 <;> (try simp only [T.den] at h1) <;> (try (cases h1; done))
    rename_i b
    refine fin e1 _ (by rw [same]; exact h1) (Pfx.refl _) fun θ u w hu => ?_
    simp only [Rel] at hu; subst hu
    exact ⟨_, rfl, by simp [Rel]⟩

theorem cstF_at {k : FloatKind} {b : Nat} {s : St} {e : List Sc} (h : (cstF k b s kk).den G e = some rs) (hn : s.nn = e.length) :
    ∃ e' av, (kk av { s with nn := e'.length }).den G e' = some rs ∧ Pfx e e' ∧ ∀ θ, Rel e' θ av (.float k b) := by
  unfold cstF at h
  cases hb : fltOk k b with
  | false => rw [hb] at h; simp [T.den] at h
  | true =>
    rw [hb] at h
    simp only [T.den] at h
    refine ⟨e ++ [.f k (canon k b)], .flt k s.nn, by rw [← up_eq hn]; exact h, ⟨_, rfl⟩, fun θ => ?_⟩
    simp only [Rel]
    exact ⟨canon k b, b, by simp [hn], rfl, hb, rfl⟩

theorem un_at {uo : UO} {k : FloatKind} {r : Nat} {s : St} {e : List Sc} (h : (T.un uo k r (kk (.flt (uo.kind k) s.nn) s.up)).den G e = some rs) (hn : s.nn = e.length) :
    ∃ d q, getF e k r = some d ∧ uo.den k d = some q ∧ (kk (.flt (uo.kind k) s.nn) { s with nn := (e ++ [Sc.f (uo.kind k) q]).length }).den G (e ++ [.f (uo.kind k) q]) = some rs ∧ (e ++ [Sc.f (uo.kind k) q])[s.nn]? = some (.f (uo.kind k) q) := by
  simp only [T.den] at h
  cases hg : getF e k r with
  | none => simp [hg] at h
  | some d =>
    simp only [hg] at h
    cases hd : uo.den k d with
    | none => simp [hd] at h
    | some q =>
      simp only [hd] at h
      exact ⟨d, q, rfl, hd, by rw [← up_eq hn]; exact h, by simp [hn]⟩

theorem convert_eq {src dst : TypeId} {d0 : TypeDesc} {k : FloatKind} (h0 : P.underlying src = some d0) (h1 : P.underlying dst = some (.float k)) (w : World) :
    (∀ l n, (convert src dst (.int l n)).run P w = (Conv.intToFloat k n).run P w) ∧ (∀ l b, (convert src dst (.float l b)).run P w = (Conv.floatToFloat l b k).run P w) := by
  refine ⟨fun l n => ?_, fun l b => ?_⟩
  · unfold convert
    rw [Sem.run_bind, underlying_run h0]
    simp only [Result.andThen_ok]
    rw [Sem.run_bind, underlying_run h1]
    all_goals (try simp only [Result.andThen_ok])
    all_goals (cases d0 <;> rfl)
  · unfold convert
    rw [Sem.run_bind, underlying_run h0]
    simp only [Result.andThen_ok]
    rw [Sem.run_bind, underlying_run h1]
    all_goals (try simp only [Result.andThen_ok])
    all_goals (cases d0 <;> rfl)
theorem convert_int {src dst : TypeId} {d0 : TypeDesc} {k : IntKind} (h0 : P.underlying src = some d0) (h1 : P.underlying dst = some (.int k)) (w : World) (l : IntKind) (n : Int) :
    (convert src dst (.int l n)).run P w = .ok (.int k (k.wrap n)) w := by
  unfold convert
  rw [Sem.run_bind, underlying_run h0]
  simp only [Result.andThen_ok]
  rw [Sem.run_bind, underlying_run h1]
  simp only [Result.andThen_ok]
  cases d0 <;> rfl

theorem ok_convert (src dst : TypeId) (x : Operand) (ho : o.op = .convert src dst x) (h : (opd tm x st fun v st => convAV P src dst v st kk).den G env = some rs) (hn : st.nn = env.length) : OpLands P G rs env tm st kk ro o := by
  obtain ⟨e1, a1, s1, h1, p1, n1, x1, w1, hh1, hx1, r1⟩ := opd_ok h hn
  have fin : ∀ (e3 : List Sc) (av : AV), (kk av { s1 with nn := e3.length }).den G e3 = some rs → Pfx e1 e3 → (∀ θ u w, Rel e1 θ a1 u → ∃ r w', (convert src dst u).run P w = .ok r w' ∧ Rel e3 θ av r ∧ Drew w w') → OpLands P G rs env tm st kk ro o := by
    intro e3 av h3 p3 hv
    refine ⟨e3, av, _, h3, p1.trans p3, rfl, by show st.next ≤ s1.next; omega, w1, Runs.sound ?_⟩
    intro a w θ hp hf
    obtain ⟨r, w', hrun, hrel, hd⟩ := hv θ _ w (r1 a θ hp.tm)
    refine ⟨r, w', .inl ?_, post_plain hp (p1.trans p3) hh1 (by show st.next ≤ s1.next; omega) hrel hd⟩
    simp only [execOp, ho]
    exact run_value hrun
  have same : ({ s1 with nn := e1.length } : St) = s1 := by cases s1; simp at n1 ⊢; exact n1.symm
  unfold convAV at h1
  cases h0 : P.underlying src with
  | none => simp [h0, T.den] at h1
  | some d0 =>
    cases hd : P.underlying dst with
    | none => simp [h0, hd, T.den] at h1
    | some d1 =>
      simp only [h0, hd] at h1
      cases d1 <;> (try simp only [T.den] at h1) <;> (try (cases h1; done))
      · rename_i k
        cases a1 <;> (try simp only [T.den] at h1) <;> (try (cases h1; done))
        rename_i l n
        refine fin e1 _ (by rw [same]; exact h1) (Pfx.refl _) fun θ u w hu => ?_
        simp only [Rel] at hu; subst hu
        exact ⟨_, w, convert_int h0 hd w l n, by simp [Rel], Drew.refl w⟩
      · rename_i k
        unfold convF at h1
        cases a1 <;> (try simp only [T.den] at h1) <;> (try (cases h1; done))
        · rename_i l n
          obtain ⟨e3, av, h3, p3, hr⟩ := cstF_at h1 n1
          refine fin e3 av h3 p3 fun θ u w hu => ?_
          simp only [Rel] at hu; subst hu
          exact ⟨_, w, by rw [(convert_eq h0 hd w).1]; rfl, hr θ, Drew.refl w⟩
        · rename_i l r
          cases hk : fkEq k l with
          | true =>
            simp only [hk] at h1
            obtain rfl := fkEq_eq hk
            refine fin e1 _ (by rw [same]; exact h1) (Pfx.refl _) fun θ u w hu => ?_
            obtain ⟨d, b, g, rfl, f⟩ := hu.flt
            refine ⟨.float k b, w, ?_, by simp only [Rel]; exact ⟨d, b, g, rfl, f⟩, Drew.refl w⟩
            rw [(convert_eq h0 hd w).2]
            simp [Conv.floatToFloat]
          | false =>
            simp only [hk] at h1
            have go : ∀ (uo : UO) (l' k' : FloatKind), l' ≠ k' → uo.kind l' = k' → (∀ x, uo.fn l' x = convD l' k' x) → l = l' → k = k' → (T.un uo l' r (kk (.flt k' s1.nn) s1.up)).den G e1 = some rs → OpLands P G rs env tm st kk ro o := by
              intro uo l' k' hne hkind hfn hl hk' h1
              subst hl hk' hkind
              obtain ⟨d, q, hg, hq, h3, hget⟩ := un_at h1 n1
              refine fin _ _ h3 ⟨_, rfl⟩ fun θ u w hu => ?_
              obtain ⟨d', b, g, rfl, f⟩ := hu.flt
              rw [getF_of g] at hg; cases hg
              obtain ⟨b', w', hrun, hf', hd'⟩ := run_conv P l _ hne b d f uo hfn q hq w
              exact ⟨_, w', by rw [(convert_eq h0 hd w).2]; exact hrun, by simp only [Rel]; exact ⟨_, _, hget, rfl, hf'⟩, hd'⟩
            cases k with
            | f64 =>
              cases l with
              | f64 => simp [fkEq] at hk
              | f32 => exact go .widen .f32 .f64 (by decide) rfl (fun _ => rfl) rfl rfl h1
            | f32 =>
              cases l with
              | f32 => simp [fkEq] at hk
              | f64 => exact go .narrow .f64 .f32 (by decide) rfl (fun _ => rfl) rfl rfl h1

end
end Go.Proofs.Ytconlkliclhbpaa.Sx
