/- Each operation that is no call. -/
import Derived.Test.YtconlkliclhbpaaSxOp
import Derived.Laws.Tables
namespace Go.Proofs.Ytconlkliclhbpaa.Sx
open Go

section
variable {P : Program} {G : Gs} {rs env : List Sc} {tm : Tr AV} {st : St} {kk : K} {ro : Nat} {o : Oper}

def OpLands (P : Program) (G : Gs) (rs env : List Sc) (tm : Tr AV) (st : St) (kk : K) (ro : Nat) (o : Oper) : Prop :=
  Lands G rs env st kk fun e av s => Sound P ro env e st s tm o av

theorem Rel.ptr {e : List Sc} {θ : Th} {b off : Nat} {v : Value} (h : Rel e θ (.ptr b off) v) : ∃ r base, θ b = some (r, base) ∧ v = .pointer (some ⟨r, base + off, none⟩) := by simpa [Rel] using h

theorem ok_move (x : Operand) (ho : o.op = .move x ∨ o.op = .assign x) (h : (opd tm x st kk).den G env = some rs) (hn : st.nn = env.length) : OpLands P G rs env tm st kk ro o := by
  refine (opd_ok h hn).imp fun e av s p n x1 w1 ⟨hh, hx, hr⟩ => Runs.sound ?_
  intro a w θ hp hf
  refine ⟨a.eval x, w, .inl ?_, post_plain hp p hh x1 (hr a θ hp.tm) (Drew.refl w)⟩
  rcases ho with ho | ho <;> simp only [execOp, ho] <;> rfl

theorem ok_pick (c x y : Operand) (ho : o.op = .pick c x y) (h : (opd tm c st (kPick tm x y kk)).den G env = some rs) (hn : st.nn = env.length) : OpLands P G rs env tm st kk ro o := by
  obtain ⟨e1, a1, s1, h1, p1, n1, x1, w1, hh1, hx1, r1⟩ := opd_ok h hn
  unfold kPick at h1
  cases a1 <;> (try simp only [T.den] at h1) <;> (try (cases h1; done))
  rename_i b
  cases b with
  | true =>
    obtain ⟨e2, a2, s2, h2, p2, n2, x2, w2, hh2, hx2, r2⟩ := opd_ok h1 n1
    refine ⟨e2, a2, s2, h2, p1.trans p2, n2, by omega, w2.trans w1, Runs.sound ?_⟩
    intro a w θ hp hf
    have hc := r1 a θ hp.tm
    simp only [Rel] at hc
    refine ⟨a.eval x, w, .inl ?_, post_plain hp (p1.trans p2) (hh2.trans hh1) (by omega) (r2 a θ (hp.tm.mono p1 (ThLe.refl θ))) (Drew.refl w)⟩
    simp only [execOp, ho, hc]; rfl
  | false =>
    obtain ⟨e2, a2, s2, h2, p2, n2, x2, w2, hh2, hx2, r2⟩ := opd_ok h1 n1
    refine ⟨e2, a2, s2, h2, p1.trans p2, n2, by omega, w2.trans w1, Runs.sound ?_⟩
    intro a w θ hp hf
    have hc := r1 a θ hp.tm
    simp only [Rel] at hc
    refine ⟨a.eval y, w, .inl ?_, post_plain hp (p1.trans p2) (hh2.trans hh1) (by omega) (r2 a θ (hp.tm.mono p1 (ThLe.refl θ))) (Drew.refl w)⟩
    simp only [execOp, ho, hc]; rfl

theorem post_new {env e : List Sc} {θ : Th} {a : Act} {w : World} {s s' : St} {cs : List AV} {vs : List Value} (t : TypeId) (hp : OpPre ro env θ tm st a w) (hpx : Pfx env e) (hh : s.heap = st.heap) (hx : s.next = st.next) (hr : RelL e θ cs vs)
    (hs : s' = { s with heap := (s.next, cs) :: s.heap, next := Nat.add s.next 1 }) (hfr : Fresh θ st.next s'.next) (av : AV) (hav : av = .ptr s.next 0 ∨ ∃ l, av = .slice s.next 0 l l) (v : Value)
    (hv : v = (match av with | .slice _ _ l c => .slice (some ⟨w.heap.size, 0, none⟩) l c | _ => .pointer (some ⟨w.heap.size, 0, none⟩))) :
    OpPost ro e θ st s' av w v { w with heap := w.heap.push (.cells ⟨vs⟩ t) } := by
  subst hs
  have hno : θ s.next = none := hfr s.next (by omega) (by show s.next < s.next + 1; omega)
  obtain ⟨θ', h1, h2, h3, h4⟩ := new_block (wlo := st.wlo) t ((hp.wr.mono hpx (ThLe.refl θ))) hr hp.inj hno
  refine ⟨θ', ?_, by rw [hh]; exact h3, by rw [← hx]; exact h4⟩
  rcases hav with rfl | ⟨l, rfl⟩
  · subst hv; simp only [Rel]; exact ⟨w.heap.size, 0, h1, rfl⟩
  · subst hv; simp only [Rel]; exact ⟨w.heap.size, 0, h1, rfl⟩

theorem ok_box (t : TypeId) (x : Operand) (ho : o.op = .box t x) (h : (opd tm x st fun v st => newB v.cells st fun b st => kk (.ptr b 0) st).den G env = some rs) (hn : st.nn = env.length) : OpLands P G rs env tm st kk ro o := by
  obtain ⟨e1, a1, s1, h1, p1, n1, x1, w1, hh1, hx1, r1⟩ := opd_ok h hn
  unfold newB at h1
  refine ⟨e1, .ptr s1.next 0, _, h1, p1, n1, by show st.next ≤ s1.next + 1; omega, w1, Runs.sound ?_⟩
  intro a w θ hp hf
  have hc := (r1 a θ hp.tm).cells
  refine ⟨_, _, .inl ?_, post_new t hp p1 hh1 hx1 hc rfl hf _ (.inl rfl) _ rfl⟩
  simp only [execOp, ho]
  refine run_value ?_
  simp only [Instr.box, newVar, newRow, Sem.run_bind, run_newObj, Result.andThen_ok, Sem.run_pure]

theorem ok_alloc (t : TypeId) (ho : o.op = .alloc t) (h : (evAlloc P t st kk).den G env = some rs) (hn : st.nn = env.length) : OpLands P G rs env tm st kk ro o := by
  unfold evAlloc at h
  cases hi : P.info? t with
  | none => simp [hi, T.den] at h
  | some i =>
    cases hz : i.zero with
    | none => simp [hi, hz, T.den] at h
    | some z =>
      simp only [hi, hz] at h
      obtain ⟨e1, a1, s1, h1, p1, n1, x1, w1, hh1, hx1, r1⟩ := ofValues_ok _ h hn
      unfold newB at h1
      refine ⟨e1, .ptr s1.next 0, _, h1, p1, n1, by show st.next ≤ s1.next + 1; omega, w1, Runs.sound ?_⟩
      intro a w θ hp hf
      refine ⟨_, _, .inl ?_, post_new t hp p1 hh1 hx1 (r1 θ) rfl hf _ (.inl rfl) _ rfl⟩
      simp only [execOp, ho]
      refine run_value ?_
      simp only [Instr.alloc, zeroValue, typeInfo, Sem.run_bind, run_program, Result.andThen_ok, hi, hz, Sem.run_pure, newVar, newRow, run_newObj]

theorem ok_load (t : TypeId) (x : Operand) (ho : o.op = .load t x) (h : (opd tm x st (evLoad P t kk)).den G env = some rs) (hn : st.nn = env.length) : OpLands P G rs env tm st kk ro o := by
  obtain ⟨e1, a1, s1, h1, p1, n1, x1, w1, hh1, hx1, r1⟩ := opd_ok h hn
  unfold evLoad at h1
  cases a1 <;> simp only [T.den] at h1 <;> try (cases h1; done)
  rename_i b off
  obtain ⟨av, h2, hl⟩ := loadT_ok h1
  refine ⟨e1, av, s1, h2, p1, n1, x1, w1, Runs.sound ?_⟩
  intro a w θ hp hf
  obtain ⟨r', base', hθ', hptr⟩ := (r1 a θ hp.tm).ptr
  obtain ⟨r, base, v, hθ, hrel, hrun⟩ := hl ro θ w (by rw [hh1]; exact hp.wr.mono p1 (ThLe.refl θ))
  rw [hθ'] at hθ; cases hθ
  refine ⟨v, w, .inl ?_, post_plain hp p1 hh1 x1 hrel (Drew.refl w)⟩
  simp only [execOp, ho]
  refine run_value ?_
  simp only [Instr.loadAt, hptr, Instr.sureAddr, Sem.run_bind, Sem.run_pure, Result.andThen_ok]
  exact hrun

theorem ok_nil (x : Operand) (ho : o.op = .nilCheck x) (h : (opd tm x st (evNil kk)).den G env = some rs) (hn : st.nn = env.length) : OpLands P G rs env tm st kk ro o := by
  obtain ⟨e1, a1, s1, h1, p1, n1, x1, w1, hh1, hx1, r1⟩ := opd_ok h hn
  unfold evNil at h1
  cases a1 <;> simp only [T.den] at h1 <;> try (cases h1; done)
  rename_i b off
  refine ⟨e1, _, s1, h1, p1, n1, x1, w1, Runs.sound ?_⟩
  intro a w θ hp hf
  obtain ⟨r', base', hθ', hptr⟩ := (r1 a θ hp.tm).ptr
  refine ⟨a.eval x, w, .inl ?_, post_plain hp p1 hh1 x1 (r1 a θ hp.tm) (Drew.refl w)⟩
  simp only [execOp, ho, hptr]; rfl

theorem fldOff_ok {s f d : Nat} (h : fldOff P s f = some d) : ∃ fs fd n, P.underlying s = some (.struct fs) ∧ fs[f]? = some fd ∧ size? P fd.type = some (n + 1) ∧ fd.offset = d := by
  unfold fldOff at h
  split at h
  · rename_i fs hu
    split at h
    · rename_i fd hfd
      cases hs : size? P fd.type with
      | none => simp [hs] at h
      | some n =>
        cases n with
        | zero => simp [hs] at h
        | succ n => exact ⟨fs, fd, n, hu, hfd, hs, by simpa [hs] using h⟩
    · cases h
  · cases h

theorem ok_fieldAddr (s : TypeId) (x : Operand) (f : Nat) (ho : o.op = .fieldAddr s x f) (h : (opd tm x st (evFieldAddr P s f kk)).den G env = some rs) (hn : st.nn = env.length) : OpLands P G rs env tm st kk ro o := by
  obtain ⟨e1, a1, s1, h1, p1, n1, x1, w1, hh1, hx1, r1⟩ := opd_ok h hn
  unfold evFieldAddr at h1
  cases a1 <;> simp only [T.den] at h1 <;> try (cases h1; done)
  rename_i b off
  cases hd : fldOff P s f with
  | none => simp [hd, T.den] at h1
  | some d =>
    simp only [hd] at h1
    refine ⟨e1, _, s1, h1, p1, n1, x1, w1, Runs.sound ?_⟩
    intro a w θ hp hf
    obtain ⟨r, base, hθ, hptr⟩ := (r1 a θ hp.tm).ptr
    obtain ⟨fs, fd, n, hu, hfd, hsz, rfl⟩ := fldOff_ok hd
    refine ⟨.pointer (some ⟨r, base + (off + fd.offset), none⟩), w, .inl ?_, post_plain hp p1 hh1 x1 (by simp only [Rel]; exact ⟨r, base, hθ, rfl⟩) (Drew.refl w)⟩
    simp only [execOp, ho]
    refine run_value ?_
    simp only [Instr.fieldAt, hptr, Sem.run_bind, underlying_run hu, Result.andThen_ok, hfd, Instr.sureAddr, Sem.run_pure, fieldPlace, size?_run hsz]
    simp only [Nat.add_eq_zero_iff, Nat.one_ne_zero, and_false, if_false, Sem.run_pure, Result.andThen_ok, add_addr]

theorem inRange_ok {n : Int} {len : Nat} (h : inRange n len = true) : 0 ≤ n ∧ n < len := by
  simp [inRange] at h; exact h

theorem ok_indexAddr (t : TypeId) (x i : Operand) (ho : o.op = .indexAddr t x i) (h : (evIndexAddr P tm t x i st kk).den G env = some rs) (hn : st.nn = env.length) : OpLands P G rs env tm st kk ro o := by
  unfold evIndexAddr at h
  obtain ⟨e1, a1, s1, h1, p1, n1, x1, w1, hh1, hx1, r1⟩ := opd_ok h hn
  obtain ⟨e2, a2, s2, h2, p2, n2, x2, w2, hh2, hx2, r2⟩ := opd_ok h1 n1
  unfold evIndexAddr2 at h2
  cases a2 <;> simp only [T.den] at h2 <;> try (cases h2; done)
  rename_i k n
  split at h2
  · rename_i len el hu
    cases a1 <;> simp only [T.den] at h2 <;> try (cases h2; done)
    rename_i b off
    cases hs : size? P el with
    | none => simp [hs, T.den] at h2
    | some sz =>
      cases hr : inRange n len with
      | false => simp [hs, hr, T.den] at h2
      | true =>
        simp only [hs, hr] at h2
        refine ⟨e2, _, s2, h2, p1.trans p2, n2, by omega, w2.trans w1, Runs.sound ?_⟩
        intro a w θ hp hf
        obtain ⟨r, base, hθ, hptr⟩ := (r1 a θ hp.tm).ptr
        have hi := r2 a θ (hp.tm.mono p1 (ThLe.refl θ))
        simp only [Rel] at hi
        obtain ⟨hr1, hr2⟩ := inRange_ok hr
        refine ⟨.pointer (some ⟨r, base + (off + n.toNat * sz), none⟩), w, .inl ?_, post_plain hp (p1.trans p2) (hh2.trans hh1) (by omega) (by simp only [Rel]; exact ⟨r, base, hθ, rfl⟩) (Drew.refl w)⟩
        simp only [execOp, ho]
        refine run_value ?_
        simp only [Instr.indexAt, hptr, hi, asIntOf, Sem.run_bind, Sem.run_pure, underlying_run hu, Result.andThen_ok, Instr.sureAddr, hr1, hr2, and_self, if_true, size?_run hs, add_addr]
  · rename_i el hu
    cases a1 <;> simp only [T.den] at h2 <;> try (cases h2; done)
    rename_i b off len cap
    cases hs : size? P el with
    | none => simp [hs, T.den] at h2
    | some sz =>
      cases hr : inRange n len with
      | false => simp [hs, hr, T.den] at h2
      | true =>
        simp only [hs, hr] at h2
        refine ⟨e2, _, s2, h2, p1.trans p2, n2, by omega, w2.trans w1, Runs.sound ?_⟩
        intro a w θ hp hf
        have hsl := r1 a θ hp.tm
        simp only [Rel] at hsl
        obtain ⟨r, base, hθ, hptr⟩ := hsl
        have hi := r2 a θ (hp.tm.mono p1 (ThLe.refl θ))
        simp only [Rel] at hi
        obtain ⟨hr1, hr2⟩ := inRange_ok hr
        refine ⟨.pointer (some ⟨r, base + (off + n.toNat * sz), none⟩), w, .inl ?_, post_plain hp (p1.trans p2) (hh2.trans hh1) (by omega) (by simp only [Rel]; exact ⟨r, base, hθ, rfl⟩) (Drew.refl w)⟩
        simp only [execOp, ho]
        refine run_value ?_
        simp only [Instr.indexAt, hptr, hi, asIntOf, Sem.run_bind, Sem.run_pure, underlying_run hu, Result.andThen_ok, Instr.sureAddr, hr1, hr2, and_self, if_true, size?_run hs, add_addr]
  · simp [T.den] at h2

theorem part_ok {el : TypeId} {off : Nat} {cs : List AV} {s : St} {e : List Sc} (h : (partAV P el off cs s kk).den G e = some rs) :
    ∃ av, (kk av s).den G e = some rs ∧ ∀ θ vs w, RelL e θ cs vs → ∃ v, Rel e θ av v ∧ (part el ⟨vs⟩ off).run P w = .ok v w := by
  unfold partAV at h
  cases ha : aggT P el with
  | none => simp [ha, T.den] at h
  | some g =>
    cases hs : size? P el with
    | none => cases g <;> simp [ha, hs, T.den] at h
    | some n =>
      cases g with
      | true =>
        simp only [ha, hs] at h
        cases ht : takeAt off n cs with
        | none => simp [ht, T.den] at h
        | some avs =>
          simp only [ht] at h
          refine ⟨_, h, fun θ vs w hr => ⟨.agg ⟨(vs.drop off).take n⟩, ?_, ?_⟩⟩
          · unfold takeAt at ht
            split at ht
            · cases ht; exact Rel.agg (RelL.take n (RelL.drop off hr))
            · cases ht
          · unfold part
            rw [Sem.run_bind, aggT_run ha]
            simp only [Result.andThen_ok, if_true, Sem.run_bind, size?_run hs, Sem.run_pure]
            congr 2
            apply Array.toList_inj.1
            simp [Array.toList_extract, List.extract, List.drop_take]
      | false =>
        simp only [ha, hs] at h
        cases hc : cs[off]? with
        | none => simp [hc, T.den] at h
        | some c =>
          simp only [hc] at h
          refine ⟨_, h, fun θ vs w hr => ?_⟩
          obtain ⟨v, hv, hrel⟩ := hr.get hc
          refine ⟨v, hrel, ?_⟩
          unfold part
          rw [Sem.run_bind, aggT_run ha]
          have hv' : (⟨vs⟩ : Array Value)[off]? = some v := by simpa using hv
          simp only [Result.andThen_ok, Bool.false_eq_true, if_false, hv', Sem.run_pure]

theorem ok_field (t : TypeId) (x : Operand) (f : Nat) (ho : o.op = .field t x f) (h : (opd tm x st (evField P t f kk)).den G env = some rs) (hn : st.nn = env.length) : OpLands P G rs env tm st kk ro o := by
  obtain ⟨e1, a1, s1, h1, p1, n1, x1, w1, hh1, hx1, r1⟩ := opd_ok h hn
  unfold evField at h1
  cases a1 <;> simp only [T.den] at h1 <;> try (cases h1; done)
  rename_i cs
  split at h1
  · rename_i fs hu
    cases hfd : fs[f]? with
    | none => simp [hfd, T.den] at h1
    | some fd =>
      simp only [hfd] at h1
      obtain ⟨av, h2, hl⟩ := part_ok h1
      refine ⟨e1, av, s1, h2, p1, n1, x1, w1, Runs.sound ?_⟩
      intro a w θ hp hf
      have hc := r1 a θ hp.tm
      simp only [Rel] at hc
      obtain ⟨vs, hv, hr⟩ := hc
      obtain ⟨v, hrel, hrun⟩ := hl θ vs w hr
      refine ⟨v, w, .inl ?_, post_plain hp p1 hh1 x1 hrel (Drew.refl w)⟩
      simp only [execOp, ho]
      refine run_value ?_
      simp only [Instr.field, hv, Sem.run_bind, underlying_run hu, Result.andThen_ok, hfd, asAgg, Sem.run_pure]
      exact hrun
  · simp [T.den] at h1

theorem ok_index (t : TypeId) (x i : Operand) (ho : o.op = .index t x i) (h : (evIndex P tm t x i st kk).den G env = some rs) (hn : st.nn = env.length) : OpLands P G rs env tm st kk ro o := by
  unfold evIndex at h
  obtain ⟨e1, a1, s1, h1, p1, n1, x1, w1, hh1, hx1, r1⟩ := opd_ok h hn
  obtain ⟨e2, a2, s2, h2, p2, n2, x2, w2, hh2, hx2, r2⟩ := opd_ok h1 n1
  unfold evIndex2 at h2
  cases a1 <;> simp only [T.den] at h2 <;> try (cases h2; done)
  rename_i cs
  cases a2 <;> simp only [T.den] at h2 <;> try (cases h2; done)
  rename_i k n
  split at h2
  · rename_i len el hu
    cases hs : size? P el with
    | none => simp [hs, T.den] at h2
    | some sz =>
      cases hr : inRange n len with
      | false => simp [hs, hr, T.den] at h2
      | true =>
        simp only [hs, hr] at h2
        obtain ⟨av, h3, hl⟩ := part_ok h2
        refine ⟨e2, av, s2, h3, p1.trans p2, n2, by omega, w2.trans w1, Runs.sound ?_⟩
        intro a w θ hp hf
        have hc := r1 a θ hp.tm
        simp only [Rel] at hc
        obtain ⟨vs, hv, hrl⟩ := hc
        have hi := r2 a θ (hp.tm.mono p1 (ThLe.refl θ))
        simp only [Rel] at hi
        obtain ⟨hr1, hr2⟩ := inRange_ok hr
        obtain ⟨v, hrel, hrun⟩ := hl θ vs w (RelL.mono p2 (ThLe.refl θ) _ _ hrl)
        refine ⟨v, w, .inl ?_, post_plain hp (p1.trans p2) (hh2.trans hh1) (by omega) hrel (Drew.refl w)⟩
        simp only [execOp, ho]
        refine run_value ?_
        simp only [Instr.index, hv, hi, asIntOf, Sem.run_bind, Sem.run_pure, underlying_run hu, Result.andThen_ok, hr1, hr2, and_self, if_true, size?_run hs]
        exact hrun
  · simp [T.den] at h2

theorem ok_slice (t : TypeId) (x : Operand) (l hi m : Option Operand) (ho : o.op = .slice t x l hi m) (h : (evSliceO P tm t x l hi m st kk).den G env = some rs) (hn : st.nn = env.length) : OpLands P G rs env tm st kk ro o := by
  unfold evSliceO at h
  split at h
  · obtain ⟨e1, a1, s1, h1, p1, n1, x1, w1, hh1, hx1, r1⟩ := opd_ok h hn
    unfold evSlice at h1
    cases a1 <;> simp only [T.den] at h1 <;> try (cases h1; done)
    rename_i b off
    split at h1
    · rename_i n el hu
      cases hs : size? P el with
      | none => simp [hs, T.den] at h1
      | some sz =>
        simp only [hs] at h1
        refine ⟨e1, _, s1, h1, p1, n1, x1, w1, Runs.sound ?_⟩
        intro a w θ hp hf
        obtain ⟨r, base, hθ, hptr⟩ := (r1 a θ hp.tm).ptr
        refine ⟨.slice (some ⟨r, base + off, none⟩) n n, w, .inl ?_, post_plain hp p1 hh1 x1 (by simp only [Rel]; exact ⟨r, base, hθ, rfl⟩) (Drew.refl w)⟩
        simp only [execOp, ho]
        refine run_value ?_
        simp only [Instr.sliceAt, hptr, Sem.run_bind, Sem.run_pure, underlying_run hu, Result.andThen_ok, Instr.sureAddr, Instr.sliceBounds, Option.map_none, size?_run hs, Nat.zero_mul, Nat.sub_zero]
        congr 3
        split
        · rfl
        · simp [Addr.add]
    · simp [T.den] at h1
  · simp [T.den] at h

end
end Go.Proofs.Ytconlkliclhbpaa.Sx
