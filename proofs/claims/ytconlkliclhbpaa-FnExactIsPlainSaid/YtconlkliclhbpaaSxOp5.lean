/- Stores and calls; any operation. -/
import Derived.Test.YtconlkliclhbpaaSxOp4
namespace Go.Proofs.Ytconlkliclhbpaa.Sx
open Go

/-! What a summary says -/
def ScRel : SK → Sc → Value → Prop
  | .f k, x, v => ∃ d b, x = .f k d ∧ v = .float k b ∧ FRel k b d
  | .b, x, v => ∃ y, x = .b y ∧ v = .bool y
  | .i k, x, v => ∃ n, x = .i k n ∧ v = .int k n
def ScRels : List SK → List Sc → List Value → Prop
  | [], xs, vs => xs = [] ∧ vs = []
  | s :: ss, xs, vs => ∃ x xs' v vs', xs = x :: xs' ∧ vs = v :: vs' ∧ ScRel s x v ∧ ScRels ss xs' vs'
/-- the cells from an address on are these -/
def CellsAt (w : World) (r o : Nat) (us : List Value) : Prop := ∃ vs e fz, w.heap[r]? = some (.cells vs e fz) ∧ ∀ j u, us[j]? = some u → vs[o + j]? = some u
def ArgRel (w : World) : Sh → List Sc → Value → Prop
  | .val s, xs, v => ∃ x, xs = [x] ∧ ScRel s x v
  | .agg ss, xs, v => ∃ vs, v = .agg ⟨vs⟩ ∧ ScRels ss xs vs
  | .ptr ss, xs, v => ∃ r o us, v = .pointer (some ⟨r, o, none⟩) ∧ ScRels ss xs us ∧ CellsAt w r o us
  | .slice n ss, xs, v => ∃ r o us, v = .slice (some ⟨r, o, none⟩) n n ∧ ScRels ss xs us ∧ CellsAt w r o us
def ArgRels (w : World) : List Sh → List Sc → List Value → Prop
  | [], xs, vs => xs = [] ∧ vs = []
  | s :: ss, xs, vs => ∃ x xs' v vs', xs = x ++ xs' ∧ vs = v :: vs' ∧ ArgRel w s x v ∧ ArgRels w ss xs' vs'
def RK.sk : RK → SK | .f k => .f k | .b => .b | .i k _ => .i k
def RsRel : Rs → List Sc → Value → Prop
  | .val q, xs, v => ∃ x, xs = [x] ∧ ScRel q.sk x v
  | .agg qs, xs, v => ∃ vs, v = .agg ⟨vs⟩ ∧ ScRels (qs.map RK.sk) xs vs
def RsRels : List Rs → List Sc → List Value → Prop
  | [], xs, vs => xs = [] ∧ vs = []
  | s :: ss, xs, vs => ∃ x xs' v vs', xs = x ++ xs' ∧ vs = v :: vs' ∧ RsRel s x v ∧ RsRels ss xs' vs'
def tupV (vs : List Value) : Value := match vs with | [v] => v | vs => .tuple ⟨vs⟩
def ResRel (s : List Rs) (xs : List Sc) (v : Value) : Prop := ∃ vs, RsRels s xs vs ∧ v = tupV vs

def Enters (P : Program) (f : FuncId) : Prop := ∀ (args : Array Value) (w : World), (callFunc f args).run P w = .ok (.enter f args) w
def CallOk (P : Program) (f : FuncId) (s : Sum) (F : List Sc → Option (List Sc)) : Prop :=
  ∀ scs rs (args : List Value) w, ArgRels w s.args scs args → F scs = some rs → Calls P f ⟨args⟩ w fun e w' => ∃ v, e = .returned v ∧ ResRel s.res rs v ∧ RowKit.Below w.heap.size w w'
structure SumOk (P : Program) (f : FuncId) (s : Sum) (G : Gs) : Prop where
  enters : Enters P f
  call : CallOk P f s (G s.idx)

def Ext.sem : Ext → Array Value → Sem Value
  | .bits32 => Extern.MathFloatBits.float32bits
  | .frombits64 => Extern.MathFloatBits.float64frombits
  | .bits64 => Extern.MathFloatBits.float64bits
  | .sqrt => Extern.MathSqrt.sqrt
  | .rte => Extern.MathFloor.toIntegral "math.RoundToEven" .even
def ExtOk (P : Program) (f : FuncId) (e : Ext) : Prop :=
  ∀ (args : Array Value) (w : World), (callFunc f args).run P w = ((e.sem args).run P w).andThen fun v w' => .ok (.value v) w'

/-- what is asked of the function that runs a callee in place -/
def CallKOk (P : Program) (G : Gs) (call : CallK) : Prop :=
  ∀ ro f args st kk env rs, ro ≤ St.wlo st → ro ≤ st.next → (call f args st kk).den G env = some rs → st.nn = env.length →
    Lands G rs env st kk fun e av s => Enters P f ∧ ∀ (vals : List Value) w θ, RelL env θ args vals → WRel env θ ro st.heap w → Inj θ ro w → Fresh θ st.next s.next →
      Calls P f ⟨vals⟩ w fun en w' => ∃ v, en = .returned v ∧ OpPost ro e θ st s av w v w'

structure Ctx (P : Program) (sm : List (FuncId × Sum)) (ex : List (FuncId × Ext)) (call : CallK) (G : Gs) : Prop where
  sums : ∀ f s, findS f sm = some s → SumOk P f s G
  exts : ∀ f e, findE f ex = some e → ExtOk P f e
  call : CallKOk P G call

section
variable {P : Program} {G : Gs} {rs env : List Sc} {tm : Tr AV} {st : St} {kk : K} {ro : Nat} {o : Oper}

theorem ok_store (t : TypeId) (x y : Operand) (hro : ro ≤ st.wlo) (ho : o.op = .store t x y) (h : (evStore P tm t x y st kk).den G env = some rs) (hn : st.nn = env.length) : OpLands P G rs env tm st kk ro o := by
  unfold evStore at h
  obtain ⟨e1, a1, s1, h1, p1, n1, x1, w1, hh1, hx1, r1⟩ := opd_ok h hn
  obtain ⟨e2, a2, s2, h2, p2, n2, x2, w2, hh2, hx2, r2⟩ := opd_ok h1 n1
  unfold evStore2 at h2
  cases a1 <;> (try simp only [T.den] at h2) <;> (try (cases h2; done))
  rename_i b off
  unfold storeT at h2
  split at h2
  case h_2 => simp [T.den] at h2
  case h_1 cs n hble hfind hsize =>
  split at h2
  case h_2 => simp [T.den] at h2
  case h_1 hc =>
  split at h2
  case h_2 => simp [T.den] at h2
  case h_1 cs' hput =>
  simp only [Bool.and_eq_true, Nat.blt_eq] at hc
  obtain ⟨⟨hlen, hone⟩, hpos⟩ := hc
  have hlen' : n = a2.cells.length := Nat.eq_of_beq_eq_true hlen
  simp only [Bool.and_eq_true, Nat.blt_eq] at hble
  obtain ⟨hble, hlt⟩ := hble
  have hble' : st.wlo ≤ b := by have := Nat.le_of_ble_eq_true hble; omega
  have hheap : s2.heap = st.heap := hh2.trans hh1
  have hnext : s2.next = st.next := hx2.trans hx1
  refine ⟨e2, .undef, _, h2, p1.trans p2, n2, by show st.next ≤ s2.next; omega, w2.trans w1, Runs.sound ?_⟩
  intro a w θ hp hf
  obtain ⟨r, base, hθ, hptr⟩ := (r1 a θ hp.tm).ptr
  have hval := r2 a θ (hp.tm.mono p1 (ThLe.refl θ))
  have hcells := hval.cells
  have hwr : WRel e2 θ ro st.heap w := hp.wr.mono (p1.trans p2) (ThLe.refl θ)
  rw [hheap] at hfind
  obtain ⟨r', base', vs, el, fz, hθ', hblk, hfz, hrel⟩ := hwr b cs hfind
  rw [hθ] at hθ'; cases hθ'
  have hfz' := hfz (by omega)
  subst hfz'
  obtain ⟨q1, q2, q3⟩ := put_get hput
  have hvl := hcells.length
  have hfit : base + off + (a.eval y).cells.toList.length ≤ vs.size := by
    rw [hvl]
    obtain ⟨v, hv, _⟩ := hrel (off + a2.cells.length - 1) _ (List.getElem?_eq_getElem (by omega))
    have := (Array.getElem?_eq_some_iff.1 hv).1
    omega
  have hone' : ∀ v ∈ (a.eval y).cells.toList, v.oneCell' = true := by
    intro v hv
    obtain ⟨j, hj, rfl⟩ := List.getElem_of_mem hv
    have hj' : j < a2.cells.length := by omega
    obtain ⟨v', hv', hr⟩ := hcells.get (List.getElem?_eq_getElem hj')
    rw [List.getElem?_eq_getElem hj] at hv'
    cases hv'
    exact one_cell hr (List.all_eq_true.1 hone _ (List.getElem_mem hj'))
  have hst := run_storeCells_at P r (base + off) el (a.eval y).cells.toList 0 vs w hblk (by omega) hone'
  generalize hnew : (vs.toList.take (base + off + 0) ++ (a.eval y).cells.toList ++ vs.toList.drop (base + off + 0 + (a.eval y).cells.toList.length)).toArray = new at hst
  have hget : ∀ i, new[i]? = if base + off ≤ i ∧ i < base + off + (a.eval y).cells.toList.length then (a.eval y).cells.toList[i - (base + off)]? else vs[i]? := by
    intro i
    rw [← hnew]
    simp only [List.getElem?_toArray, Nat.add_zero]
    by_cases i1 : i < base + off
    · rw [if_neg (by omega), List.append_assoc, List.getElem?_append_left (by simp; omega), List.getElem?_take_of_lt i1, Array.getElem?_toList]
    · by_cases i2 : i < base + off + (a.eval y).cells.toList.length
      · rw [if_pos ⟨by omega, i2⟩, List.append_assoc, List.getElem?_append_right (by simp; omega), List.getElem?_append_left (by simp at i2 ⊢; omega)]
        congr 1
        simp; omega
      · rw [if_neg (by omega), List.getElem?_append_right (by simp at i2 ⊢; omega), List.getElem?_drop, Array.getElem?_toList]
        congr 1
        simp at i2 ⊢; omega
  refine ⟨undef, w.setRow r new, .inr ⟨?_, rfl⟩, θ, by simp only [Rel]; rfl, ?_, ⟨ThLe.refl θ, fun i r b h k => (by rw [h] at k; cases k), fun i j r b b' h _ k => (by rw [h] at k; cases k), rfl, rfl, rfl, by simp [World.setRow], ?_⟩⟩
  · have hs' : (storeVar t ⟨r, base + off, none⟩ (a.eval y)).run P w = .ok () (w.setRow r new) := by
      unfold storeVar
      rw [Sem.run_bind, size?_run hsize]
      simp only [Result.andThen_ok]
      have hsz : ¬ (a.eval y).cells.size ≠ n := by
        have : (a.eval y).cells.toList.length = (a.eval y).cells.size := Array.length_toList
        omega
      rw [if_neg hsz]
      exact hst
    simp only [execOp, ho, Instr.storeAt, hptr, Instr.sureAddr, Sem.run_bind, Sem.run_pure, Result.andThen_ok, hs']
  · show WRel e2 θ ro (setB b cs' s2.heap) (w.setRow r new)
    rw [hheap]
    intro id ds hd
    rcases findB_setB hd with ⟨rfl, rfl, _⟩ | ⟨hne, hd'⟩
    · refine ⟨r, base, new, el, (0, 0), hθ, setRow_heap w r vs new el (0, 0) hblk, fun _ => rfl, fun j c hc => ?_⟩
      rw [q3 j] at hc
      rw [hget (base + j)]
      by_cases hin : off ≤ j ∧ j < off + a2.cells.length
      · rw [if_pos hin] at hc
        rw [if_pos (by omega)]
        obtain ⟨v, hv, hr⟩ := hcells.get hc
        exact ⟨v, by rw [← hv]; congr 1; omega, hr⟩
      · rw [if_neg hin] at hc
        rw [if_neg (by omega)]
        exact hrel j c hc
    · obtain ⟨r2', base2, us, el2, fz2, g1, g2, g3, g4⟩ := hwr id ds hd'
      have hne2 : r2' ≠ r := by
        rintro rfl
        exact hne (hp.inj.2 b id _ _ _ (by omega) hθ g1).symm
      exact ⟨r2', base2, us, el2, fz2, g1, by rw [setRow_other w r r2' new hne2]; exact g2, g3, g4⟩
  · intro k hk hno
    rw [setRow_other]
    rintro rfl
    refine hno b base hble' ?_ hθ
    exact hlt

end
end Go.Proofs.Ytconlkliclhbpaa.Sx
