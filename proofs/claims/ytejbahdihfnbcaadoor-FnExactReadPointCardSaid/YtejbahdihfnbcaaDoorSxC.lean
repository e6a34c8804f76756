/- Tables of trees for a program's functions, and rows whose arguments are made of floats alone. -/
import Derived.Test.YtejbahdihfnbcaaDoorSxD
import Derived.Test.YtejbahdihfnbcaaDoorSxB
import Derived.Laws.Externs
import Derived.WalkKit
import Derived.ProofKit
import Derived.OpenShut
import Derived.Laws.Cover2
import Derived.Below
import Derived.ChangeSame
/- Tables of trees: the trees of a program's functions are summaries of them. -/
namespace Go.Proofs.YtejbahdihfnbcaaDoor.Sx
open Go
set_option linter.unusedSimpArgs false
set_option linter.unusedVariables false

def Gk (TT : Nat → T) : Nat → Gs
  | 0 => fun _ _ => none
  | k + 1 => fun g xs => (TT g).den (Gk TT k) xs
def Gt (TT : Nat → T) : Gs := fun g xs => Gk TT (g + 1) g xs

/-- every call is of a function below n -/
def T.callsLt (n : Nat) : T → Bool
  | .un _ _ _ t | .bin _ _ _ _ t | .cst _ _ t => t.callsLt n
  | .call g _ _ t => Nat.blt g n && t.callsLt n
  | .tst _ _ _ _ x y | .tsb _ _ _ x y | .br _ x y | .sw _ _ x y => x.callsLt n && y.callsLt n
  | _ => true

theorem den_congr {G G' : Gs} {n : Nat} (hG : ∀ g, g < n → ∀ xs, G g xs = G' g xs) : ∀ (t : T) (xs : List Sc), t.callsLt n = true → t.den G xs = t.den G' xs := by
  intro t
  induction t with
  | ret vs => intro xs _; rfl
  | bad w => intro xs _; rfl
  | un o k a t ih => intro xs h; simp only [T.callsLt] at h; simp only [T.den, ih _ h]
  | bin o k a b t ih => intro xs h; simp only [T.callsLt] at h; simp only [T.den, ih _ h]
  | cst k b t ih => intro xs h; simp only [T.callsLt] at h; simp only [T.den, ih _ h]
  | call g as m t ih =>
    intro xs h
    simp only [T.callsLt, Bool.and_eq_true, Nat.blt_eq] at h
    simp only [T.den, ih _ h.2, hG g h.1]
  | tst c k a b x y ihx ihy => intro xs h; simp only [T.callsLt, Bool.and_eq_true] at h; simp only [T.den, ihx _ h.1, ihy _ h.2]
  | tsb k a b x y ihx ihy => intro xs h; simp only [T.callsLt, Bool.and_eq_true] at h; simp only [T.den, ihx _ h.1, ihy _ h.2]
  | br r x y ihx ihy => intro xs h; simp only [T.callsLt, Bool.and_eq_true] at h; simp only [T.den, ihx _ h.1, ihy _ h.2]
  | sw r n x y ihx ihy => intro xs h; simp only [T.callsLt, Bool.and_eq_true] at h; simp only [T.den, ihx _ h.1, ihy _ h.2]

theorem Gk_stable {TT : Nat → T} (hc : ∀ g, (TT g).callsLt g = true) : ∀ (g k : Nat), g < k → ∀ xs, Gk TT k g xs = Gt TT g xs := by
  intro g
  induction g using Nat.strongRecOn with
  | ind g ih =>
    intro k hk xs
    match k, hk with
    | k + 1, hk =>
      show (TT g).den (Gk TT k) xs = (TT g).den (Gk TT g) xs
      refine den_congr (n := g) (fun h hh ys => ?_) _ _ (hc g)
      rw [ih h hh k (by omega) ys, ih h hh g hh ys]
theorem Gt_eq {TT : Nat → T} (hc : ∀ g, (TT g).callsLt g = true) (g : Nat) (xs : List Sc) : Gt TT g xs = (TT g).den (Gt TT) xs := by
  show (TT g).den (Gk TT g) xs = _
  exact den_congr (n := g) (fun h hh ys => Gk_stable hc h g hh ys) _ _ (hc g)

theorem findS_mem {f : FuncId} {s : Sum} : ∀ {sm : List (FuncId × Sum)}, findS f sm = some s → (f, s) ∈ sm
  | [], h => by simp [findS] at h
  | (g, u) :: r, h => by
    unfold findS at h
    split at h
    · rename_i e
      cases h
      rw [Nat.eq_of_beq_eq_true e]; exact List.mem_cons_self
    · exact List.mem_cons_of_mem _ (findS_mem h)
theorem findE_mem {f : FuncId} {s : Ext} : ∀ {sm : List (FuncId × Ext)}, findE f sm = some s → (f, s) ∈ sm
  | [], h => by simp [findE] at h
  | (g, u) :: r, h => by
    unfold findE at h
    split at h
    · rename_i e
      cases h
      rw [Nat.eq_of_beq_eq_true e]; exact List.mem_cons_self
    · exact List.mem_cons_of_mem _ (findE_mem h)

def entersB (P : Program) (f : FuncId) : Bool := match P.funcs[f]? with
  | some fn => fn.body.isSome && !(fn.name == "runtime.NumGoroutine")
  | none => false
theorem enters_ok {P : Program} {f : FuncId} (h : entersB P f = true) : Enters P f := by
  unfold entersB at h
  split at h
  · rename_i fn hf
    simp only [Bool.and_eq_true, Bool.not_eq_true'] at h
    obtain ⟨c, hc⟩ := Option.isSome_iff_exists.1 h.1
    exact enters_of hf h.2 hc
  · cases h

def Ext.name : Ext → String
  | .bits32 => "math.Float32bits"
  | .frombits64 => "math.Float64frombits"
  | .bits64 => "math.Float64bits"
  | .sqrt => "math.sqrt"
  | .rte => "math.RoundToEven"
def extB (P : Program) (p : FuncId × Ext) : Bool := match P.funcs[p.1]? with
  | some fn => fn.body.isNone && fn.name == p.2.name && fn.origin == ""
  | none => false
def seen (n : String) : Option (Array Value → Sem Value) := Extern.allRows.lookup n
theorem rows_bits32 : Extern.allGenericRows.lookup "math.Float32bits" = none ∧ Extern.allTypedRows.lookup "math.Float32bits" = none ∧ Extern.allRows.lookup "math.Float32bits" = some (Ext.sem .bits32) ∧ Extern.allNextRows.lookup "math.Float32bits" = none :=
  ⟨by kernel_rfl, by kernel_rfl, by kernel_rfl, by kernel_rfl⟩
theorem rows_frombits64 : Extern.allGenericRows.lookup "math.Float64frombits" = none ∧ Extern.allTypedRows.lookup "math.Float64frombits" = none ∧ Extern.allRows.lookup "math.Float64frombits" = some (Ext.sem .frombits64) ∧ Extern.allNextRows.lookup "math.Float64frombits" = none :=
  ⟨by kernel_rfl, by kernel_rfl, by kernel_rfl, by kernel_rfl⟩
theorem rows_bits64 : Extern.allGenericRows.lookup "math.Float64bits" = none ∧ Extern.allTypedRows.lookup "math.Float64bits" = none ∧ Extern.allRows.lookup "math.Float64bits" = some (Ext.sem .bits64) ∧ Extern.allNextRows.lookup "math.Float64bits" = none :=
  ⟨by kernel_rfl, by kernel_rfl, by kernel_rfl, by kernel_rfl⟩
theorem rows_sqrt : Extern.allGenericRows.lookup "math.sqrt" = none ∧ Extern.allTypedRows.lookup "math.sqrt" = none ∧ Extern.allRows.lookup "math.sqrt" = some (Ext.sem .sqrt) ∧ Extern.allNextRows.lookup "math.sqrt" = none :=
  ⟨by kernel_rfl, by kernel_rfl, by kernel_rfl, by kernel_rfl⟩
theorem rows_rte : Extern.allGenericRows.lookup "math.RoundToEven" = none ∧ Extern.allTypedRows.lookup "math.RoundToEven" = none ∧ Extern.allRows.lookup "math.RoundToEven" = some (Ext.sem .rte) ∧ Extern.allNextRows.lookup "math.RoundToEven" = none :=
  ⟨by kernel_rfl, by kernel_rfl, by kernel_rfl, by kernel_rfl⟩
theorem rows_ext (e : Ext) : Extern.allGenericRows.lookup e.name = none ∧ Extern.allTypedRows.lookup e.name = none ∧ Extern.allRows.lookup e.name = some e.sem ∧ Extern.allNextRows.lookup e.name = none := by
  cases e
  · exact rows_bits32
  · exact rows_frombits64
  · exact rows_bits64
  · exact rows_sqrt
  · exact rows_rte
theorem rows_nil : Extern.allNextRows.lookup "" = none := by kernel_rfl
theorem extB_ok {P : Program} {f : FuncId} {e : Ext} (h : extB P (f, e) = true) : ExtOk P f e := by
  unfold extB at h
  split at h
  · rename_i fn hf
    simp only [Bool.and_eq_true, beq_iff_eq] at h
    obtain ⟨⟨hb, hn⟩, ho⟩ := h
    obtain ⟨r1, r2, r3, r4⟩ := rows_ext e
    intro args w
    refine run_callFunc_extern hf ?_ hb ?_ ?_ args w
    · rw [hn]; cases e <;> decide +kernel
    · unfold Extern.findNext
      simp only [hn, ho, r4, rows_nil]
      rfl
    · unfold Extern.find
      simp only [hn, r1, r2, r3]
      rfl
  · cases h

/-- the trees of a table are summaries -/
structure TabOk (P : Program) (sm : List (FuncId × Sum)) (ex : List (FuncId × Ext)) (TT : Nat → T) : Prop where
  trees : ∀ p ∈ sm, treeOf P sm ex p.1 p.2 = TT p.2.idx
  enters : sm.all (fun p => entersB P p.1) = true
  exts : ex.all (extB P) = true
  mixed : P.follows .mixedOrders = true
  calls : ∀ g, (TT g).callsLt g = true

theorem TabOk.sums {P : Program} {sm : List (FuncId × Sum)} {ex : List (FuncId × Ext)} {TT : Nat → T} (h : TabOk P sm ex TT) : ∀ f s, findS f sm = some s → SumOk P f s (Gt TT) := by
  have hx : ∀ f e, findE f ex = some e → ExtOk P f e := fun f e he => extB_ok (List.all_eq_true.1 h.exts _ (findE_mem he))
  have he : ∀ f s, findS f sm = some s → Enters P f := fun f s hs => enters_ok (List.all_eq_true.1 h.enters _ (findS_mem hs))
  have main : ∀ k, ∀ f s, findS f sm = some s → SumOk P f s (Gk TT k) := by
    intro k
    induction k with
    | zero => exact fun f s hs => ⟨he f s hs, fun scs rs args w ha hf => by simp [Gk] at hf⟩
    | succ k ih =>
      intro f s hs
      refine ⟨he f s hs, ?_⟩
      have := treeOf_ok (G := Gk TT k) ih hx h.mixed f s
      rw [h.trees _ (findS_mem hs)] at this
      exact this
  intro f s hs
  refine ⟨he f s hs, ?_⟩
  have := (main (s.idx + 1) f s hs).call
  intro scs rs args w ha hf
  exact this scs rs args w ha hf

def TTof (ts : List T) : Nat → T := fun g => ts.getD g (.bad "")
def callsOk : Nat → List T → Bool
  | _, [] => true
  | n, t :: ts => t.callsLt n && callsOk (n + 1) ts
theorem callsOk_ok : ∀ {ts : List T} {n : Nat}, callsOk n ts = true → ∀ g, (ts.getD g (.bad "")).callsLt (n + g) = true
  | [], n, h, g => by simp [T.callsLt]
  | t :: ts, n, h, 0 => by simp only [callsOk, Bool.and_eq_true] at h; exact h.1
  | t :: ts, n, h, g + 1 => by
    simp only [callsOk, Bool.and_eq_true] at h
    have := callsOk_ok h.2 g
    rw [show n + 1 + g = n + (g + 1) by omega] at this
    simpa using this
theorem calls_of {ts : List T} (h : callsOk 0 ts = true) (g : Nat) : (TTof ts g).callsLt g = true := by
  have := callsOk_ok h g
  rw [Nat.zero_add] at this; exact this

/-! Modes -/
/-- a function that is run in its place -/
theorem inlOk {C : Cls} {TT : Nat → T} (hc : ∀ g, (TT g).callsLt g = true) (g : Nat) (ht : (TT g).testsOk = true) : ModeOk C (Gt TT) g (.inl (TT g)) :=
  ⟨fun t e => by cases e; exact ⟨ht, fun xs ys h => by rw [Gt_eq hc, h]⟩, fun c as rs same e => (by cases e), fun c as t e => (by cases e)⟩
def testsAll (ts : List T) : Bool := ts.all T.testsOk
theorem tests_of {ts : List T} (h : testsAll ts = true) (g : Nat) : (TTof ts g).testsOk = true := by
  unfold TTof
  by_cases hg : g < ts.length
  · rw [List.getD_eq_getElem?_getD, List.getElem?_eq_getElem hg]
    exact List.all_eq_true.1 h _ (List.getElem_mem hg)
  · rw [List.getD_eq_getElem?_getD, List.getElem?_eq_none (by omega)]; rfl

/-- all run in their places but these -/
def modeOf (TT : Nat → T) (o : List (Nat × Mode)) : Nat → Mode := fun g => match o.lookup g with
  | some m => m
  | none => .inl (TT g)
theorem modeOf_ok {C : Cls} {TT : Nat → T} (hc : ∀ g, (TT g).callsLt g = true) (ht : ∀ g, (TT g).testsOk = true) {o : List (Nat × Mode)} (ho : ∀ g m, o.lookup g = some m → ModeOk C (Gt TT) g m) (g : Nat) :
    ModeOk C (Gt TT) g (modeOf TT o g) := by
  unfold modeOf
  split
  · rename_i m e; exact ho g m e
  · exact inlOk hc g (ht g)

theorem modes_ok {C : Cls} {G : Nat → List Sc → Option (List Sc)} : ∀ {l : List (Nat × Mode)}, (∀ p ∈ l, ModeOk C G p.1 p.2) → ∀ g m, l.lookup g = some m → ModeOk C G g m
  | [], h, g, m, e => by simp at e
  | (a, b) :: l, h, g, m, e => by
    rw [List.lookup_cons] at e
    split at e
    · rename_i e2
      cases e
      rw [eq_of_beq e2]; exact h (a, _) List.mem_cons_self
    · exact modes_ok (fun p hp => h p (List.mem_cons_of_mem _ hp)) g m e

/-- one of a class -/
theorem opqOk {TT : Nat → T} (hc : ∀ g, (TT g).callsLt g = true) (ht : ∀ g, (TT g).testsOk = true) (R : Rules) {md : Nat → Mode} (hmd : ∀ g, ModeOk (Gt TT) (Gt TT) g (md g))
    {c g : Nat} {as : List FloatKind} {rs : List RK} {same : Bool} (h : chkSame md as rs (TT c) (TT g) = .ok) (hs : same = true → ∃ k, as = [k, k] ∧ chkRefl md k (TT g) = .ok) :
    ModeOk (Gt TT) (Gt TT) g (.opq c as rs same) := by
  refine ⟨fun t e => (by cases e), fun c' as' rs' same' e xs hx => ?_, fun c as t e => (by cases e)⟩
  cases e
  obtain ⟨ys, h1, h2, h3⟩ := chkSame_ok R hmd (ht c) (ht g) h xs hx
  refine ⟨ys, by rw [Gt_eq hc, h2], by rw [Gt_eq hc, h1], h3, fun e x hxx => ?_⟩
  obtain ⟨k, rfl, hk⟩ := hs e
  subst hxx
  obtain ⟨d, xs', e1, d2, xs2, e2, e3⟩ := hx
  cases e1
  have := chkRefl_ok R hmd (ht g) hk d
  rw [this] at h2; cases h2; rfl

/-- a test of a class -/
theorem optOk {TT : Nat → T} (hc : ∀ g, (TT g).callsLt g = true) (ht : ∀ g, (TT g).testsOk = true) (R : Rules) {md : Nat → Mode} (hmd : ∀ g, ModeOk (Gt TT) (Gt TT) g (md g))
    {c g : Nat} {as : List FloatKind} (h : chkSame md as [.b] (TT c) (TT g) = .ok) : ModeOk (Gt TT) (Gt TT) g (.opt c as (TT g)) := by
  refine ⟨fun t e => (by cases e), fun c' as' rs' same' e => (by cases e), fun c as t e => ?_⟩
  cases e
  refine ⟨ht g, fun xs hx => ?_⟩
  obtain ⟨ys, h1, h2, h3⟩ := chkSame_ok R hmd (ht c) (ht g) h xs hx
  obtain ⟨x, xs', rfl, ⟨v, rfl⟩, rfl⟩ := h3
  exact ⟨v, by rw [Gt_eq hc, h2], by rw [Gt_eq hc, h1], h2⟩

/-- THE LAW: always true -/
theorem law_ok {P : Program} {sm : List (FuncId × Sum)} {ex : List (FuncId × Ext)} {TT : Nat → T} (hT : TabOk P sm ex TT) (ht : ∀ g, (TT g).testsOk = true) (R : Rules)
    {md : Nat → Mode} (hmd : ∀ g, ModeOk (Gt TT) (Gt TT) g (md g)) {f : FuncId} {s : Sum} (hf : findS f sm = some s) {as : List FloatKind} (h : chkLaw md as (TT s.idx) = .ok)
    (hr : s.res = [.val .b]) {scs : List Sc} (hx : ArgFit as scs) {args : List Value} {w : World} (ha : ArgRels w s.args scs args) :
    Calls P f ⟨args⟩ w fun e w' => e = .returned (.bool true) ∧ RowKit.Below w.heap.size w w' := by
  have h1 := chkLaw_ok R hmd (ht s.idx) h scs hx
  rw [← Gt_eq hT.calls] at h1
  refine Calls.mono ((hT.sums f s hf).call scs _ args w ha h1) fun e w' hq => ?_
  obtain ⟨v, rfl, hv, hb⟩ := hq
  refine ⟨?_, hb⟩
  rw [hr] at hv
  obtain ⟨vs, h2, rfl⟩ := hv
  simp only [RsRels] at h2
  obtain ⟨x, xs', v, vs', e1, rfl, h3, rfl, rfl⟩ := h2
  obtain ⟨y, rfl, h4⟩ := h3
  simp at e1
  subst e1
  obtain ⟨z, h5, rfl⟩ := h4
  cases h5
  rfl
end Go.Proofs.YtejbahdihfnbcaaDoor.Sx

/- Rows: arguments that are made of floats alone. -/
namespace Go.Proofs.YtejbahdihfnbcaaDoor.Sx
open Go Go.ChangeShapes Go.WideShapes Go.ChangeAt Go.RowKit
set_option linter.unusedSimpArgs false
set_option linter.unusedVariables false

/-- the fields' floats, one behind the other from a cell on -/
def flatFs (P : Program) (flat : TypeId → Option (List FloatKind)) : List Field → Nat → Option (List FloatKind × Nat)
  | [], o => some ([], o)
  | f :: r, o => match flat f.type with
    | some ks => match Nat.beq f.offset o && Nat.beq (P.cellsOf f.type) ks.length with
      | true => match flatFs P flat r (Nat.add o ks.length) with
        | some (ls, e) => some (ks ++ ls, e)
        | none => none
      | false => none
    | none => none
/-- the floats that a type is made of -/
def flat (P : Program) : Nat → TypeId → Option (List FloatKind)
  | 0, _ => none
  | n + 1, t => match P.underlying t with
    | some (.float k) => some [k]
    | some (.struct fs) => match flatFs P (flat P n) fs.toList 0 with
      | some (ks, e) => match Nat.beq e (P.cellsOf t) with | true => some ks | false => none
      | none => none
    | some (.array m e) => match flat P n e with
      | some ks => match Nat.beq (P.cellsOf e) ks.length && Nat.beq (Nat.mul m ks.length) (P.cellsOf t) with
        | true => some (List.replicate m ks).flatten
        | false => none
      | none => none
    | _ => none

abbrev fsk (ks : List FloatKind) : List SK := ks.map SK.f
theorem ScRels.app : ∀ {ss ts : List SK} {xs ys : List Sc} {vs ws : List Value}, ScRels ss xs vs → ScRels ts ys ws → ScRels (ss ++ ts) (xs ++ ys) (vs ++ ws)
  | [], ts, xs, ys, vs, ws, h, k => by
    obtain ⟨rfl, rfl⟩ := h; exact k
  | s :: ss, ts, _, ys, _, ws, ⟨x, xs', v, vs', rfl, rfl, h1, h2⟩, k => ⟨x, xs' ++ ys, v, vs' ++ ws, rfl, rfl, h1, ScRels.app h2 k⟩
theorem frel_canon {k : FloatKind} {b : Nat} (h : (Lit.float k b).wf = true) : FRel k b (canon k b) := by
  refine ⟨?_, rfl⟩
  cases k <;> simp [Lit.wf] at h <;> simp [fltOk] <;> exact h

section
variable {H : Type} {enc : TypeId × Value → H} {P : Program}

/-- what is said of a reading -/
def Says (enc : TypeId × Value → H) (P : Program) (fuel : Nat) (t : TypeId) (cs : List Value) (ks : List FloatKind) (x : DataW H × List MemPlace) : Prop :=
  x.2 = [] ∧ (∃ xs, ScRels (fsk ks) xs cs) ∧ ∀ (w : World) (base : Nat) (sp : Nat → Bool) (held : Bool), DataW.trod enc P w base sp held fuel t cs = some x

theorem mapM_says {α β : Type} {f : α → Option β} : ∀ {l : List α} {ys : List β}, l.mapM f = some ys → ∀ {g : α → Option β}, (∀ a ∈ l, ∀ b, f a = some b → g a = some b) → l.mapM g = some ys
  | [], ys, h, g, hg => by simpa using h
  | a :: l, ys, h, g, hg => by
    simp only [List.mapM_cons, Option.bind_eq_bind, Option.bind_eq_some_iff, Option.pure_def] at h ⊢
    obtain ⟨b, h1, bs, h2, h3⟩ := h
    exact ⟨b, hg a List.mem_cons_self b h1, bs, mapM_says h2 (fun a' ha => hg a' (List.mem_cons_of_mem _ ha)), h3⟩

theorem fields_ok {n m : Nat} {w : World} {base : Nat} {sp : Nat → Bool} {held : Bool} (ih : ∀ {t : TypeId} {cs : List Value} {ks : List FloatKind} {x : DataW H × List MemPlace}, flat P n t = some ks → DataW.trod enc P w base sp held m t cs = some x → Says enc P m t cs ks x) :
    ∀ {fs : List Field} {o e : Nat} {ks : List FloatKind} {cs : List Value} {xs : List (DataW H × List MemPlace)}, flatFs P (flat P n) fs o = some (ks, e) → cs.length = e →
      (fs.mapM fun f => DataW.trod enc P w base sp held m f.type ((cs.drop f.offset).take (P.cellsOf f.type))) = some xs →
      o ≤ e ∧ xs.flatMap (·.2) = [] ∧ (∃ zs, ScRels (fsk ks) zs (cs.drop o)) ∧ ∀ (w : World) (base : Nat) (sp : Nat → Bool) (held : Bool), (fs.mapM fun f => DataW.trod enc P w base sp held m f.type ((cs.drop f.offset).take (P.cellsOf f.type))) = some xs
  | [], o, e, ks, cs, xs, h, hl, hm => by
    simp [flatFs] at h
    obtain ⟨rfl, rfl⟩ := h
    simp at hm; subst hm
    refine ⟨Nat.le_refl _, rfl, ⟨[], ?_⟩, fun _ _ _ _ => rfl⟩
    rw [List.drop_eq_nil_of_le (by omega)]; exact ⟨rfl, rfl⟩
  | f :: r, o, e, ks, cs, xs, h, hl, hm => by
    unfold flatFs at h
    split at h
    · rename_i ks1 hk
      split at h
      · rename_i hc
        simp only [Bool.and_eq_true] at hc
        have ho := Nat.eq_of_beq_eq_true hc.1
        have hs := Nat.eq_of_beq_eq_true hc.2
        split at h
        · rename_i ls e' hr
          cases h
          simp only [List.mapM_cons, Option.bind_eq_bind, Option.bind_eq_some_iff, Option.pure_def] at hm
          obtain ⟨x, h1, xs', h2, h3⟩ := hm
          cases h3
          obtain ⟨s1, ⟨z1, s2⟩, s3⟩ := ih hk h1
          obtain ⟨r0, r1, ⟨z2, r2⟩, r3⟩ := fields_ok ih hr hl h2
          have r0' : o + ks1.length ≤ e := r0
          refine ⟨by omega, by simp [s1, r1], ⟨z1 ++ z2, ?_⟩, fun w' base' sp' held' => ?_⟩
          · have := s2.app r2
            rw [ho, hs] at this
            rw [show fsk (ks1 ++ ls) = fsk ks1 ++ fsk ls by simp [fsk]]
            have e : (cs.drop o).take ks1.length ++ cs.drop (o + ks1.length) = cs.drop o := by
              rw [← List.drop_drop]; exact List.take_append_drop _ _
            have e' : Nat.add o ks1.length = o + ks1.length := rfl
            rw [e', e] at this
            exact this
          · simp only [List.mapM_cons, Option.bind_eq_bind, Option.bind_eq_some_iff, Option.pure_def]
            exact ⟨x, s3 _ _ _ _, xs', r3 _ _ _ _, rfl⟩
        · cases h
      · cases h
    · cases h

theorem flatten_drop {ks : List FloatKind} {zs : Nat → List Value} : True := trivial

theorem cells_ok {n m : Nat} {w : World} {base : Nat} {sp : Nat → Bool} {held : Bool} (ih : ∀ {t : TypeId} {cs : List Value} {ks : List FloatKind} {x : DataW H × List MemPlace}, flat P n t = some ks → DataW.trod enc P w base sp held m t cs = some x → Says enc P m t cs ks x)
    {e : TypeId} {ks : List FloatKind} (hk : flat P n e = some ks) (hs : P.cellsOf e = ks.length) {cs : List Value} :
    ∀ (q i : Nat) {xs : List (DataW H × List MemPlace)}, cs.length = (i + q) * ks.length → ((List.range' i q).mapM fun j => DataW.trod enc P w base sp held m e ((cs.drop (j * P.cellsOf e)).take (P.cellsOf e))) = some xs →
      xs.flatMap (·.2) = [] ∧ (∃ zs, ScRels (fsk (List.replicate q ks).flatten) zs (cs.drop (i * ks.length))) ∧
        ∀ (w : World) (base : Nat) (sp : Nat → Bool) (held : Bool), ((List.range' i q).mapM fun j => DataW.trod enc P w base sp held m e ((cs.drop (j * P.cellsOf e)).take (P.cellsOf e))) = some xs
  | 0, i, xs, hl, hm => by
    simp at hm; subst hm
    refine ⟨rfl, ⟨[], ?_⟩, fun _ _ _ _ => by simp⟩
    rw [List.drop_eq_nil_of_le (by rw [hl]; simp)]; exact ⟨rfl, rfl⟩
  | q + 1, i, xs, hl, hm => by
    simp only [List.range'_succ, List.mapM_cons, Option.bind_eq_bind, Option.bind_eq_some_iff, Option.pure_def] at hm
    obtain ⟨x, h1, xs', h2, h3⟩ := hm
    cases h3
    obtain ⟨s1, ⟨z1, s2⟩, s3⟩ := ih hk h1
    obtain ⟨r1, ⟨z2, r2⟩, r3⟩ := cells_ok ih hk hs q (i + 1) (by rw [hl]; congr 1; omega) h2
    refine ⟨by simp [s1, r1], ⟨z1 ++ z2, ?_⟩, fun w' base' sp' held' => ?_⟩
    · have := s2.app r2
      rw [hs] at this
      rw [show fsk (List.replicate (q + 1) ks).flatten = fsk ks ++ fsk (List.replicate q ks).flatten by simp [fsk, List.replicate_succ]]
      have e : (cs.drop (i * ks.length)).take ks.length ++ cs.drop ((i + 1) * ks.length) = cs.drop (i * ks.length) := by
        rw [Nat.succ_mul, ← List.drop_drop]; exact List.take_append_drop _ _
      rw [e] at this; exact this
    · simp only [List.range'_succ, List.mapM_cons, Option.bind_eq_bind, Option.bind_eq_some_iff, Option.pure_def]
      exact ⟨x, s3 _ _ _ _, xs', r3 _ _ _ _, rfl⟩

theorem trod_float_eq {w : World} {base : Nat} {sp : Nat → Bool} {held : Bool} {m : Nat} {t : TypeId} {k : FloatKind} {cs : List Value} (hu : P.underlying t = some (.float k)) {x : DataW H × List MemPlace}
    (h : DataW.trod enc P w base sp held (m + 1) t cs = some x) : ∃ b, cs = [.float k b] ∧ (Lit.float k b).wf = true ∧ x = (.lit (.float k b), []) := by
  unfold DataW.trod at h
  rw [hu] at h
  split at h <;> simp_all
theorem trod_struct_eq {w : World} {base : Nat} {sp : Nat → Bool} {held : Bool} {m : Nat} {t : TypeId} {fs : Array Field} {cs : List Value} (hu : P.underlying t = some (.struct fs)) :
    DataW.trod enc P w base sp held (m + 1) t cs = if cs.length = P.cellsOf t then (fs.toList.mapM fun f => DataW.trod enc P w base sp held m f.type ((cs.drop f.offset).take (P.cellsOf f.type))).map fun xs => (.agg (xs.map (·.1)), xs.flatMap (·.2)) else none := by
  conv => lhs; unfold DataW.trod
  rw [hu]
theorem trod_array_eq {w : World} {base : Nat} {sp : Nat → Bool} {held : Bool} {m n : Nat} {t e : TypeId} {cs : List Value} (hu : P.underlying t = some (.array n e)) :
    DataW.trod enc P w base sp held (m + 1) t cs = if cs.length = P.cellsOf t then ((List.range n).mapM fun i => DataW.trod enc P w base sp held m e ((cs.drop (i * P.cellsOf e)).take (P.cellsOf e))).map fun xs => (.agg (xs.map (·.1)), xs.flatMap (·.2)) else none := by
  conv => lhs; unfold DataW.trod
  rw [hu]

theorem flat_ok {w : World} {base : Nat} {sp : Nat → Bool} {held : Bool} : ∀ (n : Nat) {m : Nat} {t : TypeId} {cs : List Value} {ks : List FloatKind} {x : DataW H × List MemPlace}, flat P n t = some ks → DataW.trod enc P w base sp held m t cs = some x → Says enc P m t cs ks x
  | 0, m, t, cs, ks, x, hf, h => by simp [flat] at hf
  | n + 1, 0, t, cs, ks, x, hf, h => by simp [DataW.trod] at h
  | n + 1, m + 1, t, cs, ks, x, hf, h => by
    unfold flat at hf
    split at hf
    · rename_i k hu
      cases hf
      obtain ⟨b, rfl, hw, rfl⟩ := trod_float_eq hu h
      refine ⟨rfl, ⟨[.f k (canon k b)], ?_⟩, fun w base sp held => ?_⟩
      · exact ⟨_, [], _, [], rfl, rfl, ⟨canon k b, b, rfl, rfl, frel_canon hw⟩, rfl, rfl⟩
      · unfold DataW.trod; simp [hu, hw]
    · rename_i fs hu
      split at hf
      · rename_i ks' e hfs
        split at hf
        · rename_i he
          cases hf
          have he := Nat.eq_of_beq_eq_true he
          rw [trod_struct_eq hu] at h
          split at h
          · rename_i hl
            rw [Option.map_eq_some_iff] at h
            obtain ⟨xs, h1, rfl⟩ := h
            obtain ⟨_, q1, q2, q3⟩ := fields_ok (fun {t cs ks x} a b => flat_ok n a b) hfs (by rw [hl, he]) h1
            refine ⟨q1, by simpa using q2, fun w base sp held => ?_⟩
            rw [trod_struct_eq hu, if_pos hl, q3]; rfl
          · cases h
        · cases hf
      · cases hf
    · rename_i q e hu
      split at hf
      · rename_i ks' hk
        split at hf
        · rename_i he
          cases hf
          simp only [Bool.and_eq_true] at he
          have h1 := Nat.eq_of_beq_eq_true he.1
          have h2 := Nat.eq_of_beq_eq_true he.2
          rw [trod_array_eq hu] at h
          split at h
          · rename_i hl
            rw [Option.map_eq_some_iff, List.range_eq_range'] at h
            obtain ⟨xs, h3, rfl⟩ := h
            have hq : cs.length = (0 + q) * ks'.length := by rw [hl, ← h2, Nat.zero_add]; rfl
            obtain ⟨q1, q2, q3⟩ := cells_ok (fun {t cs ks x} a b => flat_ok n a b) hk h1 q 0 hq h3
            refine ⟨q1, by simpa using q2, fun w base sp held => ?_⟩
            rw [trod_array_eq hu, if_pos hl, List.range_eq_range', q3]; rfl
          · cases h
        · cases hf
      · cases hf
    · cases hf

/-! The arguments of a row -/
def shT (P : Program) (t : TypeId) : Option Sh := match flat P 100 t with
  | some ks => match P.underlying t with
    | some (.float k) => some (.val (.f k))
    | some (.struct _) => some (.agg (fsk ks))
    | some (.array _ _) => some (.agg (fsk ks))
    | _ => none
  | none => none
/-- the shapes and the floats of a list of types -/
def shTs (P : Program) : List TypeId → Option (List Sh × List FloatKind)
  | [] => some ([], [])
  | t :: ts => match shT P t, flat P 100 t, shTs P ts with
    | some s, some ks, some (ss, ls) => some (s :: ss, ks ++ ls)
    | _, _, _ => none

theorem argFit_of : ∀ {ks : List FloatKind} {xs : List Sc} {vs : List Value}, ScRels (fsk ks) xs vs → ArgFit ks xs
  | [], xs, vs, h => h.1
  | k :: ks, _, _, ⟨x, xs', v, vs', rfl, _, ⟨d, b, h1, _⟩, h2⟩ => ⟨d, xs', by rw [h1], argFit_of h2⟩
theorem ArgFit.app : ∀ {ks ls : List FloatKind} {xs ys : List Sc}, ArgFit ks xs → ArgFit ls ys → ArgFit (ks ++ ls) (xs ++ ys)
  | [], ls, xs, ys, h, k => by rw [show xs = [] from h]; exact k
  | _ :: ks, ls, _, ys, ⟨d, xs', e, h2⟩, k => ⟨d, xs' ++ ys, by rw [e]; rfl, h2.app k⟩

theorem arg_ok {W : World} {base0 base : Nat} {sp : Nat → Bool} {held : Bool} {t : TypeId} {v : Value} {d : DataW H} {ps : List MemPlace} {s : Sh} {ks : List FloatKind} (hs : shT P t = some s) (hk : flat P 100 t = some ks)
    (hv : Value.okWide P W .any base0 t v) (h : DataW.Trod enc P W base sp held t v d ps) :
    ps = [] ∧ (∃ xs, ArgFit ks xs ∧ ∀ w, ArgRel w s xs v) ∧ ∀ (w : World) (base : Nat) (sp : Nat → Bool) (held : Bool), DataW.Trod enc P w base sp held t v d [] := by
  obtain ⟨fuel, h⟩ := h
  obtain ⟨h1, ⟨xs, h2⟩, h3⟩ := flat_ok 100 hk h
  dsimp only at h1
  subst h1
  refine ⟨rfl, ⟨xs, argFit_of h2, fun w => ?_⟩, fun w base sp held => ⟨fuel, h3 w base sp held⟩⟩
  unfold shT at hs
  rw [hk] at hs
  dsimp only at hs
  split at hs
  · rename_i k hu
    cases hs
    unfold flat at hk
    rw [hu] at hk
    cases hk
    obtain ⟨x, xs', v', vs', rfl, hv', hx, rfl, rfl⟩ := h2
    refine ⟨x, rfl, ?_⟩
    obtain ⟨d, b, rfl, rfl, f⟩ := hx
    refine ⟨d, b, rfl, ?_, f⟩
    obtain ⟨b', rfl⟩ := okWide_float hu hv
    simp [Value.cells] at hv'
    rw [hv']
  · rename_i fs hu
    cases hs
    obtain ⟨cs, rfl, _⟩ := okWide_struct hu hv
    exact ⟨cs.toList, rfl, h2⟩
  · rename_i n e hu
    cases hs
    unfold Value.okWide at hv
    rw [hu] at hv
    obtain ⟨cs, rfl, _⟩ := hv
    exact ⟨cs.toList, rfl, h2⟩
  · cases hs

theorem args_ok {W : World} {base0 base : Nat} {sp : Nat → Bool} {held : Bool} : ∀ {ts : List TypeId} {vs : List Value} {ds : List (DataW H)} {ps : List MemPlace} {ss : List Sh} {ks : List FloatKind}, shTs P ts = some (ss, ks) →
    (∀ (j : Nat) t v, ts[j]? = some t → vs[j]? = some v → Value.okWide P W .any base0 t v) → DataW.TrodAll enc P W base sp held ts vs ds ps →
    ps = [] ∧ ds.length = ts.length ∧ (∃ xs, ArgFit ks xs ∧ ∀ w, ArgRels w ss xs vs) ∧ ∀ (w : World) (base : Nat) (sp : Nat → Bool) (held : Bool), DataW.TrodAll enc P w base sp held ts vs ds []
  | [], [], [], ps, ss, ks, hs, hv, h => by
    simp [shTs] at hs
    obtain ⟨rfl, rfl⟩ := hs
    have : ps = [] := h
    exact ⟨this, rfl, ⟨[], rfl, fun w => ⟨rfl, rfl⟩⟩, fun _ _ _ _ => rfl⟩
  | [], _ :: _, _, ps, ss, ks, hs, hv, h => by simp [DataW.TrodAll] at h
  | [], [], _ :: _, ps, ss, ks, hs, hv, h => by simp [DataW.TrodAll] at h
  | _ :: _, [], _, ps, ss, ks, hs, hv, h => by simp [DataW.TrodAll] at h
  | _ :: _, _ :: _, [], ps, ss, ks, hs, hv, h => by simp [DataW.TrodAll] at h
  | t :: ts, v :: vs, d :: ds, ps, ss, ks, hs, hv, h => by
    obtain ⟨p, q, h1, h2, rfl⟩ := h
    unfold shTs at hs
    split at hs
    · rename_i s k1 ss' ls e1 e2 e3
      cases hs
      obtain ⟨rfl, ⟨x, a1, a2⟩, a3⟩ := arg_ok e1 e2 (hv 0 t v rfl rfl) h1
      obtain ⟨rfl, b0, ⟨y, b1, b2⟩, b3⟩ := args_ok e3 (fun j t v ht hj => hv (j + 1) t v (by simpa using ht) (by simpa using hj)) h2
      exact ⟨rfl, by simp [b0], ⟨x ++ y, a1.app b1, fun w => ⟨x, y, v, vs, rfl, rfl, a2 w, b2 w⟩⟩, fun w base sp held => ⟨[], [], a3 w base sp held, b3 w base sp held, rfl⟩⟩
    · cases hs
end

section
variable {H : Type} {enc : TypeId × Value → H} {P : Program}
theorem post_below {f : Func} {s : ChangeSpec} {apart fresh handsOn again : Bool} {W W' : World} {args : Array Value} {v : Value} {ds gs : List (DataW H)} {before pa pv : List MemPlace}
    (hW : DataW.Whole enc P f.params.toList s.vars apart W args.toList ds gs before)
    (hres : ∀ (b : Nat) (sp : Nat → Bool) (hd : Bool), DataW.TrodAll enc P W' b sp hd f.resultTypes.toList (v.resultList f.resultTypes.size) (s.fn H (ds ++ gs)).results [])
    (hargs : ∀ sp : Nat → Bool, (∀ p ∈ before, sp p.block = true) → DataW.TrodAll enc P W' 0 sp true f.params.toList args.toList (s.fn H (ds ++ gs)).args pa)
    (hvars : ∀ sp : Nat → Bool, (∀ p ∈ before, sp p.block = true) → DataW.TrodVars enc P W' sp s.vars (s.fn H (ds ++ gs)).vars pv)
    (hps : before = pa ++ pv) (hb : Below W.heap.size W W')
    (hok : ∀ (j : Nat) (t : TypeId) (r : Value), f.resultTypes[j]? = some t → (v.resultList f.resultTypes.size)[j]? = some r → Value.okWide P W' .any 0 t r) :
    s.post enc P f apart fresh handsOn again W args v W' := by
  have hlt : ∀ p ∈ before, p.block < W.heap.size := fun p hp => hW.lt p hp
  have hold : ∀ p ∈ before, (fun b => decide (b < W.heap.size)) p.block = true := fun p hp => by simpa using hlt p hp
  refine ⟨ds, gs, before, [], pa, pv, hW, hres _ _ _, hargs _ hold, hvars _ hold, World.keptBut_mono (fun p hp => ⟨hp, ?_⟩) (hb.frame (· ∈ before)), fun _ => ?_⟩
  · rw [hps, List.mem_append] at hp
    exact Or.inr hp
  · obtain ⟨_, _, _, _, _, hz, hn⟩ := hW
    refine ⟨hok, _, _, ([] ++ pa) ++ pv, ⟨[] ++ pa, pv, trodAll_append (hargs _ (fun _ _ => rfl)) (hres _ _ _), hvars _ (fun _ _ => rfl), rfl, ?_, ?_⟩, ?_⟩
    · intro b off hp
      have hin : MemPlace.cell b off ∈ before := by rw [hps]; simpa using hp
      rw [hb.frozen (hlt _ hin)]
      exact hz b off hin
    · intro ha
      have := hn ha
      rw [hps] at this
      simpa using this
    · intro p hp _
      rw [hps]
      simpa using hp
end

theorem list0 {α : Type} {l : List α} (h : l.length = 0) : l = [] := List.length_eq_zero_iff.1 h
theorem list1 {α : Type} {l : List α} (h : l.length = 1) : ∃ a, l = [a] := List.length_eq_one_iff.1 h
theorem listS {α : Type} {l : List α} {n : Nat} (h : l.length = n + 1) : ∃ a r, l = a :: r ∧ r.length = n := by
  match l, h with
  | a :: r, h => exact ⟨a, r, rfl, by simpa using h⟩
end Go.Proofs.YtejbahdihfnbcaaDoor.Sx

