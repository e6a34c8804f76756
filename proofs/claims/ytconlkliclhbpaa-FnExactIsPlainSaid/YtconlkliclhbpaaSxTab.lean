/- Tables of trees: the trees of a program's functions are summaries of them. -/
import Derived.Test.YtconlkliclhbpaaSxFn
import Derived.Test.YtconlkliclhbpaaSxEngB
import Derived.Laws.Externs
namespace Go.Proofs.Ytconlkliclhbpaa.Sx
open Go

def Gk (TT : Nat → T) : Nat → Gs
  | 0 => fun _ _ => none
  | k + 1 => fun g xs => (TT g).den (Gk TT k) xs
def Gt (TT : Nat → T) : Gs := fun g xs => Gk TT (g + 1) g xs

/-- every call is of a function below n -/
def T.callsLt (n : Nat) : T → Bool
  | .un _ _ _ t | .bin _ _ _ _ t | .cst _ _ t => t.callsLt n
  | .call g _ _ t => Nat.blt g n && t.callsLt n
  | .tst _ _ _ _ x y | .tsb _ _ _ x y | .br _ x y | .sw _ _ x y => x.callsLt n && y.callsLt n
  | _ => true

theorem den_congr {G G' : Gs} {n : Nat} (hG : ∀ g, g < n → ∀ xs, G g xs = G' g xs) : ∀ (t : T) (xs : List Sc), t.callsLt n = true → t.den G xs = t.den G' xs := by
  intro t
  induction t with
  | ret vs => intro xs _; rfl
  | bad w => intro xs _; rfl
  | un o k a t ih => intro xs h; simp only [T.callsLt] at h; simp only [T.den, ih _ h]
  | bin o k a b t ih => intro xs h; simp only [T.callsLt] at h; simp only [T.den, ih _ h]
  | cst k b t ih => intro xs h; simp only [T.callsLt] at h; simp only [T.den, ih _ h]
  | call g as m t ih =>
    intro xs h
    simp only [T.callsLt, Bool.and_eq_true, Nat.blt_eq] at h
    simp only [T.den, ih _ h.2, hG g h.1]
  | tst c k a b x y ihx ihy => intro xs h; simp only [T.callsLt, Bool.and_eq_true] at h; simp only [T.den, ihx _ h.1, ihy _ h.2]
  | tsb k a b x y ihx ihy => intro xs h; simp only [T.callsLt, Bool.and_eq_true] at h; simp only [T.den, ihx _ h.1, ihy _ h.2]
  | br r x y ihx ihy => intro xs h; simp only [T.callsLt, Bool.and_eq_true] at h; simp only [T.den, ihx _ h.1, ihy _ h.2]
  | sw r n x y ihx ihy => intro xs h; simp only [T.callsLt, Bool.and_eq_true] at h; simp only [T.den, ihx _ h.1, ihy _ h.2]

theorem Gk_stable {TT : Nat → T} (hc : ∀ g, (TT g).callsLt g = true) : ∀ (g k : Nat), g < k → ∀ xs, Gk TT k g xs = Gt TT g xs := by
  intro g
  induction g using Nat.strongRecOn with
  | ind g ih =>
    intro k hk xs
    match k, hk with
    | k + 1, hk =>
      show (TT g).den (Gk TT k) xs = (TT g).den (Gk TT g) xs
      refine den_congr (n := g) (fun h hh ys => ?_) _ _ (hc g)
      rw [ih h hh k (by omega) ys, ih h hh g hh ys]
theorem Gt_eq {TT : Nat → T} (hc : ∀ g, (TT g).callsLt g = true) (g : Nat) (xs : List Sc) : Gt TT g xs = (TT g).den (Gt TT) xs := by
  show (TT g).den (Gk TT g) xs = _
  exact den_congr (n := g) (fun h hh ys => Gk_stable hc h g hh ys) _ _ (hc g)

theorem findS_mem {f : FuncId} {s : Sum} : ∀ {sm : List (FuncId × Sum)}, findS f sm = some s → (f, s) ∈ sm
  | [], h => by simp [findS] at h
  | (g, u) :: r, h => by
    unfold findS at h
    split at h
    · rename_i e
      cases h
      rw [Nat.eq_of_beq_eq_true e]; exact List.mem_cons_self
    · exact List.mem_cons_of_mem _ (findS_mem h)
theorem findE_mem {f : FuncId} {s : Ext} : ∀ {sm : List (FuncId × Ext)}, findE f sm = some s → (f, s) ∈ sm
  | [], h => by simp [findE] at h
  | (g, u) :: r, h => by
    unfold findE at h
    split at h
    · rename_i e
      cases h
      rw [Nat.eq_of_beq_eq_true e]; exact List.mem_cons_self
    · exact List.mem_cons_of_mem _ (findE_mem h)

def entersB (P : Program) (f : FuncId) : Bool := match P.funcs[f]? with
  | some fn => fn.body.isSome && !(fn.name == "runtime.NumGoroutine")
  | none => false
theorem enters_ok {P : Program} {f : FuncId} (h : entersB P f = true) : Enters P f := by
  unfold entersB at h
  split at h
  · rename_i fn hf
    simp only [Bool.and_eq_true, Bool.not_eq_true'] at h
    obtain ⟨c, hc⟩ := Option.isSome_iff_exists.1 h.1
    exact enters_of hf h.2 hc
  · cases h

def Ext.name : Ext → String
  | .bits32 => "math.Float32bits"
  | .frombits64 => "math.Float64frombits"
  | .bits64 => "math.Float64bits"
  | .sqrt => "math.sqrt"
  | .rte => "math.RoundToEven"
def extB (P : Program) (p : FuncId × Ext) : Bool := match P.funcs[p.1]? with
  | some fn => fn.body.isNone && fn.name == p.2.name && fn.origin == ""
  | none => false
def seen (n : String) : Option (Array Value → Sem Value) := Extern.allRows.lookup n
theorem rows_bits32 : Extern.allGenericRows.lookup "math.Float32bits" = none ∧ Extern.allTypedRows.lookup "math.Float32bits" = none ∧ Extern.allRows.lookup "math.Float32bits" = some (Ext.sem .bits32) ∧ Extern.allNextRows.lookup "math.Float32bits" = none :=
  ⟨by kernel_rfl, by kernel_rfl, by kernel_rfl, by kernel_rfl⟩
theorem rows_frombits64 : Extern.allGenericRows.lookup "math.Float64frombits" = none ∧ Extern.allTypedRows.lookup "math.Float64frombits" = none ∧ Extern.allRows.lookup "math.Float64frombits" = some (Ext.sem .frombits64) ∧ Extern.allNextRows.lookup "math.Float64frombits" = none :=
  ⟨by kernel_rfl, by kernel_rfl, by kernel_rfl, by kernel_rfl⟩
theorem rows_bits64 : Extern.allGenericRows.lookup "math.Float64bits" = none ∧ Extern.allTypedRows.lookup "math.Float64bits" = none ∧ Extern.allRows.lookup "math.Float64bits" = some (Ext.sem .bits64) ∧ Extern.allNextRows.lookup "math.Float64bits" = none :=
  ⟨by kernel_rfl, by kernel_rfl, by kernel_rfl, by kernel_rfl⟩
theorem rows_sqrt : Extern.allGenericRows.lookup "math.sqrt" = none ∧ Extern.allTypedRows.lookup "math.sqrt" = none ∧ Extern.allRows.lookup "math.sqrt" = some (Ext.sem .sqrt) ∧ Extern.allNextRows.lookup "math.sqrt" = none :=
  ⟨by kernel_rfl, by kernel_rfl, by kernel_rfl, by kernel_rfl⟩
theorem rows_rte : Extern.allGenericRows.lookup "math.RoundToEven" = none ∧ Extern.allTypedRows.lookup "math.RoundToEven" = none ∧ Extern.allRows.lookup "math.RoundToEven" = some (Ext.sem .rte) ∧ Extern.allNextRows.lookup "math.RoundToEven" = none :=
  ⟨by kernel_rfl, by kernel_rfl, by kernel_rfl, by kernel_rfl⟩
theorem rows_ext (e : Ext) : Extern.allGenericRows.lookup e.name = none ∧ Extern.allTypedRows.lookup e.name = none ∧ Extern.allRows.lookup e.name = some e.sem ∧ Extern.allNextRows.lookup e.name = none := by
  cases e
  · exact rows_bits32
  · exact rows_frombits64
  · exact rows_bits64
  · exact rows_sqrt
  · exact rows_rte
theorem rows_nil : Extern.allNextRows.lookup "" = none := by kernel_rfl
theorem extB_ok {P : Program} {f : FuncId} {e : Ext} (h : extB P (f, e) = true) : ExtOk P f e := by
  unfold extB at h
  split at h
  · rename_i fn hf
    simp only [Bool.and_eq_true, beq_iff_eq] at h
    obtain ⟨⟨hb, hn⟩, ho⟩ := h
    obtain ⟨r1, r2, r3, r4⟩ := rows_ext e
    intro args w
    refine run_callFunc_extern hf ?_ hb ?_ ?_ args w
    · rw [hn]; cases e <;> decide +kernel
    · unfold Extern.findNext
      simp only [hn, ho, r4, rows_nil]
      rfl
    · unfold Extern.find
      simp only [hn, r1, r2, r3]
      rfl
  · cases h

/-- the trees of a table are summaries -/
structure TabOk (P : Program) (sm : List (FuncId × Sum)) (ex : List (FuncId × Ext)) (TT : Nat → T) : Prop where
  trees : ∀ p ∈ sm, treeOf P sm ex p.1 p.2 = TT p.2.idx
  enters : sm.all (fun p => entersB P p.1) = true
  exts : ex.all (extB P) = true
  mixed : P.follows .mixedOrders = true
  calls : ∀ g, (TT g).callsLt g = true

theorem TabOk.sums {P : Program} {sm : List (FuncId × Sum)} {ex : List (FuncId × Ext)} {TT : Nat → T} (h : TabOk P sm ex TT) : ∀ f s, findS f sm = some s → SumOk P f s (Gt TT) := by
  have hx : ∀ f e, findE f ex = some e → ExtOk P f e := fun f e he => extB_ok (List.all_eq_true.1 h.exts _ (findE_mem he))
  have he : ∀ f s, findS f sm = some s → Enters P f := fun f s hs => enters_ok (List.all_eq_true.1 h.enters _ (findS_mem hs))
  have main : ∀ k, ∀ f s, findS f sm = some s → SumOk P f s (Gk TT k) := by
    intro k
    induction k with
    | zero => exact fun f s hs => ⟨he f s hs, fun scs rs args w ha hf => by simp [Gk] at hf⟩
    | succ k ih =>
      intro f s hs
      refine ⟨he f s hs, ?_⟩
      have := treeOf_ok (G := Gk TT k) ih hx h.mixed f s
      rw [h.trees _ (findS_mem hs)] at this
      exact this
  intro f s hs
  refine ⟨he f s hs, ?_⟩
  have := (main (s.idx + 1) f s hs).call
  intro scs rs args w ha hf
  exact this scs rs args w ha hf

def TTof (ts : List T) : Nat → T := fun g => ts.getD g (.bad "")
def callsOk : Nat → List T → Bool
  | _, [] => true
  | n, t :: ts => t.callsLt n && callsOk (n + 1) ts
theorem callsOk_ok : ∀ {ts : List T} {n : Nat}, callsOk n ts = true → ∀ g, (ts.getD g (.bad "")).callsLt (n + g) = true
  | [], n, h, g => by simp [T.callsLt]
  | t :: ts, n, h, 0 => by simp only [callsOk, Bool.and_eq_true] at h; exact h.1
  | t :: ts, n, h, g + 1 => by
    simp only [callsOk, Bool.and_eq_true] at h
    have := callsOk_ok h.2 g
    rw [show n + 1 + g = n + (g + 1) by omega] at this
    simpa using this
theorem calls_of {ts : List T} (h : callsOk 0 ts = true) (g : Nat) : (TTof ts g).callsLt g = true := by
  have := callsOk_ok h g
  rw [Nat.zero_add] at this; exact this

/-! Modes -/
/-- a function that is run in its place -/
theorem inlOk {C : Cls} {TT : Nat → T} (hc : ∀ g, (TT g).callsLt g = true) (g : Nat) (ht : (TT g).testsOk = true) : ModeOk C (Gt TT) g (.inl (TT g)) :=
  ⟨fun t e => by cases e; exact ⟨ht, fun xs ys h => by rw [Gt_eq hc, h]⟩, fun c as rs same e => by cases e⟩
def testsAll (ts : List T) : Bool := ts.all T.testsOk
theorem tests_of {ts : List T} (h : testsAll ts = true) (g : Nat) : (TTof ts g).testsOk = true := by
  unfold TTof
  by_cases hg : g < ts.length
  · rw [List.getD_eq_getElem?_getD, List.getElem?_eq_getElem hg]
    exact List.all_eq_true.1 h _ (List.getElem_mem hg)
  · rw [List.getD_eq_getElem?_getD, List.getElem?_eq_none (by omega)]; rfl

/-- all run in their places but these -/
def modeOf (TT : Nat → T) (o : List (Nat × Mode)) : Nat → Mode := fun g => match o.lookup g with
  | some m => m
  | none => .inl (TT g)
theorem modeOf_ok {C : Cls} {TT : Nat → T} (hc : ∀ g, (TT g).callsLt g = true) (ht : ∀ g, (TT g).testsOk = true) {o : List (Nat × Mode)} (ho : ∀ g m, o.lookup g = some m → ModeOk C (Gt TT) g m) (g : Nat) :
    ModeOk C (Gt TT) g (modeOf TT o g) := by
  unfold modeOf
  split
  · rename_i m e; exact ho g m e
  · exact inlOk hc g (ht g)

theorem modes_ok {C : Cls} {G : Nat → List Sc → Option (List Sc)} : ∀ {l : List (Nat × Mode)}, (∀ p ∈ l, ModeOk C G p.1 p.2) → ∀ g m, l.lookup g = some m → ModeOk C G g m
  | [], h, g, m, e => by simp at e
  | (a, b) :: l, h, g, m, e => by
    rw [List.lookup_cons] at e
    split at e
    · rename_i e2
      cases e
      rw [eq_of_beq e2]; exact h (a, _) List.mem_cons_self
    · exact modes_ok (fun p hp => h p (List.mem_cons_of_mem _ hp)) g m e

/-- one of a class -/
theorem opqOk {TT : Nat → T} (hc : ∀ g, (TT g).callsLt g = true) (ht : ∀ g, (TT g).testsOk = true) (R : Rules) {md : Nat → Mode} (hmd : ∀ g, ModeOk (Gt TT) (Gt TT) g (md g))
    {c g : Nat} {as : List FloatKind} {rs : List RK} {same : Bool} (h : chkSame md as rs (TT c) (TT g) = .ok) (hs : same = true → ∃ k, as = [k, k] ∧ chkRefl md k (TT g) = .ok) :
    ModeOk (Gt TT) (Gt TT) g (.opq c as rs same) := by
  refine ⟨fun t e => (by cases e), fun c' as' rs' same' e xs hx => ?_⟩
  cases e
  obtain ⟨ys, h1, h2, h3⟩ := chkSame_ok R hmd (ht c) (ht g) h xs hx
  refine ⟨ys, by rw [Gt_eq hc, h2], by rw [Gt_eq hc, h1], h3, fun e x hxx => ?_⟩
  obtain ⟨k, rfl, hk⟩ := hs e
  subst hxx
  obtain ⟨d, xs', e1, d2, xs2, e2, e3⟩ := hx
  cases e1
  have := chkRefl_ok R hmd (ht g) hk d
  rw [this] at h2; cases h2; rfl

/-- THE LAW: always true -/
theorem law_ok {P : Program} {sm : List (FuncId × Sum)} {ex : List (FuncId × Ext)} {TT : Nat → T} (hT : TabOk P sm ex TT) (ht : ∀ g, (TT g).testsOk = true) (R : Rules)
    {md : Nat → Mode} (hmd : ∀ g, ModeOk (Gt TT) (Gt TT) g (md g)) {f : FuncId} {s : Sum} (hf : findS f sm = some s) {as : List FloatKind} (h : chkLaw md as (TT s.idx) = .ok)
    (hr : s.res = [.val .b]) {scs : List Sc} (hx : ArgFit as scs) {args : List Value} {w : World} (ha : ArgRels w s.args scs args) :
    Calls P f ⟨args⟩ w fun e w' => e = .returned (.bool true) ∧ RowKit.Below w.heap.size w w' := by
  have h1 := chkLaw_ok R hmd (ht s.idx) h scs hx
  rw [← Gt_eq hT.calls] at h1
  refine Calls.mono ((hT.sums f s hf).call scs _ args w ha h1) fun e w' hq => ?_
  obtain ⟨v, rfl, hv, hb⟩ := hq
  refine ⟨?_, hb⟩
  rw [hr] at hv
  obtain ⟨vs, h2, rfl⟩ := hv
  simp only [RsRels] at h2
  obtain ⟨x, xs', v, vs', e1, rfl, h3, rfl, rfl⟩ := h2
  obtain ⟨y, rfl, h4⟩ := h3
  simp at e1
  subst e1
  obtain ⟨z, h5, rfl⟩ := h4
  cases h5
  rfl
end Go.Proofs.Ytconlkliclhbpaa.Sx
