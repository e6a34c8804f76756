/- Rows: arguments that are made of floats alone. -/
import Derived.Test.YtconlkliclhbpaaSxTab
import Derived.WalkKit
import Derived.ProofKit
import Derived.OpenShut
import Derived.Laws.Cover2
import Derived.Below
import Derived.ChangeSame
namespace Go.Proofs.Ytconlkliclhbpaa.Sx
open Go Go.ChangeShapes Go.WideShapes Go.ChangeAt Go.RowKit

/-- the fields' floats, one behind the other from a cell on -/
def flatFs (P : Program) (flat : TypeId → Option (List FloatKind)) : List Field → Nat → Option (List FloatKind × Nat)
  | [], o => some ([], o)
  | f :: r, o => match flat f.type with
    | some ks => match Nat.beq f.offset o && Nat.beq (P.cellsOf f.type) ks.length with
      | true => match flatFs P flat r (Nat.add o ks.length) with
        | some (ls, e) => some (ks ++ ls, e)
        | none => none
      | false => none
    | none => none
/-- the floats that a type is made of -/
def flat (P : Program) : Nat → TypeId → Option (List FloatKind)
  | 0, _ => none
  | n + 1, t => match P.underlying t with
    | some (.float k) => some [k]
    | some (.struct fs) => match flatFs P (flat P n) fs.toList 0 with
      | some (ks, e) => match Nat.beq e (P.cellsOf t) with | true => some ks | false => none
      | none => none
    | some (.array m e) => match flat P n e with
      | some ks => match Nat.beq (P.cellsOf e) ks.length && Nat.beq (Nat.mul m ks.length) (P.cellsOf t) with
        | true => some (List.replicate m ks).flatten
        | false => none
      | none => none
    | _ => none

abbrev fsk (ks : List FloatKind) : List SK := ks.map SK.f
theorem ScRels.app : ∀ {ss ts : List SK} {xs ys : List Sc} {vs ws : List Value}, ScRels ss xs vs → ScRels ts ys ws → ScRels (ss ++ ts) (xs ++ ys) (vs ++ ws)
  | [], ts, xs, ys, vs, ws, h, k => by
    obtain ⟨rfl, rfl⟩ := h; exact k
  | s :: ss, ts, _, ys, _, ws, ⟨x, xs', v, vs', rfl, rfl, h1, h2⟩, k => ⟨x, xs' ++ ys, v, vs' ++ ws, rfl, rfl, h1, ScRels.app h2 k⟩
theorem frel_canon {k : FloatKind} {b : Nat} (h : (Lit.float k b).wf = true) : FRel k b (canon k b) := by
  refine ⟨?_, rfl⟩
  cases k <;> simp [Lit.wf] at h <;> simp [fltOk] <;> exact h

section
variable {H : Type} {enc : TypeId × Value → H} {P : Program}

/-- what is said of a reading -/
def Says (enc : TypeId × Value → H) (P : Program) (fuel : Nat) (t : TypeId) (cs : List Value) (ks : List FloatKind) (x : DataW H × List MemPlace) : Prop :=
  x.2 = [] ∧ (∃ xs, ScRels (fsk ks) xs cs) ∧ ∀ (w : World) (base : Nat) (sp : Nat → Bool) (held : Bool), DataW.trod enc P w base sp held fuel t cs = some x

theorem mapM_says {α β : Type} {f : α → Option β} : ∀ {l : List α} {ys : List β}, l.mapM f = some ys → ∀ {g : α → Option β}, (∀ a ∈ l, ∀ b, f a = some b → g a = some b) → l.mapM g = some ys
  | [], ys, h, g, hg => by simpa using h
  | a :: l, ys, h, g, hg => by
    simp only [List.mapM_cons, Option.bind_eq_bind, Option.bind_eq_some_iff, Option.pure_def] at h ⊢
    obtain ⟨b, h1, bs, h2, h3⟩ := h
    exact ⟨b, hg a List.mem_cons_self b h1, bs, mapM_says h2 (fun a' ha => hg a' (List.mem_cons_of_mem _ ha)), h3⟩

theorem fields_ok {n m : Nat} {w : World} {base : Nat} {sp : Nat → Bool} {held : Bool} (ih : ∀ {t : TypeId} {cs : List Value} {ks : List FloatKind} {x : DataW H × List MemPlace}, flat P n t = some ks → DataW.trod enc P w base sp held m t cs = some x → Says enc P m t cs ks x) :
    ∀ {fs : List Field} {o e : Nat} {ks : List FloatKind} {cs : List Value} {xs : List (DataW H × List MemPlace)}, flatFs P (flat P n) fs o = some (ks, e) → cs.length = e →
      (fs.mapM fun f => DataW.trod enc P w base sp held m f.type ((cs.drop f.offset).take (P.cellsOf f.type))) = some xs →
      o ≤ e ∧ xs.flatMap (·.2) = [] ∧ (∃ zs, ScRels (fsk ks) zs (cs.drop o)) ∧ ∀ (w : World) (base : Nat) (sp : Nat → Bool) (held : Bool), (fs.mapM fun f => DataW.trod enc P w base sp held m f.type ((cs.drop f.offset).take (P.cellsOf f.type))) = some xs
  | [], o, e, ks, cs, xs, h, hl, hm => by
    simp [flatFs] at h
    obtain ⟨rfl, rfl⟩ := h
    simp at hm; subst hm
    refine ⟨Nat.le_refl _, rfl, ⟨[], ?_⟩, fun _ _ _ _ => rfl⟩
    rw [List.drop_eq_nil_of_le (by omega)]; exact ⟨rfl, rfl⟩
  | f :: r, o, e, ks, cs, xs, h, hl, hm => by
    unfold flatFs at h
    split at h
    · rename_i ks1 hk
      split at h
      · rename_i hc
        simp only [Bool.and_eq_true] at hc
        have ho := Nat.eq_of_beq_eq_true hc.1
        have hs := Nat.eq_of_beq_eq_true hc.2
        split at h
        · rename_i ls e' hr
          cases h
          simp only [List.mapM_cons, Option.bind_eq_bind, Option.bind_eq_some_iff, Option.pure_def] at hm
          obtain ⟨x, h1, xs', h2, h3⟩ := hm
          cases h3
          obtain ⟨s1, ⟨z1, s2⟩, s3⟩ := ih hk h1
          obtain ⟨r0, r1, ⟨z2, r2⟩, r3⟩ := fields_ok ih hr hl h2
          have r0' : o + ks1.length ≤ e := r0
          refine ⟨by omega, by simp [s1, r1], ⟨z1 ++ z2, ?_⟩, fun w' base' sp' held' => ?_⟩
          · have := s2.app r2
            rw [ho, hs] at this
            rw [show fsk (ks1 ++ ls) = fsk ks1 ++ fsk ls by simp [fsk]]
            have e : (cs.drop o).take ks1.length ++ cs.drop (o + ks1.length) = cs.drop o := by
              rw [← List.drop_drop]; exact List.take_append_drop _ _
            have e' : Nat.add o ks1.length = o + ks1.length := rfl
            rw [e', e] at this
            exact this
          · simp only [List.mapM_cons, Option.bind_eq_bind, Option.bind_eq_some_iff, Option.pure_def]
            exact ⟨x, s3 _ _ _ _, xs', r3 _ _ _ _, rfl⟩
        · cases h
      · cases h
    · cases h

theorem flatten_drop {ks : List FloatKind} {zs : Nat → List Value} : True := trivial

theorem cells_ok {n m : Nat} {w : World} {base : Nat} {sp : Nat → Bool} {held : Bool} (ih : ∀ {t : TypeId} {cs : List Value} {ks : List FloatKind} {x : DataW H × List MemPlace}, flat P n t = some ks → DataW.trod enc P w base sp held m t cs = some x → Says enc P m t cs ks x)
    {e : TypeId} {ks : List FloatKind} (hk : flat P n e = some ks) (hs : P.cellsOf e = ks.length) {cs : List Value} :
    ∀ (q i : Nat) {xs : List (DataW H × List MemPlace)}, cs.length = (i + q) * ks.length → ((List.range' i q).mapM fun j => DataW.trod enc P w base sp held m e ((cs.drop (j * P.cellsOf e)).take (P.cellsOf e))) = some xs →
      xs.flatMap (·.2) = [] ∧ (∃ zs, ScRels (fsk (List.replicate q ks).flatten) zs (cs.drop (i * ks.length))) ∧
        ∀ (w : World) (base : Nat) (sp : Nat → Bool) (held : Bool), ((List.range' i q).mapM fun j => DataW.trod enc P w base sp held m e ((cs.drop (j * P.cellsOf e)).take (P.cellsOf e))) = some xs
  | 0, i, xs, hl, hm => by
    simp at hm; subst hm
    refine ⟨rfl, ⟨[], ?_⟩, fun _ _ _ _ => by simp⟩
    rw [List.drop_eq_nil_of_le (by rw [hl]; simp)]; exact ⟨rfl, rfl⟩
  | q + 1, i, xs, hl, hm => by
    simp only [List.range'_succ, List.mapM_cons, Option.bind_eq_bind, Option.bind_eq_some_iff, Option.pure_def] at hm
    obtain ⟨x, h1, xs', h2, h3⟩ := hm
    cases h3
    obtain ⟨s1, ⟨z1, s2⟩, s3⟩ := ih hk h1
    obtain ⟨r1, ⟨z2, r2⟩, r3⟩ := cells_ok ih hk hs q (i + 1) (by rw [hl]; congr 1; omega) h2
    refine ⟨by simp [s1, r1], ⟨z1 ++ z2, ?_⟩, fun w' base' sp' held' => ?_⟩
    · have := s2.app r2
      rw [hs] at this
      rw [show fsk (List.replicate (q + 1) ks).flatten = fsk ks ++ fsk (List.replicate q ks).flatten by simp [fsk, List.replicate_succ]]
      have e : (cs.drop (i * ks.length)).take ks.length ++ cs.drop ((i + 1) * ks.length) = cs.drop (i * ks.length) := by
        rw [Nat.succ_mul, ← List.drop_drop]; exact List.take_append_drop _ _
      rw [e] at this; exact this
    · simp only [List.range'_succ, List.mapM_cons, Option.bind_eq_bind, Option.bind_eq_some_iff, Option.pure_def]
      exact ⟨x, s3 _ _ _ _, xs', r3 _ _ _ _, rfl⟩

theorem trod_float_eq {w : World} {base : Nat} {sp : Nat → Bool} {held : Bool} {m : Nat} {t : TypeId} {k : FloatKind} {cs : List Value} (hu : P.underlying t = some (.float k)) {x : DataW H × List MemPlace}
    (h : DataW.trod enc P w base sp held (m + 1) t cs = some x) : ∃ b, cs = [.float k b] ∧ (Lit.float k b).wf = true ∧ x = (.lit (.float k b), []) := by
  unfold DataW.trod at h
  rw [hu] at h
  split at h <;> simp_all
theorem trod_struct_eq {w : World} {base : Nat} {sp : Nat → Bool} {held : Bool} {m : Nat} {t : TypeId} {fs : Array Field} {cs : List Value} (hu : P.underlying t = some (.struct fs)) :
    DataW.trod enc P w base sp held (m + 1) t cs = if cs.length = P.cellsOf t then (fs.toList.mapM fun f => DataW.trod enc P w base sp held m f.type ((cs.drop f.offset).take (P.cellsOf f.type))).map fun xs => (.agg (xs.map (·.1)), xs.flatMap (·.2)) else none := by
  conv => lhs; unfold DataW.trod
  rw [hu]
theorem trod_array_eq {w : World} {base : Nat} {sp : Nat → Bool} {held : Bool} {m n : Nat} {t e : TypeId} {cs : List Value} (hu : P.underlying t = some (.array n e)) :
    DataW.trod enc P w base sp held (m + 1) t cs = if cs.length = P.cellsOf t then ((List.range n).mapM fun i => DataW.trod enc P w base sp held m e ((cs.drop (i * P.cellsOf e)).take (P.cellsOf e))).map fun xs => (.agg (xs.map (·.1)), xs.flatMap (·.2)) else none := by
  conv => lhs; unfold DataW.trod
  rw [hu]

theorem flat_ok {w : World} {base : Nat} {sp : Nat → Bool} {held : Bool} : ∀ (n : Nat) {m : Nat} {t : TypeId} {cs : List Value} {ks : List FloatKind} {x : DataW H × List MemPlace}, flat P n t = some ks → DataW.trod enc P w base sp held m t cs = some x → Says enc P m t cs ks x
  | 0, m, t, cs, ks, x, hf, h => by simp [flat] at hf
  | n + 1, 0, t, cs, ks, x, hf, h => by simp [DataW.trod] at h
  | n + 1, m + 1, t, cs, ks, x, hf, h => by
    unfold flat at hf
    split at hf
    · rename_i k hu
      cases hf
      obtain ⟨b, rfl, hw, rfl⟩ := trod_float_eq hu h
      refine ⟨rfl, ⟨[.f k (canon k b)], ?_⟩, fun w base sp held => ?_⟩
      · exact ⟨_, [], _, [], rfl, rfl, ⟨canon k b, b, rfl, rfl, frel_canon hw⟩, rfl, rfl⟩
      · unfold DataW.trod; simp [hu, hw]
    · rename_i fs hu
      split at hf
      · rename_i ks' e hfs
        split at hf
        · rename_i he
          cases hf
          have he := Nat.eq_of_beq_eq_true he
          rw [trod_struct_eq hu] at h
          split at h
          · rename_i hl
            rw [Option.map_eq_some_iff] at h
            obtain ⟨xs, h1, rfl⟩ := h
            obtain ⟨_, q1, q2, q3⟩ := fields_ok (fun {t cs ks x} a b => flat_ok n a b) hfs (by rw [hl, he]) h1
            refine ⟨q1, by simpa using q2, fun w base sp held => ?_⟩
            rw [trod_struct_eq hu, if_pos hl, q3]; rfl
          · cases h
        · cases hf
      · cases hf
    · rename_i q e hu
      split at hf
      · rename_i ks' hk
        split at hf
        · rename_i he
          cases hf
          simp only [Bool.and_eq_true] at he
          have h1 := Nat.eq_of_beq_eq_true he.1
          have h2 := Nat.eq_of_beq_eq_true he.2
          rw [trod_array_eq hu] at h
          split at h
          · rename_i hl
            rw [Option.map_eq_some_iff, List.range_eq_range'] at h
            obtain ⟨xs, h3, rfl⟩ := h
            have hq : cs.length = (0 + q) * ks'.length := by rw [hl, ← h2, Nat.zero_add]; rfl
            obtain ⟨q1, q2, q3⟩ := cells_ok (fun {t cs ks x} a b => flat_ok n a b) hk h1 q 0 hq h3
            refine ⟨q1, by simpa using q2, fun w base sp held => ?_⟩
            rw [trod_array_eq hu, if_pos hl, List.range_eq_range', q3]; rfl
          · cases h
        · cases hf
      · cases hf
    · cases hf

/-! The arguments of a row -/
def shT (P : Program) (t : TypeId) : Option Sh := match flat P 100 t with
  | some ks => match P.underlying t with
    | some (.float k) => some (.val (.f k))
    | some (.struct _) => some (.agg (fsk ks))
    | some (.array _ _) => some (.agg (fsk ks))
    | _ => none
  | none => none
/-- the shapes and the floats of a list of types -/
def shTs (P : Program) : List TypeId → Option (List Sh × List FloatKind)
  | [] => some ([], [])
  | t :: ts => match shT P t, flat P 100 t, shTs P ts with
    | some s, some ks, some (ss, ls) => some (s :: ss, ks ++ ls)
    | _, _, _ => none

theorem argFit_of : ∀ {ks : List FloatKind} {xs : List Sc} {vs : List Value}, ScRels (fsk ks) xs vs → ArgFit ks xs
  | [], xs, vs, h => h.1
  | k :: ks, _, _, ⟨x, xs', v, vs', rfl, _, ⟨d, b, h1, _⟩, h2⟩ => ⟨d, xs', by rw [h1], argFit_of h2⟩
theorem ArgFit.app : ∀ {ks ls : List FloatKind} {xs ys : List Sc}, ArgFit ks xs → ArgFit ls ys → ArgFit (ks ++ ls) (xs ++ ys)
  | [], ls, xs, ys, h, k => by rw [show xs = [] from h]; exact k
  | _ :: ks, ls, _, ys, ⟨d, xs', e, h2⟩, k => ⟨d, xs' ++ ys, by rw [e]; rfl, h2.app k⟩

theorem arg_ok {W : World} {base0 base : Nat} {sp : Nat → Bool} {held : Bool} {t : TypeId} {v : Value} {d : DataW H} {ps : List MemPlace} {s : Sh} {ks : List FloatKind} (hs : shT P t = some s) (hk : flat P 100 t = some ks)
    (hv : Value.okWide P W .any base0 t v) (h : DataW.Trod enc P W base sp held t v d ps) :
    ps = [] ∧ (∃ xs, ArgFit ks xs ∧ ∀ w, ArgRel w s xs v) ∧ ∀ (w : World) (base : Nat) (sp : Nat → Bool) (held : Bool), DataW.Trod enc P w base sp held t v d [] := by
  obtain ⟨fuel, h⟩ := h
  obtain ⟨h1, ⟨xs, h2⟩, h3⟩ := flat_ok 100 hk h
  dsimp only at h1
  subst h1
  refine ⟨rfl, ⟨xs, argFit_of h2, fun w => ?_⟩, fun w base sp held => ⟨fuel, h3 w base sp held⟩⟩
  unfold shT at hs
  rw [hk] at hs
  dsimp only at hs
  split at hs
  · rename_i k hu
    cases hs
    unfold flat at hk
    rw [hu] at hk
    cases hk
    obtain ⟨x, xs', v', vs', rfl, hv', hx, rfl, rfl⟩ := h2
    refine ⟨x, rfl, ?_⟩
    obtain ⟨d, b, rfl, rfl, f⟩ := hx
    refine ⟨d, b, rfl, ?_, f⟩
    obtain ⟨b', rfl⟩ := okWide_float hu hv
    simp [Value.cells] at hv'
    rw [hv']
  · rename_i fs hu
    cases hs
    obtain ⟨cs, rfl, _⟩ := okWide_struct hu hv
    exact ⟨cs.toList, rfl, h2⟩
  · rename_i n e hu
    cases hs
    unfold Value.okWide at hv
    rw [hu] at hv
    obtain ⟨cs, rfl, _⟩ := hv
    exact ⟨cs.toList, rfl, h2⟩
  · cases hs

theorem args_ok {W : World} {base0 base : Nat} {sp : Nat → Bool} {held : Bool} : ∀ {ts : List TypeId} {vs : List Value} {ds : List (DataW H)} {ps : List MemPlace} {ss : List Sh} {ks : List FloatKind}, shTs P ts = some (ss, ks) →
    (∀ (j : Nat) t v, ts[j]? = some t → vs[j]? = some v → Value.okWide P W .any base0 t v) → DataW.TrodAll enc P W base sp held ts vs ds ps →
    ps = [] ∧ ds.length = ts.length ∧ (∃ xs, ArgFit ks xs ∧ ∀ w, ArgRels w ss xs vs) ∧ ∀ (w : World) (base : Nat) (sp : Nat → Bool) (held : Bool), DataW.TrodAll enc P w base sp held ts vs ds []
  | [], [], [], ps, ss, ks, hs, hv, h => by
    simp [shTs] at hs
    obtain ⟨rfl, rfl⟩ := hs
    have : ps = [] := h
    exact ⟨this, rfl, ⟨[], rfl, fun w => ⟨rfl, rfl⟩⟩, fun _ _ _ _ => rfl⟩
  | [], _ :: _, _, ps, ss, ks, hs, hv, h => by simp [DataW.TrodAll] at h
  | [], [], _ :: _, ps, ss, ks, hs, hv, h => by simp [DataW.TrodAll] at h
  | _ :: _, [], _, ps, ss, ks, hs, hv, h => by simp [DataW.TrodAll] at h
  | _ :: _, _ :: _, [], ps, ss, ks, hs, hv, h => by simp [DataW.TrodAll] at h
  | t :: ts, v :: vs, d :: ds, ps, ss, ks, hs, hv, h => by
    obtain ⟨p, q, h1, h2, rfl⟩ := h
    unfold shTs at hs
    split at hs
    · rename_i s k1 ss' ls e1 e2 e3
      cases hs
      obtain ⟨rfl, ⟨x, a1, a2⟩, a3⟩ := arg_ok e1 e2 (hv 0 t v rfl rfl) h1
      obtain ⟨rfl, b0, ⟨y, b1, b2⟩, b3⟩ := args_ok e3 (fun j t v ht hj => hv (j + 1) t v (by simpa using ht) (by simpa using hj)) h2
      exact ⟨rfl, by simp [b0], ⟨x ++ y, a1.app b1, fun w => ⟨x, y, v, vs, rfl, rfl, a2 w, b2 w⟩⟩, fun w base sp held => ⟨[], [], a3 w base sp held, b3 w base sp held, rfl⟩⟩
    · cases hs
end

section
variable {H : Type} {enc : TypeId × Value → H} {P : Program}
theorem post_below {f : Func} {s : ChangeSpec} {apart fresh handsOn again : Bool} {W W' : World} {args : Array Value} {v : Value} {ds gs : List (DataW H)} {before pa pv : List MemPlace}
    (hW : DataW.Whole enc P f.params.toList s.vars apart W args.toList ds gs before)
    (hres : ∀ (b : Nat) (sp : Nat → Bool) (hd : Bool), DataW.TrodAll enc P W' b sp hd f.resultTypes.toList (v.resultList f.resultTypes.size) (s.fn H (ds ++ gs)).results [])
    (hargs : ∀ sp : Nat → Bool, (∀ p ∈ before, sp p.block = true) → DataW.TrodAll enc P W' 0 sp true f.params.toList args.toList (s.fn H (ds ++ gs)).args pa)
    (hvars : ∀ sp : Nat → Bool, (∀ p ∈ before, sp p.block = true) → DataW.TrodVars enc P W' sp s.vars (s.fn H (ds ++ gs)).vars pv)
    (hps : before = pa ++ pv) (hb : Below W.heap.size W W')
    (hok : ∀ (j : Nat) (t : TypeId) (r : Value), f.resultTypes[j]? = some t → (v.resultList f.resultTypes.size)[j]? = some r → Value.okWide P W' .any 0 t r) :
    s.post enc P f apart fresh handsOn again W args v W' := by
  have hlt : ∀ p ∈ before, p.block < W.heap.size := fun p hp => hW.lt p hp
  have hold : ∀ p ∈ before, (fun b => decide (b < W.heap.size)) p.block = true := fun p hp => by simpa using hlt p hp
  refine ⟨ds, gs, before, [], pa, pv, hW, hres _ _ _, hargs _ hold, hvars _ hold, World.keptBut_mono (fun p hp => ⟨hp, ?_⟩) (hb.frame (· ∈ before)), fun _ => ?_⟩
  · rw [hps, List.mem_append] at hp
    exact Or.inr hp
  · obtain ⟨_, _, _, _, _, hz, hn⟩ := hW
    refine ⟨hok, _, _, ([] ++ pa) ++ pv, ⟨[] ++ pa, pv, trodAll_append (hargs _ (fun _ _ => rfl)) (hres _ _ _), hvars _ (fun _ _ => rfl), rfl, ?_, ?_⟩, ?_⟩
    · intro b off hp
      have hin : MemPlace.cell b off ∈ before := by rw [hps]; simpa using hp
      rw [hb.frozen (hlt _ hin)]
      exact hz b off hin
    · intro ha
      have := hn ha
      rw [hps] at this
      simpa using this
    · intro p hp _
      rw [hps]
      simpa using hp
end

theorem list0 {α : Type} {l : List α} (h : l.length = 0) : l = [] := List.length_eq_zero_iff.1 h
theorem list1 {α : Type} {l : List α} (h : l.length = 1) : ∃ a, l = [a] := List.length_eq_one_iff.1 h
theorem listS {α : Type} {l : List α} {n : Nat} (h : l.length = n + 1) : ∃ a r, l = a :: r ∧ r.length = n := by
  match l, h with
  | a :: r, h => exact ⟨a, r, rfl, by simpa using h⟩
end Go.Proofs.Ytconlkliclhbpaa.Sx
