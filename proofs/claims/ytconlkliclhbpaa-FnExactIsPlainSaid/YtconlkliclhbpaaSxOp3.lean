/- Operations, the second part: stores, arithmetic, builds. -/
import Derived.Test.YtconlkliclhbpaaSxOp2
import Derived.Great.BuildSlice
namespace Go.Proofs.Ytconlkliclhbpaa.Sx
open Go

/-! Filling -/
theorem fold_set (off : Nat) : ∀ (l : List Value) (k : Nat) (cells : Array Value),
    ((l.zipIdx k).foldl (fun (cs : Array Value) (p : Value × Nat) => cs.setIfInBounds (off + p.2) p.1) cells).size = cells.size ∧
    ∀ i, ((l.zipIdx k).foldl (fun (cs : Array Value) (p : Value × Nat) => cs.setIfInBounds (off + p.2) p.1) cells)[i]? = if off + k ≤ i ∧ i < off + k + l.length ∧ i < cells.size then l[i - off - k]? else cells[i]?
  | [], k, cells => by
    refine ⟨by simp, fun i => ?_⟩
    rw [if_neg (by simp; omega)]; simp
  | v :: l, k, cells => by
    obtain ⟨h1, h2⟩ := fold_set off l (k + 1) (cells.setIfInBounds (off + k) v)
    simp only [List.zipIdx_cons, List.foldl_cons]
    refine ⟨by rw [h1]; simp, fun i => ?_⟩
    rw [h2 i]
    simp only [Array.size_setIfInBounds, List.length_cons, Array.getElem?_setIfInBounds]
    by_cases e : off + k = i
    · subst e
      have z : off + k - off - k = 0 := by omega
      by_cases hs : off + k < cells.size
      · simp [hs, z]
        intro h; omega
      · simp [hs]
    · by_cases hc : off + (k + 1) ≤ i ∧ i < off + (k + 1) + l.length ∧ i < cells.size
      · rw [if_pos hc, if_pos (by omega)]
        have : i - off - k = (i - off - (k + 1)) + 1 := by omega
        rw [this]; simp
      · rw [if_neg hc, if_neg (by omega), if_neg (by omega)]

theorem put_get {off : Nat} {vs cs cs' : List AV} (h : putAt off vs cs = some cs') : off + vs.length ≤ cs.length ∧ cs'.length = cs.length ∧ ∀ i, cs'[i]? = if off ≤ i ∧ i < off + vs.length then vs[i - off]? else cs[i]? := by
  unfold putAt at h
  cases hle : Nat.ble (Nat.add off vs.length) cs.length with
  | false => rw [hle] at h; cases h
  | true =>
    rw [hle] at h
    have hle' : off + vs.length ≤ cs.length := Nat.le_of_ble_eq_true hle
    cases h
    refine ⟨hle', ?_, fun i => ?_⟩
    · simp only [List.length_append, List.length_take, List.length_drop]
      show min off cs.length + vs.length + (cs.length - (off + vs.length)) = _
      omega
    · by_cases h1 : i < off
      · rw [if_neg (by omega), List.append_assoc, List.getElem?_append_left (by simp; omega), List.getElem?_take_of_lt h1]
      · by_cases h2 : i < off + vs.length
        · rw [if_pos ⟨by omega, h2⟩, List.append_assoc, List.getElem?_append_right (by simp; omega), List.getElem?_append_left (by simp; omega)]
          congr 1; simp; omega
        · rw [if_neg (by omega), List.getElem?_append_right (by simp; omega), List.getElem?_drop]
          congr 1
          show off + vs.length + (i - (List.take off cs ++ vs).length) = i
          simp; omega

theorem fill_ok {e : List Sc} {θ : Th} {off : Nat → Option (Nat × Nat)} : ∀ {ps : List (Nat × AV)} {vs : List (Nat × Value)} {cs cs' : List AV} {cells : Array Value}, RelP e θ ps vs → RelL e θ cs cells.toList → fillA off cs ps = some cs' →
    ∃ cells', Instr.fill off cells vs = some cells' ∧ RelL e θ cs' cells'.toList
  | [], vs, cs, cs', cells, hp, hc, h => by
    simp only [RelP] at hp; subst hp
    simp only [fillA] at h; cases h
    exact ⟨cells, rfl, hc⟩
  | (i, c) :: ps, vs, cs, cs', cells, hp, hc, h => by
    simp only [RelP] at hp
    obtain ⟨v, vs', rfl, h2, h3⟩ := hp
    unfold fillA at h
    cases ho : off i with
    | none => simp [ho] at h
    | some x =>
      obtain ⟨o, n⟩ := x
      simp only [ho] at h
      cases hn : Nat.beq n c.cells.length with
      | false => simp [hn] at h
      | true =>
        simp only [hn] at h
        cases hput : putAt o c.cells cs with
        | none => simp [hput] at h
        | some cs1 =>
          simp only [hput] at h
          obtain ⟨p1, p2, p3⟩ := put_get hput
          have hcl := h2.cells
          have hlen := hcl.length
          have hcs := hc.length
          simp only [Array.length_toList] at hlen hcs
          have hn' : n = c.cells.length := Nat.eq_of_beq_eq_true hn
          have hfold : v.cells.zipIdx.foldl (fun cs (c, j) => cs.setIfInBounds (o + j) c) cells = (v.cells.toList.zipIdx 0).foldl (fun (cs : Array Value) (p : Value × Nat) => cs.setIfInBounds (o + p.2) p.1) cells := by
            rw [← Array.foldl_toList, Array.toList_zipIdx]
          obtain ⟨f1, f2⟩ := fold_set o v.cells.toList 0 cells
          have hrel : RelL e θ cs1 (v.cells.zipIdx.foldl (fun cs (c, j) => cs.setIfInBounds (o + j) c) cells).toList := by
            rw [hfold]
            apply RelL.of_get
            · rw [Array.length_toList, f1, p2, hcs]
            · intro j d u hd hu
              rw [Array.getElem?_toList, f2 j] at hu
              rw [p3 j] at hd
              by_cases hin : o ≤ j ∧ j < o + c.cells.length
              · rw [if_pos hin] at hd
                rw [if_pos ⟨by omega, by simp only [Array.length_toList]; omega, by omega⟩] at hu
                obtain ⟨u', hu', hr⟩ := hcl.get hd
                rw [show j - o - 0 = j - o from by omega, hu'] at hu
                cases hu; exact hr
              · rw [if_neg hin] at hd
                rw [if_neg (by simp only [Array.length_toList]; omega)] at hu
                obtain ⟨u', hu', hr⟩ := hc.get hd
                rw [Array.getElem?_toList, hu] at hu'
                cases hu'; exact hr
          obtain ⟨cells', k1, k2⟩ := fill_ok h3 hrel h
          refine ⟨cells', ?_, k2⟩
          unfold Instr.fill
          simp only [ho]
          rw [if_neg (by simp; omega)]
          exact k1

section
variable {P : Program} {G : Gs} {rs env : List Sc} {tm : Tr AV} {st : St} {kk : K} {ro : Nat} {o : Oper}

theorem mapM_sizes : ∀ (fs : List Field), fs.all (fun f => (size? P f.type).isSome) = true → ∃ places, fs.mapM (fun f => (P.info? f.type).map fun i => (f.offset, i.size)) = some places ∧ places.length = fs.length ∧ ∀ (j : Nat) (f : Field), fs[j]? = some f → ∃ n, size? P f.type = some n ∧ places[j]? = some (f.offset, n)
  | [], _ => ⟨[], rfl, rfl, fun j f h => by simp at h⟩
  | f :: fs, h => by
    simp only [List.all_cons, Bool.and_eq_true] at h
    obtain ⟨ps, h1, h2, h3⟩ := mapM_sizes fs h.2
    cases hi : P.info? f.type with
    | none => simp [size?, hi] at h
    | some i =>
      refine ⟨(f.offset, i.size) :: ps, by simp [List.mapM_cons, hi, h1], by simp [h2], ?_⟩
      intro j g hg
      cases j with
      | zero => simp at hg; subst hg; exact ⟨i.size, by simp [size?, hi], by simp⟩
      | succ j => obtain ⟨n, a, b⟩ := h3 j g (by simpa using hg); exact ⟨n, a, by simpa using b⟩

theorem fill_congr {p q : Nat → Option (Nat × Nat)} (h : ∀ i, p i = q i) : ∀ (vs : List (Nat × Value)) (cells : Array Value), Instr.fill p cells vs = Instr.fill q cells vs := by
  have : p = q := funext h
  subst this; intros; rfl

theorem ok_build (t : TypeId) (ps : Array (Nat × Operand)) (ho : o.op = .build t ps) (h : (evBuild P tm t ps st kk).den G env = some rs) (hn : st.nn = env.length) : OpLands P G rs env tm st kk ro o := by
  unfold evBuild at h
  obtain ⟨e1, a1, s1, h1, p1, n1, x1, w1, hh1, hx1, r1⟩ := opdParts_ok _ h hn
  cases hi : P.info? t with
  | none => simp [hi, T.den] at h1
  | some i =>
    cases hz : i.zero with
    | none => simp [hi, hz, T.den] at h1
    | some z =>
      simp only [hi, hz] at h1
      obtain ⟨e2, a2, s2, h2, p2, n2, x2, w2, hh2, hx2, r2⟩ := ofValues_ok _ h1 n1
      have fin : ∀ (cs' : List AV) (hlands : (kk (.agg cs') s2).den G e2 = some rs)
          (hb : ∀ θ (vals : List (Nat × Value)), RelP e2 θ a1 vals → ∃ cells', P.built t vals = some cells' ∧ RelL e2 θ cs' cells'.toList), OpLands P G rs env tm st kk ro o := by
        intro cs' hlands hb
        refine ⟨e2, _, s2, hlands, p1.trans p2, n2, by omega, w2.trans w1, Runs.sound ?_⟩
        intro a w θ hp hf
        obtain ⟨cells', hbt, hrel⟩ := hb θ _ ((r1 a θ hp.tm).mono p2 (ThLe.refl θ))
        refine ⟨.agg cells', w, .inl ?_, post_plain hp (p1.trans p2) (hh2.trans hh1) (by omega) (Rel.agg (vs := cells'.toList) hrel) (Drew.refl w)⟩
        simp only [execOp, ho]
        refine run_value (run_build w t _ cells' ?_)
        rw [← hbt]; congr 1; simp
      cases hu : P.underlying t with
      | none => simp [hu, T.den] at h2
      | some d =>
        simp only [hu] at h2
        cases d <;> simp only [T.den] at h2 <;> try (cases h2; done)
        case array n el =>
          cases hs : size? P el with
          | none => simp [hs, T.den] at h2
          | some sz =>
            simp only [hs] at h2
            split at h2
            case h_2 => simp [T.den] at h2
            case h_1 cs' hfa =>
              refine fin cs' h2 fun θ vals hv => ?_
              obtain ⟨cells', k1, k2⟩ := fill_ok (cells := z.cells) hv (r2 θ) hfa
              refine ⟨cells', ?_, k2⟩
              unfold size? at hs
              cases hie : P.info? el with
              | none => simp [hie] at hs
              | some ie =>
                simp [hie] at hs
                simp only [Program.built, hi, hu, hz, hie, hs]
                exact k1
        case struct fs =>
          cases hall : fs.toList.all (fun f => (size? P f.type).isSome) with
          | false => simp only [hall] at h2; simp [T.den] at h2
          | true =>
            cases hfa : fillA (fillStruct P fs) a2 a1 with
            | none => simp only [hall, hfa] at h2; simp [T.den] at h2
            | some cs' =>
              simp only [hall, hfa] at h2
              refine fin cs' h2 fun θ vals hv => ?_
              obtain ⟨cells', k1, k2⟩ := fill_ok (cells := z.cells) hv (r2 θ) hfa
              refine ⟨cells', ?_, k2⟩
              obtain ⟨places, m1, m2, m3⟩ := mapM_sizes fs.toList hall
              simp only [Program.built, hi, hu, hz, m1]
              rw [← k1]
              apply fill_congr
              intro j
              simp only [fillStruct, List.getElem?_toArray]
              cases hf : fs[j]? with
              | none =>
                simp only []
                rw [List.getElem?_eq_none]
                rw [m2, Array.length_toList]
                exact Array.getElem?_eq_none_iff.1 hf
              | some f =>
                obtain ⟨n, q1, q2⟩ := m3 j f (by simpa using hf)
                simp only [q1]; exact q2

theorem range_zero (len sz : Nat) (z : Array Value) (hz : z.size = sz) : (Array.range (len * sz)).map (z[· % sz]!) = ((List.replicate len z.toList).flatten).toArray := by
  apply Array.toList_inj.1
  apply List.ext_getElem?
  intro i
  simp only [Array.toList_map, Array.toList_range, List.getElem?_map]
  by_cases hi : i < len * sz
  · rw [List.getElem?_range hi]
    simp only [Option.map_some]
    have hsz : 0 < sz := by
      rcases Nat.eq_zero_or_pos sz with h | h
      · subst h; omega
      · exact h
    have hm : i % sz < z.size := by rw [hz]; exact Nat.mod_lt _ hsz
    have key : ∀ len i, i < len * sz → (List.replicate len z.toList).flatten[i]? = z.toList[i % sz]? := by
      intro len
      induction len with
      | zero => intro i h; omega
      | succ len ih =>
        intro i h
        rw [List.replicate_succ, List.flatten_cons]
        by_cases h1 : i < sz
        · rw [List.getElem?_append_left (by simp [hz, h1]), Nat.mod_eq_of_lt h1]
        · rw [List.getElem?_append_right (by simp [hz]; omega), Array.length_toList, hz, ih (i - sz) (by rw [Nat.succ_mul] at h; omega)]
          congr 1
          rw [Nat.mod_eq_sub_mod (a := i) (by omega)]
    rw [key len i hi]
    simp [hm]
  · rw [List.getElem?_eq_none (by simpa using hi), List.getElem?_eq_none]
    · rfl
    · simp [hz]; simpa using hi

theorem RelL.flat {e : List Sc} {θ : Th} {cs : List AV} {vs : List Value} (h : RelL e θ cs vs) : ∀ n, RelL e θ (List.replicate n cs).flatten (List.replicate n vs).flatten
  | 0 => RelL.nil
  | n + 1 => by simp only [List.replicate_succ, List.flatten_cons]; exact h.append (RelL.flat h n)

theorem ok_buildSlice (t : TypeId) (len : Nat) (ps : Array (Nat × Operand)) (ho : o.op = .buildSlice t len ps) (h : (evBuildSlice P tm t len ps st kk).den G env = some rs) (hn : st.nn = env.length) : OpLands P G rs env tm st kk ro o := by
  unfold evBuildSlice at h
  obtain ⟨e1, a1, s1, h1, p1, n1, x1, w1, hh1, hx1, r1⟩ := opdParts_ok _ h hn
  cases hu : P.underlying t with
  | none => simp [hu, T.den] at h1
  | some d =>
    simp only [hu] at h1
    cases d <;> simp only [T.den] at h1 <;> try (cases h1; done)
    case slice el =>
      cases hi : P.info? el with
      | none => simp [hi, T.den] at h1
      | some i =>
        cases hz : i.zero with
        | none => simp [hi, hz, T.den] at h1
        | some z =>
          simp only [hi, hz] at h1
          split at h1
          · rename_i hc
            simp only [Bool.and_eq_true, Nat.blt_eq] at hc
            obtain ⟨⟨c1, c2⟩, c3⟩ := hc
            have c1' : len * i.size ≤ 1000 := Nat.le_of_ble_eq_true c1
            have c2' : z.cells.size = i.size := Nat.eq_of_beq_eq_true c2
            have c3' : 0 < len * i.size := c3
            obtain ⟨e2, a2, s2, h2, p2, n2, x2, w2, hh2, hx2, r2⟩ := ofValues_ok _ h1 n1
            dsimp only at h2
            split at h2
            · rename_i cs' hfa
              unfold newB at h2
              refine ⟨e2, .slice s2.next 0 len len, _, h2, p1.trans p2, n2, by show st.next ≤ s2.next + 1; omega, w2.trans w1, Runs.sound ?_⟩
              intro a w θ hp hf
              obtain ⟨cells', k1, k2⟩ := fill_ok (cells := ((List.replicate len z.cells.toList).flatten).toArray) ((r1 a θ hp.tm).mono p2 (ThLe.refl θ)) (by simpa using RelL.flat (r2 θ) len) hfa
              refine ⟨_, _, .inl ?_, post_new (cs := cs') (vs := cells'.toList) el hp (p1.trans p2) (hh2.trans hh1) (by omega) k2 rfl hf _ (.inr ⟨len, rfl⟩) _ rfl⟩
              simp only [execOp, ho]
              refine run_value ?_
              rw [run_buildSlice w t el len _ cells' i z hu hi hz (by omega) (by omega) ?_]
              · rfl
              · rw [c2', range_zero len i.size z.cells c2']
                rw [← k1]; congr 1; simp
            · simp [T.den] at h2
          · simp [T.den] at h1

theorem ok_extract (x : Operand) (i : Nat) (ho : o.op = .extract x i) (h : (opd tm x st (evExtract i kk)).den G env = some rs) (hn : st.nn = env.length) : OpLands P G rs env tm st kk ro o := by
  obtain ⟨e1, a1, s1, h1, p1, n1, x1, w1, hh1, hx1, r1⟩ := opd_ok h hn
  unfold evExtract at h1
  cases a1 <;> simp only [T.den] at h1 <;> try (cases h1; done)
  rename_i vs
  cases hv : vs[i]? with
  | none => simp [hv, T.den] at h1
  | some c =>
    simp only [hv] at h1
    refine ⟨e1, _, s1, h1, p1, n1, x1, w1, Runs.sound ?_⟩
    intro a w θ hp hf
    have hc := r1 a θ hp.tm
    simp only [Rel] at hc
    obtain ⟨us, hu, hr⟩ := hc
    obtain ⟨v, hv', hrel⟩ := hr.get hv
    refine ⟨v, w, .inl ?_, post_plain hp p1 hh1 x1 hrel (Drew.refl w)⟩
    have hv2 : (⟨us⟩ : Array Value)[i]? = some v := by simpa using hv'
    simp only [execOp, ho]
    refine run_value ?_
    simp only [Instr.extract, hu, hv2, Sem.run_pure]

theorem ok_makeFunc (fn : Fn) (first cs : Array Operand) (ho : o.op = .makeFunc fn first cs) (h : (evMakeFunc tm fn first cs st kk).den G env = some rs) (hn : st.nn = env.length) : OpLands P G rs env tm st kk ro o := by
  unfold evMakeFunc at h
  split at h
  · rename_i f
    split at h
    · rename_i hz
      obtain ⟨e1, a1, s1, h1, p1, n1, x1, w1, hh1, hx1, r1⟩ := opds_ok _ h hn
      refine ⟨e1, _, s1, h1, p1, n1, x1, w1, Runs.sound ?_⟩
      intro a w θ hp hf
      have hc := r1 a θ hp.tm
      have hfe : first = #[] := Array.eq_empty_of_size_eq_zero hz
      refine ⟨.func (.func f) #[] ⟨cs.toList.map a.eval⟩, w, .inl ?_, post_plain hp p1 hh1 x1 (by simp only [Rel]; exact ⟨_, rfl, hc⟩) (Drew.refl w)⟩
      simp only [execOp, ho]
      refine run_value ?_
      subst hfe
      simp only [Instr.makeFunc]
      have : Array.map a.eval cs = ⟨cs.toList.map a.eval⟩ := by apply Array.toList_inj.1; simp
      rw [this]; simp
    · simp [T.den] at h
  · simp [T.den] at h

/-! Arithmetic -/
theorem eqGuard_run {bo : BinOp} {t : TypeId} {x y : Operand} {u v : Value} (hu : (u matches .nilIface | .agg _) = false) (w : World) : (eqGuard bo t x y u v).run P w = .ok () w := by
  unfold eqGuard
  cases bo <;> first | rfl | (cases u <;> first | rfl | (simp at hu))

end
end Go.Proofs.Ytconlkliclhbpaa.Sx
