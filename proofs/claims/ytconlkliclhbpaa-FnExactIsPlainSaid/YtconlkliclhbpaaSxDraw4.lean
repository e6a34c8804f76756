/- A region that draws its order: whole. -/
import Derived.Test.YtconlkliclhbpaaSxDraw3
namespace Go.Proofs.Ytconlkliclhbpaa.Sx
open Go

section
variable {P : Program} {G : Gs} {rs : List Sc} {ro N : Nat} {ops : Array Oper} {pt : Nat → Pt} {a0 : Act} {w0 : World} {θ0 : Th} {D : Array Bool} {a : Act} {w : World} {θ : Th}
variable {sm : List (FuncId × Sum)} {ex : List (FuncId × Ext)} {call : CallK}

theorem AInv.bef (tc : Tc P ro N ops pt) (h : AInv P ro N ops pt a0 w0 θ0 D a w θ) {i : Nat} (hi : i ∈ Region.ready .any ops D) :
    ∃ o, ops[i]? = some o ∧ ¬ In D i ∧ ∀ k, ((Region.before ops).getD i 0).testBit k = true → In D k := by
  simp only [Region.ready, List.mem_filter, List.mem_range, Bool.and_eq_true, Bool.not_eq_true'] at hi
  obtain ⟨h1, h2, h3⟩ := hi
  have ho : ops[i]? = some ops[i] := by simp [h1]
  refine ⟨_, ho, ?_, ?_⟩
  · intro hin
    have hlt := In.lt hin
    simp only [In, Array.getD_eq_getD_getElem?] at hin
    simp only [Array.getD_eq_getD_getElem?] at h2
    rw [Array.getElem?_eq_getElem hlt] at hin h2
    simp at hin h2
    rw [hin] at h2; cases h2
  · intro k hk
    rw [ho] at h3
    simp only [Option.map_some, Option.getD_some] at h3
    have hedge : ∀ j, Binds ops[i] j → In D j := by
      rintro j ⟨e, he, hb, rfl⟩
      have := Array.all_eq_true'.1 h3 e (by simpa using he)
      simp [hb] at this
      simpa [In, Array.getD_eq_getD_getElem?] using this
    obtain ⟨_, hs⟩ := bef_spec ops
    obtain ⟨j, hb, hj⟩ := hs i ops[i] (by simp [h1]) k hk
    rcases hj with rfl | ⟨_, hj⟩
    · exact hedge _ hb
    · exact h.closed j k (hedge j hb) hj

theorem ready_nil (tc : Tc P ro N ops pt) (h : AInv P ro N ops pt a0 w0 θ0 D a w θ) (hr : Region.ready .any ops D = []) : ∀ i, i < ops.size → In D i := by
  intro i
  induction i using Nat.strongRecOn with
  | ind i ih =>
    intro hi
    cases hd : D.getD i false with
    | true => exact hd
    | false =>
      exfalso
      have hlt : i < D.size := by rw [h.sz]; exact hi
      have : i ∈ Region.ready .any ops D := by
        simp only [Region.ready, List.mem_filter, List.mem_range, Bool.and_eq_true, Bool.not_eq_true']
        refine ⟨hi, ?_, ?_⟩
        · simp only [Array.getD_eq_getD_getElem?] at hd ⊢
          rw [Array.getElem?_eq_getElem hlt] at hd ⊢
          simpa using hd
        · have ho : ops[i]? = some ops[i] := by simp [hi]
          rw [ho]
          simp only [Option.map_some, Option.getD_some]
          rw [Array.all_eq_true']
          intro e he
          cases hb : Region.binds .any e with
          | false => rfl
          | true =>
            have hlt' := draw_edge tc.ok ho (j := e.on) ⟨e, by simpa using he, hb, rfl⟩
            have := ih e.on hlt' (by omega)
            simpa [In, Array.getD_eq_getD_getElem?] using this
      rw [hr] at this; cases this

/-- what is left to do -/
def left (n : Nat) (D : Array Bool) : Nat := ((List.range n).filter fun i => !D.getD i false).length
theorem left_set {n i : Nat} (hi : i < n) (hs : D.size = n) (hn : ¬ In D i) : left n (D.setIfInBounds i true) < left n D := by
  unfold left
  have hmem : i ∈ (List.range n).filter fun i => !D.getD i false := by
    simp only [List.mem_filter, List.mem_range, Bool.not_eq_true']
    refine ⟨hi, ?_⟩
    cases h : D.getD i false
    · rfl
    · exact absurd h hn
  have hsub : ((List.range n).filter fun k => !(D.setIfInBounds i true).getD k false) = ((List.range n).filter fun k => !D.getD k false).filter (fun k => k != i) := by
    rw [List.filter_filter]
    apply List.filter_congr
    intro k _
    by_cases e : k = i
    · subst e
      have : In (D.setIfInBounds k true) k := (in_set (by omega)).2 (.inl rfl)
      unfold In at this
      rw [this]; simp
    · have : (D.setIfInBounds i true).getD k false = D.getD k false := by
        simp only [Array.getD_eq_getD_getElem?, Array.getElem?_setIfInBounds]
        rw [if_neg (fun q => e q.symm)]
      rw [this]; simp [e]
  rw [hsub]
  generalize (List.range n).filter (fun i => !D.getD i false) = l at hmem
  induction l with
  | nil => cases hmem
  | cons x l ih =>
    by_cases e : x = i
    · subst e
      simp only [List.filter_cons, bne_self_eq_false, Bool.false_eq_true, if_false, List.length_cons]
      exact Nat.lt_succ_of_le (List.length_filter_le _ _)
    · have : i ∈ l := by
        rcases List.mem_cons.1 hmem with q | q
        · exact absurd q.symm e
        · exact q
      have hx : (x != i) = true := by simp [e]
      simp only [List.filter_cons, hx, if_true, List.length_cons]
      exact Nat.succ_lt_succ (ih this)

theorem AInv.finish (tc : Tc P ro N ops pt) (h : AInv P ro N ops pt a0 w0 θ0 D a w θ) (hall : ∀ i, i < ops.size → In D i) :
    OpPre ro (pt ops.size).env θ (pt ops.size).tm (pt ops.size).st a w := by
  refine ⟨?_, ?_, h.inj⟩
  · intro t
    rcases tc.look_tm t (i := ops.size) (Nat.le_refl _) with ⟨k, p, k1, k2, k3, k4, k5⟩ | ⟨k1, k2⟩
    · rcases h.tm t with ⟨j, q, a1, a2, a3, a4, a5⟩ | ⟨a1, a2⟩
      · have hle := a4 k p (hall k k1) k2 k3
        have hj : j < ops.size := (Array.getElem?_eq_some_iff.1 a2).1
        have : j = k := by
          by_cases e : j = k
          · exact e
          · exact absurd a3 (k4 j q (by omega) hj a2)
        subst this
        rw [k5]
        exact Rel.mono (tc.next_mono (i := j + 1) (j := ops.size) (by omega) (Nat.le_refl _)).2.1 (ThLe.refl θ) _ _ a5
      · exact absurd k3 (a1 k p (hall k k1) k2)
    · rw [k2]
      rcases h.tm t with ⟨j, q, a1, a2, a3, a4, a5⟩ | ⟨a1, a2⟩
      · exact absurd a3 (k1 j q (Array.getElem?_eq_some_iff.1 a2).1 a2)
      · exact Rel.mono (tc.next_mono (i := 0) (j := ops.size) (by omega) (Nat.le_refl _)).2.1 (ThLe.refl θ) _ _ a2
  · intro id cs hc
    exact h.mem ops.size (Nat.le_refl _) id cs hc (fun k hk => hall k hk.1) (fun s ⟨o, ho, _⟩ _ => (Array.getElem?_eq_some_iff.1 ho).1) (fun s _ hs => .inl (hall s hs))

theorem any_order (tc : Tc P ro N ops pt) (hf0 : Fresh θ0 (pt 0).st.next (pt ops.size).st.next) (Q : Exit → Act → World → Prop)
    (hq : ∀ a' w', Piece ro N (pt 0).env (pt ops.size).env (pt 0).tm (pt ops.size).tm (pt 0).st (pt ops.size).st a0 w0 θ0 a' w' → Q .normal a' w') :
    ∀ (fuel : Nat) (D : Array Bool) (a : Act) (w : World) (θ : Th), AInv P ro N ops pt a0 w0 θ0 D a w θ → left ops.size D ≤ fuel → wpAny P .any ops Q fuel D a w := by
  intro fuel
  have hdone : ∀ (D : Array Bool) (a : Act) (w : World) (θ : Th), AInv P ro N ops pt a0 w0 θ0 D a w θ → Region.ready .any ops D = [] → Q .normal a w := by
    intro D a w θ h hr
    exact hq a w ⟨θ, h.finish tc (ready_nil tc h hr), h.size, h.defers, h.stp⟩
  induction fuel with
  | zero =>
    intro D a w θ h hl
    have hr : Region.ready .any ops D = [] := by
      apply List.eq_nil_iff_forall_not_mem.2
      intro i hi
      obtain ⟨o, ho, hn, _⟩ := h.bef tc hi
      have := left_set (Array.getElem?_eq_some_iff.1 ho).1 h.sz hn
      omega
    exact ⟨hr, hdone D a w θ h hr⟩
  | succ fuel ih =>
    intro D a w θ h hl
    refine ⟨hdone D a w θ h, fun i hi => ?_⟩
    obtain ⟨o, ho, hn, hbef⟩ := h.bef tc hi
    have hlt := left_set (Array.getElem?_eq_some_iff.1 ho).1 h.sz hn
    unfold wpOp
    simp only [ho]
    have hw : wants ops (pt i).tm o = Region.wanted o (yielded ops a.tmps) := by
      refine wants_eq fun t hg ⟨j, wv, hgd, hd⟩ => h.tmp tc ho hn hbef ?_
      simp only [namesOf, List.mem_append, hgd, hd]
      exact .inr (by simp)
    rw [← hw, (tc.step i o ho).wants]
    cases hr : (pt i).run with
    | false =>
      simp only [Bool.false_eq_true, if_false]
      exact ih _ _ _ θ (h.skip tc ho hn hbef hr) (by omega)
    | true =>
      simp only [if_true]
      refine .inl (Gives.wp (h.run tc hf0 ho hn hbef hr) ?_)
      intro v w' ⟨θ', h'⟩
      exact ih _ _ _ θ' h' (by omega)

theorem runDraw_ok (hctx : Ctx P sm ex call G) (hm : P.follows .mixedOrders = true) (id : Nat) {env : List Sc} {tm : Tr AV} {st : St} {kk : Tr AV → St → T} (hok : drawOk ops = true) (hd : ops.toList.all (dstOk N) = true) (hro : ro ≤ st.wlo) (hrn : ro ≤ st.next)
    (h : (runDraw0 P sm ex call ops tm st kk).den G env = some rs) (hn : st.nn = env.length) :
    ∃ env' tm' st', (kk tm' st').den G env' = some rs ∧ Leaf env env' st st' ∧
      ∀ (a : Act) (w : World) (θ : Th) (Q : Exit → Act → World → Prop), OpPre ro env θ tm st a w → N ≤ a.tmps.size → Fresh θ st.next st'.next →
        (∀ a' w', Piece ro N env env' tm tm' st st' a w θ a' w' → Q .normal a' w') → (Code.region id ops true).wp P Q a w := by
  unfold runDraw0 at h
  cases hc : allLt st.next st.heap && Nat.ble st.wlo st.next with
  | false => simp [hc, T.den] at h
  | true =>
    simp only [hc] at h
    simp only [Bool.and_eq_true] at hc
    obtain ⟨c1, c2⟩ := hc
    obtain ⟨pt, e1, e2, e3, e4, hk, hsteps⟩ := trace (ro := ro) hctx ops ops.toList (Region.before ops).toList 0 [] hro hrn h hn
    simp only [Array.length_toList] at hk
    have tc : Tc P ro N ops pt := by
      refine ⟨?_, hok, ?_, ?_, e4, ?_, ?_⟩
      · intro i o ho
        obtain ⟨b, hb, hs⟩ := hsteps i o (by simpa using ho)
        have hbe : (Region.before ops).getD i 0 = b := by
          simp only [Array.getD_eq_getD_getElem?]
          have : (Region.before ops)[i]? = some b := by simpa using hb
          rw [this]; rfl
        rw [hbe]
        simpa using hs
      · intro i o ho t ht
        have := List.all_eq_true.1 hd o (by
          have : ops.toList[i]? = some o := by simpa using ho
          exact List.mem_of_getElem? this)
        simp only [dstOk, ht, Nat.blt_eq] at this
        exact this
      · rw [e2]; exact allLt_spec c1
      · rw [e2]; exact Nat.le_of_ble_eq_true c2
      · rw [e2]; exact hro
    have hlast := tc.next_mono (i := 0) (j := ops.size) (Nat.zero_le _) (Nat.le_refl _)
    have hnn : (pt ops.size).st.nn = (pt ops.size).env.length := by
      rcases Nat.eq_zero_or_pos ops.size with q | q
      · rw [q, e2, e1]; exact hn
      · have := (tc.mono1 (i := ops.size - 1) (by omega)).nn
        rw [show ops.size - 1 + 1 = ops.size from by omega] at this
        exact this
    refine ⟨(pt ops.size).env, (pt ops.size).tm, (pt ops.size).st, hk, ⟨by rw [← e1]; exact hlast.2.1, hnn, by rw [← e2]; exact hlast.1, by rw [hlast.2.2, e2]⟩, ?_⟩
    intro a w θ Q hp hs hf hq
    refine wp_region_any hm ?_
    refine any_order (a0 := a) (w0 := { w with drawn := w.drawn + 1 }) (θ0 := θ) tc (by rw [e2]; exact hf) Q ?_ ops.size _ a _ θ ?_ ?_
    · intro a' w' ⟨θ', g1, g2, g3, g4⟩
      rw [e2] at g4
      refine hq a' w' ⟨θ', g1, g2, g3, ?_⟩
      exact ⟨g4.ext, g4.new, g4.inj, g4.os, g4.tape, g4.output, g4.size, g4.block⟩
    · have hno : ∀ i, ¬ In (Array.replicate ops.size false) i := by
        intro i hi
        simp only [In, Array.getD_eq_getD_getElem?, Array.getElem?_replicate] at hi
        split at hi <;> simp at hi
      refine ⟨by simp, fun i k hi => absurd hi (hno i), fun t => .inr ⟨fun i o hi => absurd hi (hno i), ?_⟩, ?_, hp.inj, fun i x hx => .inl hx, (Stp.refl θ _ _ _ _), hs, rfl⟩
      · rw [e1, e3]; exact hp.tm t
      · intro m hm id cs hfb c1' c2' c3'
        have hlt : id < (pt 0).st.next := by
          rcases Nat.lt_or_ge id (pt 0).st.next with q | q
          · exact q
          · obtain ⟨k, _, _, k3⟩ := tc.own_ex (Nat.zero_le m) hm q (tc.lt hm id cs hfb)
            exact absurd (c1' k k3) (hno k)
        have hsame := tc.same (Nat.zero_le m) hm hlt (fun s _ hs hst => by
          rcases c3' s hst hs with q | ⟨k, k1, k2⟩
          · exact hno s q
          · exact hno k (c1' k k1))
        rw [hfb, e2] at hsame
        obtain ⟨r, base, vs, el, fz, g1, g2, g3, g4⟩ := hp.wr id cs hsame.symm
        have hpf := (tc.next_mono (Nat.zero_le m) hm).2.1
        rw [e1] at hpf
        refine ⟨r, base, vs, el, fz, g1, g2, g3, fun j c hc => ?_⟩
        obtain ⟨u, hu, hr'⟩ := g4 j c hc
        exact ⟨u, hu, Rel.mono hpf (ThLe.refl θ) _ _ hr'⟩
    · unfold left
      exact Nat.le_trans (List.length_filter_le _ _) (by simp)

end
end Go.Proofs.Ytconlkliclhbpaa.Sx
