/- Code, and functions. -/
import Derived.Test.YtconlkliclhbpaaSxDraw4
import Derived.LoopN
import Derived.Scope
namespace Go.Proofs.Ytconlkliclhbpaa.Sx
open Go

def exitOf : Ex → Exit
  | .normal => .normal
  | .ret => .ret
  | .exit id => .exit id

section
variable {P : Program} {G : Gs} {rs : List Sc} {ro N : Nat} {sm : List (FuncId × Sum)} {ex : List (FuncId × Ext)} {call : CallK}

/-- what is sound of code: 'run' is the way in which it is run -/
def CodeLands (G : Gs) (rs : List Sc) (ro N : Nat) (env : List Sc) (tm : Tr AV) (st : St) (kk : Ex → Tr AV → St → T) (run : Nat → (Exit → Act → World → Prop) → Act → World → Prop) : Prop :=
  ∃ e env' tm' st' m, (kk e tm' st').den G env' = some rs ∧ Leaf env env' st st' ∧
    ∀ (a : Act) (w : World) (θ : Th) (Q : Exit → Act → World → Prop), OpPre ro env θ tm st a w → N ≤ a.tmps.size → Fresh θ st.next st'.next →
      (∀ a' w', Piece ro N env env' tm tm' st st' a w θ a' w' → Q (exitOf e) a' w') → run m Q a w

theorem Leaf.refl {env : List Sc} {st : St} (h : st.nn = env.length) : Leaf env env st st := ⟨Pfx.refl _, h, Nat.le_refl _, rfl⟩
theorem Leaf.trans {e1 e2 e3 : List Sc} {s1 s2 s3 : St} (h : Leaf e1 e2 s1 s2) (k : Leaf e2 e3 s2 s3) : Leaf e1 e3 s1 s3 :=
  ⟨h.pfx.trans k.pfx, k.nn, Nat.le_trans h.next k.next, k.wlo.trans h.wlo⟩

theorem here {env : List Sc} {tm : Tr AV} {st : St} {kk : Ex → Tr AV → St → T} {run : Nat → (Exit → Act → World → Prop) → Act → World → Prop} (e : Ex) (h : (kk e tm st).den G env = some rs) (hn : st.nn = env.length)
    (hr : ∀ Q a w, Q (exitOf e) a w → run 0 Q a w) : CodeLands G rs ro N env tm st kk run :=
  ⟨e, env, tm, st, 0, h, Leaf.refl hn, fun a w θ Q hp hs hf hq => hr Q a w (hq a w ⟨θ, hp, hs, rfl, Stp.refl _ _ _ _ _⟩)⟩

theorem Piece.trans {e1 e2 e3 : List Sc} {t1 t2 t3 : Tr AV} {s1 s2 s3 : St} {a a' a'' : Act} {w w' w'' : World} {θ θ' : Th} (h2 : Stp θ θ' s1.next s2.next s1.wlo w w') (hd : a'.defers = a.defers) (l1 : Leaf e1 e2 s1 s2) (l2 : Leaf e2 e3 s2 s3)
    (h : Piece ro N e2 e3 t2 t3 s2 s3 a' w' θ' a'' w'') : Piece ro N e1 e3 t1 t3 s1 s3 a w θ a'' w'' := by
  obtain ⟨θ'', g1, g2, g3, g4⟩ := h
  rw [l1.wlo] at g4
  exact ⟨θ'', g1, g2, g3.trans hd, h2.trans g4 l1.next l2.next⟩

theorem runCode_ok (hctx : Ctx P sm ex call G) (hm : P.follows .mixedOrders = true) : ∀ n,
    (∀ c {env tm st kk}, ro ≤ St.wlo st → ro ≤ st.next → codeOk N c = true → (runCode P sm ex call n c tm st kk).den G env = some rs → st.nn = env.length → CodeLands G rs ro N env tm st kk fun _ Q a w => c.wp P Q a w) ∧
    (∀ b {env tm st kk}, ro ≤ St.wlo st → ro ≤ st.next → codeOk N b = true → (runCode P sm ex call n (.loop b) tm st kk).den G env = some rs → st.nn = env.length → CodeLands G rs ro N env tm st kk fun m Q a w => Code.rounds P b Q m a w) := by
  intro n
  induction n with
  | zero =>
    refine ⟨?_, ?_⟩
    · intro c env tm st kk _ _ _ h; simp [runCode, T.den] at h
    · intro c env tm st kk _ _ _ h; simp [runCode, T.den] at h
  | succ n ih =>
    obtain ⟨ihA, ihB⟩ := ih
    have loop : ∀ b {env tm st kk}, ro ≤ St.wlo st → ro ≤ st.next → codeOk N b = true → (runCode P sm ex call (n + 1) (.loop b) tm st kk).den G env = some rs → st.nn = env.length → CodeLands G rs ro N env tm st kk fun m Q a w => Code.rounds P b Q m a w := by
      intro b env tm st kk hro hrn hok h hn
      simp only [runCode] at h
      obtain ⟨e1, env1, tm1, st1, _, h1, l1, s1⟩ := ihA b hro hrn hok h hn
      cases e1 with
      | normal =>
        simp only at h1
        obtain ⟨e2, env2, tm2, st2, m, h2, l2, s2⟩ := ihB b (by rw [l1.wlo]; exact hro) (Nat.le_trans hrn l1.next) hok h1 l1.nn
        refine ⟨e2, env2, tm2, st2, m + 1, h2, l1.trans l2, fun a w θ Q hp hs hf hq => ?_⟩
        show b.wp P (Exit.then (Code.rounds P b Q m) Q) a w
        refine s1 a w θ _ hp hs (fun i i1 i2 => hf i i1 (Nat.lt_of_lt_of_le i2 l2.next)) ?_
        intro a' w' ⟨θ', g1, g2, g3, g4⟩
        show Code.rounds P b Q m a' w'
        refine s2 a' w' θ' Q g1 g2 (Fresh.step hf g4 l1.next) ?_
        intro a'' w'' hpc
        exact hq a'' w'' (Piece.trans g4 g3 l1 l2 hpc)
      | ret =>
        refine ⟨.ret, env1, tm1, st1, 1, h1, l1, fun a w θ Q hp hs hf hq => ?_⟩
        show b.wp P (Exit.then (Code.rounds P b Q 0) Q) a w
        exact s1 a w θ _ hp hs hf fun a' w' hpc => hq a' w' hpc
      | exit id =>
        refine ⟨.exit id, env1, tm1, st1, 1, h1, l1, fun a w θ Q hp hs hf hq => ?_⟩
        show b.wp P (Exit.then (Code.rounds P b Q 0) Q) a w
        exact s1 a w θ _ hp hs hf fun a' w' hpc => hq a' w' hpc
    refine ⟨?_, loop⟩
    intro c env tm st kk hro hrn hok h hn
    cases c with
    | skip => exact here .normal (by simpa [runCode] using h) hn fun Q a w hq => wp_skip hq
    | label l => exact here .normal (by simpa [runCode] using h) hn fun Q a w hq => wp_label hq
    | ret => exact here .ret (by simpa [runCode] using h) hn fun Q a w hq => wp_ret hq
    | exit id => exact here (.exit id) (by simpa [runCode] using h) hn fun Q a w hq => wp_exit hq
    | goto l => simp [runCode, T.den] at h
    | refuse w => simp [runCode, T.den] at h
    | rangeFunc f ps x y => simp [runCode, T.den] at h
    | region id ops draw =>
      simp only [codeOk, Bool.and_eq_true] at hok
      obtain ⟨hd, hdr⟩ := hok
      cases draw with
      | false =>
        simp only [runCode] at h
        obtain ⟨env', tm', st', h1, l1, s1⟩ := runOps_ok (N := N) hctx ops ops.toList 0 (fun j => by simp) hd hro hrn h hn
        refine ⟨.normal, env', tm', st', 0, h1, l1, fun a w θ Q hp hs hf hq => wp_region ?_⟩
        have := s1 a w θ Q hp hs hf hq
        rw [Array.length_toList, ← List.range_eq_range'] at this
        exact this
      | true =>
        simp only [runCode] at h
        obtain ⟨env', tm', st', h1, l1, s1⟩ := runDraw_ok (N := N) hctx hm id hdr hd hro hrn h hn
        exact ⟨.normal, env', tm', st', 0, h1, l1, s1⟩
    | seq x y =>
      simp only [codeOk, Bool.and_eq_true] at hok
      simp only [runCode] at h
      obtain ⟨e1, env1, tm1, st1, _, h1, l1, s1⟩ := ihA x hro hrn hok.1 h hn
      cases e1 with
      | normal =>
        simp only at h1
        obtain ⟨e2, env2, tm2, st2, _, h2, l2, s2⟩ := ihA y (by rw [l1.wlo]; exact hro) (Nat.le_trans hrn l1.next) hok.2 h1 l1.nn
        refine ⟨e2, env2, tm2, st2, 0, h2, l1.trans l2, fun a w θ Q hp hs hf hq => wp_seq ?_⟩
        refine s1 a w θ _ hp hs (fun i i1 i2 => hf i i1 (Nat.lt_of_lt_of_le i2 l2.next)) ?_
        intro a' w' ⟨θ', g1, g2, g3, g4⟩
        show y.wp P Q a' w'
        refine s2 a' w' θ' Q g1 g2 (Fresh.step hf g4 l1.next) ?_
        intro a'' w'' hpc
        exact hq a'' w'' (Piece.trans g4 g3 l1 l2 hpc)
      | ret =>
        refine ⟨.ret, env1, tm1, st1, 0, h1, l1, fun a w θ Q hp hs hf hq => wp_seq ?_⟩
        exact s1 a w θ _ hp hs hf fun a' w' hpc => hq a' w' hpc
      | exit id =>
        refine ⟨.exit id, env1, tm1, st1, 0, h1, l1, fun a w θ Q hp hs hf hq => wp_seq ?_⟩
        exact s1 a w θ _ hp hs hf fun a' w' hpc => hq a' w' hpc
    | cond x y z =>
      simp only [codeOk, Bool.and_eq_true] at hok
      simp only [runCode] at h
      obtain ⟨e1, av, s1, h1, p1, n1, x1, w1, hh1, hx1, r1⟩ := opd_ok h hn
      have hpre : ∀ {a : Act} {w : World} {θ : Th}, OpPre ro env θ tm st a w → OpPre ro e1 θ tm s1 a w := fun hp => ⟨hp.tm.mono p1 (ThLe.refl _), by rw [hh1]; exact hp.wr.mono p1 (ThLe.refl _), hp.inj⟩
      have l0 : Leaf env e1 st s1 := ⟨p1, n1, x1, w1⟩
      cases av <;> (try simp only [T.den] at h1) <;> (try (cases h1; done))
      rename_i b
      cases b with
      | true =>
        simp only at h1
        obtain ⟨e2, env2, tm2, st2, _, h2, l2, s2⟩ := ihA y (by rw [w1]; exact hro) (by omega) hok.1 h1 n1
        refine ⟨e2, env2, tm2, st2, 0, h2, l0.trans l2, fun a w θ Q hp hs hf hq => ?_⟩
        have hc := r1 a θ hp.tm
        simp only [Rel] at hc
        refine wp_cond_true hc (s2 a w θ Q (hpre hp) hs (by rw [hx1]; exact hf) fun a' w' hpc => hq a' w' ?_)
        obtain ⟨θ', g1, g2, g3, g4⟩ := hpc
        rw [hx1, w1] at g4
        exact ⟨θ', g1, g2, g3, g4⟩
      | false =>
        simp only at h1
        obtain ⟨e2, env2, tm2, st2, _, h2, l2, s2⟩ := ihA z (by rw [w1]; exact hro) (by omega) hok.2 h1 n1
        refine ⟨e2, env2, tm2, st2, 0, h2, l0.trans l2, fun a w θ Q hp hs hf hq => ?_⟩
        have hc := r1 a θ hp.tm
        simp only [Rel] at hc
        refine wp_cond_false hc (s2 a w θ Q (hpre hp) hs (by rw [hx1]; exact hf) fun a' w' hpc => hq a' w' ?_)
        obtain ⟨θ', g1, g2, g3, g4⟩ := hpc
        rw [hx1, w1] at g4
        exact ⟨θ', g1, g2, g3, g4⟩
    | block id b =>
      simp only [codeOk] at hok
      simp only [runCode] at h
      obtain ⟨e1, env1, tm1, st1, _, h1, l1, s1⟩ := ihA b hro hrn hok h hn
      cases e1 with
      | normal =>
        refine ⟨.normal, env1, tm1, st1, 0, h1, l1, fun a w θ Q hp hs hf hq => wp_block ?_⟩
        exact s1 a w θ _ hp hs hf fun a' w' hpc => hq a' w' hpc
      | ret =>
        refine ⟨.ret, env1, tm1, st1, 0, h1, l1, fun a w θ Q hp hs hf hq => wp_block ?_⟩
        exact s1 a w θ _ hp hs hf fun a' w' hpc => hq a' w' hpc
      | exit j =>
        simp only at h1
        cases hj : Nat.beq id j with
        | true =>
          simp only [hj] at h1
          obtain rfl : id = j := Nat.eq_of_beq_eq_true hj
          refine ⟨.normal, env1, tm1, st1, 0, h1, l1, fun a w θ Q hp hs hf hq => wp_block ?_⟩
          refine s1 a w θ _ hp hs hf fun a' w' hpc => ?_
          show (if id = id then Q .normal a' w' else _)
          rw [if_pos rfl]
          exact hq a' w' hpc
        | false =>
          simp only [hj] at h1
          have hne : j ≠ id := by
            rintro rfl
            rw [show Nat.beq j j = true from Nat.beq_refl j] at hj; cases hj
          refine ⟨.exit j, env1, tm1, st1, 0, h1, l1, fun a w θ Q hp hs hf hq => wp_block ?_⟩
          refine s1 a w θ _ hp hs hf fun a' w' hpc => ?_
          show (if j = id then _ else Q (.exit j) a' w')
          rw [if_neg hne]
          exact hq a' w' hpc
    | loop b =>
      simp only [codeOk] at hok
      obtain ⟨e1, env1, tm1, st1, m, h1, l1, s1⟩ := loop b hro hrn hok h hn
      exact ⟨e1, env1, tm1, st1, 0, h1, l1, fun a w θ Q hp hs hf hq => wp_loop_rounds m (s1 a w θ Q hp hs hf hq)⟩
    | scope b =>
      simp only [codeOk] at hok
      simp only [runCode] at h
      obtain ⟨e1, env1, tm1, st1, _, h1, l1, s1⟩ := ihA b hro hrn hok h hn
      refine ⟨e1, env1, tm1, st1, 0, h1, l1, fun a w θ Q hp hs hf hq => wp_scope_straight ?_⟩
      refine s1 a w θ _ hp hs hf fun a' w' hpc => ?_
      cases e1 <;> exact hq a' w' hpc

end
end Go.Proofs.Ytconlkliclhbpaa.Sx
