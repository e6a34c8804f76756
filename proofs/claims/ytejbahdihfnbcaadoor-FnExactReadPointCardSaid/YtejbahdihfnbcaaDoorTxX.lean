/- Reading points: the law's own walk. -/
import Derived.Test.YtejbahdihfnbcaaDoorTxW
namespace Go.Proofs.YtejbahdihfnbcaaDoor.nt
open Go.ChangeShapes Go.WideShapes Go.ChangeAt Go.RowKit
set_option linter.unusedVariables false
section
open Sx
theorem same_true (q : Option Nat) : Gt (TTof ts) 30 [.f .f64 q, .f .f64 q] = some [.b true] := by
  obtain ⟨ys, g1, _, _, g2⟩ := same30.opq _ _ _ _ rfl [.f .f64 q, .f .f64 q] ⟨q, _, rfl, q, _, rfl, rfl⟩
  rw [g2 rfl _ rfl] at g1
  exact g1
theorem eq31 (d0 d1 d2 : Option Nat) : Gt (TTof ts) s31.idx [.f .f32 d0, .f .f32 d1, .f .f32 d2, .f .f32 d0, .f .f32 d1, .f .f32 d2] = some [.b true] := by
  obtain ⟨q0, h0⟩ := wide_all d0
  obtain ⟨q1, h1⟩ := wide_all d1
  obtain ⟨q2, h2⟩ := wide_all d2
  have s0 := same_true q0
  have s1 := same_true q1
  have s2 := same_true q2
  rw [Gt_eq table.calls, show TTof ts s31.idx = t31 from by kernel_rfl]
  unfold t31
  simp [T.den, getF, h0, h1, h2, UO.kind, denL, Rf.den, s0, s1, s2]
theorem eq21 {x y z : Nat} (hx : x < 4294967296) (hy : y < 4294967296) (hz : z < 4294967296) (w : World) : Calls Tryd.prog 21 #[V3 x y z, V3 x y z] w fun e w' => e = .returned (.bool true) ∧ Below w.heap.size w w' := by
  obtain ⟨d0, h0⟩ := frel_some hx
  obtain ⟨d1, h1⟩ := frel_some hy
  obtain ⟨d2, h2⟩ := frel_some hz
  have hs := table.sums 21 s31 (by kernel_rfl)
  refine (hs.call [.f .f32 d0, .f .f32 d1, .f .f32 d2, .f .f32 d0, .f .f32 d1, .f .f32 d2] _ [V3 x y z, V3 x y z] w ⟨sc3 d0 d1 d2, sc3 d0 d1 d2, _, [_], rfl, rfl, ⟨_, rfl, scs3 h0 h1 h2⟩, sc3 d0 d1 d2, [], _, [], rfl, rfl, ⟨_, rfl, scs3 h0 h1 h2⟩, rfl, rfl⟩ (eq31 d0 d1 d2)).mono ?_
  rintro e w' ⟨v, rfl, hv, hb⟩
  obtain ⟨vs, hq, rfl⟩ := hv
  obtain ⟨a, a', u, us, e1, rfl, ⟨c, rfl, hc⟩, rfl, rfl⟩ := hq
  obtain ⟨yb, rfl, rfl⟩ := hc
  simp at e1
  subst e1
  exact ⟨rfl, hb⟩
def Out (x y z : Nat) (c : Int) : Value := .tuple #[.agg #[.float .f32 x, .float .f32 y, .float .f32 z], .int .i64 c]
/-- both sides read the same -/
theorem both (t : ByteArray) (ht : t.size ≤ 1048576) : ∃ (x y z : Nat) (c : Int), x < 4294967296 ∧ y < 4294967296 ∧ z < 4294967296 ∧ (∀ w, Calls Tryd.prog 19 #[.string t] w (Ret (Out x y z c) w)) ∧ (∀ w, MaxC w → Tab w → ErrVars w → Calls Tryd.prog 20 #[.string t] w (Ret (Out x y z c) w)) := by
  by_cases h : ∃ x y z, nums (spl t.data.toList) = some [x, y, z]
  · obtain ⟨x, y, z, hn⟩ := h
    have hx := nums_lt _ _ hn x (by simp)
    have hy := nums_lt _ _ hn y (by simp)
    have hz := nums_lt _ _ hn z (by simp)
    obtain ⟨d0, h0⟩ := frel_some hx
    obtain ⟨d1, h1⟩ := frel_some hy
    obtain ⟨d2, h2⟩ := frel_some hz
    obtain ⟨b, g2, g5⟩ := valid_same d0 d1 d2
    have h19 := fun w => spoint19 t ht x y z hn b (bool_of (f := 26) (s := s2) (by kernel_rfl) rfl rfl h0 h1 h2 g2) w
    rw [np5] at g5
    have hb : (![d0, d1, d2].any npOf) = b := by
      have := Option.some.inj g5
      simp only [List.cons.injEq, Sc.b.injEq, and_true] at this
      rw [← this]
      simp [List.any_cons]
    have hpl : Plain3 x y z b := by
      intro g c W hg hf
      rw [← hb]
      refine ap40 [x, y, z] [d0, d1, d2] 3 rfl rfl (by decide) ?_ g c W hg hf
      intro j p d hp hd
      match j, hp, hd with
      | 0, hp, hd => cases hp; cases hd; exact h0
      | 1, hp, hd => cases hp; cases hd; exact h1
      | 2, hp, hd => cases hp; cases hd; exact h2
    have h20 := fun w hM hT hE => ipoint20 t ht x y z hn b hpl w hM hT hE
    cases b with
    | true => exact ⟨x, y, z, 0, hx, hy, hz, h19, h20⟩
    | false => exact ⟨0, 0, 0, 5, by decide, by decide, by decide, h19, h20⟩
  · have hn : ∀ x y z, nums (spl t.data.toList) ≠ some [x, y, z] := fun x y z e => h ⟨x, y, z, e⟩
    exact ⟨0, 0, 0, 5, by decide, by decide, by decide, fun w => spoint19n t ht hn w, fun w hM hT hE => ipoint20n t ht hn w hM hT hE⟩
end
set_option maxRecDepth 100000 in
set_option maxHeartbeats 1600000 in
theorem law7 (t : ByteArray) (w : World) (hM : MaxC w) (hT : Tab w) (hE : ErrVars w) : Calls Tryd.prog 7 #[.string t] w fun e w' => e = .returned (.bool true) ∧ Below w.heap.size w w' := by
  by_cases ht : 1048576 < t.size
  · clear hT hE hM
    have ht' : (1048576 : Int) < t.size := by omega
    go_enter Tryd.func7, Tryd.ntmps7
    go_wp2
    go_ret
    exact ⟨rfl, Below.refl _ _⟩
  · have ht0 : t.size ≤ 1048576 := by omega
    have ht' : (t.size : Int) ≤ 1048576 := by omega
    obtain ⟨x, y, z, c, hx, hy, hz, h1, h2⟩ := both t ht0
    have H2 := Lib.hid (fun W (hW : Below w.heap.size w W) => h2 W (hM.below hW) (hT.below hW) (hE.below hW))
    have H1 := Lib.hid h1
    have HQ := Lib.hid (fun W => eq21 hx hy hz W)
    clear h1 h2 hM hT hE ht hx hy hz
    have hst := store_run
    go_enter Tryd.func7, Tryd.ntmps7
    go_wp2_with fail
    refine (H1.out _).mono ?_
    rintro e w1 ⟨rfl, hb1⟩
    have HB1 := Lib.hid hb1
    clear hb1
    unfold Out
    have X1 := Lib.hid (Box.new (.float .f32 x) (.float .f32 y) (.float .f32 z) w1)
    have B2 := Lib.hid (HB1.out.alloc HB1.out.size (.cells #[.float .f32 x, .float .f32 y, .float .f32 z] 27))
    go_wp2_with fail
    generalize w1.alloc (Obj.cells #[.float .f32 x, .float .f32 y, .float .f32 z] 27) = W2 at X1 B2 ⊢
    generalize w1.heap.size = g1 at X1 ⊢
    refine (H2.out _ B2.out).mono ?_
    rintro e w3 ⟨rfl, hb3⟩
    have X3 := X1.out.below hb3
    have B3 := keepB hb3 B2.out
    have X4 := X3.below ((Below.refl w3.heap.size w3).alloc (Nat.le_refl _) (.cells #[.float .f32 x, .float .f32 y, .float .f32 z] 27))
    have Y4 := Box.new (.float .f32 x) (.float .f32 y) (.float .f32 z) w3
    have B4 := Lib.hid (B3.alloc B3.size (.cells #[.float .f32 x, .float .f32 y, .float .f32 z] 27))
    obtain ⟨s0, s1, s2, _⟩ := X4.facts
    obtain ⟨t0, t1, t2, _⟩ := Y4.facts
    clear X3 B3 X4 Y4 hb3
    unfold Out
    go_wp2_with fail
    refine (HQ.out _).mono ?_
    rintro e w5 ⟨rfl, hb5⟩
    have B5 := Lib.hid (keepB hb5 B4.out)
    clear hb5 s0 s1 s2 t0 t1 t2
    go_wp2
    go_ret
    exact ⟨rfl, B5.out⟩
end Go.Proofs.YtejbahdihfnbcaaDoor.nt
