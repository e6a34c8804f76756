/- The texts of points: both sides ask whether the point is valid, find the same, and make the same text; of the library's table one cell is asked. -/
import Derived.Test.YtejbahdihfnbcaaDoorTxC
import Derived.Test.YtejbahdihfnbcaaDoorSxC
import Derived.Test.YtejbahdihfnbcaaDoorModes
namespace Go.Proofs.YtejbahdihfnbcaaDoor.nt
open Go.ChangeShapes Go.WideShapes Go.ChangeAt Go.RowKit
set_option linter.unusedVariables false
theorem box3 {x y z : Value} {t : TypeId} {w w1 : World} (hb : Below (w.alloc (Obj.cells #[x, y, z] t)).heap.size (w.alloc (Obj.cells #[x, y, z] t)) w1) :
    w1.cell? ⟨w.heap.size, 0, none⟩ = some x ∧ w1.cell? ⟨w.heap.size, 1, none⟩ = some y ∧ w1.cell? ⟨w.heap.size, 2, none⟩ = some z ∧ Below w.heap.size w w1 := by
  have h := start3 x y z t w
  exact keep3 (w1 := w.alloc (Obj.cells #[x, y, z] t)) h.1 h.2.1 h.2.2.1 ((Below.refl _ _).alloc (Nat.le_refl _) _) hb
theorem nums3 (x y z : Nat) (hx : x < 4294967296) (hy : y < 4294967296) (hz : z < 4294967296) (bk c : Nat) (w : World) (hT : Tab w) (hbk : bk < w.heap.size)
    (h0 : w.cell? ⟨bk, 0, none⟩ = some (.float .f32 x)) (h1 : w.cell? ⟨bk, 1, none⟩ = some (.float .f32 y)) (h2 : w.cell? ⟨bk, 2, none⟩ = some (.float .f32 z)) :
    Calls Tryd.prog 29 #[.slice (some ⟨bk, 0, none⟩) 3 c] w (NPost [x, y, z] w) :=
  nums29 [x, y, z] (by intro b hb; simp at hb; rcases hb with rfl | rfl | rfl <;> assumption) (by simp) (by simp) bk 0 c w hT hbk (by
    intro j b hj
    match j, hj with
    | 0, hj => cases hj; exact h0
    | 1, hj => cases hj; exact h1
    | 2, hj => cases hj; exact h2)
def V3 (x y z : Nat) : Value := .agg #[.float .f32 x, .float .f32 y, .float .f32 z]
def BoolOk (f : FuncId) (v : Value) (b : Bool) : Prop := ∀ w, Calls Tryd.prog f #[v] w fun e w' => e = .returned (.bool b) ∧ Below w.heap.size w w'
def PtTxt (b : Bool) (x y z : Nat) : ByteArray := match b with | true => joined [x, y, z] | false => ⟨#[]⟩
def PtPost (b : Bool) (x y z : Nat) (w : World) (e : Ending) (w' : World) : Prop := e = .returned (.string (PtTxt b x y z)) ∧ Below w.heap.size w w'
set_option maxRecDepth 100000 in
set_option maxHeartbeats 1600000 in
theorem spt10 (x y z : Nat) (hx : x < 4294967296) (hy : y < 4294967296) (hz : z < 4294967296) (b : Bool) (hb : BoolOk 26 (V3 x y z) b) (w : World) :
    Calls Tryd.prog 10 #[V3 x y z] w (PtPost b x y z w) := by
  have HB := Lib.hid hb
  clear hb
  unfold V3
  cases b
  all_goals
    go_enter Tryd.func10, Tryd.ntmps10
    go_wp2_with (first
      | (go_at_call 26; refine (HB.out _).mono ?_; rintro e w1 ⟨rfl, hb1⟩; obtain ⟨f0, f1, f2, hb3⟩ := box3 hb1)
      | (go_at_call 27; refine (txt27 x y z hx hy hz _).mono ?_; rintro e w2 ⟨rfl, hb2⟩))
    go_ret
    first
      | exact ⟨rfl, hb3⟩
      | exact ⟨by show _ = Ending.returned (.string (joined [x, y, z])); rw [joined3]; rfl, hb3.trans (hb2.mono hb3.size)⟩
set_option maxRecDepth 100000 in
set_option maxHeartbeats 1600000 in
theorem ipt12 (x y z : Nat) (hx : x < 4294967296) (hy : y < 4294967296) (hz : z < 4294967296) (b : Bool) (hb : BoolOk 28 (V3 x y z) b) (w : World) (hT : Tab w) :
    Calls Tryd.prog 12 #[V3 x y z] w (PtPost b x y z w) := by
  have HB := Lib.hid hb
  have HT := Lib.hid hT
  clear hb hT
  unfold V3
  cases b
  all_goals
    go_enter Tryd.func12, Tryd.ntmps12
    go_wp2_with (first
      | (go_at_call 28; refine (HB.out _).mono ?_; rintro e w1 ⟨rfl, hb1⟩; obtain ⟨f0, f1, f2, hb3⟩ := box3 hb1)
      | (go_at_call 29; refine (nums3 x y z hx hy hz _ _ _ (HT.out.below hb3) (cell_lt f0) f0 f1 f2).mono ?_; rintro e w2 ⟨rfl, hb2⟩))
    go_ret
    first
      | exact ⟨rfl, hb3⟩
      | exact ⟨rfl, hb3.trans (hb2.mono hb3.size)⟩

section
open Sx
theorem cb_eq {a b : Nat} {d : Option Nat} (ha : FRel .f32 a d) (hb : FRel .f32 b d) : cb a = cb b := by
  have e1 : nanB a = !(cmpD 2 .f32 d d) := by
    rw [cmpD_eq 2 .f32 a a d d ha ha]
    simp only [nanB, cmpC, bne]
  have e2 : nanB b = !(cmpD 2 .f32 d d) := by
    rw [cmpD_eq 2 .f32 b b d d hb hb]
    simp only [nanB, cmpC, bne]
  cases d with
  | none =>
    rw [cb_nan (e1.trans rfl), cb_nan (e2.trans rfl)]
  | some x =>
    rw [ha.some.1, hb.some.1]
theorem f32_lt {a : Nat} {d : Option Nat} (h : FRel .f32 a d) : a < 4294967296 := by
  have := h.1
  simp only [fltOk, Nat.blt_eq] at this
  exact this
abbrev k3 : List FloatKind := [.f32, .f32, .f32]
def sc3 (d0 d1 d2 : Option Nat) : List Sc := [.f .f32 d0, .f .f32 d1, .f .f32 d2]
theorem scs3 {x y z : Nat} {d0 d1 d2 : Option Nat} (h0 : FRel .f32 x d0) (h1 : FRel .f32 y d1) (h2 : FRel .f32 z d2) : ScRels [.f .f32, .f .f32, .f .f32] (sc3 d0 d1 d2) [.float .f32 x, .float .f32 y, .float .f32 z] :=
  ⟨_, _, _, _, rfl, rfl, ⟨d0, x, rfl, rfl, h0⟩, _, _, _, _, rfl, rfl, ⟨d1, y, rfl, rfl, h1⟩, _, _, _, _, rfl, rfl, ⟨d2, z, rfl, rfl, h2⟩, rfl, rfl⟩
theorem scs3_inv {d0 d1 d2 : Option Nat} {vs : List Value} (h : ScRels [.f .f32, .f .f32, .f .f32] (sc3 d0 d1 d2) vs) : ∃ x y z, vs = [.float .f32 x, .float .f32 y, .float .f32 z] ∧ FRel .f32 x d0 ∧ FRel .f32 y d1 ∧ FRel .f32 z d2 := by
  obtain ⟨_, _, _, _, e, rfl, ⟨d, x, rfl, rfl, h0⟩, _, _, _, _, rfl, rfl, ⟨d', y, rfl, rfl, h1⟩, _, _, _, _, rfl, rfl, ⟨d'', z, rfl, rfl, h2⟩, rfl, rfl⟩ := h
  simp only [sc3, List.cons.injEq, Sc.f.injEq, true_and, and_true] at e
  obtain ⟨rfl, rfl, rfl⟩ := e
  exact ⟨x, y, z, rfl, h0, h1, h2⟩
def ToPost (d0 d1 d2 : Option Nat) (w : World) (e : Ending) (w' : World) : Prop := ∃ x y z, e = .returned (V3 x y z) ∧ FRel .f32 x d0 ∧ FRel .f32 y d1 ∧ FRel .f32 z d2 ∧ Below w.heap.size w w'
theorem topt11 {x y z : Nat} {d0 d1 d2 : Option Nat} (h0 : FRel .f32 x d0) (h1 : FRel .f32 y d1) (h2 : FRel .f32 z d2) (w : World) : Calls Tryd.prog 11 #[V3 x y z] w (ToPost d0 d1 d2 w) := by
  have hs := table.sums 11 s0 (by kernel_rfl)
  have hg : Gt (TTof ts) s0.idx (sc3 d0 d1 d2) = some (sc3 d0 d1 d2) := by
    rw [Gt_eq table.calls, show TTof ts s0.idx = t0 from by kernel_rfl]
    rfl
  refine (hs.call (sc3 d0 d1 d2) _ [V3 x y z] w ⟨_, [], _, [], (List.append_nil _).symm, rfl, ⟨_, rfl, scs3 h0 h1 h2⟩, rfl, rfl⟩ hg).mono ?_
  rintro e w' ⟨v, rfl, ⟨vs, hr, rfl⟩, hb⟩
  obtain ⟨a, a', u, us, e1, rfl, ⟨cs, rfl, hc⟩, rfl, rfl⟩ := hr
  rw [List.append_nil] at e1
  subst e1
  obtain ⟨p, q, r, rfl, g0, g1, g2⟩ := scs3_inv hc
  exact ⟨p, q, r, rfl, g0, g1, g2, hb⟩
theorem bool_of {f : FuncId} {s : Sum} (hf : findS f sm = some s) (ha : s.args = [.agg [.f .f32, .f .f32, .f .f32]]) (hr : s.res = [.val .b]) {x y z : Nat} {d0 d1 d2 : Option Nat} (h0 : FRel .f32 x d0) (h1 : FRel .f32 y d1) (h2 : FRel .f32 z d2) {b : Bool}
    (hg : Gt (TTof ts) s.idx (sc3 d0 d1 d2) = some [.b b]) : BoolOk f (V3 x y z) b := by
  intro w
  have hs := table.sums f s hf
  refine (hs.call (sc3 d0 d1 d2) _ [V3 x y z] w (by rw [ha]; exact ⟨_, [], _, [], (List.append_nil _).symm, rfl, ⟨_, rfl, scs3 h0 h1 h2⟩, rfl, rfl⟩) hg).mono ?_
  rintro e w' ⟨v, rfl, hv, hb⟩
  rw [hr] at hv
  obtain ⟨vs, hq, rfl⟩ := hv
  obtain ⟨a, a', u, us, e1, rfl, ⟨c, rfl, hc⟩, rfl, rfl⟩ := hq
  obtain ⟨yb, rfl, rfl⟩ := hc
  simp at e1
  subst e1
  exact ⟨rfl, hb⟩
theorem valid_same (d0 d1 d2 : Option Nat) : ∃ b, Gt (TTof ts) s2.idx (sc3 d0 d1 d2) = some [.b b] ∧ Gt (TTof ts) s5.idx (sc3 d0 d1 d2) = some [.b b] := by
  obtain ⟨_, h⟩ := test5.opt _ _ _ rfl
  obtain ⟨b, h1, h2, _⟩ := h (sc3 d0 d1 d2) ⟨d0, _, rfl, d1, _, rfl, d2, _, rfl, rfl⟩
  exact ⟨b, h2, h1⟩
end
end Go.Proofs.YtejbahdihfnbcaaDoor.nt
