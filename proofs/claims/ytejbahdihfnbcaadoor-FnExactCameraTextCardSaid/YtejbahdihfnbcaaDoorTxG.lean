/- The texts of cameras: both sides ask whether the camera is valid, find the same, and make the same text; of the library's table one cell is asked. -/
import Derived.Test.YtejbahdihfnbcaaDoorTxF
namespace Go.Proofs.YtejbahdihfnbcaaDoor.nt
open Go.ChangeShapes Go.WideShapes Go.ChangeAt Go.RowKit
set_option linter.unusedVariables false
set_option linter.unusedSimpArgs false
open Sx
section
variable {e0 e1 e2 e3 e4 e5 e6 e7 e8 e9 e10 : Nat} {d0 d1 d2 d3 d4 d5 d6 d7 d8 d9 d10 : Option Nat}
abbrev k11 : List FloatKind := [.f32, .f32, .f32, .f32, .f32, .f32, .f32, .f32, .f32, .f32, .f32]
def sc11 (d0 d1 d2 d3 d4 d5 d6 d7 d8 d9 d10 : Option Nat) : List Sc := [.f .f32 d0, .f .f32 d1, .f .f32 d2, .f .f32 d3, .f .f32 d4, .f .f32 d5, .f .f32 d6, .f .f32 d7, .f .f32 d8, .f .f32 d9, .f .f32 d10]
theorem scs11 (h0 : FRel .f32 e0 d0) (h1 : FRel .f32 e1 d1) (h2 : FRel .f32 e2 d2) (h3 : FRel .f32 e3 d3) (h4 : FRel .f32 e4 d4) (h5 : FRel .f32 e5 d5) (h6 : FRel .f32 e6 d6) (h7 : FRel .f32 e7 d7) (h8 : FRel .f32 e8 d8) (h9 : FRel .f32 e9 d9) (h10 : FRel .f32 e10 d10) : ScRels [.f .f32, .f .f32, .f .f32, .f .f32, .f .f32, .f .f32, .f .f32, .f .f32, .f .f32, .f .f32, .f .f32] (sc11 d0 d1 d2 d3 d4 d5 d6 d7 d8 d9 d10) [.float .f32 e0, .float .f32 e1, .float .f32 e2, .float .f32 e3, .float .f32 e4, .float .f32 e5, .float .f32 e6, .float .f32 e7, .float .f32 e8, .float .f32 e9, .float .f32 e10] := ⟨_, _, _, _, rfl, rfl, ⟨d0, e0, rfl, rfl, h0⟩, _, _, _, _, rfl, rfl, ⟨d1, e1, rfl, rfl, h1⟩, _, _, _, _, rfl, rfl, ⟨d2, e2, rfl, rfl, h2⟩, _, _, _, _, rfl, rfl, ⟨d3, e3, rfl, rfl, h3⟩, _, _, _, _, rfl, rfl, ⟨d4, e4, rfl, rfl, h4⟩, _, _, _, _, rfl, rfl, ⟨d5, e5, rfl, rfl, h5⟩, _, _, _, _, rfl, rfl, ⟨d6, e6, rfl, rfl, h6⟩, _, _, _, _, rfl, rfl, ⟨d7, e7, rfl, rfl, h7⟩, _, _, _, _, rfl, rfl, ⟨d8, e8, rfl, rfl, h8⟩, _, _, _, _, rfl, rfl, ⟨d9, e9, rfl, rfl, h9⟩, _, _, _, _, rfl, rfl, ⟨d10, e10, rfl, rfl, h10⟩, rfl, rfl⟩
theorem scr_cons {k : FloatKind} {d : Option Nat} {ss : List SK} {xs : List Sc} {vs : List Value} (h : ScRels (.f k :: ss) (.f k d :: xs) vs) : ∃ e vs', vs = .float k e :: vs' ∧ FRel k e d ∧ ScRels ss xs vs' := by
  obtain ⟨x, xs', v, vs', e1, rfl, ⟨d', b, rfl, rfl, hf⟩, hr⟩ := h
  cases e1
  exact ⟨b, vs', rfl, hf, hr⟩
theorem scr_nil {vs : List Value} (h : ScRels [] [] vs) : vs = [] := h.2
theorem scs11_inv {vs : List Value} (h : ScRels [.f .f32, .f .f32, .f .f32, .f .f32, .f .f32, .f .f32, .f .f32, .f .f32, .f .f32, .f .f32, .f .f32] (sc11 d0 d1 d2 d3 d4 d5 d6 d7 d8 d9 d10) vs) : ∃ e0 e1 e2 e3 e4 e5 e6 e7 e8 e9 e10, vs = [.float .f32 e0, .float .f32 e1, .float .f32 e2, .float .f32 e3, .float .f32 e4, .float .f32 e5, .float .f32 e6, .float .f32 e7, .float .f32 e8, .float .f32 e9, .float .f32 e10] ∧ FRel .f32 e0 d0 ∧ FRel .f32 e1 d1 ∧ FRel .f32 e2 d2 ∧ FRel .f32 e3 d3 ∧ FRel .f32 e4 d4 ∧ FRel .f32 e5 d5 ∧ FRel .f32 e6 d6 ∧ FRel .f32 e7 d7 ∧ FRel .f32 e8 d8 ∧ FRel .f32 e9 d9 ∧ FRel .f32 e10 d10 := by
  obtain ⟨e0, v0, rfl, h0, h⟩ := scr_cons h
  obtain ⟨e1, v1, rfl, h1, h⟩ := scr_cons h
  obtain ⟨e2, v2, rfl, h2, h⟩ := scr_cons h
  obtain ⟨e3, v3, rfl, h3, h⟩ := scr_cons h
  obtain ⟨e4, v4, rfl, h4, h⟩ := scr_cons h
  obtain ⟨e5, v5, rfl, h5, h⟩ := scr_cons h
  obtain ⟨e6, v6, rfl, h6, h⟩ := scr_cons h
  obtain ⟨e7, v7, rfl, h7, h⟩ := scr_cons h
  obtain ⟨e8, v8, rfl, h8, h⟩ := scr_cons h
  obtain ⟨e9, v9, rfl, h9, h⟩ := scr_cons h
  obtain ⟨e10, v10, rfl, h10, h⟩ := scr_cons h
  have h := scr_nil h
  subst h
  exact ⟨e0, e1, e2, e3, e4, e5, e6, e7, e8, e9, e10, rfl, h0, h1, h2, h3, h4, h5, h6, h7, h8, h9, h10⟩
def ToPostC (d0 d1 d2 d3 d4 d5 d6 d7 d8 d9 d10 : Option Nat) (w : World) (e : Ending) (w' : World) : Prop := ∃ e0 e1 e2 e3 e4 e5 e6 e7 e8 e9 e10, e = .returned (VC e0 e1 e2 e3 e4 e5 e6 e7 e8 e9 e10) ∧ FRel .f32 e0 d0 ∧ FRel .f32 e1 d1 ∧ FRel .f32 e2 d2 ∧ FRel .f32 e3 d3 ∧ FRel .f32 e4 d4 ∧ FRel .f32 e5 d5 ∧ FRel .f32 e6 d6 ∧ FRel .f32 e7 d7 ∧ FRel .f32 e8 d8 ∧ FRel .f32 e9 d9 ∧ FRel .f32 e10 d10 ∧ Below w.heap.size w w'
theorem tocam14 (h0 : FRel .f32 e0 d0) (h1 : FRel .f32 e1 d1) (h2 : FRel .f32 e2 d2) (h3 : FRel .f32 e3 d3) (h4 : FRel .f32 e4 d4) (h5 : FRel .f32 e5 d5) (h6 : FRel .f32 e6 d6) (h7 : FRel .f32 e7 d7) (h8 : FRel .f32 e8 d8) (h9 : FRel .f32 e9 d9) (h10 : FRel .f32 e10 d10) (w : World) : Calls Tryd.prog 14 #[VC e0 e1 e2 e3 e4 e5 e6 e7 e8 e9 e10] w (ToPostC d0 d1 d2 d3 d4 d5 d6 d7 d8 d9 d10 w) := by
  have hs := table.sums 14 s6 (by kernel_rfl)
  have hg : Gt (TTof ts) s6.idx (sc11 d0 d1 d2 d3 d4 d5 d6 d7 d8 d9 d10) = some (sc11 d0 d1 d2 d3 d4 d5 d6 d7 d8 d9 d10) := by
    rw [Gt_eq table.calls, show TTof ts s6.idx = t6 from by kernel_rfl]
    kernel_rfl
  refine (hs.call (sc11 d0 d1 d2 d3 d4 d5 d6 d7 d8 d9 d10) _ [VC e0 e1 e2 e3 e4 e5 e6 e7 e8 e9 e10] w ⟨_, [], _, [], (List.append_nil _).symm, rfl, ⟨_, rfl, scs11 h0 h1 h2 h3 h4 h5 h6 h7 h8 h9 h10⟩, rfl, rfl⟩ hg).mono ?_
  rintro e w' ⟨v, rfl, ⟨vs, hr, rfl⟩, hb⟩
  obtain ⟨a, a', u, us, e1, rfl, ⟨cs, rfl, hc⟩, rfl, rfl⟩ := hr
  rw [List.append_nil] at e1
  subst e1
  obtain ⟨p0, p1, p2, p3, p4, p5, p6, p7, p8, p9, p10, rfl, g0, g1, g2, g3, g4, g5, g6, g7, g8, g9, g10⟩ := scs11_inv hc
  exact ⟨p0, p1, p2, p3, p4, p5, p6, p7, p8, p9, p10, rfl, g0, g1, g2, g3, g4, g5, g6, g7, g8, g9, g10, hb⟩
theorem cam32 (h0 : FRel .f32 e0 d0) (h1 : FRel .f32 e1 d1) (h2 : FRel .f32 e2 d2) (h3 : FRel .f32 e3 d3) (h4 : FRel .f32 e4 d4) (h5 : FRel .f32 e5 d5) (h6 : FRel .f32 e6 d6) (h7 : FRel .f32 e7 d7) (h8 : FRel .f32 e8 d8) (h9 : FRel .f32 e9 d9) (h10 : FRel .f32 e10 d10) {b : Bool} (hg : Gt (TTof ts) s29.idx (sc11 d0 d1 d2 d3 d4 d5 d6 d7 d8 d9 d10) = some [.b b]) : BoolOk 32 (VC e0 e1 e2 e3 e4 e5 e6 e7 e8 e9 e10) b := by
  intro w
  have hs := table.sums 32 s29 (by kernel_rfl)
  refine (hs.call (sc11 d0 d1 d2 d3 d4 d5 d6 d7 d8 d9 d10) _ [VC e0 e1 e2 e3 e4 e5 e6 e7 e8 e9 e10] w ⟨_, [], _, [], (List.append_nil _).symm, rfl, ⟨_, rfl, scs11 h0 h1 h2 h3 h4 h5 h6 h7 h8 h9 h10⟩, rfl, rfl⟩ hg).mono ?_
  rintro e w' ⟨v, rfl, hv, hb⟩
  obtain ⟨vs, hq, rfl⟩ := hv
  obtain ⟨a, a', u, us, e1, rfl, ⟨c, rfl, hc⟩, rfl, rfl⟩ := hq
  obtain ⟨yb, rfl, rfl⟩ := hc
  simp at e1
  subst e1
  exact ⟨rfl, hb⟩
theorem cam30 (h0 : FRel .f32 e0 d0) (h1 : FRel .f32 e1 d1) (h2 : FRel .f32 e2 d2) (h3 : FRel .f32 e3 d3) (h4 : FRel .f32 e4 d4) (h5 : FRel .f32 e5 d5) (h6 : FRel .f32 e6 d6) (h7 : FRel .f32 e7 d7) (h8 : FRel .f32 e8 d8) (h9 : FRel .f32 e9 d9) (h10 : FRel .f32 e10 d10) {b : Bool} (hg : Gt (TTof ts) s17.idx (sc11 d0 d1 d2 d3 d4 d5 d6 d7 d8 d9 d10) = some [.b b]) : PtrOk e0 e1 e2 e3 e4 e5 e6 e7 e8 e9 e10 30 b := by
  intro w
  have hs := table.sums 30 s17 (by kernel_rfl)
  refine (hs.call (sc11 d0 d1 d2 d3 d4 d5 d6 d7 d8 d9 d10) _ [.pointer (some ⟨w.heap.size, 0, none⟩)] _ ⟨_, [], _, [], (List.append_nil _).symm, rfl, ⟨w.heap.size, 0, [.float .f32 e0, .float .f32 e1, .float .f32 e2, .float .f32 e3, .float .f32 e4, .float .f32 e5, .float .f32 e6, .float .f32 e7, .float .f32 e8, .float .f32 e9, .float .f32 e10], rfl, scs11 h0 h1 h2 h3 h4 h5 h6 h7 h8 h9 h10, ⟨#[.float .f32 e0, .float .f32 e1, .float .f32 e2, .float .f32 e3, .float .f32 e4, .float .f32 e5, .float .f32 e6, .float .f32 e7, .float .f32 e8, .float .f32 e9, .float .f32 e10], 34, (0, 0), heap_alloc_new w _, fun j u hu => by rw [Nat.zero_add]; simpa using hu⟩⟩, rfl, rfl⟩ hg).mono ?_
  rintro e w' ⟨v, rfl, hv, hb⟩
  obtain ⟨vs, hq, rfl⟩ := hv
  obtain ⟨a, a', u, us, e1, rfl, ⟨c, rfl, hc⟩, rfl, rfl⟩ := hq
  obtain ⟨yb, rfl, rfl⟩ := hc
  simp at e1
  subst e1
  exact ⟨rfl, hb⟩
theorem cam_same (d0 d1 d2 d3 d4 d5 d6 d7 d8 d9 d10 : Option Nat) : ∃ b, Gt (TTof ts) s17.idx (sc11 d0 d1 d2 d3 d4 d5 d6 d7 d8 d9 d10) = some [.b b] ∧ Gt (TTof ts) s29.idx (sc11 d0 d1 d2 d3 d4 d5 d6 d7 d8 d9 d10) = some [.b b] := by
  obtain ⟨_, h⟩ := test29.opt _ _ _ rfl
  obtain ⟨b, h1, h2, _⟩ := h (sc11 d0 d1 d2 d3 d4 d5 d6 d7 d8 d9 d10) ⟨d0, _, rfl, d1, _, rfl, d2, _, rfl, d3, _, rfl, d4, _, rfl, d5, _, rfl, d6, _, rfl, d7, _, rfl, d8, _, rfl, d9, _, rfl, d10, _, rfl, rfl⟩
  exact ⟨b, h2, h1⟩
def timp (i : Nat) : T := .call 29 [.v 0, .v 1, .v 2, .v 3, .v 4, .v 5, .v 6, .v 7, .v 8, .v 9, .v 10] 1 (.br 11 (.call 5 [.v i, .v (i + 1), .v (i + 2)] 1 (.ret [.v 12])) (.ret [.b true]))
theorem timp0 : chkLaw md k11 (timp 0) = .ok := by kernel_rfl
theorem imp0 (d0 d1 d2 d3 d4 d5 d6 d7 d8 d9 d10 : Option Nat) (h : Gt (TTof ts) s29.idx (sc11 d0 d1 d2 d3 d4 d5 d6 d7 d8 d9 d10) = some [.b true]) : Gt (TTof ts) s5.idx (sc3 d0 d1 d2) = some [.b true] := by
  have hd := chkLaw_ok rules md_ok (t := timp 0) (by kernel_rfl) timp0 (sc11 d0 d1 d2 d3 d4 d5 d6 d7 d8 d9 d10) ⟨d0, _, rfl, d1, _, rfl, d2, _, rfl, d3, _, rfl, d4, _, rfl, d5, _, rfl, d6, _, rfl, d7, _, rfl, d8, _, rfl, d9, _, rfl, d10, _, rfl, rfl⟩
  obtain ⟨b, _, hb⟩ := valid_same d0 d1 d2
  have h' : Gt (TTof ts) 29 (sc11 d0 d1 d2 d3 d4 d5 d6 d7 d8 d9 d10) = some [.b true] := h
  have hb' : Gt (TTof ts) 5 (sc3 d0 d1 d2) = some [.b b] := hb
  have e1 : denL (sc11 d0 d1 d2 d3 d4 d5 d6 d7 d8 d9 d10) [.v 0, .v 1, .v 2, .v 3, .v 4, .v 5, .v 6, .v 7, .v 8, .v 9, .v 10] = some (sc11 d0 d1 d2 d3 d4 d5 d6 d7 d8 d9 d10) := rfl
  unfold timp at hd
  rw [T.den, e1] at hd
  simp only [h', List.length_cons, List.length_nil, if_true] at hd
  rw [T.den] at hd
  have e2 : (sc11 d0 d1 d2 d3 d4 d5 d6 d7 d8 d9 d10 ++ [Sc.b true])[11]? = some (.b true) := rfl
  rw [e2] at hd
  simp only [] at hd
  rw [T.den] at hd
  have e3 : denL (sc11 d0 d1 d2 d3 d4 d5 d6 d7 d8 d9 d10 ++ [Sc.b true]) [.v 0, .v (0 + 1), .v (0 + 2)] = some (sc3 d0 d1 d2) := rfl
  rw [e3] at hd
  simp only [hb', List.length_cons, List.length_nil, if_true] at hd
  have e4 : T.den (Gt (TTof ts)) (.ret [.v 12]) (sc11 d0 d1 d2 d3 d4 d5 d6 d7 d8 d9 d10 ++ [Sc.b true] ++ [Sc.b b]) = some [.b b] := rfl
  rw [e4] at hd
  rw [hb]
  exact hd
theorem timp3 : chkLaw md k11 (timp 3) = .ok := by kernel_rfl
theorem imp3 (d0 d1 d2 d3 d4 d5 d6 d7 d8 d9 d10 : Option Nat) (h : Gt (TTof ts) s29.idx (sc11 d0 d1 d2 d3 d4 d5 d6 d7 d8 d9 d10) = some [.b true]) : Gt (TTof ts) s5.idx (sc3 d3 d4 d5) = some [.b true] := by
  have hd := chkLaw_ok rules md_ok (t := timp 3) (by kernel_rfl) timp3 (sc11 d0 d1 d2 d3 d4 d5 d6 d7 d8 d9 d10) ⟨d0, _, rfl, d1, _, rfl, d2, _, rfl, d3, _, rfl, d4, _, rfl, d5, _, rfl, d6, _, rfl, d7, _, rfl, d8, _, rfl, d9, _, rfl, d10, _, rfl, rfl⟩
  obtain ⟨b, _, hb⟩ := valid_same d3 d4 d5
  have h' : Gt (TTof ts) 29 (sc11 d0 d1 d2 d3 d4 d5 d6 d7 d8 d9 d10) = some [.b true] := h
  have hb' : Gt (TTof ts) 5 (sc3 d3 d4 d5) = some [.b b] := hb
  have e1 : denL (sc11 d0 d1 d2 d3 d4 d5 d6 d7 d8 d9 d10) [.v 0, .v 1, .v 2, .v 3, .v 4, .v 5, .v 6, .v 7, .v 8, .v 9, .v 10] = some (sc11 d0 d1 d2 d3 d4 d5 d6 d7 d8 d9 d10) := rfl
  unfold timp at hd
  rw [T.den, e1] at hd
  simp only [h', List.length_cons, List.length_nil, if_true] at hd
  rw [T.den] at hd
  have e2 : (sc11 d0 d1 d2 d3 d4 d5 d6 d7 d8 d9 d10 ++ [Sc.b true])[11]? = some (.b true) := rfl
  rw [e2] at hd
  simp only [] at hd
  rw [T.den] at hd
  have e3 : denL (sc11 d0 d1 d2 d3 d4 d5 d6 d7 d8 d9 d10 ++ [Sc.b true]) [.v 3, .v (3 + 1), .v (3 + 2)] = some (sc3 d3 d4 d5) := rfl
  rw [e3] at hd
  simp only [hb', List.length_cons, List.length_nil, if_true] at hd
  have e4 : T.den (Gt (TTof ts)) (.ret [.v 12]) (sc11 d0 d1 d2 d3 d4 d5 d6 d7 d8 d9 d10 ++ [Sc.b true] ++ [Sc.b b]) = some [.b b] := rfl
  rw [e4] at hd
  rw [hb]
  exact hd
theorem timp6 : chkLaw md k11 (timp 6) = .ok := by kernel_rfl
theorem imp6 (d0 d1 d2 d3 d4 d5 d6 d7 d8 d9 d10 : Option Nat) (h : Gt (TTof ts) s29.idx (sc11 d0 d1 d2 d3 d4 d5 d6 d7 d8 d9 d10) = some [.b true]) : Gt (TTof ts) s5.idx (sc3 d6 d7 d8) = some [.b true] := by
  have hd := chkLaw_ok rules md_ok (t := timp 6) (by kernel_rfl) timp6 (sc11 d0 d1 d2 d3 d4 d5 d6 d7 d8 d9 d10) ⟨d0, _, rfl, d1, _, rfl, d2, _, rfl, d3, _, rfl, d4, _, rfl, d5, _, rfl, d6, _, rfl, d7, _, rfl, d8, _, rfl, d9, _, rfl, d10, _, rfl, rfl⟩
  obtain ⟨b, _, hb⟩ := valid_same d6 d7 d8
  have h' : Gt (TTof ts) 29 (sc11 d0 d1 d2 d3 d4 d5 d6 d7 d8 d9 d10) = some [.b true] := h
  have hb' : Gt (TTof ts) 5 (sc3 d6 d7 d8) = some [.b b] := hb
  have e1 : denL (sc11 d0 d1 d2 d3 d4 d5 d6 d7 d8 d9 d10) [.v 0, .v 1, .v 2, .v 3, .v 4, .v 5, .v 6, .v 7, .v 8, .v 9, .v 10] = some (sc11 d0 d1 d2 d3 d4 d5 d6 d7 d8 d9 d10) := rfl
  unfold timp at hd
  rw [T.den, e1] at hd
  simp only [h', List.length_cons, List.length_nil, if_true] at hd
  rw [T.den] at hd
  have e2 : (sc11 d0 d1 d2 d3 d4 d5 d6 d7 d8 d9 d10 ++ [Sc.b true])[11]? = some (.b true) := rfl
  rw [e2] at hd
  simp only [] at hd
  rw [T.den] at hd
  have e3 : denL (sc11 d0 d1 d2 d3 d4 d5 d6 d7 d8 d9 d10 ++ [Sc.b true]) [.v 6, .v (6 + 1), .v (6 + 2)] = some (sc3 d6 d7 d8) := rfl
  rw [e3] at hd
  simp only [hb', List.length_cons, List.length_nil, if_true] at hd
  have e4 : T.den (Gt (TTof ts)) (.ret [.v 12]) (sc11 d0 d1 d2 d3 d4 d5 d6 d7 d8 d9 d10 ++ [Sc.b true] ++ [Sc.b b]) = some [.b b] := rfl
  rw [e4] at hd
  rw [hb]
  exact hd
end
theorem CamTxt_eq (b : Bool) {e0 p0 e1 p1 e2 p2 e3 p3 e4 p4 e5 p5 e6 p6 e7 p7 e8 p8 e9 p9 e10 p10 : Nat} {d0 d1 d2 d3 d4 d5 d6 d7 d8 d9 d10 : Option Nat} (h0 : FRel .f32 e0 d0) (h1 : FRel .f32 e1 d1) (h2 : FRel .f32 e2 d2) (h3 : FRel .f32 e3 d3) (h4 : FRel .f32 e4 d4) (h5 : FRel .f32 e5 d5) (h6 : FRel .f32 e6 d6) (h7 : FRel .f32 e7 d7) (h8 : FRel .f32 e8 d8) (h9 : FRel .f32 e9 d9) (h10 : FRel .f32 e10 d10) (g0 : FRel .f32 p0 d0) (g1 : FRel .f32 p1 d1) (g2 : FRel .f32 p2 d2) (g3 : FRel .f32 p3 d3) (g4 : FRel .f32 p4 d4) (g5 : FRel .f32 p5 d5) (g6 : FRel .f32 p6 d6) (g7 : FRel .f32 p7 d7) (g8 : FRel .f32 p8 d8) (g9 : FRel .f32 p9 d9) (g10 : FRel .f32 p10 d10) : CamTxt e0 e1 e2 e3 e4 e5 e6 e7 e8 e9 e10 b = CamTxt p0 p1 p2 p3 p4 p5 p6 p7 p8 p9 p10 b := by
  cases b
  · rfl
  · simp only [CamTxt, Cam, joined, List.map_cons, List.map_nil, Txt, cb_eq h0 g0, cb_eq h1 g1, cb_eq h2 g2, cb_eq h3 g3, cb_eq h4 g4, cb_eq h5 g5, cb_eq h6 g6, cb_eq h7 g7, cb_eq h8 g8, cb_eq h9 g9, cb_eq h10 g10]
theorem keepX {e0 e1 e2 e3 e4 e5 e6 e7 e8 e9 e10 : Nat} {g : Nat} {w w1 : World} (h : Cells e0 e1 e2 e3 e4 e5 e6 e7 e8 e9 e10 g w) (hb : Below w.heap.size w w1) : Cells e0 e1 e2 e3 e4 e5 e6 e7 e8 e9 e10 g w1 := cells_keep e0 e1 e2 e3 e4 e5 e6 e7 e8 e9 e10 h hb
set_option maxRecDepth 100000 in
set_option maxHeartbeats 6400000 in
theorem law5 {e0 e1 e2 e3 e4 e5 e6 e7 e8 e9 e10 : Nat} {d0 d1 d2 d3 d4 d5 d6 d7 d8 d9 d10 : Option Nat} (h0 : FRel .f32 e0 d0) (h1 : FRel .f32 e1 d1) (h2 : FRel .f32 e2 d2) (h3 : FRel .f32 e3 d3) (h4 : FRel .f32 e4 d4) (h5 : FRel .f32 e5 d5) (h6 : FRel .f32 e6 d6) (h7 : FRel .f32 e7 d7) (h8 : FRel .f32 e8 d8) (h9 : FRel .f32 e9 d9) (h10 : FRel .f32 e10 d10) (w : World) (hT : Tab w) :
    Calls Tryd.prog 5 #[VC e0 e1 e2 e3 e4 e5 e6 e7 e8 e9 e10] w fun e w' => e = .returned (.bool true) ∧ Below w.heap.size w w' := by
  obtain ⟨b, v2, v5⟩ := cam_same d0 d1 d2 d3 d4 d5 d6 d7 d8 d9 d10
  have V2 := Lib.hid v2
  have V5 := Lib.hid v5
  have HT := Lib.hid hT
  have HC := Lib.hid (boxC e0 e1 e2 e3 e4 e5 e6 e7 e8 e9 e10 31 w)
  have T14 := Lib.hid (fun W => tocam14 h0 h1 h2 h3 h4 h5 h6 h7 h8 h9 h10 W)
  clear v2 v5 hT h0 h1 h2 h3 h4 h5 h6 h7 h8 h9 h10
  unfold VC
  go_enter Tryd.func5, Tryd.ntmps5
  go_wp2_with fail
  refine (T14.out _).mono ?_
  rintro e w1 ⟨p0, p1, p2, p3, p4, p5, p6, p7, p8, p9, p10, rfl, g0, g1, g2, g3, g4, g5, g6, g7, g8, g9, g10, hb1⟩
  have hb3 : Below w.heap.size w w1 := ((Below.refl _ _).alloc (Nat.le_refl _) _).trans (hb1.mono (by simp))
  have F := keepX HC.out hb1
  obtain ⟨f0, f1, f2, f3, f4, f5, f6, f7, f8, f9, f10⟩ := F
  unfold VC
  go_wp2_with fail
  have S13 := Lib.hid (fun W => cam13 p0 p1 p2 p3 p4 p5 p6 p7 p8 p9 p10 (f32_lt g0) (f32_lt g1) (f32_lt g2) (f32_lt g3) (f32_lt g4) (f32_lt g5) (f32_lt g6) (f32_lt g7) (f32_lt g8) (f32_lt g9) (f32_lt g10) b (cam30 g0 g1 g2 g3 g4 g5 g6 g7 g8 g9 g10 V2.out) W)
  refine (S13.out _).mono ?_
  rintro e w2 ⟨rfl, hb2⟩
  have F := keepX (show Cells e0 e1 e2 e3 e4 e5 e6 e7 e8 e9 e10 w.heap.size w1 from ⟨f0, f1, f2, f3, f4, f5, f6, f7, f8, f9, f10⟩) hb2
  clear f0 f1 f2 f3 f4 f5 f6 f7 f8 f9 f10
  obtain ⟨f0, f1, f2, f3, f4, f5, f6, f7, f8, f9, f10⟩ := F
  have hb4 := keepB hb2 hb3
  go_wp2_with fail
  refine (T14.out _).mono ?_
  rintro e w3 ⟨q0, q1, q2, q3, q4, q5, q6, q7, q8, q9, q10, rfl, k0, k1, k2, k3, k4, k5, k6, k7, k8, k9, k10, hb5⟩
  have hb6 := keepB hb5 hb4
  unfold VC
  go_wp2_with fail
  have I15 : Calls Tryd.prog 15 #[VC q0 q1 q2 q3 q4 q5 q6 q7 q8 q9 q10] w3 (CamPostB q0 q1 q2 q3 q4 q5 q6 q7 q8 q9 q10 b w3) := by
    cases b with
    | false => exact cam15f _ _ _ _ _ _ _ _ _ _ _ _ (cam32 k0 k1 k2 k3 k4 k5 k6 k7 k8 k9 k10 V5.out)
    | true =>
      exact cam15t _ _ _ _ _ _ _ _ _ _ _ (f32_lt k0) (f32_lt k1) (f32_lt k2) (f32_lt k3) (f32_lt k4) (f32_lt k5) (f32_lt k6) (f32_lt k7) (f32_lt k8) (f32_lt k9) (f32_lt k10) (bool_of (f := 28) (s := s5) (by kernel_rfl) rfl rfl k0 k1 k2 (imp0 d0 d1 d2 d3 d4 d5 d6 d7 d8 d9 d10 V5.out)) (bool_of (f := 28) (s := s5) (by kernel_rfl) rfl rfl k3 k4 k5 (imp3 d0 d1 d2 d3 d4 d5 d6 d7 d8 d9 d10 V5.out)) (bool_of (f := 28) (s := s5) (by kernel_rfl) rfl rfl k6 k7 k8 (imp6 d0 d1 d2 d3 d4 d5 d6 d7 d8 d9 d10 V5.out)) _ (cam32 k0 k1 k2 k3 k4 k5 k6 k7 k8 k9 k10 V5.out) (HT.out.below hb6)
  refine I15.mono ?_
  rintro e w4 ⟨rfl, hb7⟩
  rw [CamTxt_eq b k0 k1 k2 k3 k4 k5 k6 k7 k8 k9 k10 g0 g1 g2 g3 g4 g5 g6 g7 g8 g9 g10]
  clear I15 S13 T14
  go_wp2
  go_ret
  exact ⟨rfl, keepB hb7 hb6⟩
end Go.Proofs.YtejbahdihfnbcaaDoor.nt
