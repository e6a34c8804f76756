/- Reading points: the program and the reference read of a text the same point and find the same of it; of the library's tables and error values some cells are asked, and the shape of the world. -/
import Derived.Test.YtejbahdihfnbcaaDoorTxU
import Derived.Test.YtejbahdihfnbcaaDoorTxP
namespace Go.Proofs.YtejbahdihfnbcaaDoor.nt
open Go.ChangeShapes Go.WideShapes Go.ChangeAt Go.RowKit
set_option linter.unusedVariables false
section
open Sx
/-- the test of one number -/
def npOf (d : Option Nat) : Bool := match Gt (TTof ts) s4.idx [.f .f32 d] with | some [.b b] => b | _ => false
theorem np3 (d : Option Nat) : ∃ b, Gt (TTof ts) 3 [.f .f32 d] = some [.b b] := by
  rw [Gt_eq table.calls, show TTof ts 3 = t3 from by kernel_rfl]
  unfold t3
  simp only [T.den]
  have a1 : getF ([Sc.f FloatKind.f32 d] ++ [Sc.f FloatKind.f32 (canon FloatKind.f32 3379831808)]) .f32 1 = some (canon .f32 3379831808) := rfl
  have a2 : getF ([Sc.f FloatKind.f32 d] ++ [Sc.f FloatKind.f32 (canon FloatKind.f32 3379831808)]) .f32 0 = some d := rfl
  have a3 : getF ([Sc.f FloatKind.f32 d] ++ [Sc.f FloatKind.f32 (canon FloatKind.f32 3379831808)] ++ [Sc.f FloatKind.f32 (canon FloatKind.f32 1232348160)]) .f32 0 = some d := rfl
  have a4 : getF ([Sc.f FloatKind.f32 d] ++ [Sc.f FloatKind.f32 (canon FloatKind.f32 3379831808)] ++ [Sc.f FloatKind.f32 (canon FloatKind.f32 1232348160)]) .f32 2 = some (canon .f32 1232348160) := rfl
  rw [a1, a2, a3, a4]
  dsimp only
  cases cmpD 1 .f32 (canon .f32 3379831808) d
  · exact ⟨_, rfl⟩
  · dsimp only
    cases cmpD 1 .f32 d (canon .f32 1232348160)
    · exact ⟨_, rfl⟩
    · exact ⟨_, rfl⟩
theorem np4 (d : Option Nat) : Gt (TTof ts) s4.idx [.f .f32 d] = some [.b (npOf d)] := by
  have e : ∃ b, Gt (TTof ts) s4.idx [.f .f32 d] = some [.b b] := by
    obtain ⟨c, h3⟩ := np3 d
    rw [Gt_eq table.calls, show TTof ts s4.idx = t4 from by kernel_rfl]
    unfold t4
    simp only [T.den]
    rw [show denL [Sc.f FloatKind.f32 d] [Rf.v 0] = some [Sc.f FloatKind.f32 d] from rfl]
    simp only [h3]
    cases c
    · exact ⟨_, rfl⟩
    · exact ⟨_, rfl⟩
  obtain ⟨b, hb⟩ := e
  unfold npOf
  rw [hb]
theorem np5 (d0 d1 d2 : Option Nat) : Gt (TTof ts) s5.idx (sc3 d0 d1 d2) = some [.b (!npOf d0 && (!npOf d1 && !npOf d2))] := by
  have h0 : Gt (TTof ts) 4 [.f .f32 d0] = some [.b (npOf d0)] := np4 d0
  have h1 : Gt (TTof ts) 4 [.f .f32 d1] = some [.b (npOf d1)] := np4 d1
  have h2 : Gt (TTof ts) 4 [.f .f32 d2] = some [.b (npOf d2)] := np4 d2
  rw [Gt_eq table.calls, show TTof ts s5.idx = t5 from by kernel_rfl]
  unfold t5 sc3
  simp only [T.den]
  have e0 : ∀ r, denL ([Sc.f FloatKind.f32 d0, .f .f32 d1, .f .f32 d2] ++ r) [Rf.v 0] = some [Sc.f FloatKind.f32 d0] := fun _ => rfl
  have e1 : ∀ r, denL ([Sc.f FloatKind.f32 d0, .f .f32 d1, .f .f32 d2] ++ r) [Rf.v 1] = some [Sc.f FloatKind.f32 d1] := fun _ => rfl
  have e2 : ∀ r, denL ([Sc.f FloatKind.f32 d0, .f .f32 d1, .f .f32 d2] ++ r) [Rf.v 2] = some [Sc.f FloatKind.f32 d2] := fun _ => rfl
  have e0' : denL ([Sc.f FloatKind.f32 d0, .f .f32 d1, .f .f32 d2]) [Rf.v 0] = some [Sc.f FloatKind.f32 d0] := rfl
  rw [e0']
  simp only [h0]
  cases npOf d0
  · simp only [List.append_assoc, e1, h1]
    cases npOf d1
    · simp only [e2, h2]
      cases npOf d2 <;> rfl
    · rfl
  · rfl
/-- what the program finds of one number -/
theorem not58 {x : Nat} {d : Option Nat} (h : FRel .f32 x d) (w : World) : Calls Tryd.prog 58 #[.float .f32 x] w fun e w' => e = .returned (.bool (npOf d)) ∧ Below w.heap.size w w' := by
  have hs := table.sums 58 s4 (by kernel_rfl)
  refine (hs.call [.f .f32 d] _ [.float .f32 x] w ⟨[.f .f32 d], [], _, [], rfl, rfl, ⟨_, rfl, d, x, rfl, rfl, h⟩, rfl, rfl⟩ (np4 d)).mono ?_
  rintro e w' ⟨v, rfl, hv, hb⟩
  obtain ⟨vs, hq, rfl⟩ := hv
  obtain ⟨a, a', u, us, e1, rfl, ⟨c, rfl, hc⟩, rfl, rfl⟩ := hq
  obtain ⟨yb, rfl, rfl⟩ := hc
  simp at e1
  subst e1
  exact ⟨rfl, hb⟩
def Flts (w : World) (g : Nat) (xs : List Nat) : Prop := ∀ (j : Nat) x, xs[j]? = some x → w.cell? ⟨g, j, none⟩ = some (.float .f32 x)
theorem Flts.below {w w' : World} {g : Nat} {xs : List Nat} (h : Flts w g xs) (hg : g < w.heap.size) (hb : Below w.heap.size w w') : Flts w' g xs := fun j x hj => by
  rw [hb.cell (p := ⟨g, j, none⟩) hg]
  exact h j x hj
def RelI (n : Nat) (ds : List (Option Nat)) (w : World) (i : Value) (w' : World) : Prop := ∃ k : Nat, k ≤ n ∧ i = .int .i64 k ∧ Below w.heap.size w w' ∧ Hid (ds.any npOf = (ds.drop k).any npOf)
def IPost (b : Bool) (w : World) (e : Ending) (w' : World) : Prop := ∃ r : Int, e = .returned (.int .i64 r) ∧ decide (0 ≤ r) = b ∧ Below w.heap.size w w'
theorem any_drop {ds : List (Option Nat)} {k : Nat} {d : Option Nat} (h : ds[k]? = some d) : (ds.drop k).any npOf = (npOf d || (ds.drop (k + 1)).any npOf) := by
  have hk := (List.getElem?_eq_some_iff.1 h).1
  rw [List.drop_eq_getElem_cons hk, (List.getElem?_eq_some_iff.1 h).2, List.any_cons]
set_option maxRecDepth 100000 in
theorem idx86 (xs : List Nat) (ds : List (Option Nat)) (n : Nat) (hx : xs.length = n) (hd : ds.length = n) (hn : n ≤ 1000) (hr : ∀ (j : Nat) x d, xs[j]? = some x → ds[j]? = some d → FRel .f32 x d) (g c : Nat) (w : World) (hg : g < w.heap.size) (hw : Flts w g xs) :
    Calls Tryd.prog 86 #[.slice (some ⟨g, 0, none⟩) n c, .func (.func 58) #[] #[]] w (IPost (ds.any npOf) w) := by
  have HR := Lib.hid hr
  have HW := Lib.hid hw
  have HX := Lib.hid hx
  have HD := Lib.hid hd
  clear hr hw hx hd
  go_enter Tryd.func86, Tryd.ntmps86
  go_wp2
  go_loopw [8] (RelI n ds w) (fun i w' => (n - (intOf i).toNat))
  case atStart => exact ⟨0, Nat.zero_le _, rfl, Below.refl _ _, Lib.hid rfl⟩
  case round =>
    obtain ⟨k, hk, rfl, hbel, hh⟩ := hrel
    have HB := Lib.hid hbel
    by_cases hlt : k < n
    · obtain ⟨x, hx⟩ : ∃ b, xs[k]? = some b := ⟨_, List.getElem?_eq_getElem (by rw [HX.out]; exact hlt)⟩
      obtain ⟨d, hd⟩ : ∃ b, ds[k]? = some b := ⟨_, List.getElem?_eq_getElem (by rw [HD.out]; exact hlt)⟩
      have hc : wr.cell? ⟨g, k, none⟩ = some (.float .f32 x) := by rw [hbel.cell (p := ⟨g, k, none⟩) hg]; exact HW.out k x hx
      have hp := not58 (HR.out k x d hx hd) wr
      have HA := Lib.hid (any_drop hd)
      clear hx hd hbel
      cases hb : npOf d
      · rw [hb] at hp
        have HN : Hid (ds.any npOf = (ds.drop (k + 1)).any npOf) := Lib.hid (by rw [hh.out, HA.out, hb, Bool.false_or])
        clear hb hh
        go_wp2_with (first | (go_at_call 58; refine hp.mono ?_; rintro e w1 ⟨rfl, hb1⟩))
        exact ⟨⟨k + 1, by omega, by go_num, HB.out.trans (hb1.mono HB.out.size), HN⟩, by simp [intOf]; omega⟩
      · rw [hb] at hp
        have HN : Hid (ds.any npOf = true) := Lib.hid (by rw [hh.out, HA.out, hb, Bool.true_or])
        clear hb hh
        go_wp2_with (first | (go_at_call 58; refine hp.mono ?_; rintro e w1 ⟨rfl, hb1⟩))
        go_ret
        exact ⟨_, rfl, by rw [HN.out]; exact decide_eq_true (by omega), HB.out.trans (hb1.mono HB.out.size)⟩
    · have HN : Hid (ds.any npOf = false) := Lib.hid (by rw [hh.out, List.drop_eq_nil_of_le (by rw [HD.out]; omega)]; rfl)
      clear hh
      go_wp2
      go_ret
      exact ⟨_, rfl, by rw [HN.out]; rfl, HB.out⟩
set_option maxRecDepth 100000 in
set_option maxHeartbeats 1600000 in
theorem cf57 (b : Bool) (l : Nat) (g c : Nat) (w : World) (hp : Calls Tryd.prog 86 #[.slice (some ⟨g, 0, none⟩) l c, .func (.func 58) #[] #[]] w (IPost b w)) :
    Calls Tryd.prog 57 #[.slice (some ⟨g, 0, none⟩) l c, .func (.func 58) #[] #[]] w fun e w' => e = .returned (.bool b) ∧ Below w.heap.size w w' := by
  go_enter Tryd.func57, Tryd.ntmps57
  go_wp2_with fail
  refine hp.mono ?_
  rintro e w1 ⟨r, rfl, hr, hb⟩
  clear hp
  subst hr
  go_wp2
  all_goals go_ret
  all_goals first
    | exact ⟨rfl, hb⟩
    | exact ⟨by simp [*], hb⟩
set_option maxRecDepth 100000 in
set_option maxHeartbeats 1600000 in
theorem ap40 (xs : List Nat) (ds : List (Option Nat)) (n : Nat) (hx : xs.length = n) (hd : ds.length = n) (hn : n ≤ 1000) (hr : ∀ (j : Nat) x d, xs[j]? = some x → ds[j]? = some d → FRel .f32 x d) (g c : Nat) (w : World) (hg : g < w.heap.size) (hw : Flts w g xs) :
    Calls Tryd.prog 40 #[.slice (some ⟨g, 0, none⟩) n c] w fun e w' => e = .returned (.bool (!ds.any npOf)) ∧ Below w.heap.size w w' := by
  have h57 := cf57 _ _ _ _ _ (idx86 xs ds n hx hd hn hr g c w hg hw)
  clear hr hw hx hd
  go_enter Tryd.func40, Tryd.ntmps40
  go_wp2_with (first | (go_at_call 57; refine h57.mono ?_; rintro e w1 ⟨rfl, hb1⟩))
  go_ret
  exact ⟨rfl, hb1⟩
end
end Go.Proofs.YtejbahdihfnbcaaDoor.nt
