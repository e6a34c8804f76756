/- Reading points: the walks of both sides; of the world some cells are asked. -/
import Derived.Test.YtejbahdihfnbcaaDoorTxV
import Derived.Deep.DeepCutAuto
import Derived.Laws.ResultCell
import Derived.RegionTactic
import Derived.ChangeAlike
namespace Go.Proofs.YtejbahdihfnbcaaDoor.nt
open Go.ChangeShapes Go.WideShapes Go.ChangeAt Go.RowKit
set_option linter.unusedVariables false
def Bad : Value := .tuple #[.agg #[.float .f32 0, .float .f32 0, .float .f32 0], .int .i64 5]
def PtV (x y z : Nat) (b : Bool) : Value := match b with | true => .tuple #[.agg #[.float .f32 x, .float .f32 y, .float .f32 z], .int .i64 0] | false => Bad
def Ret (v : Value) (w : World) (e : Ending) (w' : World) : Prop := e = .returned v ∧ Below w.heap.size w w'
theorem words_small {t : ByteArray} {P : List ByteArray} (h : P.map (·.data.toList) = spl t.data.toList) : ∀ x ∈ P, x.size ≤ t.size := by
  intro x hx
  have : x.data.toList ∈ spl t.data.toList := by rw [← h]; exact List.mem_map.2 ⟨x, hx, rfl⟩
  have := spl_len _ _ this
  rw [Array.length_toList, Array.length_toList] at this
  exact this
theorem own_cells {w : World} {b n : Nat} {v : Value} {xs : List Nat} (h : w.ownsRow b 22 1 v n (flts xs)) (hn : 0 < n) : ∃ g cap, v = .slice (some ⟨g, 0, none⟩) n cap ∧ n ≤ cap ∧ b ≤ g ∧ g < w.heap.size ∧ Flts w g xs := by
  obtain ⟨g, cap, rfl, hg1, hg2⟩ := h.form hn
  refine ⟨g, cap, rfl, ?_, hg1, hg2, ?_⟩
  · rcases h.2 with ⟨h, _⟩ | ⟨g', cap', cur, h1, _, _, h4, _⟩
    · cases h
    · cases h1; exact h4
  · intro j x hx
    have := h.cells (g := g) rfl j (.float .f32 x) (by rw [flts, List.getElem?_map, hx]; rfl)
    rw [add_off, Nat.zero_add] at this
    exact this
theorem frozen3 (x y z : Value) (t : TypeId) (w : World) : (w.alloc (Obj.cells #[x, y, z] t)).drew.frozen? ⟨w.heap.size, 0, none⟩ = false ∧ (w.alloc (Obj.cells #[x, y, z] t)).drew.frozen? ⟨w.heap.size, 1, none⟩ = false ∧ (w.alloc (Obj.cells #[x, y, z] t)).drew.frozen? ⟨w.heap.size, 2, none⟩ = false := by
  have h : (w.alloc (Obj.cells #[x, y, z] t)).drew.heap[w.heap.size]? = some (.cells #[x, y, z] t (0, 0)) := heap_alloc_new w _
  exact ⟨by unfold World.frozen?; rw [h]; rfl, by unfold World.frozen?; rw [h]; rfl, by unfold World.frozen?; rw [h]; rfl⟩
/-- three cells in memory -/
def Box (g : Nat) (x y z : Value) (w : World) : Prop := w.heap[g]? = some (.cells #[x, y, z] 27 (0, 0))
theorem Box.lt {g : Nat} {x y z : Value} {w : World} (h : Box g x y z w) : g < w.heap.size := (Array.getElem?_eq_some_iff.1 h).1
theorem Box.below {g : Nat} {x y z : Value} {w w' : World} (h : Box g x y z w) (hb : Below w.heap.size w w') : Box g x y z w' := by
  unfold Box
  rw [hb.block g h.lt]
  exact h
theorem Box.new (x y z : Value) (w : World) : Box w.heap.size x y z (w.alloc (.cells #[x, y, z] 27)) := heap_alloc_new w _
theorem Box.drew {g : Nat} {x y z : Value} {w : World} (h : Box g x y z w) : Box g x y z w.drew := h
theorem Box.facts {g : Nat} {x y z : Value} {w : World} (h : Box g x y z w) : w.cell? ⟨g, 0, none⟩ = some x ∧ w.cell? ⟨g, 1, none⟩ = some y ∧ w.cell? ⟨g, 2, none⟩ = some z ∧ w.frozen? ⟨g, 0, none⟩ = false ∧ w.frozen? ⟨g, 1, none⟩ = false ∧ w.frozen? ⟨g, 2, none⟩ = false :=
  ⟨cell_of_row w _ 0 _ 27 (0, 0) h, cell_of_row w _ 1 _ 27 (0, 0) h, cell_of_row w _ 2 _ 27 (0, 0) h, by unfold World.frozen?; rw [h]; rfl, by unfold World.frozen?; rw [h]; rfl, by unfold World.frozen?; rw [h]; rfl⟩
theorem store_run (a : Addr) (b : Nat) (m : Mode) (W : World) : (store a (.float .f32 b) m).run Tryd.prog W = stored Tryd.prog W a (.float .f32 b) m := run_store Tryd.prog W a (.float .f32 b) m rfl
theorem Box.set {g : Nat} {x y z : Value} {w : World} (h : Box g x y z w) (x' y' z' : Value) : Box g x' y' z' (((w.setCell ⟨g, 0, none⟩ x').setCell ⟨g, 1, none⟩ y').setCell ⟨g, 2, none⟩ z') := by
  unfold Box at h ⊢
  simp [World.setCell, Array.getElem?_modify, h]
theorem res_box {fn : Func} (hf : fn.results = #[.cell 2 27, .tmp 3]) {g : Nat} {x y z v : Value} {w : World} (h : Box g x y z w) (tmps : Array Value) (h2 : tmps.getD 2 undef = .pointer (some ⟨g, 0, none⟩)) (h3 : tmps.getD 3 undef = v) :
    (results fn tmps).run Tryd.prog w = .ok (.tuple #[.agg #[x, y, z], v]) w := by
  obtain ⟨c0, c1, c2, _⟩ := h.facts
  rw [results_cell_tmp hf, h2, h3]
  go_simp
theorem set_below {g b : Nat} {w0 w : World} (h : Below b w0 w) (hg : b ≤ g) (x' y' z' : Value) : Below b w0 (((w.setCell ⟨g, 0, none⟩ x').setCell ⟨g, 1, none⟩ y').setCell ⟨g, 2, none⟩ z') :=
  ((h.setCell hg _).setCell hg _).setCell hg _
set_option maxRecDepth 100000 in
set_option maxHeartbeats 1600000 in
theorem spoint19 (t : ByteArray) (ht : t.size ≤ 1048576) (x y z : Nat) (hn : nums (spl t.data.toList) = some [x, y, z]) (b : Bool) (hb : BoolOk 26 (V3 x y z) b) (w : World) : Calls Tryd.prog 19 #[.string t] w (Ret (PtV x y z b) w) := by
  have hp := split37 t ht
  have HB := Lib.hid hb
  have HN := Lib.hid hn
  clear hb hn
  cases b
  all_goals
    go_enter Tryd.func19, Tryd.ntmps19
    go_wp2_with fail
    refine (hp _).mono ?_
    rintro e w1 ⟨g, c, P, rfl, hP, hW, hc, hl, hg, hb1⟩
    have HW := Lib.hid hW
    have HP := Lib.hid hP
    have HB1 := Lib.hid hb1
    have hs := sns36 P (by omega) (fun x hx => Nat.le_trans (words_small hP x hx) ht) g 0 c w1 hg hW
    rw [hP] at hs
    clear hW hP hb1
    go_wp2_with fail
    refine hs.mono ?_
    rintro e w2 ⟨h, hb2⟩
    have HB2 := Lib.hid hb2
    clear hs hp hb2
    rcases h with ⟨xs, v, hx, rfl, hown⟩ | ⟨hx, _⟩
    · obtain rfl := Option.some.inj (hx.symm.trans HN.out)
      obtain ⟨g2, cap, rfl, hcap, hg2, hlt, hfl⟩ := own_cells (n := 3) hown (by decide)
      have c0 := hfl 0 x rfl
      have c1 := hfl 1 y rfl
      have c2 := hfl 2 z rfl
      clear hown hfl hx
      clear HW HP hc hl hg
      go_wp2
      obtain ⟨s0, s1, s2, s3⟩ := start3 (.float .f32 0) (.float .f32 0) (.float .f32 0) 27 w2
      obtain ⟨f0, f1, f2⟩ := frozen3 (.float .f32 0) (.float .f32 0) (.float .f32 0) 27 w2
      clear s3
      have hst := store_run
      go_region
      have X0 : Box w.heap.size (.float .f32 0) (.float .f32 0) (.float .f32 0) w2 := ((Box.new _ _ _ w).below HB1.out).below HB2.out
      have hb3 : Below w2.heap.size w2 (w2.alloc (.cells #[.float .f32 x, .float .f32 y, .float .f32 z] 27)).drew := ((Below.refl _ _).alloc (Nat.le_refl _) _).drew
      have X1 := (Box.new (.float .f32 x) (.float .f32 y) (.float .f32 z) w2).drew
      have X2 := X0.below hb3
      have HX : Hid (Below w.heap.size w (w2.alloc (.cells #[.float .f32 x, .float .f32 y, .float .f32 z] 27)).drew) := Lib.hid (keepB hb3 (keepB HB2.out (keepB HB1.out ((Below.refl _ _).alloc (Nat.le_refl _) _))))
      generalize (w2.alloc (.cells #[.float .f32 x, .float .f32 y, .float .f32 z] 27)).drew = W3 at X1 X2 HX ⊢
      clear X0 hb3 s0 s1 s2 f0 f1 f2 c0 c1 c2
      generalize w2.heap.size = g3 at X1 ⊢
      obtain ⟨s0, s1, s2, _⟩ := X1.facts
      have HX2 := Lib.hid X2
      have HX1 := Lib.hid X1
      clear X1 X2
      go_wp2_with fail
      refine (HB.out _).mono ?_
      rintro e w4 ⟨rfl, hb4⟩
      obtain ⟨t0, t1, t2, f0, f1, f2⟩ := (HX2.out.below hb4).facts
      obtain ⟨s0, s1, s2, _⟩ := (HX1.out.below hb4).facts
      have HB4 := Lib.hid hb4
      clear hb4
      have X5 := HX2.out.below HB4.out
      have hb5 := keepB HB4.out HX.out
      go_wp2
      refine bodyPost_ret (res_box rfl (X5.set _ _ _) _ rfl rfl) rfl ⟨rfl, set_below hb5 (Nat.le_refl _) _ _ _⟩
    · rw [HN.out] at hx; cases hx
set_option maxRecDepth 100000 in
set_option maxHeartbeats 1600000 in
theorem spoint19n (t : ByteArray) (ht : t.size ≤ 1048576) (hn : ∀ x y z, nums (spl t.data.toList) ≠ some [x, y, z]) (w : World) : Calls Tryd.prog 19 #[.string t] w (Ret Bad w) := by
  have hp := split37 t ht
  have HN := Lib.hid hn
  clear hn
  go_enter Tryd.func19, Tryd.ntmps19
  go_wp2_with fail
  refine (hp _).mono ?_
  rintro e w1 ⟨g, c, P, rfl, hP, hW, hc, hl, hg, hb1⟩
  have HB1 := Lib.hid hb1
  have hs := sns36 P (by omega) (fun x hx => Nat.le_trans (words_small hP x hx) ht) g 0 c w1 hg hW
  rw [hP] at hs
  clear hW hP hb1 hc hl hg
  go_wp2_with fail
  refine hs.mono ?_
  rintro e w2 ⟨h, hb2⟩
  have X0 : Box w.heap.size (.float .f32 0) (.float .f32 0) (.float .f32 0) w2 := ((Box.new _ _ _ w).below HB1.out).below hb2
  have HX := Lib.hid (keepB hb2 (keepB HB1.out ((Below.refl w.heap.size w).alloc (Nat.le_refl _) _)))
  obtain ⟨t0, t1, t2, f0, f1, f2⟩ := X0.facts
  have HX0 := Lib.hid X0
  have hst := store_run
  clear hs hp hb2 X0
  rcases h with ⟨xs, v, hx, rfl, hown⟩ | ⟨hx, v, rfl⟩
  · have h3 : ¬ xs.length = 3 := by
      intro h3
      match xs, h3 with
      | [x, y, z], _ => exact HN.out x y z hx
    obtain ⟨g2, c2, rfl⟩ : ∃ g2 c2, v = .slice g2 xs.length c2 := by
      rcases hown.2 with h | ⟨g', cap', cur, h1, _⟩
      · exact ⟨none, 0, by rw [h.1, h.2]⟩
      · exact ⟨_, _, h1⟩
    have h3' : ((xs.length : Int) == 3) = false := by rw [beq_eq_false_iff_ne]; omega
    clear hown hx
    go_wp2
    refine bodyPost_ret (res_box rfl (HX0.out.set _ _ _) _ rfl rfl) rfl ⟨rfl, set_below HX.out (Nat.le_refl _) _ _ _⟩
  · clear hx
    go_wp2
    refine bodyPost_ret (res_box rfl (HX0.out.set _ _ _) _ rfl rfl) rfl ⟨rfl, set_below HX.out (Nat.le_refl _) _ _ _⟩
theorem arr_at (g cap : Nat) (W : World) : (Instr.arrayAt 27 (.slice (some ⟨g, 0, none⟩) 3 cap)).run Tryd.prog W = .ok (.pointer (some ⟨g, 0, none⟩)) W := by
  kernel_rfl
/-- the library's word for its longest needle -/
def MaxC (w : World) : Prop := (∃ m, w.cell? ⟨4, 0, none⟩ = some (.int .i64 m)) ∧ 4 < w.heap.size
theorem MaxC.below {w w' : World} (h : MaxC w) (hb : Below w.heap.size w w') : MaxC w' := by
  obtain ⟨⟨m, hm⟩, hs⟩ := h
  exact ⟨⟨m, by rw [hb.cell (p := ⟨4, 0, none⟩) hs]; exact hm⟩, Nat.lt_of_lt_of_le hs hb.size⟩
theorem MaxC.of {w : World} (h : w.ShapedOpen Tryd.prog) : MaxC w := by
  obtain ⟨m, hm⟩ := Tryd.laysM146.s1_3 w h
  exact ⟨⟨m, hm⟩, cell_lt hm⟩
theorem split39 (t : ByteArray) (ht : t.size ≤ 1048576) (w : World) (h : MaxC w) : Calls Tryd.prog 39 #[.string t, .string ⟨#[32]⟩] w (SPost t w) := by
  obtain ⟨⟨m, hm⟩, _⟩ := h
  refine (Any.strings_Split { Tryd.laysM146 with } Tryd.laysM146.i9 t ⟨#[32]⟩ m w (by omega) hm (by decide)).mono ?_
  rintro e w1 ⟨rfl, rfl⟩
  have hlen : (Lib.splitB ⟨#[32]⟩ 0 (Lib.countB t ⟨#[32]⟩) t).length = Lib.countB t ⟨#[32]⟩ + 1 := Lib.splitB_all _ (by decide) 0 _ t rfl
  have hle : Lib.countB t ⟨#[32]⟩ ≤ t.size := Lib.countB_le _ (by decide) _ t (Nat.le_refl _)
  refine ⟨w.heap.size, _, Lib.splitB ⟨#[32]⟩ 0 (Lib.countB t ⟨#[32]⟩) t, by rw [hlen], ?_, ?_, by rw [hlen]; exact Nat.le_refl _, by rw [hlen]; omega, by simp, (Below.refl _ _).alloc (Nat.le_refl _) _⟩
  · rw [Lib.splitB_data]
    exact split_spl t.data.toList
  · intro j x hx
    rw [Nat.zero_add]
    refine (cell_of_row _ _ j _ 9 (0, 0) (heap_alloc_new w _)).trans ?_
    rw [List.getElem?_toArray, List.getElem?_map, hx]
    rfl
def Plain3 (x y z : Nat) (b : Bool) : Prop := ∀ (g c : Nat) (W : World), g < W.heap.size → Flts W g [x, y, z] → Calls Tryd.prog 40 #[.slice (some ⟨g, 0, none⟩) 3 c] W fun e w' => e = .returned (.bool b) ∧ Below W.heap.size W w'
set_option maxRecDepth 100000 in
set_option maxHeartbeats 1600000 in
theorem ipoint20 (t : ByteArray) (ht : t.size ≤ 1048576) (x y z : Nat) (hn : nums (spl t.data.toList) = some [x, y, z]) (b : Bool) (hb : Plain3 x y z b) (w : World) (hM : MaxC w) (hT : Tab w) (hE : ErrVars w) : Calls Tryd.prog 20 #[.string t] w (Ret (PtV x y z b) w) := by
  have HB := Lib.hid hb
  have HN := Lib.hid hn
  have b0 : Below w.heap.size w (w.alloc (Obj.cells #[.float .f32 0, .float .f32 0, .float .f32 0] 27)) := (Below.refl _ _).alloc (Nat.le_refl _) _
  have hp := split39 t ht _ (hM.below b0)
  have HT := Lib.hid (hT.below b0)
  have HE := Lib.hid (hE.below b0)
  have B0 := Lib.hid b0
  clear hb hn hM hT hE b0
  cases b
  all_goals
    go_enter Tryd.func20, Tryd.ntmps20
    go_wp2_with fail
    refine hp.mono ?_
    rintro e w1 ⟨g, c, P, rfl, hP, hW, hc, hl, hg, hb1⟩
    have HP := Lib.hid hP
    have HB1 := Lib.hid hb1
    have hs := ins38 P (by omega) (fun x hx => Nat.le_trans (words_small hP x hx) ht) g 0 c w1 hg hW (HT.out.below hb1) (HE.out.below hb1)
    rw [hP] at hs
    clear hW hP hb1
    go_wp2_with fail
    refine hs.mono ?_
    rintro e w2 ⟨h, hb2⟩
    have HB2 := Lib.hid hb2
    clear hs hp hb2
    rcases h with ⟨xs, v, hx, rfl, hown⟩ | ⟨hx, _⟩
    · obtain rfl := Option.some.inj (hx.symm.trans HN.out)
      obtain ⟨g2, cap, rfl, hcap, hg2, hlt, hfl⟩ := own_cells (n := 3) hown (by decide)
      have hq := HB.out g2 cap w2 hlt hfl
      have HF := Lib.hid hfl
      have X0 : Box w.heap.size (.float .f32 0) (.float .f32 0) (.float .f32 0) w2 := ((Box.new _ _ _ w).below HB1.out).below HB2.out
      have HX := Lib.hid (keepB HB2.out (keepB HB1.out B0.out))
      have HX0 := Lib.hid X0
      clear hown hx HP hc hl hg hfl X0
      have hsa := arr_at g2 cap
      have hst := store_run
      go_wp2_with fail
      refine hq.mono ?_
      rintro e w3 ⟨rfl, hb3⟩
      have hfl := HF.out.below hlt hb3
      have c0 := hfl 0 x rfl
      have c1 := hfl 1 y rfl
      have c2 := hfl 2 z rfl
      have X3 := HX0.out.below hb3
      have hb5 := keepB hb3 HX.out
      obtain ⟨t0, t1, t2, f0, f1, f2⟩ := X3.facts
      have HX3 := Lib.hid X3
      have HB5 := Lib.hid hb5
      clear hfl hq X3 hb3 hb5
      go_wp2
      refine bodyPost_ret (res_box rfl (HX3.out.set _ _ _) _ rfl rfl) rfl ⟨rfl, set_below HB5.out (Nat.le_refl _) _ _ _⟩
    · rw [HN.out] at hx; cases hx
set_option maxRecDepth 100000 in
set_option maxHeartbeats 1600000 in
theorem ipoint20n (t : ByteArray) (ht : t.size ≤ 1048576) (hn : ∀ x y z, nums (spl t.data.toList) ≠ some [x, y, z]) (w : World) (hM : MaxC w) (hT : Tab w) (hE : ErrVars w) : Calls Tryd.prog 20 #[.string t] w (Ret Bad w) := by
  have HN := Lib.hid hn
  have b0 : Below w.heap.size w (w.alloc (Obj.cells #[.float .f32 0, .float .f32 0, .float .f32 0] 27)) := (Below.refl _ _).alloc (Nat.le_refl _) _
  have hp := split39 t ht _ (hM.below b0)
  have HT := Lib.hid (hT.below b0)
  have HE := Lib.hid (hE.below b0)
  have B0 := Lib.hid b0
  clear hn hM hT hE b0
  go_enter Tryd.func20, Tryd.ntmps20
  go_wp2_with fail
  refine hp.mono ?_
  rintro e w1 ⟨g, c, P, rfl, hP, hW, hc, hl, hg, hb1⟩
  have HB1 := Lib.hid hb1
  have hs := ins38 P (by omega) (fun x hx => Nat.le_trans (words_small hP x hx) ht) g 0 c w1 hg hW (HT.out.below hb1) (HE.out.below hb1)
  rw [hP] at hs
  clear hW hP hb1 hc hl hg
  go_wp2_with fail
  refine hs.mono ?_
  rintro e w2 ⟨h, hb2⟩
  have X0 : Box w.heap.size (.float .f32 0) (.float .f32 0) (.float .f32 0) w2 := ((Box.new _ _ _ w).below HB1.out).below hb2
  have HX := Lib.hid (keepB hb2 (keepB HB1.out B0.out))
  obtain ⟨t0, t1, t2, f0, f1, f2⟩ := X0.facts
  have HX0 := Lib.hid X0
  have hst := store_run
  clear hs hp hb2 X0
  rcases h with ⟨xs, v, hx, rfl, hown⟩ | ⟨hx, v, rfl⟩
  · have h3 : ¬ xs.length = 3 := by
      intro h3
      match xs, h3 with
      | [x, y, z], _ => exact HN.out x y z hx
    obtain ⟨g2, c2, rfl⟩ : ∃ g2 c2, v = .slice g2 xs.length c2 := by
      rcases hown.2 with h | ⟨g', cap', cur, h1, _⟩
      · exact ⟨none, 0, by rw [h.1, h.2]⟩
      · exact ⟨_, _, h1⟩
    have h3' : ((xs.length : Int) == 3) = false := by rw [beq_eq_false_iff_ne]; omega
    clear hown hx
    go_wp2
    refine bodyPost_ret (res_box rfl (HX0.out.set _ _ _) _ rfl rfl) rfl ⟨rfl, set_below HX.out (Nat.le_refl _) _ _ _⟩
  · clear hx
    go_wp2
    refine bodyPost_ret (res_box rfl (HX0.out.set _ _ _) _ rfl rfl) rfl ⟨rfl, set_below HX.out (Nat.le_refl _) _ _ _⟩
end Go.Proofs.YtejbahdihfnbcaaDoor.nt
