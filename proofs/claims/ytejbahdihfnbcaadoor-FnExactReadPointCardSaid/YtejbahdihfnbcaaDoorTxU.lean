/- Reading several numbers: a text is cut at its blanks, its words are read, by the program and by the reference; of the library's tables and error values some cells are asked. -/
import Derived.Test.YtejbahdihfnbcaaDoorTxS
import Derived.Test.YtejbahdihfnbcaaDoorTxC
import Derived.Test.YtejbahdihfnbcaaDoorShelf3
import Derived.Lib.SplitLaws
namespace Go.Proofs.YtejbahdihfnbcaaDoor.nt
open Go.ChangeShapes Go.WideShapes Go.ChangeAt Go.RowKit
set_option linter.unusedVariables false
/-- a text cut at its blanks -/
def glue (a : List UInt8) : List (List UInt8) → List (List UInt8)
  | p :: ps => (a ++ p) :: ps
  | [] => [a]
def spl : List UInt8 → List (List UInt8)
  | [] => [[]]
  | c :: r => if c = 32 then [] :: spl r else glue [c] (spl r)
theorem spl_ne : ∀ l, spl l ≠ []
  | [] => by simp [spl]
  | c :: r => by
    unfold spl
    split
    · simp
    · cases spl r <;> simp [glue]
theorem glue_glue (a b : List UInt8) (l : List (List UInt8)) : glue a (glue b l) = glue (a ++ b) l := by cases l <;> simp [glue]
theorem glue_end (a : List UInt8) : glue a (spl []) = [a] := by simp [spl, glue]
theorem glue_cut (a r : List UInt8) : glue a (spl (32 :: r)) = a :: spl r := by simp [spl, glue]
theorem glue_none (l : List UInt8) : glue [] (spl l) = spl l := by
  have := spl_ne l
  cases h : spl l with
  | nil => exact absurd h this
  | cons p ps => simp [glue]
theorem glue_on (a r : List UInt8) (c : UInt8) (h : c ≠ 32) : glue a (spl (c :: r)) = glue (a ++ [c]) (spl r) := by
  rw [spl, if_neg h, glue_glue]
section
open Go.Lib
theorem idx_cons (c : UInt8) (l : List UInt8) : index (c :: l) [32] = if c = 32 then 0 else (if index l [32] = -1 then -1 else index l [32] + 1) := by
  rw [index]
  by_cases h : c = 32
  · subst h; simp [List.isPrefixOf]
  · have h' : ¬ (32 = c) := fun e => h e.symm
    simp [List.isPrefixOf, h, h']
theorem split_spl : ∀ l : List UInt8, Go.Lib.split l [32] = spl l
  | [] => rfl
  | c :: r => by
    have ih := split_spl r
    unfold Go.Lib.split at ih ⊢
    by_cases h : c = 32
    · subst h
      rw [count_cons_eq, Nat.add_comm 1, splitK]
      have e : index (32 :: r) [32] = 0 := by rw [idx_cons]; simp
      rw [e]
      simp [spl, ih]
    · rw [count_cons_ne c 32 r h, spl, if_neg h, ← ih]
      cases hk : count r [32] with
      | zero => rfl
      | succ k =>
        rw [splitK, splitK, idx_cons, if_neg h]
        by_cases hm : index r [32] = -1
        · rw [hm]; simp [glue]
        · have hg := index_ge r [32]
          rw [if_neg hm]
          have e0 : (index r [32] + 1 == -1) = false := by rw [beq_eq_false_iff_ne]; omega
          have e2 : (index r [32] == -1) = false := by rw [beq_eq_false_iff_ne]; exact hm
          have e1 : (index r [32] + 1).toNat = (index r [32]).toNat + 1 := by omega
          rw [e0, e2, e1]
          simp [glue]
end
theorem spl_len : ∀ (l : List UInt8) p, p ∈ spl l → p.length ≤ l.length
  | [], p, h => by simp [spl] at h; subst h; simp
  | c :: r, p, h => by
    have ih := spl_len r
    unfold spl at h
    split at h
    · simp only [List.mem_cons] at h
      rcases h with rfl | h
      · simp
      · have := ih p h; simp; omega
    · cases hs : spl r with
      | nil => exact absurd hs (spl_ne r)
      | cons q qs =>
        rw [hs] at h ih
        simp only [glue, List.mem_cons] at h
        rcases h with rfl | h
        · have := ih q (by simp); simp; omega
        · have := ih p (by simp [h]); simp; omega
def nums : List (List UInt8) → Option (List Nat)
  | [] => some []
  | l :: r => match good l with
    | none => none
    | some n => (nums r).map (n :: ·)
theorem nums_len : ∀ (L : List (List UInt8)) xs, nums L = some xs → xs.length = L.length
  | [], xs, h => by simp [nums] at h; subst h; rfl
  | l :: r, xs, h => by
    unfold nums at h
    cases hg : good l with
    | none => rw [hg] at h; cases h
    | some n =>
      rw [hg] at h
      simp only [Option.map_eq_some_iff] at h
      obtain ⟨ys, h1, rfl⟩ := h
      simp [nums_len r ys h1]
theorem nums_lt : ∀ (L : List (List UInt8)) xs, nums L = some xs → ∀ x ∈ xs, x < 4294967296
  | [], xs, h => by simp [nums] at h; subst h; simp
  | l :: r, xs, h => by
    unfold nums at h
    cases hg : good l with
    | none => rw [hg] at h; cases h
    | some n =>
      rw [hg] at h
      simp only [Option.map_eq_some_iff] at h
      obtain ⟨ys, h1, rfl⟩ := h
      have := nums_lt r ys h1
      intro x hx
      simp only [List.mem_cons] at hx
      rcases hx with rfl | hx
      · exact good_lt hg
      · exact this x hx
def RelS (t : ByteArray) (w : World) (o f i : Value) (w' : World) : Prop := ∃ (k j : Nat) (P : List ByteArray), k ≤ t.size ∧ j ≤ k ∧ P.length ≤ k ∧ i = .int .i64 k ∧ f = .int .i64 j ∧ w'.ownsRow w.heap.size 9 1 o P.length (P.map Value.string) ∧ Below w.heap.size w w' ∧ Hid (P.map (·.data.toList) ++ glue ((t.data.toList.drop j).take (k - j)) (spl (t.data.toList.drop k)) = spl t.data.toList)
/-- words in memory -/
def Words (w : World) (g o : Nat) (P : List ByteArray) : Prop := ∀ (j : Nat) x, P[j]? = some x → w.cell? ⟨g, o + j, none⟩ = some (.string x)
def SPost (t : ByteArray) (w : World) (e : Ending) (w' : World) : Prop := ∃ g c P, e = .returned (.slice (some ⟨g, 0, none⟩) P.length c) ∧ P.map (·.data.toList) = spl t.data.toList ∧ Words w' g 0 P ∧ P.length ≤ c ∧ P.length ≤ t.size + 1 ∧ g < w'.heap.size ∧ Below w.heap.size w w'
theorem info9 : ∃ i0, Tryd.prog.info? 9 = some i0 ∧ i0.zero = some (.string ⟨#[]⟩) ∧ i0.size = 1 ∧ i0.bytes = 16 := by
  have h0 : (Tryd.prog.info? 9).map (fun i => (i.size, i.bytes, i.zero)) = some (1, 16, some (.string ⟨#[]⟩)) := by kernel_rfl
  cases hi : Tryd.prog.info? 9 with
  | none => rw [hi] at h0; cases h0
  | some i0 =>
    rw [hi] at h0
    simp only [Option.map_some, Option.some.injEq, Prod.mk.injEq] at h0
    exact ⟨i0, rfl, h0.2.2, h0.1, h0.2.1⟩
theorem info22 : ∃ i0, Tryd.prog.info? 22 = some i0 ∧ i0.zero = some (.float .f32 0) ∧ i0.size = 1 ∧ i0.bytes = 4 := by
  have h0 : (Tryd.prog.info? 22).map (fun i => (i.size, i.bytes, i.zero)) = some (1, 4, some (.float .f32 0)) := by kernel_rfl
  cases hi : Tryd.prog.info? 22 with
  | none => rw [hi] at h0; cases h0
  | some i0 =>
    rw [hi] at h0
    simp only [Option.map_some, Option.some.injEq, Prod.mk.injEq] at h0
    exact ⟨i0, rfl, h0.2.2, h0.1, h0.2.1⟩
set_option maxRecDepth 100000 in
set_option maxHeartbeats 1600000 in
theorem split37 (t : ByteArray) (ht : t.size ≤ 1048576) (w : World) : Calls Tryd.prog 37 #[.string t, .int .u8 32] w (SPost t w) := by
  obtain ⟨i0, hi, hz0, hz1, hz2⟩ := info9
  have HI := Lib.hid hi
  have HZ0 := Lib.hid hz0
  have HZ1 := Lib.hid hz1
  have HZ2 := Lib.hid hz2
  clear hi hz0 hz1 hz2
  have hg : ∀ k, (hk : k < t.size) → t.data.toList.drop k = t[k] :: t.data.toList.drop (k + 1) := by
    intro k hk
    have : k < t.data.toList.length := by show k < t.data.toList.length; rw [Array.length_toList]; exact hk
    rw [List.drop_eq_getElem_cons this]
    rfl
  have HG := Lib.hid hg
  clear hg
  go_enter Tryd.func37, Tryd.ntmps37
  go_wp2
  go_loopw [5, 6, 7] (RelS t w) (fun o f i w' => (t.size - (intOf i).toNat))
  case atStart =>
    exact ⟨0, 0, [], Nat.zero_le _, Nat.le_refl _, Nat.le_refl _, rfl, rfl, ⟨rfl, .inr ⟨w.heap.size, 0, #[], rfl, Nat.le_refl _, heap_alloc_new w _, Nat.le_refl _, by unfold maxLen; omega, rfl, rfl⟩⟩, (Below.refl _ _).alloc (Nat.le_refl _) _, Lib.hid (by simp [glue_none])⟩
  case round =>
    obtain ⟨k, j, P, hk, hjk, hP, rfl, rfl, hown, hbel, hh⟩ := hrel
    by_cases hlt : k < t.size
    · have hdrop := HG.out k hlt
      generalize hcc : t[k] = c at hdrop
      have hc256 : c.toNat < 256 := c.toNat_lt
      by_cases h32 : c = 32
      · have hq : ((c.toNat : Int) == 32) = true := by subst h32; decide
        have HN : Hid ((P ++ [t.extract j k]).map (·.data.toList) ++ glue ((t.data.toList.drop (k + 1)).take (k + 1 - (k + 1))) (spl (t.data.toList.drop (k + 1))) = spl t.data.toList) := by
          refine Lib.hid ?_
          rw [← hh.out, hdrop, h32, glue_cut]
          simp [glue_none]
        have HO := Lib.hid hown
        have HB := Lib.hid hbel
        clear hh hdrop h32 hown hbel
        go_wp2_with (first
          | (at_builtin; refine wpList_append_own _ rfl (.tmp 20) (.tmp 25) 66 rfl w.heap.size 9 i0 (.string ⟨#[]⟩) 1 16 Tryd.underlying66 HI.out HZ0.out HZ1.out HZ2.out rfl (by decide) _ _ _ rfl (HO.out.alloc _) ⟨wr.heap.size, 0, none⟩ 1 1 [.string (t.extract j k)] rfl rfl (cell_one_new _ _ _) (by intro u hu; simp at hu; subst hu; rfl) (by unfold maxLen; omega) (by omega) (by have := HB.out.size; simp; omega) ?_; intro v1 w2 hown1 hgrow1 hnil1))
        refine ⟨⟨k + 1, k + 1, P ++ [t.extract j k], hlt, Nat.le_refl _, by simp; omega, by go_num, by go_num, ?_, ?_, HN⟩, by simp [intOf]; omega⟩
        · rw [List.map_append, List.length_append]; exact hown1
        · exact (HB.out.alloc HB.out.size _).grown hgrow1 (by have := HB.out.size; simp; omega) (fun j hj => (HO.out.lt j hj).1)
      · have hq : ((c.toNat : Int) == 32) = false := by
          rw [beq_eq_false_iff_ne]
          intro hq
          exact h32 (UInt8.toNat_inj.1 (by show c.toNat = 32; omega))
        have HN : Hid (P.map (·.data.toList) ++ glue ((t.data.toList.drop j).take (k + 1 - j)) (spl (t.data.toList.drop (k + 1))) = spl t.data.toList) := by
          refine Lib.hid ?_
          rw [← hh.out, hdrop, glue_on _ _ _ h32]
          congr 2
          rw [show k + 1 - j = (k - j) + 1 from by omega, List.take_add_one, List.getElem?_drop, show j + (k - j) = k from by omega]
          have : t.data.toList[k]? = some c := by rw [← List.head?_drop, hdrop]; rfl
          rw [this]
          rfl
        have HO := Lib.hid hown
        have HB := Lib.hid hbel
        clear hh hdrop h32 hown hbel
        go_wp2
        exact ⟨⟨k + 1, j, P, hlt, by omega, by omega, by go_num, rfl, HO.out, HB.out, HN⟩, by simp [intOf]; omega⟩
    · obtain rfl : k = t.size := by omega
      have HN : Hid ((P ++ [t.extract j t.size]).map (·.data.toList) = spl t.data.toList) := by
        refine Lib.hid ?_
        rw [← hh.out, List.drop_eq_nil_of_le (show t.data.toList.length ≤ t.size by rw [Array.length_toList]; exact Nat.le_refl _), glue_end]
        simp
      have HO := Lib.hid hown
      have HB := Lib.hid hbel
      clear hh hown hbel
      go_wp2_with (first
        | (at_builtin; refine wpList_append_own _ rfl (.tmp 29) (.tmp 33) 66 rfl w.heap.size 9 i0 (.string ⟨#[]⟩) 1 16 Tryd.underlying66 HI.out HZ0.out HZ1.out HZ2.out rfl (by decide) _ _ _ rfl (HO.out.alloc _) ⟨wr.heap.size, 0, none⟩ 1 1 [.string (t.extract j t.size)] rfl rfl (cell_one_new _ _ _) (by intro u hu; simp at hu; subst hu; rfl) (by unfold maxLen; omega) (by omega) (by have := HB.out.size; simp; omega) ?_; intro v1 w2 hown1 hgrow1 hnil1))
      go_ret
      have hn : 0 < P.length + 1 := by omega
      obtain ⟨g, cap, rfl, hg1, hg2⟩ := hown1.form hn
      have hcap : P.length + 1 ≤ cap := by
        rcases hown1.2 with ⟨h, _⟩ | ⟨g', cap', cur, h1, _, _, h4, _⟩
        · cases h
        · cases h1; exact h4
      refine ⟨g, cap, P ++ [t.extract j t.size], by simp, HN.out, ?_, by simpa using hcap, by simp; omega, hg2, (HB.out.alloc HB.out.size _).grown hgrow1 (by have := HB.out.size; simp; omega) (fun j hj => (HO.out.lt j hj).1)⟩
      intro j' x hx
      have := hown1.cells (g := g) rfl j' (.string x) (by
        have h2 : (P.map Value.string ++ [Value.string (t.extract j t.size)])[j']? = some (.string x) := by
          have : P.map Value.string ++ [Value.string (t.extract j t.size)] = (P ++ [t.extract j t.size]).map Value.string := by simp
          rw [this, List.getElem?_map, hx]
          rfl
        exact h2)
      rw [add_off] at this
      exact this
def flts (xs : List Nat) : List Value := xs.map (Value.float .f32 ·)
/-- the numbers so far -/
def RelM (Ls : List (List UInt8)) (w : World) (o i : Value) (w' : World) : Prop := ∃ (k : Nat) (xs : List Nat), k ≤ Ls.length ∧ xs.length = k ∧ i = .int .i64 k ∧ w'.ownsRow w.heap.size 22 1 o xs.length (flts xs) ∧ Below w.heap.size w w' ∧ Hid (nums Ls = (nums (Ls.drop k)).map (xs ++ ·))
def NsPost (Ls : List (List UInt8)) (w : World) (e : Ending) (w' : World) : Prop :=
  ((∃ xs v, nums Ls = some xs ∧ e = .returned (.tuple #[v, .bool true]) ∧ w'.ownsRow w.heap.size 22 1 v xs.length (flts xs)) ∨ (nums Ls = none ∧ ∃ v, e = .returned (.tuple #[v, .bool false]))) ∧ Below w.heap.size w w'
theorem nums_start (Ls : List (List UInt8)) : nums Ls = (nums (Ls.drop 0)).map (([] : List Nat) ++ ·) := by simp
theorem nums_step {Ls : List (List UInt8)} {k n : Nat} {l : List UInt8} {xs : List Nat} (h : nums Ls = (nums (Ls.drop k)).map (xs ++ ·)) (hl : Ls[k]? = some l) (hg : good l = some n) : nums Ls = (nums (Ls.drop (k + 1))).map ((xs ++ [n]) ++ ·) := by
  have hk : k < Ls.length := (List.getElem?_eq_some_iff.1 hl).1
  have e : Ls.drop k = l :: Ls.drop (k + 1) := by rw [List.drop_eq_getElem_cons hk, (List.getElem?_eq_some_iff.1 hl).2]
  rw [h, e, nums, hg]
  simp only [Option.map_map]
  congr 1
  funext y
  simp
theorem nums_fall {Ls : List (List UInt8)} {k : Nat} {l : List UInt8} {xs : List Nat} (h : nums Ls = (nums (Ls.drop k)).map (xs ++ ·)) (hl : Ls[k]? = some l) (hg : good l = none) : nums Ls = none := by
  have hk : k < Ls.length := (List.getElem?_eq_some_iff.1 hl).1
  have e : Ls.drop k = l :: Ls.drop (k + 1) := by rw [List.drop_eq_getElem_cons hk, (List.getElem?_eq_some_iff.1 hl).2]
  rw [h, e, nums, hg]
  rfl
theorem nums_end {Ls : List (List UInt8)} {xs : List Nat} (h : nums Ls = (nums (Ls.drop Ls.length)).map (xs ++ ·)) : nums Ls = some xs := by
  rw [h, List.drop_length]
  simp [nums]
set_option maxRecDepth 100000 in
set_option maxHeartbeats 1600000 in
theorem sns36 (P : List ByteArray) (hP : P.length ≤ 2000000) (hs : ∀ x ∈ P, x.size ≤ 1048576) (g o c : Nat) (w : World) (hg : g < w.heap.size) (hw : Words w g o P) :
    Calls Tryd.prog 36 #[.slice (some ⟨g, o, none⟩) P.length c] w (NsPost (P.map (·.data.toList)) w) := by
  obtain ⟨i0, hi, hz0, hz1, hz2⟩ := info22
  have HI := Lib.hid hi
  have HZ0 := Lib.hid hz0
  have HZ1 := Lib.hid hz1
  have HZ2 := Lib.hid hz2
  have HW := Lib.hid hw
  have HS := Lib.hid hs
  clear hi hz0 hz1 hz2 hw hs
  go_enter Tryd.func36, Tryd.ntmps36
  go_wp2
  go_loopw [4, 5] (RelM (P.map (·.data.toList)) w) (fun o i w' => (P.length - (intOf i).toNat))
  case atStart =>
    exact ⟨0, [], Nat.zero_le _, rfl, rfl, ⟨rfl, .inr ⟨w.heap.size, 0, #[], rfl, Nat.le_refl _, heap_alloc_new w _, Nat.le_refl _, by unfold maxLen; omega, rfl, rfl⟩⟩, (Below.refl _ _).alloc (Nat.le_refl _) _, Lib.hid (nums_start _)⟩
  case round =>
    obtain ⟨k, xs, hk, hxl, rfl, hown, hbel, hh⟩ := hrel
    rw [List.length_map] at hk
    have HB := Lib.hid hbel
    have HO := Lib.hid hown
    by_cases hlt : k < P.length
    · obtain ⟨t, hb⟩ : ∃ b, P[k]? = some b := ⟨_, List.getElem?_eq_getElem hlt⟩
      have hc : wr.cell? ⟨g, o + k, none⟩ = some (.string t) := by rw [hbel.cell (p := ⟨g, o + k, none⟩) hg]; exact HW.out k t hb
      have hp := rl33 t (HS.out t (List.mem_of_getElem? hb)) wr
      have hl : (P.map (·.data.toList))[k]? = some t.data.toList := by rw [List.getElem?_map, hb]; rfl
      have HL := Lib.hid hl
      clear hl hb hbel hown
      go_wp2_with fail
      refine hp.mono ?_
      rintro e w1 ⟨h, rfl⟩
      clear hp
      rcases h with ⟨n, hn, rfl⟩ | ⟨hn, v, rfl⟩
      · have HN := Lib.hid (nums_step hh.out HL.out hn)
        clear hn hh
        go_wp2_with (first
          | (at_builtin; refine wpList_append_own _ rfl (.tmp 26) (.tmp 28) 52 rfl w.heap.size 22 i0 (.float .f32 0) 1 4 Tryd.underlying52 HI.out HZ0.out HZ1.out HZ2.out rfl (by decide) _ _ _ rfl (HO.out.alloc _) ⟨wr.heap.size, 0, none⟩ 1 1 [.float .f32 n] rfl rfl (cell_one_new _ _ _) (by intro u hu; simp at hu; subst hu; rfl) (by unfold maxLen; omega) (by omega) (by have := HB.out.size; simp; omega) ?_; intro v1 w2 hown1 hgrow1 hnil1))
        refine ⟨⟨k + 1, xs ++ [n], by rw [List.length_map]; exact hlt, by simp [hxl], by go_num, ?_, ?_, HN⟩, by simp [intOf]; omega⟩
        · rw [flts, List.map_append, List.length_append]; exact hown1
        · exact (HB.out.alloc HB.out.size _).grown hgrow1 (by have := HB.out.size; simp; omega) (fun j hj => (HO.out.lt j hj).1)
      · have HN := Lib.hid (nums_fall hh.out HL.out hn)
        clear hn hh
        go_wp2
        go_ret2
        exact ⟨.inr ⟨HN.out, _, rfl⟩, HB.out.alloc HB.out.size _⟩
    · obtain rfl : k = P.length := by omega
      have HN := Lib.hid (nums_end (xs := xs) (Ls := P.map (·.data.toList)) (by rw [List.length_map]; exact hh.out))
      clear hh hown hbel
      go_wp2
      go_ret2
      exact ⟨.inl ⟨xs, _, HN.out, rfl, HO.out⟩, HB.out⟩
set_option maxRecDepth 100000 in
set_option maxHeartbeats 1600000 in
theorem ins38 (P : List ByteArray) (hP : P.length ≤ 2000000) (hs : ∀ x ∈ P, x.size ≤ 1048576) (g o c : Nat) (w : World) (hg : g < w.heap.size) (hw : Words w g o P) (hT : Tab w) (hE : ErrVars w) :
    Calls Tryd.prog 38 #[.slice (some ⟨g, o, none⟩) P.length c] w (NsPost (P.map (·.data.toList)) w) := by
  obtain ⟨i0, hi, hz0, hz1, hz2⟩ := info22
  have HI := Lib.hid hi
  have HZ0 := Lib.hid hz0
  have HZ1 := Lib.hid hz1
  have HZ2 := Lib.hid hz2
  have HW := Lib.hid hw
  have HS := Lib.hid hs
  have HT := Lib.hid hT
  have HE := Lib.hid hE
  clear hi hz0 hz1 hz2 hw hs hT hE
  go_enter Tryd.func38, Tryd.ntmps38
  go_wp2
  go_loopw [4, 12] (RelM (P.map (·.data.toList)) w) (fun o i w' => (P.length - (intOf i).toNat))
  case atStart =>
    exact ⟨0, [], Nat.zero_le _, rfl, rfl, ⟨rfl, .inr ⟨w.heap.size, 0, #[], rfl, Nat.le_refl _, heap_alloc_new w _, Nat.le_refl _, by unfold maxLen; omega, rfl, rfl⟩⟩, (Below.refl _ _).alloc (Nat.le_refl _) _, Lib.hid (nums_start _)⟩
  case round =>
    obtain ⟨k, xs, hk, hxl, rfl, hown, hbel, hh⟩ := hrel
    rw [List.length_map] at hk
    have HB := Lib.hid hbel
    have HO := Lib.hid hown
    by_cases hlt : k < P.length
    · obtain ⟨t, hb⟩ : ∃ b, P[k]? = some b := ⟨_, List.getElem?_eq_getElem hlt⟩
      have hc : wr.cell? ⟨g, o + k, none⟩ = some (.string t) := by rw [hbel.cell (p := ⟨g, o + k, none⟩) hg]; exact HW.out k t hb
      have hp := rn17 t (HS.out t (List.mem_of_getElem? hb)) wr (HT.out.below hbel) (HE.out.below hbel)
      have hl : (P.map (·.data.toList))[k]? = some t.data.toList := by rw [List.getElem?_map, hb]; rfl
      have HL := Lib.hid hl
      clear hl hb hbel hown
      go_wp2_with fail
      refine hp.mono ?_
      rintro e w1 ⟨h, hb1⟩
      clear hp
      have HB1 := Lib.hid hb1
      cases hgd : good t.data.toList with
      | some n =>
        rw [rdV_some hgd] at h
        subst h
        have HN := Lib.hid (nums_step hh.out HL.out hgd)
        clear hgd hh
        go_wp2_with (first
          | (at_builtin; refine wpList_append_own _ rfl (.tmp 23) (.tmp 25) 52 rfl w.heap.size 22 i0 (.float .f32 0) 1 4 Tryd.underlying52 HI.out HZ0.out HZ1.out HZ2.out rfl (by decide) _ _ _ rfl ((own_below HO.out HB1.out).alloc _) ⟨w1.heap.size, 0, none⟩ 1 1 [.float .f32 n] rfl rfl (cell_one_new _ _ _) (by intro u hu; simp at hu; subst hu; rfl) (by unfold maxLen; omega) (by omega) (by have := HB.out.size; have := HB1.out.size; simp; omega) ?_; intro v1 w2 hown1 hgrow1 hnil1))
        refine ⟨⟨k + 1, xs ++ [n], by rw [List.length_map]; exact hlt, by simp [hxl], by go_num, ?_, ?_, HN⟩, by simp [intOf]; omega⟩
        · rw [flts, List.map_append, List.length_append]; exact hown1
        · exact ((HB.out.trans (HB1.out.mono HB.out.size)).alloc (Nat.le_trans HB.out.size HB1.out.size) _).grown hgrow1 (by have := HB.out.size; have := HB1.out.size; simp; omega) (fun j hj => (HO.out.lt j hj).1)
      | none =>
        rw [rdV_none hgd] at h
        subst h
        have HN := Lib.hid (nums_fall hh.out HL.out hgd)
        clear hgd hh
        go_wp2
        go_ret2
        exact ⟨.inr ⟨HN.out, _, rfl⟩, HB.out.trans (HB1.out.mono HB.out.size)⟩
    · obtain rfl : k = P.length := by omega
      have HN := Lib.hid (nums_end (xs := xs) (Ls := P.map (·.data.toList)) (by rw [List.length_map]; exact hh.out))
      clear hh hown hbel
      go_wp2
      go_ret2
      exact ⟨.inl ⟨xs, _, HN.out, rfl, HO.out⟩, HB.out⟩
end Go.Proofs.YtejbahdihfnbcaaDoor.nt
