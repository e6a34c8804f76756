/- A region that draws its order: one evaluation in the order of the text serves every order. -/
import Derived.Test.YtconlkliclhbpaaSxReg
namespace Go.Proofs.Ytconlkliclhbpaa.Sx
open Go

/-! Which operations stand before an operation -/
def Binds (o : Oper) (j : Nat) : Prop := ∃ e ∈ o.after.toList, Region.binds .any e = true ∧ e.on = j
def BefSpec (ops : List Oper) (acc : Array Nat) : Prop :=
  acc.size = ops.length ∧ ∀ i o, ops[i]? = some o → ∀ k, (acc.getD i 0).testBit k = true → ∃ j, Binds o j ∧ (k = j ∨ (j < i ∧ (acc.getD j 0).testBit k = true))

def befStep (acc : Array Nat) (o : Oper) : Array Nat :=
  acc.push (o.after.foldl (fun s e => if Region.binds .any e then s ||| 2 ^ e.on ||| acc.getD e.on 0 else s) 0)
theorem bef_fold (acc : Array Nat) (k : Nat) : ∀ (l : List Edge) (s : Nat), (l.foldl (fun s e => if Region.binds .any e then s ||| 2 ^ e.on ||| acc.getD e.on 0 else s) s).testBit k = true →
    s.testBit k = true ∨ ∃ e ∈ l, Region.binds .any e = true ∧ (k = e.on ∨ (acc.getD e.on 0).testBit k = true)
  | [], s, h => .inl h
  | e :: l, s, h => by
    simp only [List.foldl_cons] at h
    rcases bef_fold acc k l _ h with h | ⟨e', he, hb, hk⟩
    · by_cases hb : Region.binds .any e = true
      · rw [if_pos hb] at h
        simp only [Nat.testBit_or, Bool.or_eq_true, Nat.testBit_two_pow, decide_eq_true_eq] at h
        rcases h with (h | h) | h
        · exact .inl h
        · exact .inr ⟨e, by simp, hb, .inl h.symm⟩
        · exact .inr ⟨e, by simp, hb, .inr h⟩
      · rw [if_neg hb] at h; exact .inl h
    · exact .inr ⟨e', by simp [he], hb, hk⟩

theorem bef_step {ops : List Oper} {acc : Array Nat} (h : BefSpec ops acc) (o : Oper) : BefSpec (ops ++ [o]) (befStep acc o) := by
  obtain ⟨h1, h2⟩ := h
  have hold : ∀ j, j < acc.size → (befStep acc o).getD j 0 = acc.getD j 0 := by
    intro j hj
    simp only [befStep, Array.getD_eq_getD_getElem?, Array.getElem?_push]
    rw [if_neg (by omega)]
  refine ⟨by simp [befStep, h1], fun i q hi k hk => ?_⟩
  by_cases hlt : i < ops.length
  · rw [List.getElem?_append_left hlt] at hi
    rw [hold i (by omega)] at hk
    obtain ⟨j, hb, hj⟩ := h2 i q hi k hk
    refine ⟨j, hb, hj.imp id fun ⟨h3, h4⟩ => ⟨h3, by rw [hold j (by omega)]; exact h4⟩⟩
  · have hie : i = ops.length := by
      have := (List.getElem?_eq_some_iff.1 hi).1
      simp at this; omega
    subst hie
    simp at hi; subst hi
    have hnew : (befStep acc o).getD ops.length 0 = o.after.foldl (fun s e => if Region.binds .any e then s ||| 2 ^ e.on ||| acc.getD e.on 0 else s) 0 := by
      simp only [befStep, Array.getD_eq_getD_getElem?, Array.getElem?_push]
      rw [if_pos h1.symm]; rfl
    rw [hnew, ← Array.foldl_toList] at hk
    rcases bef_fold acc k _ _ hk with h | ⟨e, he, hb, hk⟩
    · simp at h
    · refine ⟨e.on, ⟨e, he, hb, rfl⟩, hk.imp id fun h3 => ?_⟩
      have hlt' : e.on < acc.size := by
        rcases Nat.lt_or_ge e.on acc.size with h | h
        · exact h
        · simp [Array.getD_eq_getD_getElem?, Array.getElem?_eq_none h] at h3
      exact ⟨by omega, by rw [hold _ hlt']; exact h3⟩

theorem bef_all : ∀ (l pre : List Oper) (acc : Array Nat), BefSpec pre acc → BefSpec (pre ++ l) (l.foldl befStep acc)
  | [], pre, acc, h => by simpa using h
  | o :: l, pre, acc, h => by
    simp only [List.foldl_cons]
    have := bef_all l (pre ++ [o]) _ (bef_step h o)
    simpa using this
theorem bef_spec (ops : Array Oper) : BefSpec ops.toList (Region.before ops) := by
  have : Region.before ops = ops.toList.foldl befStep #[] := by
    unfold Region.before
    rw [← Array.foldl_toList]; rfl
  rw [this]
  have := bef_all ops.toList [] #[] ⟨rfl, fun i o h => by simp at h⟩
  simpa using this

/-! What the check says -/
theorem draw_edge {ops : Array Oper} (h : drawOk ops = true) {i : Nat} {o : Oper} (ho : ops[i]? = some o) {j : Nat} (hb : Binds o j) : j < i := by
  simp only [drawOk, List.all_eq_true, Bool.and_eq_true] at h
  have hm : (o, i) ∈ ops.toList.zipIdx := by
    rw [List.mem_zipIdx_iff_getElem?]; simpa using ho
  obtain ⟨h1, _⟩ := h (o, i) hm
  obtain ⟨e, he, hb, rfl⟩ := hb
  have := Array.all_eq_true'.1 h1 e (by simpa using he)
  simp [hb, Nat.blt_eq] at this
  exact this

theorem draw_cmp {ops : Array Oper} (h : drawOk ops = true) {i j : Nat} {o p : Oper} (ho : ops[i]? = some o) (hp : ops[j]? = some p) (hlt : j < i) :
    ((Region.before ops).getD i 0).testBit j = true ∨
      ((isStore o.op && looksAtMemory p.op) = false ∧ (isStore p.op && looksAtMemory o.op) = false ∧ (∀ d, o.dst = some d → d ∉ namesOf ops p) ∧ ∀ d, p.dst = some d → d ∉ namesOf ops o) := by
  simp only [drawOk, List.all_eq_true, Bool.and_eq_true] at h
  have hm : (o, i) ∈ ops.toList.zipIdx := by rw [List.mem_zipIdx_iff_getElem?]; simpa using ho
  have hm' : (p, j) ∈ ops.toList.zipIdx := by rw [List.mem_zipIdx_iff_getElem?]; simpa using hp
  obtain ⟨_, h2⟩ := h (o, i) hm
  have h3 := h2 (p, j) hm'
  simp only [Bool.or_eq_true, Bool.not_eq_true', Bool.and_eq_true] at h3
  rcases h3 with (h3 | h3) | h3
  · have : Nat.blt j i = true := by simpa [Nat.blt_eq] using hlt
    rw [this] at h3; cases h3
  · exact .inl h3
  · obtain ⟨⟨⟨a1, a2⟩, a3⟩, a4⟩ := h3
    refine .inr ⟨a1, a2, fun d hd => ?_, fun d hd => ?_⟩
    · unfold apartD at a3
      rw [hd] at a3
      simpa using a3
    · unfold apartD at a4
      rw [hd] at a4
      simpa using a4

/-! The temporaries that an operation reads, alone -/
def opTmps (o : Op) : List Tmp := o.operands.toList.filterMap fun | .tmp t => some t | _ => none
def restr (tm : Tr AV) : List Tmp → Tr AV
  | [] => .nil
  | t :: ts => match tm.get t with | some v => (restr tm ts).set t v | none => restr tm ts
theorem restr_get (tm : Tr AV) : ∀ (ts : List Tmp) (t : Nat), (restr tm ts).get t = if t ∈ ts then tm.get t else none
  | [], t => by simp [restr, Tr.get]
  | s :: ts, t => by
    unfold restr
    cases hs : tm.get s with
    | none =>
      simp only []
      rw [restr_get tm ts t]
      by_cases e : t = s
      · subst e; simp [hs]
      · simp [e]
    | some v =>
      simp only []
      rw [Tr.get_set, restr_get tm ts t]
      by_cases e : t = s
      · subst e; simp [hs]
      · simp [e]
theorem restr_agree (tm : Tr AV) (o : Op) : ∀ x ∈ o.operands, Agree tm (restr tm (opTmps o)) x := by
  intro x hx t ht
  subst ht
  rw [restr_get, if_pos]
  simp only [opTmps, List.mem_filterMap]
  exact ⟨.tmp t, by simpa using hx, rfl⟩

def virt (a : Act) (ts : List Tmp) : Act := { tmps := (Array.range a.tmps.size).map fun t => if t ∈ ts then a.tmps.getD t undef else undef, defers := a.defers }
theorem virt_getD (a : Act) (ts : List Tmp) (t : Nat) : (virt a ts).tmps.getD t undef = if t ∈ ts then a.tmps.getD t undef else undef := by
  simp only [virt, Array.getD_eq_getD_getElem?, Array.getElem?_map, Array.getElem?_range]
  by_cases h : t < a.tmps.size
  · simp [h]
  · simp [h]
theorem virt_exec (a : Act) (o : Oper) (hs : ∀ cs b, o.op ≠ .select cs b) : execOp (virt a (opTmps o.op)).eval o = execOp a.eval o := by
  apply execOp_congr o hs
  intro x hx
  cases x with
  | tmp t =>
    show (virt a _).tmps.getD t undef = a.tmps.getD t undef
    rw [virt_getD, if_pos]
    simp only [opTmps, List.mem_filterMap]
    exact ⟨.tmp t, by simpa using hx, rfl⟩
  | _ => rfl

/-! The heap as it goes on -/
theorem findB_isSome_of_ids : ∀ {h1 h2 : List (Nat × List AV)}, idsEq h1 h2 = true → ∀ id, (findB id h1).isSome = (findB id h2).isSome
  | [], [], _, id => rfl
  | [], _ :: _, h, id => by simp [idsEq] at h
  | _ :: _, [], h, id => by simp [idsEq] at h
  | (i, a) :: r, (j, b) :: s, h, id => by
    simp only [idsEq, Bool.and_eq_true] at h
    obtain rfl : i = j := Nat.eq_of_beq_eq_true h.1
    unfold findB
    cases Nat.beq id i
    · exact findB_isSome_of_ids h.2 id
    · rfl
theorem findB_ne {id j : Nat} {cs : List AV} {h : List (Nat × List AV)} (hne : id ≠ j) : findB id ((j, cs) :: h) = findB id h := by
  rw [findB, show Nat.beq id j = false from by
    cases q : Nat.beq id j
    · rfl
    · exact absurd (Nat.eq_of_beq_eq_true q) hne]
theorem newOnes_lt {lo hi : Nat} {full : List (Nat × List AV)} : ∀ {h : List (Nat × List AV)} {id : Nat}, id < lo → findB id (newOnes lo hi h full) = findB id full
  | [], id, hid => rfl
  | (j, cs) :: r, id, hid => by
    unfold newOnes
    split
    · rename_i hc
      simp only [Bool.and_eq_true] at hc
      have : lo ≤ j := Nat.le_of_ble_eq_true hc.1
      rw [findB_ne (by omega)]
      exact newOnes_lt hid
    · rfl
theorem newOnes_ge {lo hi : Nat} {full : List (Nat × List AV)} (hf : ∀ id cs, findB id full = some cs → id < lo) : ∀ {h : List (Nat × List AV)} {id : Nat} {cs : List AV}, lo ≤ id → findB id (newOnes lo hi h full) = some cs → findB id h = some cs ∧ id < hi
  | [], id, cs, hid, h => by
    have := hf id cs h; omega
  | (j, ds) :: r, id, cs, hid, h => by
    unfold newOnes at h
    split at h
    · rename_i hc
      simp only [Bool.and_eq_true, Nat.blt_eq] at hc
      rcases findB_cons h with ⟨rfl, rfl⟩ | ⟨hne, h⟩
      · exact ⟨by simp [findB], hc.2⟩
      · obtain ⟨h1, h2⟩ := newOnes_ge hf hid h
        refine ⟨?_, h2⟩
        rw [findB_ne hne]
        exact h1
    · have := hf id cs h; omega
theorem allLt_spec {hi : Nat} : ∀ {h : List (Nat × List AV)}, allLt hi h = true → ∀ id cs, findB id h = some cs → id < hi
  | [], _, id, cs, h => by simp [findB] at h
  | (j, ds) :: r, hl, id, cs, h => by
    simp only [allLt, Bool.and_eq_true, Nat.blt_eq] at hl
    rcases findB_cons h with ⟨rfl, rfl⟩ | ⟨hne, h⟩
    · exact hl.1
    · exact allLt_spec hl.2 id cs h
theorem hide_spec {own : List (Nat × Nat)} {bef : Nat} : ∀ {h : List (Nat × List AV)} {id : Nat} {cs : List AV}, findB id (hideHeap own bef h) = some cs → ownerOk own bef id = true ∧ findB id h = some cs
  | [], id, cs, h => by simp [hideHeap, findB] at h
  | (j, ds) :: r, id, cs, h => by
    unfold hideHeap at h
    split at h
    · rename_i ho
      rcases findB_cons h with ⟨rfl, rfl⟩ | ⟨hne, h⟩
      · exact ⟨ho, by simp [findB]⟩
      · obtain ⟨h1, h2⟩ := hide_spec h
        refine ⟨h1, ?_⟩
        rw [findB_ne hne]
        exact h2
    · rename_i ho
      obtain ⟨h1, h2⟩ := hide_spec h
      refine ⟨h1, ?_⟩
      rw [findB_ne (by rintro rfl; rw [h1] at ho; cases ho)]
      exact h2
theorem allVis_spec {own : List (Nat × Nat)} {bef : Nat} : ∀ {h : List (Nat × List AV)}, allVis own bef h = true → ∀ id cs, findB id h = some cs → ownerOk own bef id = true
  | [], _, id, cs, h => by simp [findB] at h
  | (j, ds) :: r, hl, id, cs, h => by
    simp only [allVis, Bool.and_eq_true] at hl
    rcases findB_cons h with ⟨rfl, rfl⟩ | ⟨hne, h⟩
    · exact hl.1
    · exact allVis_spec hl.2 id cs h

end Go.Proofs.Ytconlkliclhbpaa.Sx
