/- The tests for sameness, once and for all. -/
import Derived.Test.YtkaiihbibcjglaaTable
import Derived.Test.YtkaiihbibcjglaaSxB
namespace Go.Proofs.Ytkaiihbibcjglaa
open Sx Go
def md0 : Nat → Sx.Mode := modeOf (TTof ts) []
theorem md0_ok : ∀ g, ModeOk (Gt (TTof ts)) (Gt (TTof ts)) g (md0 g) := modeOf_ok table.calls tests (modes_ok (l := []) (by simp))
theorem same34 : ModeOk (Gt (TTof ts)) (Gt (TTof ts)) 34 (.opq 34 [.f64, .f64] [.b] true) :=
  opqOk table.calls tests rules md0_ok (by kernel_rfl) fun _ => ⟨.f64, rfl, by kernel_rfl⟩
def mds : List (Nat × Sx.Mode) := [(34, .opq 34 [.f64, .f64] [.b] true)]
def md1 : Nat → Sx.Mode := modeOf (TTof ts) mds
theorem md1_ok : ∀ g, ModeOk (Gt (TTof ts)) (Gt (TTof ts)) g (md1 g) := modeOf_ok table.calls tests (modes_ok (l := mds) (by
  intro p hp
  simp only [mds, List.mem_cons, List.not_mem_nil, or_false] at hp
  rcases hp with rfl
  · exact same34
  ))
theorem test17 : ModeOk (Gt (TTof ts)) (Gt (TTof ts)) 17 (.opt 2 [.f32, .f32, .f32] t17) := by
  have e : TTof ts 17 = t17 := by kernel_rfl
  have h : ModeOk (Gt (TTof ts)) (Gt (TTof ts)) 17 (.opt 2 [.f32, .f32, .f32] (TTof ts 17)) := optOk table.calls tests rules md1_ok (by kernel_rfl)
  rw [e] at h
  exact h
theorem test2 : ModeOk (Gt (TTof ts)) (Gt (TTof ts)) 2 (.opt 2 [.f32, .f32, .f32] t2) := by
  have e : TTof ts 2 = t2 := by kernel_rfl
  have h : ModeOk (Gt (TTof ts)) (Gt (TTof ts)) 2 (.opt 2 [.f32, .f32, .f32] (TTof ts 2)) := optOk table.calls tests rules md1_ok (by kernel_rfl)
  rw [e] at h
  exact h
def mds2 : List (Nat × Sx.Mode) := [(2, .opt 2 [.f32, .f32, .f32] t2), (17, .opt 2 [.f32, .f32, .f32] t17), (34, .opq 34 [.f64, .f64] [.b] true)]
def md2 : Nat → Sx.Mode := modeOf (TTof ts) mds2
theorem md2_ok : ∀ g, ModeOk (Gt (TTof ts)) (Gt (TTof ts)) g (md2 g) := modeOf_ok table.calls tests (modes_ok (l := mds2) (by
  intro p hp
  simp only [mds2, List.mem_cons, List.not_mem_nil, or_false] at hp
  rcases hp with rfl | rfl | rfl
  · exact test2
  · exact test17
  · exact same34
  ))
theorem test81 : ModeOk (Gt (TTof ts)) (Gt (TTof ts)) 81 (.opt 75 [.f32, .f32, .f32, .f32] t81) := by
  have e : TTof ts 81 = t81 := by kernel_rfl
  have h : ModeOk (Gt (TTof ts)) (Gt (TTof ts)) 81 (.opt 75 [.f32, .f32, .f32, .f32] (TTof ts 81)) := optOk table.calls tests rules md2_ok (by kernel_rfl)
  rw [e] at h
  exact h
theorem test75 : ModeOk (Gt (TTof ts)) (Gt (TTof ts)) 75 (.opt 75 [.f32, .f32, .f32, .f32] t75) := by
  have e : TTof ts 75 = t75 := by kernel_rfl
  have h : ModeOk (Gt (TTof ts)) (Gt (TTof ts)) 75 (.opt 75 [.f32, .f32, .f32, .f32] (TTof ts 75)) := optOk table.calls tests rules md2_ok (by kernel_rfl)
  rw [e] at h
  exact h
def mds3 : List (Nat × Sx.Mode) := [(75, .opt 75 [.f32, .f32, .f32, .f32] t75), (81, .opt 75 [.f32, .f32, .f32, .f32] t81), (2, .opt 2 [.f32, .f32, .f32] t2), (17, .opt 2 [.f32, .f32, .f32] t17), (34, .opq 34 [.f64, .f64] [.b] true)]
def md3 : Nat → Sx.Mode := modeOf (TTof ts) mds3
theorem md3_ok : ∀ g, ModeOk (Gt (TTof ts)) (Gt (TTof ts)) g (md3 g) := modeOf_ok table.calls tests (modes_ok (l := mds3) (by
  intro p hp
  simp only [mds3, List.mem_cons, List.not_mem_nil, or_false] at hp
  rcases hp with rfl | rfl | rfl | rfl | rfl
  · exact test75
  · exact test81
  · exact test2
  · exact test17
  · exact same34
  ))
theorem test48 : ModeOk (Gt (TTof ts)) (Gt (TTof ts)) 48 (.opt 40 [.f32, .f32, .f32, .f32, .f32, .f32, .f32, .f32, .f32, .f32, .f32] t48) := by
  have e : TTof ts 48 = t48 := by kernel_rfl
  have h : ModeOk (Gt (TTof ts)) (Gt (TTof ts)) 48 (.opt 40 [.f32, .f32, .f32, .f32, .f32, .f32, .f32, .f32, .f32, .f32, .f32] (TTof ts 48)) := optOk table.calls tests rules md3_ok (by kernel_rfl)
  rw [e] at h
  exact h
theorem test40 : ModeOk (Gt (TTof ts)) (Gt (TTof ts)) 40 (.opt 40 [.f32, .f32, .f32, .f32, .f32, .f32, .f32, .f32, .f32, .f32, .f32] t40) := by
  have e : TTof ts 40 = t40 := by kernel_rfl
  have h : ModeOk (Gt (TTof ts)) (Gt (TTof ts)) 40 (.opt 40 [.f32, .f32, .f32, .f32, .f32, .f32, .f32, .f32, .f32, .f32, .f32] (TTof ts 40)) := optOk table.calls tests rules md3_ok (by kernel_rfl)
  rw [e] at h
  exact h
def mds4 : List (Nat × Sx.Mode) := [(40, .opt 40 [.f32, .f32, .f32, .f32, .f32, .f32, .f32, .f32, .f32, .f32, .f32] t40), (48, .opt 40 [.f32, .f32, .f32, .f32, .f32, .f32, .f32, .f32, .f32, .f32, .f32] t48), (75, .opt 75 [.f32, .f32, .f32, .f32] t75), (81, .opt 75 [.f32, .f32, .f32, .f32] t81), (2, .opt 2 [.f32, .f32, .f32] t2), (17, .opt 2 [.f32, .f32, .f32] t17), (34, .opq 34 [.f64, .f64] [.b] true)]
def md : Nat → Sx.Mode := modeOf (TTof ts) mds4
theorem md_ok : ∀ g, ModeOk (Gt (TTof ts)) (Gt (TTof ts)) g (md g) := modeOf_ok table.calls tests (modes_ok (l := mds4) (by
  intro p hp
  simp only [mds4, List.mem_cons, List.not_mem_nil, or_false] at hp
  rcases hp with rfl | rfl | rfl | rfl | rfl | rfl | rfl
  · exact test40
  · exact test48
  · exact test75
  · exact test81
  · exact test2
  · exact test17
  · exact same34
  ))
end Go.Proofs.Ytkaiihbibcjglaa
