/- The tests for sameness, once and for all. -/
import Derived.Test.YtkaiihbibcjglabTable
import Derived.Test.YtkaiihbibcjglabSxB
namespace Go.Proofs.Ytkaiihbibcjglab
open Sx Go
def md0 : Nat → Sx.Mode := modeOf (TTof ts) []
theorem md0_ok : ∀ g, ModeOk (Gt (TTof ts)) (Gt (TTof ts)) g (md0 g) := modeOf_ok table.calls tests (modes_ok (l := []) (by simp))
theorem same45 : ModeOk (Gt (TTof ts)) (Gt (TTof ts)) 45 (.opq 45 [.f64, .f64] [.b] true) :=
  opqOk table.calls tests rules md0_ok (by kernel_rfl) fun _ => ⟨.f64, rfl, by kernel_rfl⟩
def mds : List (Nat × Sx.Mode) := [(45, .opq 45 [.f64, .f64] [.b] true)]
def md1 : Nat → Sx.Mode := modeOf (TTof ts) mds
theorem md1_ok : ∀ g, ModeOk (Gt (TTof ts)) (Gt (TTof ts)) g (md1 g) := modeOf_ok table.calls tests (modes_ok (l := mds) (by
  intro p hp
  simp only [mds, List.mem_cons, List.not_mem_nil, or_false] at hp
  rcases hp with rfl
  · exact same45
  ))
theorem test23 : ModeOk (Gt (TTof ts)) (Gt (TTof ts)) 23 (.opt 3 [.f32, .f32, .f32] t23) := by
  have e : TTof ts 23 = t23 := by kernel_rfl
  have h : ModeOk (Gt (TTof ts)) (Gt (TTof ts)) 23 (.opt 3 [.f32, .f32, .f32] (TTof ts 23)) := optOk table.calls tests rules md1_ok (by kernel_rfl)
  rw [e] at h
  exact h
theorem test3 : ModeOk (Gt (TTof ts)) (Gt (TTof ts)) 3 (.opt 3 [.f32, .f32, .f32] t3) := by
  have e : TTof ts 3 = t3 := by kernel_rfl
  have h : ModeOk (Gt (TTof ts)) (Gt (TTof ts)) 3 (.opt 3 [.f32, .f32, .f32] (TTof ts 3)) := optOk table.calls tests rules md1_ok (by kernel_rfl)
  rw [e] at h
  exact h
def mds2 : List (Nat × Sx.Mode) := [(3, .opt 3 [.f32, .f32, .f32] t3), (23, .opt 3 [.f32, .f32, .f32] t23), (45, .opq 45 [.f64, .f64] [.b] true)]
def md2 : Nat → Sx.Mode := modeOf (TTof ts) mds2
theorem md2_ok : ∀ g, ModeOk (Gt (TTof ts)) (Gt (TTof ts)) g (md2 g) := modeOf_ok table.calls tests (modes_ok (l := mds2) (by
  intro p hp
  simp only [mds2, List.mem_cons, List.not_mem_nil, or_false] at hp
  rcases hp with rfl | rfl | rfl
  · exact test3
  · exact test23
  · exact same45
  ))
theorem test35 : ModeOk (Gt (TTof ts)) (Gt (TTof ts)) 35 (.opt 14 [.f32, .f32, .f32, .f32, .f32, .f32, .f32, .f32, .f32, .f32, .f32] t35) := by
  have e : TTof ts 35 = t35 := by kernel_rfl
  have h : ModeOk (Gt (TTof ts)) (Gt (TTof ts)) 35 (.opt 14 [.f32, .f32, .f32, .f32, .f32, .f32, .f32, .f32, .f32, .f32, .f32] (TTof ts 35)) := optOk table.calls tests rules md2_ok (by kernel_rfl)
  rw [e] at h
  exact h
theorem test14 : ModeOk (Gt (TTof ts)) (Gt (TTof ts)) 14 (.opt 14 [.f32, .f32, .f32, .f32, .f32, .f32, .f32, .f32, .f32, .f32, .f32] t14) := by
  have e : TTof ts 14 = t14 := by kernel_rfl
  have h : ModeOk (Gt (TTof ts)) (Gt (TTof ts)) 14 (.opt 14 [.f32, .f32, .f32, .f32, .f32, .f32, .f32, .f32, .f32, .f32, .f32] (TTof ts 14)) := optOk table.calls tests rules md2_ok (by kernel_rfl)
  rw [e] at h
  exact h
def mds3 : List (Nat × Sx.Mode) := [(14, .opt 14 [.f32, .f32, .f32, .f32, .f32, .f32, .f32, .f32, .f32, .f32, .f32] t14), (35, .opt 14 [.f32, .f32, .f32, .f32, .f32, .f32, .f32, .f32, .f32, .f32, .f32] t35), (3, .opt 3 [.f32, .f32, .f32] t3), (23, .opt 3 [.f32, .f32, .f32] t23), (45, .opq 45 [.f64, .f64] [.b] true)]
def md : Nat → Sx.Mode := modeOf (TTof ts) mds3
theorem md_ok : ∀ g, ModeOk (Gt (TTof ts)) (Gt (TTof ts)) g (md g) := modeOf_ok table.calls tests (modes_ok (l := mds3) (by
  intro p hp
  simp only [mds3, List.mem_cons, List.not_mem_nil, or_false] at hp
  rcases hp with rfl | rfl | rfl | rfl | rfl
  · exact test14
  · exact test35
  · exact test3
  · exact test23
  · exact same45
  ))
end Go.Proofs.Ytkaiihbibcjglab
