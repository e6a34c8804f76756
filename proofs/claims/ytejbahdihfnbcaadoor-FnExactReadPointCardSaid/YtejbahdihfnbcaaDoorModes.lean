/- The tests for sameness, once and for all. -/
import Derived.Test.YtejbahdihfnbcaaDoorTable
import Derived.Test.YtejbahdihfnbcaaDoorSxB
namespace Go.Proofs.YtejbahdihfnbcaaDoor
open Sx Go
def md0 : Nat → Sx.Mode := modeOf (TTof ts) []
theorem md0_ok : ∀ g, ModeOk (Gt (TTof ts)) (Gt (TTof ts)) g (md0 g) := modeOf_ok table.calls tests (modes_ok (l := []) (by simp))
theorem same30 : ModeOk (Gt (TTof ts)) (Gt (TTof ts)) 30 (.opq 30 [.f64, .f64] [.b] true) :=
  opqOk table.calls tests rules md0_ok (by kernel_rfl) fun _ => ⟨.f64, rfl, by kernel_rfl⟩
def mds : List (Nat × Sx.Mode) := [(30, .opq 30 [.f64, .f64] [.b] true)]
def md1 : Nat → Sx.Mode := modeOf (TTof ts) mds
theorem md1_ok : ∀ g, ModeOk (Gt (TTof ts)) (Gt (TTof ts)) g (md1 g) := modeOf_ok table.calls tests (modes_ok (l := mds) (by
  intro p hp
  simp only [mds, List.mem_cons, List.not_mem_nil, or_false] at hp
  rcases hp with rfl
  · exact same30
  ))
theorem test5 : ModeOk (Gt (TTof ts)) (Gt (TTof ts)) 5 (.opt 2 [.f32, .f32, .f32] t5) := by
  have e : TTof ts 5 = t5 := by kernel_rfl
  have h : ModeOk (Gt (TTof ts)) (Gt (TTof ts)) 5 (.opt 2 [.f32, .f32, .f32] (TTof ts 5)) := optOk table.calls tests rules md1_ok (by kernel_rfl)
  rw [e] at h
  exact h
theorem test2 : ModeOk (Gt (TTof ts)) (Gt (TTof ts)) 2 (.opt 2 [.f32, .f32, .f32] t2) := by
  have e : TTof ts 2 = t2 := by kernel_rfl
  have h : ModeOk (Gt (TTof ts)) (Gt (TTof ts)) 2 (.opt 2 [.f32, .f32, .f32] (TTof ts 2)) := optOk table.calls tests rules md1_ok (by kernel_rfl)
  rw [e] at h
  exact h
def mds2 : List (Nat × Sx.Mode) := [(2, .opt 2 [.f32, .f32, .f32] t2), (5, .opt 2 [.f32, .f32, .f32] t5), (30, .opq 30 [.f64, .f64] [.b] true)]
def md2 : Nat → Sx.Mode := modeOf (TTof ts) mds2
theorem md2_ok : ∀ g, ModeOk (Gt (TTof ts)) (Gt (TTof ts)) g (md2 g) := modeOf_ok table.calls tests (modes_ok (l := mds2) (by
  intro p hp
  simp only [mds2, List.mem_cons, List.not_mem_nil, or_false] at hp
  rcases hp with rfl | rfl | rfl
  · exact test2
  · exact test5
  · exact same30
  ))
theorem test29 : ModeOk (Gt (TTof ts)) (Gt (TTof ts)) 29 (.opt 17 [.f32, .f32, .f32, .f32, .f32, .f32, .f32, .f32, .f32, .f32, .f32] t29) := by
  have e : TTof ts 29 = t29 := by kernel_rfl
  have h : ModeOk (Gt (TTof ts)) (Gt (TTof ts)) 29 (.opt 17 [.f32, .f32, .f32, .f32, .f32, .f32, .f32, .f32, .f32, .f32, .f32] (TTof ts 29)) := optOk table.calls tests rules md2_ok (by kernel_rfl)
  rw [e] at h
  exact h
theorem test17 : ModeOk (Gt (TTof ts)) (Gt (TTof ts)) 17 (.opt 17 [.f32, .f32, .f32, .f32, .f32, .f32, .f32, .f32, .f32, .f32, .f32] t17) := by
  have e : TTof ts 17 = t17 := by kernel_rfl
  have h : ModeOk (Gt (TTof ts)) (Gt (TTof ts)) 17 (.opt 17 [.f32, .f32, .f32, .f32, .f32, .f32, .f32, .f32, .f32, .f32, .f32] (TTof ts 17)) := optOk table.calls tests rules md2_ok (by kernel_rfl)
  rw [e] at h
  exact h
def mds3 : List (Nat × Sx.Mode) := [(17, .opt 17 [.f32, .f32, .f32, .f32, .f32, .f32, .f32, .f32, .f32, .f32, .f32] t17), (29, .opt 17 [.f32, .f32, .f32, .f32, .f32, .f32, .f32, .f32, .f32, .f32, .f32] t29), (2, .opt 2 [.f32, .f32, .f32] t2), (5, .opt 2 [.f32, .f32, .f32] t5), (30, .opq 30 [.f64, .f64] [.b] true)]
def md : Nat → Sx.Mode := modeOf (TTof ts) mds3
theorem md_ok : ∀ g, ModeOk (Gt (TTof ts)) (Gt (TTof ts)) g (md g) := modeOf_ok table.calls tests (modes_ok (l := mds3) (by
  intro p hp
  simp only [mds3, List.mem_cons, List.not_mem_nil, or_false] at hp
  rcases hp with rfl | rfl | rfl | rfl | rfl
  · exact test17
  · exact test29
  · exact test2
  · exact test5
  · exact same30
  ))
end Go.Proofs.YtejbahdihfnbcaaDoor
