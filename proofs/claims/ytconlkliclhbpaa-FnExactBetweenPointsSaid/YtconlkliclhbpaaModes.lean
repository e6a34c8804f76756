/- The tests for sameness, once and for all. -/
import Derived.Test.YtconlkliclhbpaaTable
import Derived.Test.YtconlkliclhbpaaSxB
namespace Go.Proofs.Ytconlkliclhbpaa
open Sx Go
def md0 : Nat → Sx.Mode := modeOf (TTof ts) []
theorem md0_ok : ∀ g, ModeOk (Gt (TTof ts)) (Gt (TTof ts)) g (md0 g) := modeOf_ok table.calls tests (modes_ok (l := []) (by simp))
theorem same12 : ModeOk (Gt (TTof ts)) (Gt (TTof ts)) 12 (.opq 12 [.f64, .f64] [.b] true) :=
  opqOk table.calls tests rules md0_ok (by kernel_rfl) fun _ => ⟨.f64, rfl, by kernel_rfl⟩
theorem same5 : ModeOk (Gt (TTof ts)) (Gt (TTof ts)) 5 (.opq 5 [.f32, .f32] [.b] true) :=
  opqOk table.calls tests rules md0_ok (by kernel_rfl) fun _ => ⟨.f32, rfl, by kernel_rfl⟩
theorem same7 : ModeOk (Gt (TTof ts)) (Gt (TTof ts)) 7 (.opq 5 [.f32, .f32] [.b] true) :=
  opqOk table.calls tests rules md0_ok (by kernel_rfl) fun _ => ⟨.f32, rfl, by kernel_rfl⟩
def mds : List (Nat × Sx.Mode) := [(12, .opq 12 [.f64, .f64] [.b] true), (5, .opq 5 [.f32, .f32] [.b] true), (7, .opq 5 [.f32, .f32] [.b] true)]
def md : Nat → Sx.Mode := modeOf (TTof ts) mds
theorem md_ok : ∀ g, ModeOk (Gt (TTof ts)) (Gt (TTof ts)) g (md g) := modeOf_ok table.calls tests (modes_ok (l := mds) (by
  intro p hp
  simp only [mds, List.mem_cons, List.not_mem_nil, or_false] at hp
  rcases hp with rfl | rfl | rfl
  · exact same12
  · exact same5
  · exact same7
  ))
end Go.Proofs.Ytconlkliclhbpaa
