/- The tests for sameness, once and for all. -/
import Derived.Test.YtoggkmihnfigdaaTable
import Derived.Test.YtoggkmihnfigdaaSxB
namespace Go.Proofs.Ytoggkmihnfigdaa
open Sx Go
def md0 : Nat → Sx.Mode := modeOf (TTof ts) []
theorem md0_ok : ∀ g, ModeOk (Gt (TTof ts)) (Gt (TTof ts)) g (md0 g) := modeOf_ok table.calls tests (modes_ok (l := []) (by simp))
theorem same3 : ModeOk (Gt (TTof ts)) (Gt (TTof ts)) 3 (.opq 3 [.f64, .f64] [.b] true) :=
  opqOk table.calls tests rules md0_ok (by kernel_rfl) fun _ => ⟨.f64, rfl, by kernel_rfl⟩
theorem same7 : ModeOk (Gt (TTof ts)) (Gt (TTof ts)) 7 (.opq 7 [.f32, .f32] [.b] true) :=
  opqOk table.calls tests rules md0_ok (by kernel_rfl) fun _ => ⟨.f32, rfl, by kernel_rfl⟩
theorem same11 : ModeOk (Gt (TTof ts)) (Gt (TTof ts)) 11 (.opq 7 [.f32, .f32] [.b] true) :=
  opqOk table.calls tests rules md0_ok (by kernel_rfl) fun _ => ⟨.f32, rfl, by kernel_rfl⟩
def mds : List (Nat × Sx.Mode) := [(3, .opq 3 [.f64, .f64] [.b] true), (7, .opq 7 [.f32, .f32] [.b] true), (11, .opq 7 [.f32, .f32] [.b] true)]
def md : Nat → Sx.Mode := modeOf (TTof ts) mds
theorem md_ok : ∀ g, ModeOk (Gt (TTof ts)) (Gt (TTof ts)) g (md g) := modeOf_ok table.calls tests (modes_ok (l := mds) (by
  intro p hp
  simp only [mds, List.mem_cons, List.not_mem_nil, or_false] at hp
  rcases hp with rfl | rfl | rfl
  · exact same3
  · exact same7
  · exact same11
  ))
end Go.Proofs.Ytoggkmihnfigdaa
