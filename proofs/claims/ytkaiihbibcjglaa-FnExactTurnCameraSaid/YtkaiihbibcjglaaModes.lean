/- The tests for sameness, once and for all. -/
import Derived.Test.YtkaiihbibcjglaaTable
import Derived.Test.YtkaiihbibcjglaaSxB
namespace Go.Proofs.Ytkaiihbibcjglaa
open Sx Go
def md0 : Nat → Sx.Mode := modeOf (TTof ts) []
theorem md0_ok : ∀ g, ModeOk (Gt (TTof ts)) (Gt (TTof ts)) g (md0 g) := modeOf_ok table.calls tests (modes_ok (l := []) (by simp))
theorem same34 : ModeOk (Gt (TTof ts)) (Gt (TTof ts)) 34 (.opq 34 [.f64, .f64] [.b] true) :=
  opqOk table.calls tests rules md0_ok (by kernel_rfl) fun _ => ⟨.f64, rfl, by kernel_rfl⟩
def mds : List (Nat × Sx.Mode) := [(34, .opq 34 [.f64, .f64] [.b] true)]
def md : Nat → Sx.Mode := modeOf (TTof ts) mds
theorem md_ok : ∀ g, ModeOk (Gt (TTof ts)) (Gt (TTof ts)) g (md g) := modeOf_ok table.calls tests (modes_ok (l := mds) (by
  intro p hp
  simp only [mds, List.mem_cons, List.not_mem_nil, or_false] at hp
  rcases hp with rfl
  · exact same34
  ))
end Go.Proofs.Ytkaiihbibcjglaa
