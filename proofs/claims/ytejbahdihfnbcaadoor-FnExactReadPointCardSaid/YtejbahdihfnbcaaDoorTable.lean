/- The trees are the summaries of the functions. -/
import Derived.Test.YtejbahdihfnbcaaDoorTrees
import Derived.Test.YtejbahdihfnbcaaDoorChecked
import Derived.Test.YtejbahdihfnbcaaDoorSxC
namespace Go.Proofs.YtejbahdihfnbcaaDoor
open Sx Go
theorem tree0 : treeOf Tryd.prog sm ex 11 s0 = t0 := by kernel_rfl
theorem tree1 : treeOf Tryd.prog sm ex 49 s1 = t1 := by kernel_rfl
theorem tree2 : treeOf Tryd.prog sm ex 26 s2 = t2 := by kernel_rfl
theorem tree3 : treeOf Tryd.prog sm ex 59 s3 = t3 := by kernel_rfl
theorem tree4 : treeOf Tryd.prog sm ex 58 s4 = t4 := by kernel_rfl
theorem tree5 : treeOf Tryd.prog sm ex 28 s5 = t5 := by kernel_rfl
theorem tree6 : treeOf Tryd.prog sm ex 14 s6 = t6 := by kernel_rfl
theorem tree7 : treeOf Tryd.prog sm ex 70 s7 = t7 := by kernel_rfl
theorem tree8 : treeOf Tryd.prog sm ex 111 s8 = t8 := by kernel_rfl
theorem tree9 : treeOf Tryd.prog sm ex 122 s9 = t9 := by kernel_rfl
theorem tree10 : treeOf Tryd.prog sm ex 110 s10 = t10 := by kernel_rfl
theorem tree11 : treeOf Tryd.prog sm ex 94 s11 = t11 := by kernel_rfl
theorem tree12 : treeOf Tryd.prog sm ex 112 s12 = t12 := by kernel_rfl
theorem tree13 : treeOf Tryd.prog sm ex 95 s13 = t13 := by kernel_rfl
theorem tree14 : treeOf Tryd.prog sm ex 69 s14 = t14 := by kernel_rfl
theorem tree15 : treeOf Tryd.prog sm ex 71 s15 = t15 := by kernel_rfl
theorem tree16 : treeOf Tryd.prog sm ex 51 s16 = t16 := by kernel_rfl
theorem tree17 : treeOf Tryd.prog sm ex 30 s17 = t17 := by kernel_rfl
theorem tree18 : treeOf Tryd.prog sm ex 73 s18 = t18 := by kernel_rfl
theorem tree19 : treeOf Tryd.prog sm ex 75 s19 = t19 := by kernel_rfl
theorem tree20 : treeOf Tryd.prog sm ex 114 s20 = t20 := by kernel_rfl
theorem tree21 : treeOf Tryd.prog sm ex 113 s21 = t21 := by kernel_rfl
theorem tree22 : treeOf Tryd.prog sm ex 97 s22 = t22 := by kernel_rfl
theorem tree23 : treeOf Tryd.prog sm ex 98 s23 = t23 := by kernel_rfl
theorem tree24 : treeOf Tryd.prog sm ex 99 s24 = t24 := by kernel_rfl
theorem tree25 : treeOf Tryd.prog sm ex 115 s25 = t25 := by kernel_rfl
theorem tree26 : treeOf Tryd.prog sm ex 74 s26 = t26 := by kernel_rfl
theorem tree27 : treeOf Tryd.prog sm ex 76 s27 = t27 := by kernel_rfl
theorem tree28 : treeOf Tryd.prog sm ex 53 s28 = t28 := by kernel_rfl
theorem tree29 : treeOf Tryd.prog sm ex 32 s29 = t29 := by kernel_rfl
theorem tree30 : treeOf Tryd.prog sm ex 18 s30 = t30 := by kernel_rfl
theorem tree31 : treeOf Tryd.prog sm ex 21 s31 = t31 := by kernel_rfl
theorem trees : ∀ p ∈ sm, treeOf Tryd.prog sm ex p.1 p.2 = TTof ts p.2.idx := by
  intro p hp
  simp only [sm, List.mem_cons, List.not_mem_nil, or_false] at hp
  rcases hp with rfl | rfl | rfl | rfl | rfl | rfl | rfl | rfl | rfl | rfl | rfl | rfl | rfl | rfl | rfl | rfl | rfl | rfl | rfl | rfl | rfl | rfl | rfl | rfl | rfl | rfl | rfl | rfl | rfl | rfl | rfl | rfl
  · exact tree0
  · exact tree1
  · exact tree2
  · exact tree3
  · exact tree4
  · exact tree5
  · exact tree6
  · exact tree7
  · exact tree8
  · exact tree9
  · exact tree10
  · exact tree11
  · exact tree12
  · exact tree13
  · exact tree14
  · exact tree15
  · exact tree16
  · exact tree17
  · exact tree18
  · exact tree19
  · exact tree20
  · exact tree21
  · exact tree22
  · exact tree23
  · exact tree24
  · exact tree25
  · exact tree26
  · exact tree27
  · exact tree28
  · exact tree29
  · exact tree30
  · exact tree31
theorem table : TabOk Tryd.prog sm ex (TTof ts) :=
  ⟨trees, by kernel_rfl, by kernel_rfl, by kernel_rfl, calls_of (by kernel_rfl)⟩
theorem tests : ∀ g, (TTof ts g).testsOk = true := tests_of (by kernel_rfl)
end Go.Proofs.YtejbahdihfnbcaaDoor
