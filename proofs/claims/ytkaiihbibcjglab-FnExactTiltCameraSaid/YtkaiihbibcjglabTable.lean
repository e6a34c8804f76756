/- The trees are the summaries of the functions. -/
import Derived.Test.YtkaiihbibcjglabTrees
import Derived.Test.YtkaiihbibcjglabChecked
import Derived.Test.YtkaiihbibcjglabSxC
namespace Go.Proofs.Ytkaiihbibcjglab
open Sx Go
theorem tree0 : treeOf Try.prog sm ex 14 s0 = t0 := by kernel_rfl
theorem tree1 : treeOf Try.prog sm ex 5 s1 = t1 := by kernel_rfl
theorem tree2 : treeOf Try.prog sm ex 24 s2 = t2 := by kernel_rfl
theorem tree3 : treeOf Try.prog sm ex 23 s3 = t3 := by kernel_rfl
theorem tree4 : treeOf Try.prog sm ex 12 s4 = t4 := by kernel_rfl
theorem tree5 : treeOf Try.prog sm ex 28 s5 = t5 := by kernel_rfl
theorem tree6 : treeOf Try.prog sm ex 61 s6 = t6 := by kernel_rfl
theorem tree7 : treeOf Try.prog sm ex 52 s7 = t7 := by kernel_rfl
theorem tree8 : treeOf Try.prog sm ex 41 s8 = t8 := by kernel_rfl
theorem tree9 : treeOf Try.prog sm ex 43 s9 = t9 := by kernel_rfl
theorem tree10 : treeOf Try.prog sm ex 42 s10 = t10 := by kernel_rfl
theorem tree11 : treeOf Try.prog sm ex 25 s11 = t11 := by kernel_rfl
theorem tree12 : treeOf Try.prog sm ex 26 s12 = t12 := by kernel_rfl
theorem tree13 : treeOf Try.prog sm ex 9 s13 = t13 := by kernel_rfl
theorem tree14 : treeOf Try.prog sm ex 8 s14 = t14 := by kernel_rfl
theorem tree15 : treeOf Try.prog sm ex 29 s15 = t15 := by kernel_rfl
theorem tree16 : treeOf Try.prog sm ex 27 s16 = t16 := by kernel_rfl
theorem tree17 : treeOf Try.prog sm ex 11 s17 = t17 := by kernel_rfl
theorem tree18 : treeOf Try.prog sm ex 10 s18 = t18 := by kernel_rfl
theorem tree19 : treeOf Try.prog sm ex 13 s19 = t19 := by kernel_rfl
theorem tree20 : treeOf Try.prog sm ex 4 s20 = t20 := by kernel_rfl
theorem tree21 : treeOf Try.prog sm ex 60 s21 = t21 := by kernel_rfl
theorem tree22 : treeOf Try.prog sm ex 59 s22 = t22 := by kernel_rfl
theorem tree23 : treeOf Try.prog sm ex 55 s23 = t23 := by kernel_rfl
theorem tree24 : treeOf Try.prog sm ex 54 s24 = t24 := by kernel_rfl
theorem tree25 : treeOf Try.prog sm ex 18 s25 = t25 := by kernel_rfl
theorem tree26 : treeOf Try.prog sm ex 37 s26 = t26 := by kernel_rfl
theorem tree27 : treeOf Try.prog sm ex 56 s27 = t27 := by kernel_rfl
theorem tree28 : treeOf Try.prog sm ex 47 s28 = t28 := by kernel_rfl
theorem tree29 : treeOf Try.prog sm ex 48 s29 = t29 := by kernel_rfl
theorem tree30 : treeOf Try.prog sm ex 49 s30 = t30 := by kernel_rfl
theorem tree31 : treeOf Try.prog sm ex 58 s31 = t31 := by kernel_rfl
theorem tree32 : treeOf Try.prog sm ex 35 s32 = t32 := by kernel_rfl
theorem tree33 : treeOf Try.prog sm ex 39 s33 = t33 := by kernel_rfl
theorem tree34 : treeOf Try.prog sm ex 34 s34 = t34 := by kernel_rfl
theorem tree35 : treeOf Try.prog sm ex 40 s35 = t35 := by kernel_rfl
theorem tree36 : treeOf Try.prog sm ex 33 s36 = t36 := by kernel_rfl
theorem tree37 : treeOf Try.prog sm ex 15 s37 = t37 := by kernel_rfl
theorem tree38 : treeOf Try.prog sm ex 16 s38 = t38 := by kernel_rfl
theorem tree39 : treeOf Try.prog sm ex 36 s39 = t39 := by kernel_rfl
theorem tree40 : treeOf Try.prog sm ex 38 s40 = t40 := by kernel_rfl
theorem tree41 : treeOf Try.prog sm ex 19 s41 = t41 := by kernel_rfl
theorem tree42 : treeOf Try.prog sm ex 17 s42 = t42 := by kernel_rfl
theorem tree43 : treeOf Try.prog sm ex 20 s43 = t43 := by kernel_rfl
theorem tree44 : treeOf Try.prog sm ex 6 s44 = t44 := by kernel_rfl
theorem tree45 : treeOf Try.prog sm ex 22 s45 = t45 := by kernel_rfl
theorem tree46 : treeOf Try.prog sm ex 21 s46 = t46 := by kernel_rfl
theorem tree47 : treeOf Try.prog sm ex 7 s47 = t47 := by kernel_rfl
theorem tree48 : treeOf Try.prog sm ex 3 s48 = t48 := by kernel_rfl
theorem trees : ∀ p ∈ sm, treeOf Try.prog sm ex p.1 p.2 = TTof ts p.2.idx := by
  intro p hp
  simp only [sm, List.mem_cons, List.not_mem_nil, or_false] at hp
  rcases hp with rfl | rfl | rfl | rfl | rfl | rfl | rfl | rfl | rfl | rfl | rfl | rfl | rfl | rfl | rfl | rfl | rfl | rfl | rfl | rfl | rfl | rfl | rfl | rfl | rfl | rfl | rfl | rfl | rfl | rfl | rfl | rfl | rfl | rfl | rfl | rfl | rfl | rfl | rfl | rfl | rfl | rfl | rfl | rfl | rfl | rfl | rfl | rfl | rfl
  · exact tree0
  · exact tree1
  · exact tree2
  · exact tree3
  · exact tree4
  · exact tree5
  · exact tree6
  · exact tree7
  · exact tree8
  · exact tree9
  · exact tree10
  · exact tree11
  · exact tree12
  · exact tree13
  · exact tree14
  · exact tree15
  · exact tree16
  · exact tree17
  · exact tree18
  · exact tree19
  · exact tree20
  · exact tree21
  · exact tree22
  · exact tree23
  · exact tree24
  · exact tree25
  · exact tree26
  · exact tree27
  · exact tree28
  · exact tree29
  · exact tree30
  · exact tree31
  · exact tree32
  · exact tree33
  · exact tree34
  · exact tree35
  · exact tree36
  · exact tree37
  · exact tree38
  · exact tree39
  · exact tree40
  · exact tree41
  · exact tree42
  · exact tree43
  · exact tree44
  · exact tree45
  · exact tree46
  · exact tree47
  · exact tree48
theorem table : TabOk Try.prog sm ex (TTof ts) :=
  ⟨trees, by kernel_rfl, by kernel_rfl, by kernel_rfl, calls_of (by kernel_rfl)⟩
theorem tests : ∀ g, (TTof ts g).testsOk = true := tests_of (by kernel_rfl)
end Go.Proofs.Ytkaiihbibcjglab
