/- The trees are the summaries of the functions. -/
import Derived.Test.YtkaiihbibcjglaaTrees
import Derived.Test.YtkaiihbibcjglaaChecked
import Derived.Test.YtkaiihbibcjglaaSxC
namespace Go.Proofs.Ytkaiihbibcjglaa
open Sx Go
theorem tree0 : treeOf Try.prog sm ex 10 s0 = t0 := by kernel_rfl
theorem tree1 : treeOf Try.prog sm ex 72 s1 = t1 := by kernel_rfl
theorem tree2 : treeOf Try.prog sm ex 28 s2 = t2 := by kernel_rfl
theorem tree3 : treeOf Try.prog sm ex 31 s3 = t3 := by kernel_rfl
theorem tree4 : treeOf Try.prog sm ex 110 s4 = t4 := by kernel_rfl
theorem tree5 : treeOf Try.prog sm ex 98 s5 = t5 := by kernel_rfl
theorem tree6 : treeOf Try.prog sm ex 73 s6 = t6 := by kernel_rfl
theorem tree7 : treeOf Try.prog sm ex 59 s7 = t7 := by kernel_rfl
theorem tree8 : treeOf Try.prog sm ex 46 s8 = t8 := by kernel_rfl
theorem tree9 : treeOf Try.prog sm ex 29 s9 = t9 := by kernel_rfl
theorem tree10 : treeOf Try.prog sm ex 74 s10 = t10 := by kernel_rfl
theorem tree11 : treeOf Try.prog sm ex 30 s11 = t11 := by kernel_rfl
theorem tree12 : treeOf Try.prog sm ex 32 s12 = t12 := by kernel_rfl
theorem tree13 : treeOf Try.prog sm ex 33 s13 = t13 := by kernel_rfl
theorem tree14 : treeOf Try.prog sm ex 9 s14 = t14 := by kernel_rfl
theorem tree15 : treeOf Try.prog sm ex 106 s15 = t15 := by kernel_rfl
theorem tree16 : treeOf Try.prog sm ex 105 s16 = t16 := by kernel_rfl
theorem tree17 : treeOf Try.prog sm ex 78 s17 = t17 := by kernel_rfl
theorem tree18 : treeOf Try.prog sm ex 77 s18 = t18 := by kernel_rfl
theorem tree19 : treeOf Try.prog sm ex 37 s19 = t19 := by kernel_rfl
theorem tree20 : treeOf Try.prog sm ex 81 s20 = t20 := by kernel_rfl
theorem tree21 : treeOf Try.prog sm ex 111 s21 = t21 := by kernel_rfl
theorem tree22 : treeOf Try.prog sm ex 101 s22 = t22 := by kernel_rfl
theorem tree23 : treeOf Try.prog sm ex 97 s23 = t23 := by kernel_rfl
theorem tree24 : treeOf Try.prog sm ex 102 s24 = t24 := by kernel_rfl
theorem tree25 : treeOf Try.prog sm ex 104 s25 = t25 := by kernel_rfl
theorem tree26 : treeOf Try.prog sm ex 79 s26 = t26 := by kernel_rfl
theorem tree27 : treeOf Try.prog sm ex 80 s27 = t27 := by kernel_rfl
theorem tree28 : treeOf Try.prog sm ex 82 s28 = t28 := by kernel_rfl
theorem tree29 : treeOf Try.prog sm ex 83 s29 = t29 := by kernel_rfl
theorem tree30 : treeOf Try.prog sm ex 64 s30 = t30 := by kernel_rfl
theorem tree31 : treeOf Try.prog sm ex 38 s31 = t31 := by kernel_rfl
theorem tree32 : treeOf Try.prog sm ex 39 s32 = t32 := by kernel_rfl
theorem tree33 : treeOf Try.prog sm ex 11 s33 = t33 := by kernel_rfl
theorem tree34 : treeOf Try.prog sm ex 40 s34 = t34 := by kernel_rfl
theorem tree35 : treeOf Try.prog sm ex 12 s35 = t35 := by kernel_rfl
theorem tree36 : treeOf Try.prog sm ex 3 s36 = t36 := by kernel_rfl
theorem tree37 : treeOf Try.prog sm ex 14 s37 = t37 := by kernel_rfl
theorem tree38 : treeOf Try.prog sm ex 56 s38 = t38 := by kernel_rfl
theorem tree39 : treeOf Try.prog sm ex 44 s39 = t39 := by kernel_rfl
theorem tree40 : treeOf Try.prog sm ex 43 s40 = t40 := by kernel_rfl
theorem tree41 : treeOf Try.prog sm ex 85 s41 = t41 := by kernel_rfl
theorem tree42 : treeOf Try.prog sm ex 54 s42 = t42 := by kernel_rfl
theorem tree43 : treeOf Try.prog sm ex 68 s43 = t43 := by kernel_rfl
theorem tree44 : treeOf Try.prog sm ex 41 s44 = t44 := by kernel_rfl
theorem tree45 : treeOf Try.prog sm ex 13 s45 = t45 := by kernel_rfl
theorem tree46 : treeOf Try.prog sm ex 70 s46 = t46 := by kernel_rfl
theorem tree47 : treeOf Try.prog sm ex 88 s47 = t47 := by kernel_rfl
theorem tree48 : treeOf Try.prog sm ex 87 s48 = t48 := by kernel_rfl
theorem tree49 : treeOf Try.prog sm ex 48 s49 = t49 := by kernel_rfl
theorem tree50 : treeOf Try.prog sm ex 71 s50 = t50 := by kernel_rfl
theorem tree51 : treeOf Try.prog sm ex 42 s51 = t51 := by kernel_rfl
theorem tree52 : treeOf Try.prog sm ex 15 s52 = t52 := by kernel_rfl
theorem tree53 : treeOf Try.prog sm ex 16 s53 = t53 := by kernel_rfl
theorem tree54 : treeOf Try.prog sm ex 4 s54 = t54 := by kernel_rfl
theorem tree55 : treeOf Try.prog sm ex 60 s55 = t55 := by kernel_rfl
theorem tree56 : treeOf Try.prog sm ex 58 s56 = t56 := by kernel_rfl
theorem tree57 : treeOf Try.prog sm ex 45 s57 = t57 := by kernel_rfl
theorem tree58 : treeOf Try.prog sm ex 17 s58 = t58 := by kernel_rfl
theorem tree59 : treeOf Try.prog sm ex 66 s59 = t59 := by kernel_rfl
theorem tree60 : treeOf Try.prog sm ex 89 s60 = t60 := by kernel_rfl
theorem tree61 : treeOf Try.prog sm ex 49 s61 = t61 := by kernel_rfl
theorem tree62 : treeOf Try.prog sm ex 18 s62 = t62 := by kernel_rfl
theorem tree63 : treeOf Try.prog sm ex 5 s63 = t63 := by kernel_rfl
theorem tree64 : treeOf Try.prog sm ex 90 s64 = t64 := by kernel_rfl
theorem tree65 : treeOf Try.prog sm ex 50 s65 = t65 := by kernel_rfl
theorem tree66 : treeOf Try.prog sm ex 19 s66 = t66 := by kernel_rfl
theorem tree67 : treeOf Try.prog sm ex 107 s67 = t67 := by kernel_rfl
theorem tree68 : treeOf Try.prog sm ex 91 s68 = t68 := by kernel_rfl
theorem tree69 : treeOf Try.prog sm ex 51 s69 = t69 := by kernel_rfl
theorem tree70 : treeOf Try.prog sm ex 20 s70 = t70 := by kernel_rfl
theorem tree71 : treeOf Try.prog sm ex 21 s71 = t71 := by kernel_rfl
theorem tree72 : treeOf Try.prog sm ex 6 s72 = t72 := by kernel_rfl
theorem tree73 : treeOf Try.prog sm ex 23 s73 = t73 := by kernel_rfl
theorem tree74 : treeOf Try.prog sm ex 24 s74 = t74 := by kernel_rfl
theorem tree75 : treeOf Try.prog sm ex 52 s75 = t75 := by kernel_rfl
theorem tree76 : treeOf Try.prog sm ex 53 s76 = t76 := by kernel_rfl
theorem tree77 : treeOf Try.prog sm ex 55 s77 = t77 := by kernel_rfl
theorem tree78 : treeOf Try.prog sm ex 57 s78 = t78 := by kernel_rfl
theorem tree79 : treeOf Try.prog sm ex 22 s79 = t79 := by kernel_rfl
theorem tree80 : treeOf Try.prog sm ex 94 s80 = t80 := by kernel_rfl
theorem tree81 : treeOf Try.prog sm ex 95 s81 = t81 := by kernel_rfl
theorem tree82 : treeOf Try.prog sm ex 65 s82 = t82 := by kernel_rfl
theorem tree83 : treeOf Try.prog sm ex 109 s83 = t83 := by kernel_rfl
theorem tree84 : treeOf Try.prog sm ex 96 s84 = t84 := by kernel_rfl
theorem tree85 : treeOf Try.prog sm ex 63 s85 = t85 := by kernel_rfl
theorem tree86 : treeOf Try.prog sm ex 25 s86 = t86 := by kernel_rfl
theorem tree87 : treeOf Try.prog sm ex 7 s87 = t87 := by kernel_rfl
theorem tree88 : treeOf Try.prog sm ex 67 s88 = t88 := by kernel_rfl
theorem tree89 : treeOf Try.prog sm ex 26 s89 = t89 := by kernel_rfl
theorem tree90 : treeOf Try.prog sm ex 69 s90 = t90 := by kernel_rfl
theorem tree91 : treeOf Try.prog sm ex 27 s91 = t91 := by kernel_rfl
theorem tree92 : treeOf Try.prog sm ex 8 s92 = t92 := by kernel_rfl
theorem trees : ∀ p ∈ sm, treeOf Try.prog sm ex p.1 p.2 = TTof ts p.2.idx := by
  intro p hp
  simp only [sm, List.mem_cons, List.not_mem_nil, or_false] at hp
  rcases hp with rfl | rfl | rfl | rfl | rfl | rfl | rfl | rfl | rfl | rfl | rfl | rfl | rfl | rfl | rfl | rfl | rfl | rfl | rfl | rfl | rfl | rfl | rfl | rfl | rfl | rfl | rfl | rfl | rfl | rfl | rfl | rfl | rfl | rfl | rfl | rfl | rfl | rfl | rfl | rfl | rfl | rfl | rfl | rfl | rfl | rfl | rfl | rfl | rfl | rfl | rfl | rfl | rfl | rfl | rfl | rfl | rfl | rfl | rfl | rfl | rfl | rfl | rfl | rfl | rfl | rfl | rfl | rfl | rfl | rfl | rfl | rfl | rfl | rfl | rfl | rfl | rfl | rfl | rfl | rfl | rfl | rfl | rfl | rfl | rfl | rfl | rfl | rfl | rfl | rfl | rfl | rfl | rfl
  · exact tree0
  · exact tree1
  · exact tree2
  · exact tree3
  · exact tree4
  · exact tree5
  · exact tree6
  · exact tree7
  · exact tree8
  · exact tree9
  · exact tree10
  · exact tree11
  · exact tree12
  · exact tree13
  · exact tree14
  · exact tree15
  · exact tree16
  · exact tree17
  · exact tree18
  · exact tree19
  · exact tree20
  · exact tree21
  · exact tree22
  · exact tree23
  · exact tree24
  · exact tree25
  · exact tree26
  · exact tree27
  · exact tree28
  · exact tree29
  · exact tree30
  · exact tree31
  · exact tree32
  · exact tree33
  · exact tree34
  · exact tree35
  · exact tree36
  · exact tree37
  · exact tree38
  · exact tree39
  · exact tree40
  · exact tree41
  · exact tree42
  · exact tree43
  · exact tree44
  · exact tree45
  · exact tree46
  · exact tree47
  · exact tree48
  · exact tree49
  · exact tree50
  · exact tree51
  · exact tree52
  · exact tree53
  · exact tree54
  · exact tree55
  · exact tree56
  · exact tree57
  · exact tree58
  · exact tree59
  · exact tree60
  · exact tree61
  · exact tree62
  · exact tree63
  · exact tree64
  · exact tree65
  · exact tree66
  · exact tree67
  · exact tree68
  · exact tree69
  · exact tree70
  · exact tree71
  · exact tree72
  · exact tree73
  · exact tree74
  · exact tree75
  · exact tree76
  · exact tree77
  · exact tree78
  · exact tree79
  · exact tree80
  · exact tree81
  · exact tree82
  · exact tree83
  · exact tree84
  · exact tree85
  · exact tree86
  · exact tree87
  · exact tree88
  · exact tree89
  · exact tree90
  · exact tree91
  · exact tree92
theorem table : TabOk Try.prog sm ex (TTof ts) :=
  ⟨trees, by kernel_rfl, by kernel_rfl, by kernel_rfl, calls_of (by kernel_rfl)⟩
theorem tests : ∀ g, (TTof ts g).testsOk = true := tests_of (by kernel_rfl)
end Go.Proofs.Ytkaiihbibcjglaa
