/- The trees of the program's functions. -/
import Derived.Test.YtkaiihbibcjglaaSxB
namespace Go.Proofs.Ytkaiihbibcjglaa
open Sx Go
/-- loop.example/g01249/laws.toPoint -/
def t0 : T :=
  .cst .f32 0 <|
  .cst .f32 0 <|
  .cst .f32 0 <|
  .cst .f32 0 <|
  .cst .f32 0 <|
  .cst .f32 0 <|
  .ret [.v 0, .v 1, .v 2]
def s0 : Sum := ⟨0, [.agg [.f .f32, .f .f32, .f .f32]], [.agg [.f .f32, .f .f32, .f .f32]]⟩
/-- loop.example/g01249/spec.l01Plain -/
def t1 : T :=
  .cst .f32 3379831808 <|
  .tst 1 .f32 1 0
   (.cst .f32 1232348160 <|
   .tst 1 .f32 0 2
    (.ret [.b true])
    (.ret [.b false]))
   (.ret [.b false])
def s1 : Sum := ⟨1, [.val (.f .f32)], [.val (.b)]⟩
/-- loop.example/g01249/spec.l01Point -/
def t2 : T :=
  .call 1 [.v 0] 1 <|
  .br 3
   (.call 1 [.v 1] 1 <|
   .br 4
    (.call 1 [.v 2] 1 <|
    .br 5
     (.ret [.b true])
     (.ret [.b false]))
    (.ret [.b false]))
   (.ret [.b false])
def s2 : Sum := ⟨2, [.agg [.f .f32, .f .f32, .f .f32]], [.val (.b)]⟩
/-- loop.example/g01249/spec.DotOf -/
def t3 : T :=
  .cst .f32 0 <|
  .bin .mul .f32 0 3 <|
  .bin .mul .f32 1 4 <|
  .bin .add .f32 7 8 <|
  .bin .mul .f32 2 5 <|
  .bin .add .f32 9 10 <|
  .ret [.v 11]
def s3 : Sum := ⟨3, [.agg [.f .f32, .f .f32, .f .f32], .agg [.f .f32, .f .f32, .f .f32]], [.val (.f .f32)]⟩
/-- math.Sqrt -/
def t4 : T :=
  .cst .f64 0 <|
  .un .sqrt .f64 0 <|
  .ret [.v 2]
def s4 : Sum := ⟨4, [.val (.f .f64)], [.val (.f .f64)]⟩
/-- loop.example/g01249/spec.l01Root -/
def t5 : T :=
  .cst .f32 0 <|
  .un .widen .f32 0 <|
  .call 4 [.v 2] 1 <|
  .un .narrow .f64 3 <|
  .ret [.v 4]
def s5 : Sum := ⟨5, [.val (.f .f32)], [.val (.f .f32)]⟩
/-- loop.example/g01249/spec.LengthOf -/
def t6 : T :=
  .cst .f32 0 <|
  .call 3 [.v 0, .v 1, .v 2, .v 0, .v 1, .v 2] 1 <|
  .call 5 [.v 4] 1 <|
  .ret [.v 5]
def s6 : Sum := ⟨6, [.agg [.f .f32, .f .f32, .f .f32]], [.val (.f .f32)]⟩
/-- loop.example/g01249/spec.l01Finite -/
def t7 : T :=
  .bin .sub .f32 0 0 <|
  .cst .f32 0 <|
  .tst 2 .f32 1 2
   (.ret [.b true])
   (.ret [.b false])
def s7 : Sum := ⟨7, [.val (.f .f32)], [.val (.b)]⟩
/-- loop.example/g01249/spec.l01Finites -/
def t8 : T :=
  .call 7 [.v 0] 1 <|
  .br 3
   (.call 7 [.v 1] 1 <|
   .br 4
    (.call 7 [.v 2] 1 <|
    .br 5
     (.ret [.b true])
     (.ret [.b false]))
    (.ret [.b false]))
   (.ret [.b false])
def s8 : Sum := ⟨8, [.agg [.f .f32, .f .f32, .f .f32]], [.val (.b)]⟩
/-- loop.example/g01249/spec.l01Unit -/
def t9 : T :=
  .cst .f32 0 <|
  .cst .f32 0 <|
  .cst .f32 0 <|
  .call 6 [.v 0, .v 1, .v 2] 1 <|
  .cst .f32 897581056 <|
  .tst 1 .f32 7 6
   (.bin .div .f32 0 6 <|
   .bin .div .f32 1 6 <|
   .bin .div .f32 2 6 <|
   .cst .f32 0 <|
   .cst .f32 0 <|
   .cst .f32 0 <|
   .cst .f32 0 <|
   .cst .f32 0 <|
   .cst .f32 0 <|
   .call 8 [.v 8, .v 9, .v 10] 1 <|
   .br 17
    (.ret [.v 8, .v 9, .v 10, .b true])
    (.ret [.v 8, .v 9, .v 10, .b false]))
   (.cst .f32 0 <|
   .cst .f32 0 <|
   .cst .f32 0 <|
   .ret [.v 8, .v 9, .v 10, .b false])
def s9 : Sum := ⟨9, [.agg [.f .f32, .f .f32, .f .f32]], [.agg [.f .f32, .f .f32, .f .f32], .val (.b)]⟩
/-- math.NaN -/
def t10 : T :=
  .cst .f64 0 <|
  .cst .f64 9221120237041090561 <|
  .ret [.v 1]
def s10 : Sum := ⟨10, [], [.val (.f .f64)]⟩
/-- loop.example/g01249/spec.SineOf -/
def t11 : T :=
  .cst .f32 0 <|
  .call 7 [.v 0] 1 <|
  .br 2
   (.un .widen .f32 0 <|
   .un .rte .f64 3 <|
   .cst .f64 0 <|
   .tst 2 .f64 4 5
    (.cst .f64 4618760256179416344 <|
    .bin .mul .f64 6 3 <|
    .bin .mul .f64 7 7 <|
    .cst .f64 4607182418800017408 <|
    .cst .f64 4628574517030027264 <|
    .cst .f64 4607182418800017408 <|
    .bin .add .f64 10 11 <|
    .bin .mul .f64 10 12 <|
    .bin .div .f64 8 13 <|
    .bin .mul .f64 14 9 <|
    .cst .f64 4607182418800017408 <|
    .bin .sub .f64 16 15 <|
    .cst .f64 4628011567076605952 <|
    .cst .f64 4607182418800017408 <|
    .bin .add .f64 18 19 <|
    .bin .mul .f64 18 20 <|
    .bin .div .f64 8 21 <|
    .bin .mul .f64 22 17 <|
    .cst .f64 4607182418800017408 <|
    .bin .sub .f64 24 23 <|
    .cst .f64 4627448617123184640 <|
    .cst .f64 4607182418800017408 <|
    .bin .add .f64 26 27 <|
    .bin .mul .f64 26 28 <|
    .bin .div .f64 8 29 <|
    .bin .mul .f64 30 25 <|
    .cst .f64 4607182418800017408 <|
    .bin .sub .f64 32 31 <|
    .cst .f64 4626885667169763328 <|
    .cst .f64 4607182418800017408 <|
    .bin .add .f64 34 35 <|
    .bin .mul .f64 34 36 <|
    .bin .div .f64 8 37 <|
    .bin .mul .f64 38 33 <|
    .cst .f64 4607182418800017408 <|
    .bin .sub .f64 40 39 <|
    .cst .f64 4626322717216342016 <|
    .cst .f64 4607182418800017408 <|
    .bin .add .f64 42 43 <|
    .bin .mul .f64 42 44 <|
    .bin .div .f64 8 45 <|
    .bin .mul .f64 46 41 <|
    .cst .f64 4607182418800017408 <|
    .bin .sub .f64 48 47 <|
    .cst .f64 4625759767262920704 <|
    .cst .f64 4607182418800017408 <|
    .bin .add .f64 50 51 <|
    .bin .mul .f64 50 52 <|
    .bin .div .f64 8 53 <|
    .bin .mul .f64 54 49 <|
    .cst .f64 4607182418800017408 <|
    .bin .sub .f64 56 55 <|
    .cst .f64 4625196817309499392 <|
    .cst .f64 4607182418800017408 <|
    .bin .add .f64 58 59 <|
    .bin .mul .f64 58 60 <|
    .bin .div .f64 8 61 <|
    .bin .mul .f64 62 57 <|
    .cst .f64 4607182418800017408 <|
    .bin .sub .f64 64 63 <|
    .cst .f64 4624070917402656768 <|
    .cst .f64 4607182418800017408 <|
    .bin .add .f64 66 67 <|
    .bin .mul .f64 66 68 <|
    .bin .div .f64 8 69 <|
    .bin .mul .f64 70 65 <|
    .cst .f64 4607182418800017408 <|
    .bin .sub .f64 72 71 <|
    .cst .f64 4622945017495814144 <|
    .cst .f64 4607182418800017408 <|
    .bin .add .f64 74 75 <|
    .bin .mul .f64 74 76 <|
    .bin .div .f64 8 77 <|
    .bin .mul .f64 78 73 <|
    .cst .f64 4607182418800017408 <|
    .bin .sub .f64 80 79 <|
    .cst .f64 4621819117588971520 <|
    .cst .f64 4607182418800017408 <|
    .bin .add .f64 82 83 <|
    .bin .mul .f64 82 84 <|
    .bin .div .f64 8 85 <|
    .bin .mul .f64 86 81 <|
    .cst .f64 4607182418800017408 <|
    .bin .sub .f64 88 87 <|
    .cst .f64 4620693217682128896 <|
    .cst .f64 4607182418800017408 <|
    .bin .add .f64 90 91 <|
    .bin .mul .f64 90 92 <|
    .bin .div .f64 8 93 <|
    .bin .mul .f64 94 89 <|
    .cst .f64 4607182418800017408 <|
    .bin .sub .f64 96 95 <|
    .cst .f64 4618441417868443648 <|
    .cst .f64 4607182418800017408 <|
    .bin .add .f64 98 99 <|
    .bin .mul .f64 98 100 <|
    .bin .div .f64 8 101 <|
    .bin .mul .f64 102 97 <|
    .cst .f64 4607182418800017408 <|
    .bin .sub .f64 104 103 <|
    .cst .f64 4616189618054758400 <|
    .cst .f64 4607182418800017408 <|
    .bin .add .f64 106 107 <|
    .bin .mul .f64 106 108 <|
    .bin .div .f64 8 109 <|
    .bin .mul .f64 110 105 <|
    .cst .f64 4607182418800017408 <|
    .bin .sub .f64 112 111 <|
    .cst .f64 4611686018427387904 <|
    .cst .f64 4607182418800017408 <|
    .bin .add .f64 114 115 <|
    .bin .mul .f64 114 116 <|
    .bin .div .f64 8 117 <|
    .bin .mul .f64 118 113 <|
    .cst .f64 4607182418800017408 <|
    .bin .sub .f64 120 119 <|
    .bin .mul .f64 7 121 <|
    .un .narrow .f64 122 <|
    .ret [.v 123])
    (.bin .sub .f64 3 4 <|
    .cst .f64 4618760256179416344 <|
    .bin .mul .f64 7 6 <|
    .bin .mul .f64 8 8 <|
    .cst .f64 4607182418800017408 <|
    .cst .f64 4628574517030027264 <|
    .cst .f64 4607182418800017408 <|
    .bin .add .f64 11 12 <|
    .bin .mul .f64 11 13 <|
    .bin .div .f64 9 14 <|
    .bin .mul .f64 15 10 <|
    .cst .f64 4607182418800017408 <|
    .bin .sub .f64 17 16 <|
    .cst .f64 4628011567076605952 <|
    .cst .f64 4607182418800017408 <|
    .bin .add .f64 19 20 <|
    .bin .mul .f64 19 21 <|
    .bin .div .f64 9 22 <|
    .bin .mul .f64 23 18 <|
    .cst .f64 4607182418800017408 <|
    .bin .sub .f64 25 24 <|
    .cst .f64 4627448617123184640 <|
    .cst .f64 4607182418800017408 <|
    .bin .add .f64 27 28 <|
    .bin .mul .f64 27 29 <|
    .bin .div .f64 9 30 <|
    .bin .mul .f64 31 26 <|
    .cst .f64 4607182418800017408 <|
    .bin .sub .f64 33 32 <|
    .cst .f64 4626885667169763328 <|
    .cst .f64 4607182418800017408 <|
    .bin .add .f64 35 36 <|
    .bin .mul .f64 35 37 <|
    .bin .div .f64 9 38 <|
    .bin .mul .f64 39 34 <|
    .cst .f64 4607182418800017408 <|
    .bin .sub .f64 41 40 <|
    .cst .f64 4626322717216342016 <|
    .cst .f64 4607182418800017408 <|
    .bin .add .f64 43 44 <|
    .bin .mul .f64 43 45 <|
    .bin .div .f64 9 46 <|
    .bin .mul .f64 47 42 <|
    .cst .f64 4607182418800017408 <|
    .bin .sub .f64 49 48 <|
    .cst .f64 4625759767262920704 <|
    .cst .f64 4607182418800017408 <|
    .bin .add .f64 51 52 <|
    .bin .mul .f64 51 53 <|
    .bin .div .f64 9 54 <|
    .bin .mul .f64 55 50 <|
    .cst .f64 4607182418800017408 <|
    .bin .sub .f64 57 56 <|
    .cst .f64 4625196817309499392 <|
    .cst .f64 4607182418800017408 <|
    .bin .add .f64 59 60 <|
    .bin .mul .f64 59 61 <|
    .bin .div .f64 9 62 <|
    .bin .mul .f64 63 58 <|
    .cst .f64 4607182418800017408 <|
    .bin .sub .f64 65 64 <|
    .cst .f64 4624070917402656768 <|
    .cst .f64 4607182418800017408 <|
    .bin .add .f64 67 68 <|
    .bin .mul .f64 67 69 <|
    .bin .div .f64 9 70 <|
    .bin .mul .f64 71 66 <|
    .cst .f64 4607182418800017408 <|
    .bin .sub .f64 73 72 <|
    .cst .f64 4622945017495814144 <|
    .cst .f64 4607182418800017408 <|
    .bin .add .f64 75 76 <|
    .bin .mul .f64 75 77 <|
    .bin .div .f64 9 78 <|
    .bin .mul .f64 79 74 <|
    .cst .f64 4607182418800017408 <|
    .bin .sub .f64 81 80 <|
    .cst .f64 4621819117588971520 <|
    .cst .f64 4607182418800017408 <|
    .bin .add .f64 83 84 <|
    .bin .mul .f64 83 85 <|
    .bin .div .f64 9 86 <|
    .bin .mul .f64 87 82 <|
    .cst .f64 4607182418800017408 <|
    .bin .sub .f64 89 88 <|
    .cst .f64 4620693217682128896 <|
    .cst .f64 4607182418800017408 <|
    .bin .add .f64 91 92 <|
    .bin .mul .f64 91 93 <|
    .bin .div .f64 9 94 <|
    .bin .mul .f64 95 90 <|
    .cst .f64 4607182418800017408 <|
    .bin .sub .f64 97 96 <|
    .cst .f64 4618441417868443648 <|
    .cst .f64 4607182418800017408 <|
    .bin .add .f64 99 100 <|
    .bin .mul .f64 99 101 <|
    .bin .div .f64 9 102 <|
    .bin .mul .f64 103 98 <|
    .cst .f64 4607182418800017408 <|
    .bin .sub .f64 105 104 <|
    .cst .f64 4616189618054758400 <|
    .cst .f64 4607182418800017408 <|
    .bin .add .f64 107 108 <|
    .bin .mul .f64 107 109 <|
    .bin .div .f64 9 110 <|
    .bin .mul .f64 111 106 <|
    .cst .f64 4607182418800017408 <|
    .bin .sub .f64 113 112 <|
    .cst .f64 4611686018427387904 <|
    .cst .f64 4607182418800017408 <|
    .bin .add .f64 115 116 <|
    .bin .mul .f64 115 117 <|
    .bin .div .f64 9 118 <|
    .bin .mul .f64 119 114 <|
    .cst .f64 4607182418800017408 <|
    .bin .sub .f64 121 120 <|
    .bin .mul .f64 8 122 <|
    .un .narrow .f64 123 <|
    .ret [.v 124]))
   (.call 10 [] 1 <|
   .un .narrow .f64 3 <|
   .ret [.v 4])
def s11 : Sum := ⟨11, [.val (.f .f32)], [.val (.f .f32)]⟩
/-- loop.example/g01249/spec.CrossOf -/
def t12 : T :=
  .cst .f32 0 <|
  .cst .f32 0 <|
  .cst .f32 0 <|
  .bin .mul .f32 1 5 <|
  .bin .mul .f32 2 4 <|
  .bin .sub .f32 9 10 <|
  .bin .mul .f32 2 3 <|
  .bin .mul .f32 0 5 <|
  .bin .sub .f32 12 13 <|
  .bin .mul .f32 0 4 <|
  .bin .mul .f32 1 3 <|
  .bin .sub .f32 15 16 <|
  .cst .f32 0 <|
  .cst .f32 0 <|
  .cst .f32 0 <|
  .ret [.v 11, .v 14, .v 17]
def s12 : Sum := ⟨12, [.agg [.f .f32, .f .f32, .f .f32], .agg [.f .f32, .f .f32, .f .f32]], [.agg [.f .f32, .f .f32, .f .f32]]⟩
/-- loop.example/g01249/spec.l01Done -/
def t13 : T :=
  .cst .f32 0 <|
  .cst .f32 0 <|
  .cst .f32 0 <|
  .call 8 [.v 0, .v 1, .v 2] 1 <|
  .br 6
   (.ret [.v 0, .v 1, .v 2, .i .i64 0])
   (.cst .f32 0 <|
   .cst .f32 0 <|
   .cst .f32 0 <|
   .ret [.v 7, .v 8, .v 9, .i .i64 4])
def s13 : Sum := ⟨13, [.agg [.f .f32, .f .f32, .f .f32]], [.agg [.f .f32, .f .f32, .f .f32], .val (.i .i64 [0, 4])]⟩
/-- loop.example/g01249/spec.TurnAround -/
def t14 : T :=
  .cst .f32 0 <|
  .cst .f32 0 <|
  .cst .f32 0 <|
  .call 2 [.v 0, .v 1, .v 2] 1 <|
  .br 10
   (.call 2 [.v 4, .v 5, .v 6] 1 <|
   .br 11
    (.cst .f32 3296329728 <|
    .tst 1 .f32 12 3
     (.cst .f32 1148846080 <|
     .tst 1 .f32 3 13
      (.call 9 [.v 0, .v 1, .v 2] 4 <|
      .br 17
       (.cst .f32 0 <|
       .cst .f32 0 <|
       .cst .f32 0 <|
       .call 11 [.v 3] 1 <|
       .cst .f32 1048576000 <|
       .bin .add .f32 3 22 <|
       .call 11 [.v 23] 1 <|
       .call 3 [.v 14, .v 15, .v 16, .v 4, .v 5, .v 6] 1 <|
       .cst .f32 1065353216 <|
       .bin .sub .f32 26 24 <|
       .bin .mul .f32 25 27 <|
       .call 12 [.v 14, .v 15, .v 16, .v 4, .v 5, .v 6] 3 <|
       .cst .f32 0 <|
       .cst .f32 0 <|
       .cst .f32 0 <|
       .cst .f32 0 <|
       .cst .f32 0 <|
       .cst .f32 0 <|
       .cst .f32 0 <|
       .cst .f32 0 <|
       .cst .f32 0 <|
       .bin .mul .f32 4 24 <|
       .bin .mul .f32 29 21 <|
       .bin .add .f32 41 42 <|
       .bin .mul .f32 14 28 <|
       .bin .add .f32 43 44 <|
       .bin .mul .f32 5 24 <|
       .bin .mul .f32 30 21 <|
       .bin .add .f32 46 47 <|
       .bin .mul .f32 15 28 <|
       .bin .add .f32 48 49 <|
       .bin .mul .f32 6 24 <|
       .bin .mul .f32 31 21 <|
       .bin .add .f32 51 52 <|
       .bin .mul .f32 16 28 <|
       .bin .add .f32 53 54 <|
       .call 13 [.v 45, .v 50, .v 55] 4 <|
       .sw 59 0
        (.ret [.v 56, .v 57, .v 58, .i .i64 0])
        (.sw 59 4
         (.ret [.v 56, .v 57, .v 58, .i .i64 4])
         (.bad "sw")))
       (.cst .f32 0 <|
       .cst .f32 0 <|
       .cst .f32 0 <|
       .cst .f32 0 <|
       .cst .f32 0 <|
       .cst .f32 0 <|
       .ret [.v 21, .v 22, .v 23, .i .i64 4]))
      (.cst .f32 0 <|
      .cst .f32 0 <|
      .cst .f32 0 <|
      .ret [.v 14, .v 15, .v 16, .i .i64 2]))
     (.cst .f32 0 <|
     .cst .f32 0 <|
     .cst .f32 0 <|
     .ret [.v 13, .v 14, .v 15, .i .i64 2]))
    (.cst .f32 0 <|
    .cst .f32 0 <|
    .cst .f32 0 <|
    .ret [.v 12, .v 13, .v 14, .i .i64 1]))
   (.cst .f32 0 <|
   .cst .f32 0 <|
   .cst .f32 0 <|
   .ret [.v 11, .v 12, .v 13, .i .i64 1])
def s14 : Sum := ⟨14, [.agg [.f .f32, .f .f32, .f .f32], .val (.f .f32), .agg [.f .f32, .f .f32, .f .f32]], [.agg [.f .f32, .f .f32, .f .f32], .val (.i .i64 [0, 4, 2, 1])]⟩
/-- loop.example/g01249/impl.IsPlain -/
def t15 : T :=
  .cst .f32 3379831808 <|
  .tst 1 .f32 1 0
   (.cst .f32 1232348160 <|
   .tst 1 .f32 0 2
    (.ret [.b true])
    (.ret [.b false]))
   (.ret [.b false])
def s15 : Sum := ⟨15, [.val (.f .f32)], [.val (.b)]⟩
/-- loop.example/g01249/impl.arePlain$1 -/
def t16 : T :=
  .call 15 [.v 0] 1 <|
  .br 1
   (.ret [.b false])
   (.ret [.b true])
def s16 : Sum := ⟨16, [.val (.f .f32)], [.val (.b)]⟩
/-- loop.example/g01249/impl.ValidPoint -/
def t17 : T :=
  .call 16 [.v 0] 1 <|
  .br 3
   (.ret [.b false])
   (.call 16 [.v 1] 1 <|
   .br 4
    (.ret [.b false])
    (.call 16 [.v 2] 1 <|
    .br 5
     (.ret [.b false])
     (.ret [.b true])))
def s17 : Sum := ⟨17, [.agg [.f .f32, .f .f32, .f .f32]], [.val (.b)]⟩
/-- loop.example/g01249/impl.arePoints$1 -/
def t18 : T :=
  .call 17 [.v 0, .v 1, .v 2] 1 <|
  .br 3
   (.ret [.b false])
   (.ret [.b true])
def s18 : Sum := ⟨18, [.agg [.f .f32, .f .f32, .f .f32]], [.val (.b)]⟩
/-- loop.example/g01249/impl.areTurns -/
def t19 : T :=
  .cst .f32 3296329728 <|
  .tst 1 .f32 1 0
   (.cst .f32 1148846080 <|
   .tst 1 .f32 0 2
    (.ret [.b true])
    (.ret [.b false]))
   (.ret [.b false])
def s19 : Sum := ⟨19, [.val (.f .f32)], [.val (.b)]⟩
/-- loop.example/g01249/impl.DotOf -/
def t20 : T :=
  .cst .f32 0 <|
  .bin .mul .f32 0 3 <|
  .bin .mul .f32 1 4 <|
  .bin .add .f32 7 8 <|
  .bin .mul .f32 2 5 <|
  .bin .add .f32 9 10 <|
  .ret [.v 11]
def s20 : Sum := ⟨20, [.agg [.f .f32, .f .f32, .f .f32], .agg [.f .f32, .f .f32, .f .f32]], [.val (.f .f32)]⟩
/-- loop.example/g01249/impl.root -/
def t21 : T :=
  .cst .f32 0 <|
  .un .widen .f32 0 <|
  .call 4 [.v 2] 1 <|
  .un .narrow .f64 3 <|
  .ret [.v 4]
def s21 : Sum := ⟨21, [.val (.f .f32)], [.val (.f .f32)]⟩
/-- loop.example/g01249/impl.LengthOf -/
def t22 : T :=
  .cst .f32 0 <|
  .call 20 [.v 0, .v 1, .v 2, .v 0, .v 1, .v 2] 1 <|
  .call 21 [.v 4] 1 <|
  .ret [.v 5]
def s22 : Sum := ⟨22, [.agg [.f .f32, .f .f32, .f .f32]], [.val (.f .f32)]⟩
/-- loop.example/g01249/impl.isFinite -/
def t23 : T :=
  .bin .sub .f32 0 0 <|
  .cst .f32 0 <|
  .tst 2 .f32 1 2
   (.ret [.b true])
   (.ret [.b false])
def s23 : Sum := ⟨23, [.val (.f .f32)], [.val (.b)]⟩
/-- loop.example/g01249/impl.quotients -/
def t24 : T :=
  .cst .f32 0 <|
  .cst .f32 0 <|
  .cst .f32 0 <|
  .bin .div .f32 0 3 <|
  .bin .div .f32 1 3 <|
  .bin .div .f32 2 3 <|
  .cst .f32 0 <|
  .cst .f32 0 <|
  .cst .f32 0 <|
  .ret [.v 7, .v 8, .v 9]
def s24 : Sum := ⟨24, [.agg [.f .f32, .f .f32, .f .f32], .val (.f .f32)], [.agg [.f .f32, .f .f32, .f .f32]]⟩
/-- loop.example/g01249/impl.areFinite$1 -/
def t25 : T :=
  .call 23 [.v 0] 1 <|
  .br 1
   (.ret [.b false])
   (.ret [.b true])
def s25 : Sum := ⟨25, [.val (.f .f32)], [.val (.b)]⟩
/-- loop.example/g01249/impl.unit -/
def t26 : T :=
  .cst .f32 0 <|
  .cst .f32 0 <|
  .cst .f32 0 <|
  .call 22 [.v 0, .v 1, .v 2] 1 <|
  .call 23 [.v 6] 1 <|
  .br 7
   (.cst .f32 897581056 <|
   .tst 0 .f32 6 8
    (.cst .f32 0 <|
    .cst .f32 0 <|
    .cst .f32 0 <|
    .ret [.v 9, .v 10, .v 11, .b false])
    (.call 24 [.v 0, .v 1, .v 2, .v 6] 3 <|
    .cst .f32 0 <|
    .cst .f32 0 <|
    .cst .f32 0 <|
    .call 25 [.v 9] 1 <|
    .br 15
     (.ret [.v 9, .v 10, .v 11, .b false])
     (.call 25 [.v 10] 1 <|
     .br 16
      (.ret [.v 9, .v 10, .v 11, .b false])
      (.call 25 [.v 11] 1 <|
      .br 17
       (.ret [.v 9, .v 10, .v 11, .b false])
       (.ret [.v 9, .v 10, .v 11, .b true])))))
   (.cst .f32 0 <|
   .cst .f32 0 <|
   .cst .f32 0 <|
   .ret [.v 8, .v 9, .v 10, .b false])
def s26 : Sum := ⟨26, [.agg [.f .f32, .f .f32, .f .f32]], [.agg [.f .f32, .f .f32, .f .f32], .val (.b)]⟩
/-- loop.example/g01249/impl.SineOf -/
def t27 : T :=
  .cst .f32 0 <|
  .call 23 [.v 0] 1 <|
  .br 2
   (.un .widen .f32 0 <|
   .un .rte .f64 3 <|
   .cst .f64 0 <|
   .tst 2 .f64 4 5
    (.cst .f64 4618760256179416344 <|
    .bin .mul .f64 6 3 <|
    .bin .mul .f64 7 7 <|
    .cst .f64 4607182418800017408 <|
    .cst .f64 4650353643353014272 <|
    .bin .div .f64 8 10 <|
    .bin .mul .f64 11 9 <|
    .cst .f64 4607182418800017408 <|
    .bin .sub .f64 13 12 <|
    .cst .f64 4649386073120571392 <|
    .bin .div .f64 8 15 <|
    .bin .mul .f64 16 14 <|
    .cst .f64 4607182418800017408 <|
    .bin .sub .f64 18 17 <|
    .cst .f64 4648488871632306176 <|
    .bin .div .f64 8 20 <|
    .bin .mul .f64 21 19 <|
    .cst .f64 4607182418800017408 <|
    .bin .sub .f64 23 22 <|
    .cst .f64 4647609262330085376 <|
    .bin .div .f64 8 25 <|
    .bin .mul .f64 26 24 <|
    .cst .f64 4607182418800017408 <|
    .bin .sub .f64 28 27 <|
    .cst .f64 4646096334330265600 <|
    .bin .div .f64 8 30 <|
    .bin .mul .f64 31 29 <|
    .cst .f64 4607182418800017408 <|
    .bin .sub .f64 33 32 <|
    .cst .f64 4644724143818801152 <|
    .bin .div .f64 8 35 <|
    .bin .mul .f64 36 34 <|
    .cst .f64 4607182418800017408 <|
    .bin .sub .f64 38 37 <|
    .cst .f64 4643492690795692032 <|
    .bin .div .f64 8 40 <|
    .bin .mul .f64 41 39 <|
    .cst .f64 4607182418800017408 <|
    .bin .sub .f64 43 42 <|
    .cst .f64 4641592734702895104 <|
    .bin .div .f64 8 45 <|
    .bin .mul .f64 46 44 <|
    .cst .f64 4607182418800017408 <|
    .bin .sub .f64 48 47 <|
    .cst .f64 4639692778610098176 <|
    .bin .div .f64 8 50 <|
    .bin .mul .f64 51 49 <|
    .cst .f64 4607182418800017408 <|
    .bin .sub .f64 53 52 <|
    .cst .f64 4637440978796412928 <|
    .bin .div .f64 8 55 <|
    .bin .mul .f64 56 54 <|
    .cst .f64 4607182418800017408 <|
    .bin .sub .f64 58 57 <|
    .cst .f64 4634766966517661696 <|
    .bin .div .f64 8 60 <|
    .bin .mul .f64 61 59 <|
    .cst .f64 4607182418800017408 <|
    .bin .sub .f64 63 62 <|
    .cst .f64 4631107791820423168 <|
    .bin .div .f64 8 65 <|
    .bin .mul .f64 66 64 <|
    .cst .f64 4607182418800017408 <|
    .bin .sub .f64 68 67 <|
    .cst .f64 4626322717216342016 <|
    .bin .div .f64 8 70 <|
    .bin .mul .f64 71 69 <|
    .cst .f64 4607182418800017408 <|
    .bin .sub .f64 73 72 <|
    .cst .f64 4618441417868443648 <|
    .bin .div .f64 8 75 <|
    .bin .mul .f64 76 74 <|
    .cst .f64 4607182418800017408 <|
    .bin .sub .f64 78 77 <|
    .bin .mul .f64 7 79 <|
    .un .narrow .f64 80 <|
    .ret [.v 81])
    (.bin .sub .f64 3 4 <|
    .cst .f64 4618760256179416344 <|
    .bin .mul .f64 7 6 <|
    .bin .mul .f64 8 8 <|
    .cst .f64 4607182418800017408 <|
    .cst .f64 4650353643353014272 <|
    .bin .div .f64 9 11 <|
    .bin .mul .f64 12 10 <|
    .cst .f64 4607182418800017408 <|
    .bin .sub .f64 14 13 <|
    .cst .f64 4649386073120571392 <|
    .bin .div .f64 9 16 <|
    .bin .mul .f64 17 15 <|
    .cst .f64 4607182418800017408 <|
    .bin .sub .f64 19 18 <|
    .cst .f64 4648488871632306176 <|
    .bin .div .f64 9 21 <|
    .bin .mul .f64 22 20 <|
    .cst .f64 4607182418800017408 <|
    .bin .sub .f64 24 23 <|
    .cst .f64 4647609262330085376 <|
    .bin .div .f64 9 26 <|
    .bin .mul .f64 27 25 <|
    .cst .f64 4607182418800017408 <|
    .bin .sub .f64 29 28 <|
    .cst .f64 4646096334330265600 <|
    .bin .div .f64 9 31 <|
    .bin .mul .f64 32 30 <|
    .cst .f64 4607182418800017408 <|
    .bin .sub .f64 34 33 <|
    .cst .f64 4644724143818801152 <|
    .bin .div .f64 9 36 <|
    .bin .mul .f64 37 35 <|
    .cst .f64 4607182418800017408 <|
    .bin .sub .f64 39 38 <|
    .cst .f64 4643492690795692032 <|
    .bin .div .f64 9 41 <|
    .bin .mul .f64 42 40 <|
    .cst .f64 4607182418800017408 <|
    .bin .sub .f64 44 43 <|
    .cst .f64 4641592734702895104 <|
    .bin .div .f64 9 46 <|
    .bin .mul .f64 47 45 <|
    .cst .f64 4607182418800017408 <|
    .bin .sub .f64 49 48 <|
    .cst .f64 4639692778610098176 <|
    .bin .div .f64 9 51 <|
    .bin .mul .f64 52 50 <|
    .cst .f64 4607182418800017408 <|
    .bin .sub .f64 54 53 <|
    .cst .f64 4637440978796412928 <|
    .bin .div .f64 9 56 <|
    .bin .mul .f64 57 55 <|
    .cst .f64 4607182418800017408 <|
    .bin .sub .f64 59 58 <|
    .cst .f64 4634766966517661696 <|
    .bin .div .f64 9 61 <|
    .bin .mul .f64 62 60 <|
    .cst .f64 4607182418800017408 <|
    .bin .sub .f64 64 63 <|
    .cst .f64 4631107791820423168 <|
    .bin .div .f64 9 66 <|
    .bin .mul .f64 67 65 <|
    .cst .f64 4607182418800017408 <|
    .bin .sub .f64 69 68 <|
    .cst .f64 4626322717216342016 <|
    .bin .div .f64 9 71 <|
    .bin .mul .f64 72 70 <|
    .cst .f64 4607182418800017408 <|
    .bin .sub .f64 74 73 <|
    .cst .f64 4618441417868443648 <|
    .bin .div .f64 9 76 <|
    .bin .mul .f64 77 75 <|
    .cst .f64 4607182418800017408 <|
    .bin .sub .f64 79 78 <|
    .bin .mul .f64 8 80 <|
    .un .narrow .f64 81 <|
    .ret [.v 82]))
   (.call 10 [] 1 <|
   .un .narrow .f64 3 <|
   .ret [.v 4])
def s27 : Sum := ⟨27, [.val (.f .f32)], [.val (.f .f32)]⟩
/-- loop.example/g01249/impl.ScalePoint -/
def t28 : T :=
  .cst .f32 0 <|
  .cst .f32 0 <|
  .cst .f32 0 <|
  .bin .mul .f32 0 3 <|
  .bin .mul .f32 1 3 <|
  .bin .mul .f32 2 3 <|
  .cst .f32 0 <|
  .cst .f32 0 <|
  .cst .f32 0 <|
  .ret [.v 7, .v 8, .v 9]
def s28 : Sum := ⟨28, [.agg [.f .f32, .f .f32, .f .f32], .val (.f .f32)], [.agg [.f .f32, .f .f32, .f .f32]]⟩
/-- loop.example/g01249/impl.CrossOf -/
def t29 : T :=
  .cst .f32 0 <|
  .cst .f32 0 <|
  .cst .f32 0 <|
  .bin .mul .f32 1 5 <|
  .bin .mul .f32 2 4 <|
  .bin .sub .f32 9 10 <|
  .bin .mul .f32 2 3 <|
  .bin .mul .f32 0 5 <|
  .bin .sub .f32 12 13 <|
  .bin .mul .f32 0 4 <|
  .bin .mul .f32 1 3 <|
  .bin .sub .f32 15 16 <|
  .cst .f32 0 <|
  .cst .f32 0 <|
  .cst .f32 0 <|
  .ret [.v 11, .v 14, .v 17]
def s29 : Sum := ⟨29, [.agg [.f .f32, .f .f32, .f .f32], .agg [.f .f32, .f .f32, .f .f32]], [.agg [.f .f32, .f .f32, .f .f32]]⟩
/-- loop.example/g01249/impl.AddPoints -/
def t30 : T :=
  .cst .f32 0 <|
  .cst .f32 0 <|
  .cst .f32 0 <|
  .bin .add .f32 0 3 <|
  .bin .add .f32 1 4 <|
  .bin .add .f32 2 5 <|
  .cst .f32 0 <|
  .cst .f32 0 <|
  .cst .f32 0 <|
  .ret [.v 9, .v 10, .v 11]
def s30 : Sum := ⟨30, [.agg [.f .f32, .f .f32, .f .f32], .agg [.f .f32, .f .f32, .f .f32]], [.agg [.f .f32, .f .f32, .f .f32]]⟩
/-- loop.example/g01249/impl.turned -/
def t31 : T :=
  .cst .f32 0 <|
  .cst .f32 0 <|
  .cst .f32 0 <|
  .call 26 [.v 0, .v 1, .v 2] 4 <|
  .br 13
   (.cst .f32 0 <|
   .cst .f32 0 <|
   .cst .f32 0 <|
   .call 27 [.v 3] 1 <|
   .cst .f32 1048576000 <|
   .bin .add .f32 3 18 <|
   .call 27 [.v 19] 1 <|
   .call 20 [.v 10, .v 11, .v 12, .v 4, .v 5, .v 6] 1 <|
   .cst .f32 1065353216 <|
   .bin .sub .f32 22 20 <|
   .bin .mul .f32 21 23 <|
   .call 28 [.v 4, .v 5, .v 6, .v 20] 3 <|
   .call 29 [.v 10, .v 11, .v 12, .v 4, .v 5, .v 6] 3 <|
   .call 28 [.v 28, .v 29, .v 30, .v 17] 3 <|
   .call 30 [.v 25, .v 26, .v 27, .v 31, .v 32, .v 33] 3 <|
   .call 28 [.v 10, .v 11, .v 12, .v 24] 3 <|
   .call 30 [.v 34, .v 35, .v 36, .v 37, .v 38, .v 39] 3 <|
   .ret [.v 40, .v 41, .v 42, .b true])
   (.cst .f32 0 <|
   .cst .f32 0 <|
   .cst .f32 0 <|
   .call 27 [.v 3] 1 <|
   .cst .f32 1048576000 <|
   .bin .add .f32 3 18 <|
   .call 27 [.v 19] 1 <|
   .call 20 [.v 10, .v 11, .v 12, .v 4, .v 5, .v 6] 1 <|
   .cst .f32 1065353216 <|
   .bin .sub .f32 22 20 <|
   .bin .mul .f32 21 23 <|
   .call 28 [.v 4, .v 5, .v 6, .v 20] 3 <|
   .call 29 [.v 10, .v 11, .v 12, .v 4, .v 5, .v 6] 3 <|
   .call 28 [.v 28, .v 29, .v 30, .v 17] 3 <|
   .call 30 [.v 25, .v 26, .v 27, .v 31, .v 32, .v 33] 3 <|
   .call 28 [.v 10, .v 11, .v 12, .v 24] 3 <|
   .call 30 [.v 34, .v 35, .v 36, .v 37, .v 38, .v 39] 3 <|
   .ret [.v 40, .v 41, .v 42, .b false])
def s31 : Sum := ⟨31, [.agg [.f .f32, .f .f32, .f .f32], .val (.f .f32), .agg [.f .f32, .f .f32, .f .f32]], [.agg [.f .f32, .f .f32, .f .f32], .val (.b)]⟩
/-- loop.example/g01249/impl.finite -/
def t32 : T :=
  .cst .f32 0 <|
  .cst .f32 0 <|
  .cst .f32 0 <|
  .call 25 [.v 0] 1 <|
  .br 6
   (.cst .f32 0 <|
   .cst .f32 0 <|
   .cst .f32 0 <|
   .ret [.v 7, .v 8, .v 9, .i .i64 4])
   (.call 25 [.v 1] 1 <|
   .br 7
    (.cst .f32 0 <|
    .cst .f32 0 <|
    .cst .f32 0 <|
    .ret [.v 8, .v 9, .v 10, .i .i64 4])
    (.call 25 [.v 2] 1 <|
    .br 8
     (.cst .f32 0 <|
     .cst .f32 0 <|
     .cst .f32 0 <|
     .ret [.v 9, .v 10, .v 11, .i .i64 4])
     (.ret [.v 0, .v 1, .v 2, .i .i64 0])))
def s32 : Sum := ⟨32, [.agg [.f .f32, .f .f32, .f .f32]], [.agg [.f .f32, .f .f32, .f .f32], .val (.i .i64 [4, 0])]⟩
/-- loop.example/g01249/impl.TurnAround -/
def t33 : T :=
  .cst .f32 0 <|
  .cst .f32 0 <|
  .cst .f32 0 <|
  .cst .f32 0 <|
  .cst .f32 0 <|
  .cst .f32 0 <|
  .call 18 [.v 0, .v 1, .v 2] 1 <|
  .br 13
   (.call 19 [.v 3] 1 <|
   .br 14
    (.cst .f32 0 <|
    .cst .f32 0 <|
    .cst .f32 0 <|
    .ret [.v 15, .v 16, .v 17, .i .i64 1])
    (.cst .f32 0 <|
    .cst .f32 0 <|
    .cst .f32 0 <|
    .ret [.v 15, .v 16, .v 17, .i .i64 1]))
   (.call 18 [.v 4, .v 5, .v 6] 1 <|
   .br 14
    (.call 19 [.v 3] 1 <|
    .br 15
     (.cst .f32 0 <|
     .cst .f32 0 <|
     .cst .f32 0 <|
     .ret [.v 16, .v 17, .v 18, .i .i64 1])
     (.cst .f32 0 <|
     .cst .f32 0 <|
     .cst .f32 0 <|
     .ret [.v 16, .v 17, .v 18, .i .i64 1]))
    (.call 19 [.v 3] 1 <|
    .br 15
     (.call 31 [.v 0, .v 1, .v 2, .v 3, .v 4, .v 5, .v 6] 4 <|
     .br 19
      (.cst .f32 0 <|
      .cst .f32 0 <|
      .cst .f32 0 <|
      .call 32 [.v 16, .v 17, .v 18] 4 <|
      .sw 26 4
       (.ret [.v 23, .v 24, .v 25, .i .i64 4])
       (.sw 26 0
        (.ret [.v 23, .v 24, .v 25, .i .i64 0])
        (.bad "sw")))
      (.cst .f32 0 <|
      .cst .f32 0 <|
      .cst .f32 0 <|
      .cst .f32 0 <|
      .cst .f32 0 <|
      .cst .f32 0 <|
      .ret [.v 23, .v 24, .v 25, .i .i64 4]))
     (.cst .f32 0 <|
     .cst .f32 0 <|
     .cst .f32 0 <|
     .ret [.v 16, .v 17, .v 18, .i .i64 2])))
def s33 : Sum := ⟨33, [.agg [.f .f32, .f .f32, .f .f32], .val (.f .f32), .agg [.f .f32, .f .f32, .f .f32]], [.agg [.f .f32, .f .f32, .f .f32], .val (.i .i64 [1, 4, 0, 2])]⟩
/-- loop.example/g01249/laws.sameFloat -/
def t34 : T :=
  .tst 2 .f64 0 0
   (.tst 2 .f64 1 1
    (.cst .f64 0 <|
    .tst 2 .f64 0 2
     (.cst .f64 0 <|
     .tst 2 .f64 1 3
      (.cst .f64 4607182418800017408 <|
      .bin .div .f64 4 0 <|
      .cst .f64 0 <|
      .tst 0 .f64 6 5
       (.cst .f64 4607182418800017408 <|
       .bin .div .f64 7 1 <|
       .cst .f64 0 <|
       .tst 0 .f64 9 8
        (.ret [.b true])
        (.ret [.b false]))
       (.cst .f64 4607182418800017408 <|
       .bin .div .f64 7 1 <|
       .cst .f64 0 <|
       .tst 0 .f64 9 8
        (.ret [.b false])
        (.ret [.b true])))
      (.tst 2 .f64 0 1
       (.ret [.b true])
       (.ret [.b false])))
     (.tst 2 .f64 0 1
      (.ret [.b true])
      (.ret [.b false])))
    (.tst 2 .f64 0 0
     (.ret [.b false])
     (.tst 2 .f64 1 1
      (.ret [.b false])
      (.ret [.b true]))))
   (.tst 2 .f64 0 0
    (.ret [.b false])
    (.tst 2 .f64 1 1
     (.ret [.b false])
     (.ret [.b true])))
def s34 : Sum := ⟨34, [.val (.f .f64), .val (.f .f64)], [.val (.b)]⟩
/-- loop.example/g01249/laws.eqPoint -/
def t35 : T :=
  .un .widen .f32 0 <|
  .un .widen .f32 3 <|
  .call 34 [.v 6, .v 7] 1 <|
  .br 8
   (.un .widen .f32 1 <|
   .un .widen .f32 4 <|
   .call 34 [.v 9, .v 10] 1 <|
   .br 11
    (.un .widen .f32 2 <|
    .un .widen .f32 5 <|
    .call 34 [.v 12, .v 13] 1 <|
    .br 14
     (.ret [.b true])
     (.ret [.b false]))
    (.ret [.b false]))
   (.ret [.b false])
def s35 : Sum := ⟨35, [.agg [.f .f32, .f .f32, .f .f32], .agg [.f .f32, .f .f32, .f .f32]], [.val (.b)]⟩
/-- loop.example/g01249/laws.FnExactTurnAround -/
def t36 : T :=
  .call 0 [.v 0, .v 1, .v 2] 3 <|
  .call 0 [.v 4, .v 5, .v 6] 3 <|
  .call 14 [.v 7, .v 8, .v 9, .v 3, .v 10, .v 11, .v 12] 4 <|
  .sw 16 0
   (.cst .f32 0 <|
   .cst .f32 0 <|
   .cst .f32 0 <|
   .call 0 [.v 0, .v 1, .v 2] 3 <|
   .call 0 [.v 4, .v 5, .v 6] 3 <|
   .call 33 [.v 20, .v 21, .v 22, .v 3, .v 23, .v 24, .v 25] 4 <|
   .sw 29 1
    (.cst .f32 0 <|
    .cst .f32 0 <|
    .cst .f32 0 <|
    .call 35 [.v 26, .v 27, .v 28, .v 13, .v 14, .v 15] 1 <|
    .br 33
     (.ret [.b false])
     (.ret [.b false]))
    (.sw 29 4
     (.cst .f32 0 <|
     .cst .f32 0 <|
     .cst .f32 0 <|
     .call 35 [.v 26, .v 27, .v 28, .v 13, .v 14, .v 15] 1 <|
     .br 33
      (.ret [.b false])
      (.ret [.b false]))
     (.sw 29 0
      (.cst .f32 0 <|
      .cst .f32 0 <|
      .cst .f32 0 <|
      .call 35 [.v 26, .v 27, .v 28, .v 13, .v 14, .v 15] 1 <|
      .br 33
       (.ret [.b true])
       (.ret [.b false]))
      (.sw 29 2
       (.cst .f32 0 <|
       .cst .f32 0 <|
       .cst .f32 0 <|
       .call 35 [.v 26, .v 27, .v 28, .v 13, .v 14, .v 15] 1 <|
       .br 33
        (.ret [.b false])
        (.ret [.b false]))
       (.bad "sw")))))
   (.sw 16 4
    (.cst .f32 0 <|
    .cst .f32 0 <|
    .cst .f32 0 <|
    .call 0 [.v 0, .v 1, .v 2] 3 <|
    .call 0 [.v 4, .v 5, .v 6] 3 <|
    .call 33 [.v 20, .v 21, .v 22, .v 3, .v 23, .v 24, .v 25] 4 <|
    .sw 29 1
     (.cst .f32 0 <|
     .cst .f32 0 <|
     .cst .f32 0 <|
     .call 35 [.v 26, .v 27, .v 28, .v 13, .v 14, .v 15] 1 <|
     .br 33
      (.ret [.b false])
      (.ret [.b false]))
     (.sw 29 4
      (.cst .f32 0 <|
      .cst .f32 0 <|
      .cst .f32 0 <|
      .call 35 [.v 26, .v 27, .v 28, .v 13, .v 14, .v 15] 1 <|
      .br 33
       (.ret [.b true])
       (.ret [.b false]))
      (.sw 29 0
       (.cst .f32 0 <|
       .cst .f32 0 <|
       .cst .f32 0 <|
       .call 35 [.v 26, .v 27, .v 28, .v 13, .v 14, .v 15] 1 <|
       .br 33
        (.ret [.b false])
        (.ret [.b false]))
       (.sw 29 2
        (.cst .f32 0 <|
        .cst .f32 0 <|
        .cst .f32 0 <|
        .call 35 [.v 26, .v 27, .v 28, .v 13, .v 14, .v 15] 1 <|
        .br 33
         (.ret [.b false])
         (.ret [.b false]))
        (.bad "sw")))))
    (.sw 16 2
     (.cst .f32 0 <|
     .cst .f32 0 <|
     .cst .f32 0 <|
     .call 0 [.v 0, .v 1, .v 2] 3 <|
     .call 0 [.v 4, .v 5, .v 6] 3 <|
     .call 33 [.v 20, .v 21, .v 22, .v 3, .v 23, .v 24, .v 25] 4 <|
     .sw 29 1
      (.cst .f32 0 <|
      .cst .f32 0 <|
      .cst .f32 0 <|
      .call 35 [.v 26, .v 27, .v 28, .v 13, .v 14, .v 15] 1 <|
      .br 33
       (.ret [.b false])
       (.ret [.b false]))
      (.sw 29 4
       (.cst .f32 0 <|
       .cst .f32 0 <|
       .cst .f32 0 <|
       .call 35 [.v 26, .v 27, .v 28, .v 13, .v 14, .v 15] 1 <|
       .br 33
        (.ret [.b false])
        (.ret [.b false]))
       (.sw 29 0
        (.cst .f32 0 <|
        .cst .f32 0 <|
        .cst .f32 0 <|
        .call 35 [.v 26, .v 27, .v 28, .v 13, .v 14, .v 15] 1 <|
        .br 33
         (.ret [.b false])
         (.ret [.b false]))
        (.sw 29 2
         (.cst .f32 0 <|
         .cst .f32 0 <|
         .cst .f32 0 <|
         .call 35 [.v 26, .v 27, .v 28, .v 13, .v 14, .v 15] 1 <|
         .br 33
          (.ret [.b true])
          (.ret [.b false]))
         (.bad "sw")))))
     (.sw 16 1
      (.cst .f32 0 <|
      .cst .f32 0 <|
      .cst .f32 0 <|
      .call 0 [.v 0, .v 1, .v 2] 3 <|
      .call 0 [.v 4, .v 5, .v 6] 3 <|
      .call 33 [.v 20, .v 21, .v 22, .v 3, .v 23, .v 24, .v 25] 4 <|
      .sw 29 1
       (.cst .f32 0 <|
       .cst .f32 0 <|
       .cst .f32 0 <|
       .call 35 [.v 26, .v 27, .v 28, .v 13, .v 14, .v 15] 1 <|
       .br 33
        (.ret [.b true])
        (.ret [.b false]))
       (.sw 29 4
        (.cst .f32 0 <|
        .cst .f32 0 <|
        .cst .f32 0 <|
        .call 35 [.v 26, .v 27, .v 28, .v 13, .v 14, .v 15] 1 <|
        .br 33
         (.ret [.b false])
         (.ret [.b false]))
        (.sw 29 0
         (.cst .f32 0 <|
         .cst .f32 0 <|
         .cst .f32 0 <|
         .call 35 [.v 26, .v 27, .v 28, .v 13, .v 14, .v 15] 1 <|
         .br 33
          (.ret [.b false])
          (.ret [.b false]))
         (.sw 29 2
          (.cst .f32 0 <|
          .cst .f32 0 <|
          .cst .f32 0 <|
          .call 35 [.v 26, .v 27, .v 28, .v 13, .v 14, .v 15] 1 <|
          .br 33
           (.ret [.b false])
           (.ret [.b false]))
          (.bad "sw")))))
      (.bad "sw"))))
def s36 : Sum := ⟨36, [.agg [.f .f32, .f .f32, .f .f32], .val (.f .f32), .agg [.f .f32, .f .f32, .f .f32]], [.val (.b)]⟩
/-- loop.example/g01249/laws.toCamera -/
def t37 : T :=
  .cst .f32 0 <|
  .cst .f32 0 <|
  .cst .f32 0 <|
  .cst .f32 0 <|
  .cst .f32 0 <|
  .cst .f32 0 <|
  .cst .f32 0 <|
  .cst .f32 0 <|
  .cst .f32 0 <|
  .cst .f32 0 <|
  .cst .f32 0 <|
  .cst .f32 0 <|
  .cst .f32 0 <|
  .cst .f32 0 <|
  .cst .f32 0 <|
  .cst .f32 0 <|
  .cst .f32 0 <|
  .cst .f32 0 <|
  .cst .f32 0 <|
  .cst .f32 0 <|
  .cst .f32 0 <|
  .cst .f32 0 <|
  .call 0 [.v 0, .v 1, .v 2] 3 <|
  .call 0 [.v 3, .v 4, .v 5] 3 <|
  .call 0 [.v 6, .v 7, .v 8] 3 <|
  .ret [.v 33, .v 34, .v 35, .v 36, .v 37, .v 38, .v 39, .v 40, .v 41, .v 9, .v 10]
def s37 : Sum := ⟨37, [.agg [.f .f32, .f .f32, .f .f32, .f .f32, .f .f32, .f .f32, .f .f32, .f .f32, .f .f32, .f .f32, .f .f32]], [.agg [.f .f32, .f .f32, .f .f32, .f .f32, .f .f32, .f .f32, .f .f32, .f .f32, .f .f32, .f .f32, .f .f32]]⟩
/-- loop.example/g01249/spec.SubPoints -/
def t38 : T :=
  .cst .f32 0 <|
  .cst .f32 0 <|
  .cst .f32 0 <|
  .bin .sub .f32 0 3 <|
  .bin .sub .f32 1 4 <|
  .bin .sub .f32 2 5 <|
  .cst .f32 0 <|
  .cst .f32 0 <|
  .cst .f32 0 <|
  .ret [.v 9, .v 10, .v 11]
def s38 : Sum := ⟨38, [.agg [.f .f32, .f .f32, .f .f32], .agg [.f .f32, .f .f32, .f .f32]], [.agg [.f .f32, .f .f32, .f .f32]]⟩
/-- loop.example/g01249/spec.l02Frame -/
def t39 : T :=
  .cst .f32 0 <|
  .cst .f32 0 <|
  .cst .f32 0 <|
  .cst .f32 0 <|
  .cst .f32 0 <|
  .cst .f32 0 <|
  .cst .f32 0 <|
  .cst .f32 0 <|
  .cst .f32 0 <|
  .call 38 [.v 3, .v 4, .v 5, .v 0, .v 1, .v 2] 3 <|
  .call 9 [.v 20, .v 21, .v 22] 4 <|
  .br 26
   (.cst .f32 0 <|
   .cst .f32 0 <|
   .cst .f32 0 <|
   .call 12 [.v 23, .v 24, .v 25, .v 6, .v 7, .v 8] 3 <|
   .call 9 [.v 30, .v 31, .v 32] 4 <|
   .br 36
    (.cst .f32 0 <|
    .cst .f32 0 <|
    .cst .f32 0 <|
    .call 12 [.v 33, .v 34, .v 35, .v 23, .v 24, .v 25] 3 <|
    .cst .f32 0 <|
    .cst .f32 0 <|
    .cst .f32 0 <|
    .cst .f32 0 <|
    .cst .f32 0 <|
    .cst .f32 0 <|
    .cst .f32 0 <|
    .cst .f32 0 <|
    .cst .f32 0 <|
    .ret [.v 33, .v 34, .v 35, .v 40, .v 41, .v 42, .v 23, .v 24, .v 25, .b true])
    (.cst .f32 0 <|
    .cst .f32 0 <|
    .cst .f32 0 <|
    .call 12 [.v 33, .v 34, .v 35, .v 23, .v 24, .v 25] 3 <|
    .cst .f32 0 <|
    .cst .f32 0 <|
    .cst .f32 0 <|
    .cst .f32 0 <|
    .cst .f32 0 <|
    .cst .f32 0 <|
    .cst .f32 0 <|
    .cst .f32 0 <|
    .cst .f32 0 <|
    .ret [.v 33, .v 34, .v 35, .v 40, .v 41, .v 42, .v 23, .v 24, .v 25, .b false]))
   (.cst .f32 0 <|
   .cst .f32 0 <|
   .cst .f32 0 <|
   .call 12 [.v 23, .v 24, .v 25, .v 6, .v 7, .v 8] 3 <|
   .call 9 [.v 30, .v 31, .v 32] 4 <|
   .br 36
    (.cst .f32 0 <|
    .cst .f32 0 <|
    .cst .f32 0 <|
    .call 12 [.v 33, .v 34, .v 35, .v 23, .v 24, .v 25] 3 <|
    .cst .f32 0 <|
    .cst .f32 0 <|
    .cst .f32 0 <|
    .cst .f32 0 <|
    .cst .f32 0 <|
    .cst .f32 0 <|
    .cst .f32 0 <|
    .cst .f32 0 <|
    .cst .f32 0 <|
    .ret [.v 33, .v 34, .v 35, .v 40, .v 41, .v 42, .v 23, .v 24, .v 25, .b false])
    (.cst .f32 0 <|
    .cst .f32 0 <|
    .cst .f32 0 <|
    .call 12 [.v 33, .v 34, .v 35, .v 23, .v 24, .v 25] 3 <|
    .cst .f32 0 <|
    .cst .f32 0 <|
    .cst .f32 0 <|
    .cst .f32 0 <|
    .cst .f32 0 <|
    .cst .f32 0 <|
    .cst .f32 0 <|
    .cst .f32 0 <|
    .cst .f32 0 <|
    .ret [.v 33, .v 34, .v 35, .v 40, .v 41, .v 42, .v 23, .v 24, .v 25, .b false]))
def s39 : Sum := ⟨39, [.ptr [.f .f32, .f .f32, .f .f32, .f .f32, .f .f32, .f .f32, .f .f32, .f .f32, .f .f32, .f .f32, .f .f32]], [.agg [.f .f32, .f .f32, .f .f32, .f .f32, .f .f32, .f .f32, .f .f32, .f .f32, .f .f32], .val (.b)]⟩
/-- loop.example/g01249/spec.l02Ok -/
def t40 : T :=
  .call 2 [.v 0, .v 1, .v 2] 1 <|
  .br 11
   (.call 2 [.v 3, .v 4, .v 5] 1 <|
   .br 12
    (.call 2 [.v 6, .v 7, .v 8] 1 <|
    .br 13
     (.call 1 [.v 9] 1 <|
     .br 14
      (.call 1 [.v 10] 1 <|
      .br 15
       (.cst .f32 1015021568 <|
       .tst 0 .f32 9 16
        (.ret [.b false])
        (.cst .f32 1015021568 <|
        .tst 0 .f32 10 17
         (.ret [.b false])
         (.call 39 [.v 0, .v 1, .v 2, .v 3, .v 4, .v 5, .v 6, .v 7, .v 8, .v 9, .v 10] 10 <|
         .br 27
          (.cst .f32 0 <|
          .cst .f32 0 <|
          .cst .f32 0 <|
          .cst .f32 0 <|
          .cst .f32 0 <|
          .cst .f32 0 <|
          .cst .f32 0 <|
          .cst .f32 0 <|
          .cst .f32 0 <|
          .ret [.b true])
          (.cst .f32 0 <|
          .cst .f32 0 <|
          .cst .f32 0 <|
          .cst .f32 0 <|
          .cst .f32 0 <|
          .cst .f32 0 <|
          .cst .f32 0 <|
          .cst .f32 0 <|
          .cst .f32 0 <|
          .ret [.b false]))))
       (.ret [.b false]))
      (.ret [.b false]))
     (.ret [.b false]))
    (.ret [.b false]))
   (.ret [.b false])
def s40 : Sum := ⟨40, [.ptr [.f .f32, .f .f32, .f .f32, .f .f32, .f .f32, .f .f32, .f .f32, .f .f32, .f .f32, .f .f32, .f .f32]], [.val (.b)]⟩
/-- loop.example/g01249/spec.ScalePoint -/
def t41 : T :=
  .cst .f32 0 <|
  .cst .f32 0 <|
  .cst .f32 0 <|
  .bin .mul .f32 0 3 <|
  .bin .mul .f32 1 3 <|
  .bin .mul .f32 2 3 <|
  .cst .f32 0 <|
  .cst .f32 0 <|
  .cst .f32 0 <|
  .ret [.v 7, .v 8, .v 9]
def s41 : Sum := ⟨41, [.agg [.f .f32, .f .f32, .f .f32], .val (.f .f32)], [.agg [.f .f32, .f .f32, .f .f32]]⟩
/-- loop.example/g01249/spec.AddPoints -/
def t42 : T :=
  .cst .f32 0 <|
  .cst .f32 0 <|
  .cst .f32 0 <|
  .bin .add .f32 0 3 <|
  .bin .add .f32 1 4 <|
  .bin .add .f32 2 5 <|
  .cst .f32 0 <|
  .cst .f32 0 <|
  .cst .f32 0 <|
  .ret [.v 9, .v 10, .v 11]
def s42 : Sum := ⟨42, [.agg [.f .f32, .f .f32, .f .f32], .agg [.f .f32, .f .f32, .f .f32]], [.agg [.f .f32, .f .f32, .f .f32]]⟩
/-- loop.example/g01249/spec.l02Moved -/
def t43 : T :=
  .cst .f32 0 <|
  .cst .f32 0 <|
  .cst .f32 0 <|
  .cst .f32 0 <|
  .cst .f32 0 <|
  .cst .f32 0 <|
  .cst .f32 0 <|
  .cst .f32 0 <|
  .cst .f32 0 <|
  .cst .f32 0 <|
  .cst .f32 0 <|
  .call 40 [.v 0, .v 1, .v 2, .v 3, .v 4, .v 5, .v 6, .v 7, .v 8, .v 9, .v 10] 1 <|
  .br 22
   (.ret [.v 0, .v 1, .v 2, .v 3, .v 4, .v 5, .v 6, .v 7, .v 8, .v 9, .v 10, .i .i64 0])
   (.cst .f32 0 <|
   .cst .f32 0 <|
   .cst .f32 0 <|
   .cst .f32 0 <|
   .cst .f32 0 <|
   .cst .f32 0 <|
   .cst .f32 0 <|
   .cst .f32 0 <|
   .cst .f32 0 <|
   .cst .f32 0 <|
   .cst .f32 0 <|
   .ret [.v 23, .v 24, .v 25, .v 26, .v 27, .v 28, .v 29, .v 30, .v 31, .v 32, .v 33, .i .i64 4])
def s43 : Sum := ⟨43, [.agg [.f .f32, .f .f32, .f .f32, .f .f32, .f .f32, .f .f32, .f .f32, .f .f32, .f .f32, .f .f32, .f .f32]], [.agg [.f .f32, .f .f32, .f .f32, .f .f32, .f .f32, .f .f32, .f .f32, .f .f32, .f .f32, .f .f32, .f .f32], .val (.i .i64 [0, 4])]⟩
/-- loop.example/g01249/spec.MoveCamera -/
def t44 : T :=
  .cst .f32 0 <|
  .cst .f32 0 <|
  .cst .f32 0 <|
  .cst .f32 0 <|
  .cst .f32 0 <|
  .cst .f32 0 <|
  .cst .f32 0 <|
  .cst .f32 0 <|
  .cst .f32 0 <|
  .cst .f32 0 <|
  .cst .f32 0 <|
  .call 40 [.v 0, .v 1, .v 2, .v 3, .v 4, .v 5, .v 6, .v 7, .v 8, .v 9, .v 10] 1 <|
  .br 25
   (.call 1 [.v 11] 1 <|
   .br 26
    (.call 1 [.v 12] 1 <|
    .br 27
     (.call 1 [.v 13] 1 <|
     .br 28
      (.call 39 [.v 0, .v 1, .v 2, .v 3, .v 4, .v 5, .v 6, .v 7, .v 8, .v 9, .v 10] 10 <|
      .br 38
       (.cst .f32 0 <|
       .cst .f32 0 <|
       .cst .f32 0 <|
       .cst .f32 0 <|
       .cst .f32 0 <|
       .cst .f32 0 <|
       .cst .f32 0 <|
       .cst .f32 0 <|
       .cst .f32 0 <|
       .call 41 [.v 29, .v 30, .v 31, .v 11] 3 <|
       .call 41 [.v 32, .v 33, .v 34, .v 12] 3 <|
       .call 42 [.v 48, .v 49, .v 50, .v 51, .v 52, .v 53] 3 <|
       .call 41 [.v 35, .v 36, .v 37, .v 13] 3 <|
       .call 42 [.v 54, .v 55, .v 56, .v 57, .v 58, .v 59] 3 <|
       .cst .f32 0 <|
       .cst .f32 0 <|
       .cst .f32 0 <|
       .call 42 [.v 0, .v 1, .v 2, .v 60, .v 61, .v 62] 3 <|
       .call 42 [.v 3, .v 4, .v 5, .v 60, .v 61, .v 62] 3 <|
       .call 43 [.v 66, .v 67, .v 68, .v 69, .v 70, .v 71, .v 6, .v 7, .v 8, .v 9, .v 10] 12 <|
       .sw 83 0
        (.ret [.v 72, .v 73, .v 74, .v 75, .v 76, .v 77, .v 78, .v 79, .v 80, .v 81, .v 82, .i .i64 0])
        (.sw 83 4
         (.ret [.v 72, .v 73, .v 74, .v 75, .v 76, .v 77, .v 78, .v 79, .v 80, .v 81, .v 82, .i .i64 4])
         (.bad "sw")))
       (.cst .f32 0 <|
       .cst .f32 0 <|
       .cst .f32 0 <|
       .cst .f32 0 <|
       .cst .f32 0 <|
       .cst .f32 0 <|
       .cst .f32 0 <|
       .cst .f32 0 <|
       .cst .f32 0 <|
       .call 41 [.v 29, .v 30, .v 31, .v 11] 3 <|
       .call 41 [.v 32, .v 33, .v 34, .v 12] 3 <|
       .call 42 [.v 48, .v 49, .v 50, .v 51, .v 52, .v 53] 3 <|
       .call 41 [.v 35, .v 36, .v 37, .v 13] 3 <|
       .call 42 [.v 54, .v 55, .v 56, .v 57, .v 58, .v 59] 3 <|
       .cst .f32 0 <|
       .cst .f32 0 <|
       .cst .f32 0 <|
       .call 42 [.v 0, .v 1, .v 2, .v 60, .v 61, .v 62] 3 <|
       .call 42 [.v 3, .v 4, .v 5, .v 60, .v 61, .v 62] 3 <|
       .call 43 [.v 66, .v 67, .v 68, .v 69, .v 70, .v 71, .v 6, .v 7, .v 8, .v 9, .v 10] 12 <|
       .sw 83 0
        (.ret [.v 72, .v 73, .v 74, .v 75, .v 76, .v 77, .v 78, .v 79, .v 80, .v 81, .v 82, .i .i64 0])
        (.sw 83 4
         (.ret [.v 72, .v 73, .v 74, .v 75, .v 76, .v 77, .v 78, .v 79, .v 80, .v 81, .v 82, .i .i64 4])
         (.bad "sw"))))
      (.cst .f32 0 <|
      .cst .f32 0 <|
      .cst .f32 0 <|
      .cst .f32 0 <|
      .cst .f32 0 <|
      .cst .f32 0 <|
      .cst .f32 0 <|
      .cst .f32 0 <|
      .cst .f32 0 <|
      .cst .f32 0 <|
      .cst .f32 0 <|
      .ret [.v 29, .v 30, .v 31, .v 32, .v 33, .v 34, .v 35, .v 36, .v 37, .v 38, .v 39, .i .i64 2]))
     (.cst .f32 0 <|
     .cst .f32 0 <|
     .cst .f32 0 <|
     .cst .f32 0 <|
     .cst .f32 0 <|
     .cst .f32 0 <|
     .cst .f32 0 <|
     .cst .f32 0 <|
     .cst .f32 0 <|
     .cst .f32 0 <|
     .cst .f32 0 <|
     .ret [.v 28, .v 29, .v 30, .v 31, .v 32, .v 33, .v 34, .v 35, .v 36, .v 37, .v 38, .i .i64 2]))
    (.cst .f32 0 <|
    .cst .f32 0 <|
    .cst .f32 0 <|
    .cst .f32 0 <|
    .cst .f32 0 <|
    .cst .f32 0 <|
    .cst .f32 0 <|
    .cst .f32 0 <|
    .cst .f32 0 <|
    .cst .f32 0 <|
    .cst .f32 0 <|
    .ret [.v 27, .v 28, .v 29, .v 30, .v 31, .v 32, .v 33, .v 34, .v 35, .v 36, .v 37, .i .i64 2]))
   (.cst .f32 0 <|
   .cst .f32 0 <|
   .cst .f32 0 <|
   .cst .f32 0 <|
   .cst .f32 0 <|
   .cst .f32 0 <|
   .cst .f32 0 <|
   .cst .f32 0 <|
   .cst .f32 0 <|
   .cst .f32 0 <|
   .cst .f32 0 <|
   .ret [.v 26, .v 27, .v 28, .v 29, .v 30, .v 31, .v 32, .v 33, .v 34, .v 35, .v 36, .i .i64 1])
def s44 : Sum := ⟨44, [.agg [.f .f32, .f .f32, .f .f32, .f .f32, .f .f32, .f .f32, .f .f32, .f .f32, .f .f32, .f .f32, .f .f32], .val (.f .f32), .val (.f .f32), .val (.f .f32)], [.agg [.f .f32, .f .f32, .f .f32, .f .f32, .f .f32, .f .f32, .f .f32, .f .f32, .f .f32, .f .f32, .f .f32], .val (.i .i64 [0, 4, 2, 1])]⟩
/-- loop.example/g01249/spec.TwoViews -/
def t45 : T :=
  .cst .f32 0 <|
  .cst .f32 0 <|
  .cst .f32 0 <|
  .cst .f32 0 <|
  .cst .f32 0 <|
  .cst .f32 0 <|
  .cst .f32 0 <|
  .cst .f32 0 <|
  .cst .f32 0 <|
  .cst .f32 0 <|
  .cst .f32 0 <|
  .cst .f32 0 <|
  .cst .f32 0 <|
  .cst .f32 0 <|
  .cst .f32 0 <|
  .cst .f32 0 <|
  .cst .f32 0 <|
  .cst .f32 0 <|
  .cst .f32 0 <|
  .cst .f32 0 <|
  .cst .f32 0 <|
  .cst .f32 0 <|
  .un .neg .f32 11 <|
  .cst .f32 1056964608 <|
  .bin .mul .f32 35 34 <|
  .cst .f32 0 <|
  .cst .f32 0 <|
  .call 44 [.v 0, .v 1, .v 2, .v 3, .v 4, .v 5, .v 6, .v 7, .v 8, .v 9, .v 10, .v 36, .v 37, .v 38] 12 <|
  .sw 50 0
   (.cst .f32 0 <|
   .cst .f32 0 <|
   .cst .f32 0 <|
   .cst .f32 0 <|
   .cst .f32 0 <|
   .cst .f32 0 <|
   .cst .f32 0 <|
   .cst .f32 0 <|
   .cst .f32 0 <|
   .cst .f32 0 <|
   .cst .f32 0 <|
   .cst .f32 1056964608 <|
   .bin .mul .f32 62 11 <|
   .cst .f32 0 <|
   .cst .f32 0 <|
   .call 44 [.v 0, .v 1, .v 2, .v 3, .v 4, .v 5, .v 6, .v 7, .v 8, .v 9, .v 10, .v 63, .v 64, .v 65] 12 <|
   .sw 77 0
    (.cst .f32 0 <|
    .cst .f32 0 <|
    .cst .f32 0 <|
    .cst .f32 0 <|
    .cst .f32 0 <|
    .cst .f32 0 <|
    .cst .f32 0 <|
    .cst .f32 0 <|
    .cst .f32 0 <|
    .cst .f32 0 <|
    .cst .f32 0 <|
    .ret [.v 39, .v 40, .v 41, .v 42, .v 43, .v 44, .v 45, .v 46, .v 47, .v 48, .v 49, .v 66, .v 67, .v 68, .v 69, .v 70, .v 71, .v 72, .v 73, .v 74, .v 75, .v 76, .i .i64 0])
    (.sw 77 4
     (.cst .f32 0 <|
     .cst .f32 0 <|
     .cst .f32 0 <|
     .cst .f32 0 <|
     .cst .f32 0 <|
     .cst .f32 0 <|
     .cst .f32 0 <|
     .cst .f32 0 <|
     .cst .f32 0 <|
     .cst .f32 0 <|
     .cst .f32 0 <|
     .cst .f32 0 <|
     .cst .f32 0 <|
     .cst .f32 0 <|
     .cst .f32 0 <|
     .cst .f32 0 <|
     .cst .f32 0 <|
     .cst .f32 0 <|
     .cst .f32 0 <|
     .cst .f32 0 <|
     .cst .f32 0 <|
     .cst .f32 0 <|
     .cst .f32 0 <|
     .cst .f32 0 <|
     .cst .f32 0 <|
     .cst .f32 0 <|
     .cst .f32 0 <|
     .cst .f32 0 <|
     .cst .f32 0 <|
     .cst .f32 0 <|
     .cst .f32 0 <|
     .cst .f32 0 <|
     .cst .f32 0 <|
     .ret [.v 89, .v 90, .v 91, .v 92, .v 93, .v 94, .v 95, .v 96, .v 97, .v 98, .v 99, .v 100, .v 101, .v 102, .v 103, .v 104, .v 105, .v 106, .v 107, .v 108, .v 109, .v 110, .i .i64 4])
     (.sw 77 2
      (.cst .f32 0 <|
      .cst .f32 0 <|
      .cst .f32 0 <|
      .cst .f32 0 <|
      .cst .f32 0 <|
      .cst .f32 0 <|
      .cst .f32 0 <|
      .cst .f32 0 <|
      .cst .f32 0 <|
      .cst .f32 0 <|
      .cst .f32 0 <|
      .cst .f32 0 <|
      .cst .f32 0 <|
      .cst .f32 0 <|
      .cst .f32 0 <|
      .cst .f32 0 <|
      .cst .f32 0 <|
      .cst .f32 0 <|
      .cst .f32 0 <|
      .cst .f32 0 <|
      .cst .f32 0 <|
      .cst .f32 0 <|
      .cst .f32 0 <|
      .cst .f32 0 <|
      .cst .f32 0 <|
      .cst .f32 0 <|
      .cst .f32 0 <|
      .cst .f32 0 <|
      .cst .f32 0 <|
      .cst .f32 0 <|
      .cst .f32 0 <|
      .cst .f32 0 <|
      .cst .f32 0 <|
      .ret [.v 89, .v 90, .v 91, .v 92, .v 93, .v 94, .v 95, .v 96, .v 97, .v 98, .v 99, .v 100, .v 101, .v 102, .v 103, .v 104, .v 105, .v 106, .v 107, .v 108, .v 109, .v 110, .i .i64 2])
      (.sw 77 1
       (.cst .f32 0 <|
       .cst .f32 0 <|
       .cst .f32 0 <|
       .cst .f32 0 <|
       .cst .f32 0 <|
       .cst .f32 0 <|
       .cst .f32 0 <|
       .cst .f32 0 <|
       .cst .f32 0 <|
       .cst .f32 0 <|
       .cst .f32 0 <|
       .cst .f32 0 <|
       .cst .f32 0 <|
       .cst .f32 0 <|
       .cst .f32 0 <|
       .cst .f32 0 <|
       .cst .f32 0 <|
       .cst .f32 0 <|
       .cst .f32 0 <|
       .cst .f32 0 <|
       .cst .f32 0 <|
       .cst .f32 0 <|
       .cst .f32 0 <|
       .cst .f32 0 <|
       .cst .f32 0 <|
       .cst .f32 0 <|
       .cst .f32 0 <|
       .cst .f32 0 <|
       .cst .f32 0 <|
       .cst .f32 0 <|
       .cst .f32 0 <|
       .cst .f32 0 <|
       .cst .f32 0 <|
       .ret [.v 89, .v 90, .v 91, .v 92, .v 93, .v 94, .v 95, .v 96, .v 97, .v 98, .v 99, .v 100, .v 101, .v 102, .v 103, .v 104, .v 105, .v 106, .v 107, .v 108, .v 109, .v 110, .i .i64 1])
       (.bad "sw")))))
   (.sw 50 4
    (.cst .f32 0 <|
    .cst .f32 0 <|
    .cst .f32 0 <|
    .cst .f32 0 <|
    .cst .f32 0 <|
    .cst .f32 0 <|
    .cst .f32 0 <|
    .cst .f32 0 <|
    .cst .f32 0 <|
    .cst .f32 0 <|
    .cst .f32 0 <|
    .cst .f32 1056964608 <|
    .bin .mul .f32 62 11 <|
    .cst .f32 0 <|
    .cst .f32 0 <|
    .call 44 [.v 0, .v 1, .v 2, .v 3, .v 4, .v 5, .v 6, .v 7, .v 8, .v 9, .v 10, .v 63, .v 64, .v 65] 12 <|
    .sw 77 0
     (.cst .f32 0 <|
     .cst .f32 0 <|
     .cst .f32 0 <|
     .cst .f32 0 <|
     .cst .f32 0 <|
     .cst .f32 0 <|
     .cst .f32 0 <|
     .cst .f32 0 <|
     .cst .f32 0 <|
     .cst .f32 0 <|
     .cst .f32 0 <|
     .cst .f32 0 <|
     .cst .f32 0 <|
     .cst .f32 0 <|
     .cst .f32 0 <|
     .cst .f32 0 <|
     .cst .f32 0 <|
     .cst .f32 0 <|
     .cst .f32 0 <|
     .cst .f32 0 <|
     .cst .f32 0 <|
     .cst .f32 0 <|
     .cst .f32 0 <|
     .cst .f32 0 <|
     .cst .f32 0 <|
     .cst .f32 0 <|
     .cst .f32 0 <|
     .cst .f32 0 <|
     .cst .f32 0 <|
     .cst .f32 0 <|
     .cst .f32 0 <|
     .cst .f32 0 <|
     .cst .f32 0 <|
     .ret [.v 89, .v 90, .v 91, .v 92, .v 93, .v 94, .v 95, .v 96, .v 97, .v 98, .v 99, .v 100, .v 101, .v 102, .v 103, .v 104, .v 105, .v 106, .v 107, .v 108, .v 109, .v 110, .i .i64 4])
     (.sw 77 4
      (.cst .f32 0 <|
      .cst .f32 0 <|
      .cst .f32 0 <|
      .cst .f32 0 <|
      .cst .f32 0 <|
      .cst .f32 0 <|
      .cst .f32 0 <|
      .cst .f32 0 <|
      .cst .f32 0 <|
      .cst .f32 0 <|
      .cst .f32 0 <|
      .cst .f32 0 <|
      .cst .f32 0 <|
      .cst .f32 0 <|
      .cst .f32 0 <|
      .cst .f32 0 <|
      .cst .f32 0 <|
      .cst .f32 0 <|
      .cst .f32 0 <|
      .cst .f32 0 <|
      .cst .f32 0 <|
      .cst .f32 0 <|
      .cst .f32 0 <|
      .cst .f32 0 <|
      .cst .f32 0 <|
      .cst .f32 0 <|
      .cst .f32 0 <|
      .cst .f32 0 <|
      .cst .f32 0 <|
      .cst .f32 0 <|
      .cst .f32 0 <|
      .cst .f32 0 <|
      .cst .f32 0 <|
      .ret [.v 89, .v 90, .v 91, .v 92, .v 93, .v 94, .v 95, .v 96, .v 97, .v 98, .v 99, .v 100, .v 101, .v 102, .v 103, .v 104, .v 105, .v 106, .v 107, .v 108, .v 109, .v 110, .i .i64 4])
      (.sw 77 2
       (.cst .f32 0 <|
       .cst .f32 0 <|
       .cst .f32 0 <|
       .cst .f32 0 <|
       .cst .f32 0 <|
       .cst .f32 0 <|
       .cst .f32 0 <|
       .cst .f32 0 <|
       .cst .f32 0 <|
       .cst .f32 0 <|
       .cst .f32 0 <|
       .cst .f32 0 <|
       .cst .f32 0 <|
       .cst .f32 0 <|
       .cst .f32 0 <|
       .cst .f32 0 <|
       .cst .f32 0 <|
       .cst .f32 0 <|
       .cst .f32 0 <|
       .cst .f32 0 <|
       .cst .f32 0 <|
       .cst .f32 0 <|
       .cst .f32 0 <|
       .cst .f32 0 <|
       .cst .f32 0 <|
       .cst .f32 0 <|
       .cst .f32 0 <|
       .cst .f32 0 <|
       .cst .f32 0 <|
       .cst .f32 0 <|
       .cst .f32 0 <|
       .cst .f32 0 <|
       .cst .f32 0 <|
       .ret [.v 89, .v 90, .v 91, .v 92, .v 93, .v 94, .v 95, .v 96, .v 97, .v 98, .v 99, .v 100, .v 101, .v 102, .v 103, .v 104, .v 105, .v 106, .v 107, .v 108, .v 109, .v 110, .i .i64 4])
       (.sw 77 1
        (.cst .f32 0 <|
        .cst .f32 0 <|
        .cst .f32 0 <|
        .cst .f32 0 <|
        .cst .f32 0 <|
        .cst .f32 0 <|
        .cst .f32 0 <|
        .cst .f32 0 <|
        .cst .f32 0 <|
        .cst .f32 0 <|
        .cst .f32 0 <|
        .cst .f32 0 <|
        .cst .f32 0 <|
        .cst .f32 0 <|
        .cst .f32 0 <|
        .cst .f32 0 <|
        .cst .f32 0 <|
        .cst .f32 0 <|
        .cst .f32 0 <|
        .cst .f32 0 <|
        .cst .f32 0 <|
        .cst .f32 0 <|
        .cst .f32 0 <|
        .cst .f32 0 <|
        .cst .f32 0 <|
        .cst .f32 0 <|
        .cst .f32 0 <|
        .cst .f32 0 <|
        .cst .f32 0 <|
        .cst .f32 0 <|
        .cst .f32 0 <|
        .cst .f32 0 <|
        .cst .f32 0 <|
        .ret [.v 89, .v 90, .v 91, .v 92, .v 93, .v 94, .v 95, .v 96, .v 97, .v 98, .v 99, .v 100, .v 101, .v 102, .v 103, .v 104, .v 105, .v 106, .v 107, .v 108, .v 109, .v 110, .i .i64 4])
        (.bad "sw")))))
    (.sw 50 2
     (.cst .f32 0 <|
     .cst .f32 0 <|
     .cst .f32 0 <|
     .cst .f32 0 <|
     .cst .f32 0 <|
     .cst .f32 0 <|
     .cst .f32 0 <|
     .cst .f32 0 <|
     .cst .f32 0 <|
     .cst .f32 0 <|
     .cst .f32 0 <|
     .cst .f32 1056964608 <|
     .bin .mul .f32 62 11 <|
     .cst .f32 0 <|
     .cst .f32 0 <|
     .call 44 [.v 0, .v 1, .v 2, .v 3, .v 4, .v 5, .v 6, .v 7, .v 8, .v 9, .v 10, .v 63, .v 64, .v 65] 12 <|
     .sw 77 0
      (.cst .f32 0 <|
      .cst .f32 0 <|
      .cst .f32 0 <|
      .cst .f32 0 <|
      .cst .f32 0 <|
      .cst .f32 0 <|
      .cst .f32 0 <|
      .cst .f32 0 <|
      .cst .f32 0 <|
      .cst .f32 0 <|
      .cst .f32 0 <|
      .cst .f32 0 <|
      .cst .f32 0 <|
      .cst .f32 0 <|
      .cst .f32 0 <|
      .cst .f32 0 <|
      .cst .f32 0 <|
      .cst .f32 0 <|
      .cst .f32 0 <|
      .cst .f32 0 <|
      .cst .f32 0 <|
      .cst .f32 0 <|
      .cst .f32 0 <|
      .cst .f32 0 <|
      .cst .f32 0 <|
      .cst .f32 0 <|
      .cst .f32 0 <|
      .cst .f32 0 <|
      .cst .f32 0 <|
      .cst .f32 0 <|
      .cst .f32 0 <|
      .cst .f32 0 <|
      .cst .f32 0 <|
      .ret [.v 89, .v 90, .v 91, .v 92, .v 93, .v 94, .v 95, .v 96, .v 97, .v 98, .v 99, .v 100, .v 101, .v 102, .v 103, .v 104, .v 105, .v 106, .v 107, .v 108, .v 109, .v 110, .i .i64 2])
      (.sw 77 4
       (.cst .f32 0 <|
       .cst .f32 0 <|
       .cst .f32 0 <|
       .cst .f32 0 <|
       .cst .f32 0 <|
       .cst .f32 0 <|
       .cst .f32 0 <|
       .cst .f32 0 <|
       .cst .f32 0 <|
       .cst .f32 0 <|
       .cst .f32 0 <|
       .cst .f32 0 <|
       .cst .f32 0 <|
       .cst .f32 0 <|
       .cst .f32 0 <|
       .cst .f32 0 <|
       .cst .f32 0 <|
       .cst .f32 0 <|
       .cst .f32 0 <|
       .cst .f32 0 <|
       .cst .f32 0 <|
       .cst .f32 0 <|
       .cst .f32 0 <|
       .cst .f32 0 <|
       .cst .f32 0 <|
       .cst .f32 0 <|
       .cst .f32 0 <|
       .cst .f32 0 <|
       .cst .f32 0 <|
       .cst .f32 0 <|
       .cst .f32 0 <|
       .cst .f32 0 <|
       .cst .f32 0 <|
       .ret [.v 89, .v 90, .v 91, .v 92, .v 93, .v 94, .v 95, .v 96, .v 97, .v 98, .v 99, .v 100, .v 101, .v 102, .v 103, .v 104, .v 105, .v 106, .v 107, .v 108, .v 109, .v 110, .i .i64 2])
       (.sw 77 2
        (.cst .f32 0 <|
        .cst .f32 0 <|
        .cst .f32 0 <|
        .cst .f32 0 <|
        .cst .f32 0 <|
        .cst .f32 0 <|
        .cst .f32 0 <|
        .cst .f32 0 <|
        .cst .f32 0 <|
        .cst .f32 0 <|
        .cst .f32 0 <|
        .cst .f32 0 <|
        .cst .f32 0 <|
        .cst .f32 0 <|
        .cst .f32 0 <|
        .cst .f32 0 <|
        .cst .f32 0 <|
        .cst .f32 0 <|
        .cst .f32 0 <|
        .cst .f32 0 <|
        .cst .f32 0 <|
        .cst .f32 0 <|
        .cst .f32 0 <|
        .cst .f32 0 <|
        .cst .f32 0 <|
        .cst .f32 0 <|
        .cst .f32 0 <|
        .cst .f32 0 <|
        .cst .f32 0 <|
        .cst .f32 0 <|
        .cst .f32 0 <|
        .cst .f32 0 <|
        .cst .f32 0 <|
        .ret [.v 89, .v 90, .v 91, .v 92, .v 93, .v 94, .v 95, .v 96, .v 97, .v 98, .v 99, .v 100, .v 101, .v 102, .v 103, .v 104, .v 105, .v 106, .v 107, .v 108, .v 109, .v 110, .i .i64 2])
        (.sw 77 1
         (.cst .f32 0 <|
         .cst .f32 0 <|
         .cst .f32 0 <|
         .cst .f32 0 <|
         .cst .f32 0 <|
         .cst .f32 0 <|
         .cst .f32 0 <|
         .cst .f32 0 <|
         .cst .f32 0 <|
         .cst .f32 0 <|
         .cst .f32 0 <|
         .cst .f32 0 <|
         .cst .f32 0 <|
         .cst .f32 0 <|
         .cst .f32 0 <|
         .cst .f32 0 <|
         .cst .f32 0 <|
         .cst .f32 0 <|
         .cst .f32 0 <|
         .cst .f32 0 <|
         .cst .f32 0 <|
         .cst .f32 0 <|
         .cst .f32 0 <|
         .cst .f32 0 <|
         .cst .f32 0 <|
         .cst .f32 0 <|
         .cst .f32 0 <|
         .cst .f32 0 <|
         .cst .f32 0 <|
         .cst .f32 0 <|
         .cst .f32 0 <|
         .cst .f32 0 <|
         .cst .f32 0 <|
         .ret [.v 89, .v 90, .v 91, .v 92, .v 93, .v 94, .v 95, .v 96, .v 97, .v 98, .v 99, .v 100, .v 101, .v 102, .v 103, .v 104, .v 105, .v 106, .v 107, .v 108, .v 109, .v 110, .i .i64 2])
         (.bad "sw")))))
     (.sw 50 1
      (.cst .f32 0 <|
      .cst .f32 0 <|
      .cst .f32 0 <|
      .cst .f32 0 <|
      .cst .f32 0 <|
      .cst .f32 0 <|
      .cst .f32 0 <|
      .cst .f32 0 <|
      .cst .f32 0 <|
      .cst .f32 0 <|
      .cst .f32 0 <|
      .cst .f32 1056964608 <|
      .bin .mul .f32 62 11 <|
      .cst .f32 0 <|
      .cst .f32 0 <|
      .call 44 [.v 0, .v 1, .v 2, .v 3, .v 4, .v 5, .v 6, .v 7, .v 8, .v 9, .v 10, .v 63, .v 64, .v 65] 12 <|
      .sw 77 0
       (.cst .f32 0 <|
       .cst .f32 0 <|
       .cst .f32 0 <|
       .cst .f32 0 <|
       .cst .f32 0 <|
       .cst .f32 0 <|
       .cst .f32 0 <|
       .cst .f32 0 <|
       .cst .f32 0 <|
       .cst .f32 0 <|
       .cst .f32 0 <|
       .cst .f32 0 <|
       .cst .f32 0 <|
       .cst .f32 0 <|
       .cst .f32 0 <|
       .cst .f32 0 <|
       .cst .f32 0 <|
       .cst .f32 0 <|
       .cst .f32 0 <|
       .cst .f32 0 <|
       .cst .f32 0 <|
       .cst .f32 0 <|
       .cst .f32 0 <|
       .cst .f32 0 <|
       .cst .f32 0 <|
       .cst .f32 0 <|
       .cst .f32 0 <|
       .cst .f32 0 <|
       .cst .f32 0 <|
       .cst .f32 0 <|
       .cst .f32 0 <|
       .cst .f32 0 <|
       .cst .f32 0 <|
       .ret [.v 89, .v 90, .v 91, .v 92, .v 93, .v 94, .v 95, .v 96, .v 97, .v 98, .v 99, .v 100, .v 101, .v 102, .v 103, .v 104, .v 105, .v 106, .v 107, .v 108, .v 109, .v 110, .i .i64 1])
       (.sw 77 4
        (.cst .f32 0 <|
        .cst .f32 0 <|
        .cst .f32 0 <|
        .cst .f32 0 <|
        .cst .f32 0 <|
        .cst .f32 0 <|
        .cst .f32 0 <|
        .cst .f32 0 <|
        .cst .f32 0 <|
        .cst .f32 0 <|
        .cst .f32 0 <|
        .cst .f32 0 <|
        .cst .f32 0 <|
        .cst .f32 0 <|
        .cst .f32 0 <|
        .cst .f32 0 <|
        .cst .f32 0 <|
        .cst .f32 0 <|
        .cst .f32 0 <|
        .cst .f32 0 <|
        .cst .f32 0 <|
        .cst .f32 0 <|
        .cst .f32 0 <|
        .cst .f32 0 <|
        .cst .f32 0 <|
        .cst .f32 0 <|
        .cst .f32 0 <|
        .cst .f32 0 <|
        .cst .f32 0 <|
        .cst .f32 0 <|
        .cst .f32 0 <|
        .cst .f32 0 <|
        .cst .f32 0 <|
        .ret [.v 89, .v 90, .v 91, .v 92, .v 93, .v 94, .v 95, .v 96, .v 97, .v 98, .v 99, .v 100, .v 101, .v 102, .v 103, .v 104, .v 105, .v 106, .v 107, .v 108, .v 109, .v 110, .i .i64 1])
        (.sw 77 2
         (.cst .f32 0 <|
         .cst .f32 0 <|
         .cst .f32 0 <|
         .cst .f32 0 <|
         .cst .f32 0 <|
         .cst .f32 0 <|
         .cst .f32 0 <|
         .cst .f32 0 <|
         .cst .f32 0 <|
         .cst .f32 0 <|
         .cst .f32 0 <|
         .cst .f32 0 <|
         .cst .f32 0 <|
         .cst .f32 0 <|
         .cst .f32 0 <|
         .cst .f32 0 <|
         .cst .f32 0 <|
         .cst .f32 0 <|
         .cst .f32 0 <|
         .cst .f32 0 <|
         .cst .f32 0 <|
         .cst .f32 0 <|
         .cst .f32 0 <|
         .cst .f32 0 <|
         .cst .f32 0 <|
         .cst .f32 0 <|
         .cst .f32 0 <|
         .cst .f32 0 <|
         .cst .f32 0 <|
         .cst .f32 0 <|
         .cst .f32 0 <|
         .cst .f32 0 <|
         .cst .f32 0 <|
         .ret [.v 89, .v 90, .v 91, .v 92, .v 93, .v 94, .v 95, .v 96, .v 97, .v 98, .v 99, .v 100, .v 101, .v 102, .v 103, .v 104, .v 105, .v 106, .v 107, .v 108, .v 109, .v 110, .i .i64 1])
         (.sw 77 1
          (.cst .f32 0 <|
          .cst .f32 0 <|
          .cst .f32 0 <|
          .cst .f32 0 <|
          .cst .f32 0 <|
          .cst .f32 0 <|
          .cst .f32 0 <|
          .cst .f32 0 <|
          .cst .f32 0 <|
          .cst .f32 0 <|
          .cst .f32 0 <|
          .cst .f32 0 <|
          .cst .f32 0 <|
          .cst .f32 0 <|
          .cst .f32 0 <|
          .cst .f32 0 <|
          .cst .f32 0 <|
          .cst .f32 0 <|
          .cst .f32 0 <|
          .cst .f32 0 <|
          .cst .f32 0 <|
          .cst .f32 0 <|
          .cst .f32 0 <|
          .cst .f32 0 <|
          .cst .f32 0 <|
          .cst .f32 0 <|
          .cst .f32 0 <|
          .cst .f32 0 <|
          .cst .f32 0 <|
          .cst .f32 0 <|
          .cst .f32 0 <|
          .cst .f32 0 <|
          .cst .f32 0 <|
          .ret [.v 89, .v 90, .v 91, .v 92, .v 93, .v 94, .v 95, .v 96, .v 97, .v 98, .v 99, .v 100, .v 101, .v 102, .v 103, .v 104, .v 105, .v 106, .v 107, .v 108, .v 109, .v 110, .i .i64 1])
          (.bad "sw")))))
      (.bad "sw"))))
def s45 : Sum := ⟨45, [.agg [.f .f32, .f .f32, .f .f32, .f .f32, .f .f32, .f .f32, .f .f32, .f .f32, .f .f32, .f .f32, .f .f32], .val (.f .f32)], [.agg [.f .f32, .f .f32, .f .f32, .f .f32, .f .f32, .f .f32, .f .f32, .f .f32, .f .f32, .f .f32, .f .f32], .agg [.f .f32, .f .f32, .f .f32, .f .f32, .f .f32, .f .f32, .f .f32, .f .f32, .f .f32, .f .f32, .f .f32], .val (.i .i64 [0, 4, 2, 1])]⟩
/-- loop.example/g01249/impl.SubPoints -/
def t46 : T :=
  .cst .f32 0 <|
  .cst .f32 0 <|
  .cst .f32 0 <|
  .bin .sub .f32 0 3 <|
  .bin .sub .f32 1 4 <|
  .bin .sub .f32 2 5 <|
  .cst .f32 0 <|
  .cst .f32 0 <|
  .cst .f32 0 <|
  .ret [.v 9, .v 10, .v 11]
def s46 : Sum := ⟨46, [.agg [.f .f32, .f .f32, .f .f32], .agg [.f .f32, .f .f32, .f .f32]], [.agg [.f .f32, .f .f32, .f .f32]]⟩
/-- (*loop.example/g01249/impl.Camera).frame -/
def t47 : T :=
  .cst .f32 0 <|
  .cst .f32 0 <|
  .cst .f32 0 <|
  .cst .f32 0 <|
  .cst .f32 0 <|
  .cst .f32 0 <|
  .cst .f32 0 <|
  .cst .f32 0 <|
  .cst .f32 0 <|
  .call 46 [.v 3, .v 4, .v 5, .v 0, .v 1, .v 2] 3 <|
  .call 26 [.v 20, .v 21, .v 22] 4 <|
  .br 26
   (.cst .f32 0 <|
   .cst .f32 0 <|
   .cst .f32 0 <|
   .call 29 [.v 23, .v 24, .v 25, .v 6, .v 7, .v 8] 3 <|
   .call 26 [.v 30, .v 31, .v 32] 4 <|
   .br 36
    (.cst .f32 0 <|
    .cst .f32 0 <|
    .cst .f32 0 <|
    .call 29 [.v 33, .v 34, .v 35, .v 23, .v 24, .v 25] 3 <|
    .cst .f32 0 <|
    .cst .f32 0 <|
    .cst .f32 0 <|
    .cst .f32 0 <|
    .cst .f32 0 <|
    .cst .f32 0 <|
    .cst .f32 0 <|
    .cst .f32 0 <|
    .cst .f32 0 <|
    .ret [.v 33, .v 34, .v 35, .v 40, .v 41, .v 42, .v 23, .v 24, .v 25, .b true])
    (.cst .f32 0 <|
    .cst .f32 0 <|
    .cst .f32 0 <|
    .call 29 [.v 33, .v 34, .v 35, .v 23, .v 24, .v 25] 3 <|
    .cst .f32 0 <|
    .cst .f32 0 <|
    .cst .f32 0 <|
    .cst .f32 0 <|
    .cst .f32 0 <|
    .cst .f32 0 <|
    .cst .f32 0 <|
    .cst .f32 0 <|
    .cst .f32 0 <|
    .ret [.v 33, .v 34, .v 35, .v 40, .v 41, .v 42, .v 23, .v 24, .v 25, .b false]))
   (.cst .f32 0 <|
   .cst .f32 0 <|
   .cst .f32 0 <|
   .call 29 [.v 23, .v 24, .v 25, .v 6, .v 7, .v 8] 3 <|
   .call 26 [.v 30, .v 31, .v 32] 4 <|
   .br 36
    (.cst .f32 0 <|
    .cst .f32 0 <|
    .cst .f32 0 <|
    .call 29 [.v 33, .v 34, .v 35, .v 23, .v 24, .v 25] 3 <|
    .cst .f32 0 <|
    .cst .f32 0 <|
    .cst .f32 0 <|
    .cst .f32 0 <|
    .cst .f32 0 <|
    .cst .f32 0 <|
    .cst .f32 0 <|
    .cst .f32 0 <|
    .cst .f32 0 <|
    .ret [.v 33, .v 34, .v 35, .v 40, .v 41, .v 42, .v 23, .v 24, .v 25, .b false])
    (.cst .f32 0 <|
    .cst .f32 0 <|
    .cst .f32 0 <|
    .call 29 [.v 33, .v 34, .v 35, .v 23, .v 24, .v 25] 3 <|
    .cst .f32 0 <|
    .cst .f32 0 <|
    .cst .f32 0 <|
    .cst .f32 0 <|
    .cst .f32 0 <|
    .cst .f32 0 <|
    .cst .f32 0 <|
    .cst .f32 0 <|
    .cst .f32 0 <|
    .ret [.v 33, .v 34, .v 35, .v 40, .v 41, .v 42, .v 23, .v 24, .v 25, .b false]))
def s47 : Sum := ⟨47, [.ptr [.f .f32, .f .f32, .f .f32, .f .f32, .f .f32, .f .f32, .f .f32, .f .f32, .f .f32, .f .f32, .f .f32]], [.agg [.f .f32, .f .f32, .f .f32, .f .f32, .f .f32, .f .f32, .f .f32, .f .f32, .f .f32], .val (.b)]⟩
/-- loop.example/g01249/impl.ValidCamera -/
def t48 : T :=
  .cst .f32 0 <|
  .cst .f32 0 <|
  .cst .f32 0 <|
  .call 18 [.v 0, .v 1, .v 2] 1 <|
  .br 14
   (.ret [.b false])
   (.call 18 [.v 3, .v 4, .v 5] 1 <|
   .br 15
    (.ret [.b false])
    (.call 18 [.v 6, .v 7, .v 8] 1 <|
    .br 16
     (.ret [.b false])
     (.cst .f32 0 <|
     .call 16 [.v 9] 1 <|
     .br 18
      (.ret [.b false])
      (.call 16 [.v 10] 1 <|
      .br 19
       (.ret [.b false])
       (.cst .f32 1015021568 <|
       .tst 1 .f32 20 9
        (.cst .f32 1015021568 <|
        .tst 1 .f32 21 10
         (.call 47 [.v 0, .v 1, .v 2, .v 3, .v 4, .v 5, .v 6, .v 7, .v 8, .v 9, .v 10] 10 <|
         .br 31
          (.cst .f32 0 <|
          .cst .f32 0 <|
          .cst .f32 0 <|
          .cst .f32 0 <|
          .cst .f32 0 <|
          .cst .f32 0 <|
          .cst .f32 0 <|
          .cst .f32 0 <|
          .cst .f32 0 <|
          .ret [.b true])
          (.cst .f32 0 <|
          .cst .f32 0 <|
          .cst .f32 0 <|
          .cst .f32 0 <|
          .cst .f32 0 <|
          .cst .f32 0 <|
          .cst .f32 0 <|
          .cst .f32 0 <|
          .cst .f32 0 <|
          .ret [.b false]))
         (.ret [.b false]))
        (.ret [.b false]))))))
def s48 : Sum := ⟨48, [.agg [.f .f32, .f .f32, .f .f32, .f .f32, .f .f32, .f .f32, .f .f32, .f .f32, .f .f32, .f .f32, .f .f32]], [.val (.b)]⟩
/-- loop.example/g01249/impl.viewOf -/
def t49 : T :=
  .cst .f32 0 <|
  .cst .f32 0 <|
  .cst .f32 0 <|
  .cst .f32 0 <|
  .cst .f32 0 <|
  .cst .f32 0 <|
  .cst .f32 0 <|
  .cst .f32 0 <|
  .cst .f32 0 <|
  .cst .f32 0 <|
  .cst .f32 0 <|
  .cst .f32 0 <|
  .cst .f32 0 <|
  .cst .f32 0 <|
  .cst .f32 0 <|
  .cst .f32 0 <|
  .cst .f32 0 <|
  .cst .f32 0 <|
  .cst .f32 0 <|
  .cst .f32 0 <|
  .call 47 [.v 0, .v 1, .v 2, .v 3, .v 4, .v 5, .v 6, .v 7, .v 8, .v 9, .v 10] 10 <|
  .br 40
   (.cst .f32 0 <|
   .cst .f32 0 <|
   .cst .f32 0 <|
   .cst .f32 0 <|
   .cst .f32 0 <|
   .cst .f32 0 <|
   .cst .f32 0 <|
   .cst .f32 0 <|
   .cst .f32 0 <|
   .cst .f32 0 <|
   .cst .f32 0 <|
   .cst .f32 0 <|
   .cst .f32 0 <|
   .cst .f32 0 <|
   .cst .f32 0 <|
   .cst .f32 0 <|
   .cst .f32 0 <|
   .cst .f32 0 <|
   .cst .f32 0 <|
   .cst .f32 0 <|
   .cst .f32 0 <|
   .cst .f32 0 <|
   .cst .f32 0 <|
   .cst .f32 0 <|
   .cst .f32 0 <|
   .cst .f32 0 <|
   .cst .f32 0 <|
   .cst .f32 0 <|
   .cst .f32 0 <|
   .ret [.v 0, .v 1, .v 2, .v 3, .v 4, .v 5, .v 6, .v 7, .v 8, .v 9, .v 10, .v 31, .v 32, .v 33, .v 34, .v 35, .v 36, .v 37, .v 38, .v 39])
   (.cst .f32 0 <|
   .cst .f32 0 <|
   .cst .f32 0 <|
   .cst .f32 0 <|
   .cst .f32 0 <|
   .cst .f32 0 <|
   .cst .f32 0 <|
   .cst .f32 0 <|
   .cst .f32 0 <|
   .cst .f32 0 <|
   .cst .f32 0 <|
   .cst .f32 0 <|
   .cst .f32 0 <|
   .cst .f32 0 <|
   .cst .f32 0 <|
   .cst .f32 0 <|
   .cst .f32 0 <|
   .cst .f32 0 <|
   .cst .f32 0 <|
   .cst .f32 0 <|
   .cst .f32 0 <|
   .cst .f32 0 <|
   .cst .f32 0 <|
   .cst .f32 0 <|
   .cst .f32 0 <|
   .cst .f32 0 <|
   .cst .f32 0 <|
   .cst .f32 0 <|
   .cst .f32 0 <|
   .ret [.v 0, .v 1, .v 2, .v 3, .v 4, .v 5, .v 6, .v 7, .v 8, .v 9, .v 10, .v 31, .v 32, .v 33, .v 34, .v 35, .v 36, .v 37, .v 38, .v 39])
def s49 : Sum := ⟨49, [.agg [.f .f32, .f .f32, .f .f32, .f .f32, .f .f32, .f .f32, .f .f32, .f .f32, .f .f32, .f .f32, .f .f32]], [.agg [.f .f32, .f .f32, .f .f32, .f .f32, .f .f32, .f .f32, .f .f32, .f .f32, .f .f32, .f .f32, .f .f32, .f .f32, .f .f32, .f .f32, .f .f32, .f .f32, .f .f32, .f .f32, .f .f32, .f .f32]]⟩
/-- loop.example/g01249/impl.validCamera -/
def t50 : T :=
  .cst .f32 0 <|
  .cst .f32 0 <|
  .cst .f32 0 <|
  .cst .f32 0 <|
  .cst .f32 0 <|
  .cst .f32 0 <|
  .cst .f32 0 <|
  .cst .f32 0 <|
  .cst .f32 0 <|
  .cst .f32 0 <|
  .cst .f32 0 <|
  .call 48 [.v 0, .v 1, .v 2, .v 3, .v 4, .v 5, .v 6, .v 7, .v 8, .v 9, .v 10] 1 <|
  .br 22
   (.ret [.v 0, .v 1, .v 2, .v 3, .v 4, .v 5, .v 6, .v 7, .v 8, .v 9, .v 10, .i .i64 0])
   (.cst .f32 0 <|
   .cst .f32 0 <|
   .cst .f32 0 <|
   .cst .f32 0 <|
   .cst .f32 0 <|
   .cst .f32 0 <|
   .cst .f32 0 <|
   .cst .f32 0 <|
   .cst .f32 0 <|
   .cst .f32 0 <|
   .cst .f32 0 <|
   .ret [.v 23, .v 24, .v 25, .v 26, .v 27, .v 28, .v 29, .v 30, .v 31, .v 32, .v 33, .i .i64 4])
def s50 : Sum := ⟨50, [.agg [.f .f32, .f .f32, .f .f32, .f .f32, .f .f32, .f .f32, .f .f32, .f .f32, .f .f32, .f .f32, .f .f32]], [.agg [.f .f32, .f .f32, .f .f32, .f .f32, .f .f32, .f .f32, .f .f32, .f .f32, .f .f32, .f .f32, .f .f32], .val (.i .i64 [0, 4])]⟩
/-- loop.example/g01249/impl.MoveCamera -/
def t51 : T :=
  .cst .f32 0 <|
  .cst .f32 0 <|
  .cst .f32 0 <|
  .cst .f32 0 <|
  .cst .f32 0 <|
  .cst .f32 0 <|
  .cst .f32 0 <|
  .cst .f32 0 <|
  .cst .f32 0 <|
  .cst .f32 0 <|
  .cst .f32 0 <|
  .call 48 [.v 0, .v 1, .v 2, .v 3, .v 4, .v 5, .v 6, .v 7, .v 8, .v 9, .v 10] 1 <|
  .br 25
   (.cst .f32 0 <|
   .call 16 [.v 11] 1 <|
   .br 27
    (.cst .f32 0 <|
    .cst .f32 0 <|
    .cst .f32 0 <|
    .cst .f32 0 <|
    .cst .f32 0 <|
    .cst .f32 0 <|
    .cst .f32 0 <|
    .cst .f32 0 <|
    .cst .f32 0 <|
    .cst .f32 0 <|
    .cst .f32 0 <|
    .ret [.v 28, .v 29, .v 30, .v 31, .v 32, .v 33, .v 34, .v 35, .v 36, .v 37, .v 38, .i .i64 2])
    (.call 16 [.v 12] 1 <|
    .br 28
     (.cst .f32 0 <|
     .cst .f32 0 <|
     .cst .f32 0 <|
     .cst .f32 0 <|
     .cst .f32 0 <|
     .cst .f32 0 <|
     .cst .f32 0 <|
     .cst .f32 0 <|
     .cst .f32 0 <|
     .cst .f32 0 <|
     .cst .f32 0 <|
     .ret [.v 29, .v 30, .v 31, .v 32, .v 33, .v 34, .v 35, .v 36, .v 37, .v 38, .v 39, .i .i64 2])
     (.call 16 [.v 13] 1 <|
     .br 29
      (.cst .f32 0 <|
      .cst .f32 0 <|
      .cst .f32 0 <|
      .cst .f32 0 <|
      .cst .f32 0 <|
      .cst .f32 0 <|
      .cst .f32 0 <|
      .cst .f32 0 <|
      .cst .f32 0 <|
      .cst .f32 0 <|
      .cst .f32 0 <|
      .ret [.v 30, .v 31, .v 32, .v 33, .v 34, .v 35, .v 36, .v 37, .v 38, .v 39, .v 40, .i .i64 2])
      (.call 49 [.v 0, .v 1, .v 2, .v 3, .v 4, .v 5, .v 6, .v 7, .v 8, .v 9, .v 10] 20 <|
      .cst .f32 0 <|
      .cst .f32 0 <|
      .cst .f32 0 <|
      .cst .f32 0 <|
      .cst .f32 0 <|
      .cst .f32 0 <|
      .cst .f32 0 <|
      .cst .f32 0 <|
      .cst .f32 0 <|
      .call 28 [.v 41, .v 42, .v 43, .v 11] 3 <|
      .call 28 [.v 44, .v 45, .v 46, .v 12] 3 <|
      .call 30 [.v 59, .v 60, .v 61, .v 62, .v 63, .v 64] 3 <|
      .call 28 [.v 47, .v 48, .v 49, .v 13] 3 <|
      .call 30 [.v 65, .v 66, .v 67, .v 68, .v 69, .v 70] 3 <|
      .cst .f32 0 <|
      .cst .f32 0 <|
      .cst .f32 0 <|
      .call 30 [.v 0, .v 1, .v 2, .v 71, .v 72, .v 73] 3 <|
      .call 30 [.v 3, .v 4, .v 5, .v 71, .v 72, .v 73] 3 <|
      .call 50 [.v 77, .v 78, .v 79, .v 80, .v 81, .v 82, .v 6, .v 7, .v 8, .v 9, .v 10] 12 <|
      .sw 94 0
       (.ret [.v 83, .v 84, .v 85, .v 86, .v 87, .v 88, .v 89, .v 90, .v 91, .v 92, .v 93, .i .i64 0])
       (.sw 94 4
        (.ret [.v 83, .v 84, .v 85, .v 86, .v 87, .v 88, .v 89, .v 90, .v 91, .v 92, .v 93, .i .i64 4])
        (.bad "sw"))))))
   (.cst .f32 0 <|
   .call 16 [.v 11] 1 <|
   .br 27
    (.cst .f32 0 <|
    .cst .f32 0 <|
    .cst .f32 0 <|
    .cst .f32 0 <|
    .cst .f32 0 <|
    .cst .f32 0 <|
    .cst .f32 0 <|
    .cst .f32 0 <|
    .cst .f32 0 <|
    .cst .f32 0 <|
    .cst .f32 0 <|
    .ret [.v 28, .v 29, .v 30, .v 31, .v 32, .v 33, .v 34, .v 35, .v 36, .v 37, .v 38, .i .i64 1])
    (.call 16 [.v 12] 1 <|
    .br 28
     (.cst .f32 0 <|
     .cst .f32 0 <|
     .cst .f32 0 <|
     .cst .f32 0 <|
     .cst .f32 0 <|
     .cst .f32 0 <|
     .cst .f32 0 <|
     .cst .f32 0 <|
     .cst .f32 0 <|
     .cst .f32 0 <|
     .cst .f32 0 <|
     .ret [.v 29, .v 30, .v 31, .v 32, .v 33, .v 34, .v 35, .v 36, .v 37, .v 38, .v 39, .i .i64 1])
     (.call 16 [.v 13] 1 <|
     .br 29
      (.cst .f32 0 <|
      .cst .f32 0 <|
      .cst .f32 0 <|
      .cst .f32 0 <|
      .cst .f32 0 <|
      .cst .f32 0 <|
      .cst .f32 0 <|
      .cst .f32 0 <|
      .cst .f32 0 <|
      .cst .f32 0 <|
      .cst .f32 0 <|
      .ret [.v 30, .v 31, .v 32, .v 33, .v 34, .v 35, .v 36, .v 37, .v 38, .v 39, .v 40, .i .i64 1])
      (.cst .f32 0 <|
      .cst .f32 0 <|
      .cst .f32 0 <|
      .cst .f32 0 <|
      .cst .f32 0 <|
      .cst .f32 0 <|
      .cst .f32 0 <|
      .cst .f32 0 <|
      .cst .f32 0 <|
      .cst .f32 0 <|
      .cst .f32 0 <|
      .ret [.v 30, .v 31, .v 32, .v 33, .v 34, .v 35, .v 36, .v 37, .v 38, .v 39, .v 40, .i .i64 1]))))
def s51 : Sum := ⟨51, [.agg [.f .f32, .f .f32, .f .f32, .f .f32, .f .f32, .f .f32, .f .f32, .f .f32, .f .f32, .f .f32, .f .f32], .val (.f .f32), .val (.f .f32), .val (.f .f32)], [.agg [.f .f32, .f .f32, .f .f32, .f .f32, .f .f32, .f .f32, .f .f32, .f .f32, .f .f32, .f .f32, .f .f32], .val (.i .i64 [2, 0, 4, 1])]⟩
/-- loop.example/g01249/impl.TwoViews -/
def t52 : T :=
  .cst .f32 0 <|
  .cst .f32 0 <|
  .cst .f32 0 <|
  .cst .f32 0 <|
  .cst .f32 0 <|
  .cst .f32 0 <|
  .cst .f32 0 <|
  .cst .f32 0 <|
  .cst .f32 0 <|
  .cst .f32 0 <|
  .cst .f32 0 <|
  .cst .f32 0 <|
  .cst .f32 0 <|
  .cst .f32 0 <|
  .cst .f32 0 <|
  .cst .f32 0 <|
  .cst .f32 0 <|
  .cst .f32 0 <|
  .cst .f32 0 <|
  .cst .f32 0 <|
  .cst .f32 0 <|
  .cst .f32 0 <|
  .un .neg .f32 11 <|
  .cst .f32 1073741824 <|
  .bin .div .f32 34 35 <|
  .cst .f32 0 <|
  .cst .f32 0 <|
  .call 51 [.v 0, .v 1, .v 2, .v 3, .v 4, .v 5, .v 6, .v 7, .v 8, .v 9, .v 10, .v 36, .v 37, .v 38] 12 <|
  .sw 50 2
   (.cst .f32 0 <|
   .cst .f32 0 <|
   .cst .f32 0 <|
   .cst .f32 0 <|
   .cst .f32 0 <|
   .cst .f32 0 <|
   .cst .f32 0 <|
   .cst .f32 0 <|
   .cst .f32 0 <|
   .cst .f32 0 <|
   .cst .f32 0 <|
   .cst .f32 1073741824 <|
   .bin .div .f32 11 62 <|
   .cst .f32 0 <|
   .cst .f32 0 <|
   .call 51 [.v 0, .v 1, .v 2, .v 3, .v 4, .v 5, .v 6, .v 7, .v 8, .v 9, .v 10, .v 63, .v 64, .v 65] 12 <|
   .sw 77 2
    (.cst .f32 0 <|
    .cst .f32 0 <|
    .cst .f32 0 <|
    .cst .f32 0 <|
    .cst .f32 0 <|
    .cst .f32 0 <|
    .cst .f32 0 <|
    .cst .f32 0 <|
    .cst .f32 0 <|
    .cst .f32 0 <|
    .cst .f32 0 <|
    .cst .f32 0 <|
    .cst .f32 0 <|
    .cst .f32 0 <|
    .cst .f32 0 <|
    .cst .f32 0 <|
    .cst .f32 0 <|
    .cst .f32 0 <|
    .cst .f32 0 <|
    .cst .f32 0 <|
    .cst .f32 0 <|
    .cst .f32 0 <|
    .cst .f32 0 <|
    .cst .f32 0 <|
    .cst .f32 0 <|
    .cst .f32 0 <|
    .cst .f32 0 <|
    .cst .f32 0 <|
    .cst .f32 0 <|
    .cst .f32 0 <|
    .cst .f32 0 <|
    .cst .f32 0 <|
    .cst .f32 0 <|
    .ret [.v 89, .v 90, .v 91, .v 92, .v 93, .v 94, .v 95, .v 96, .v 97, .v 98, .v 99, .v 100, .v 101, .v 102, .v 103, .v 104, .v 105, .v 106, .v 107, .v 108, .v 109, .v 110, .i .i64 2])
    (.sw 77 0
     (.cst .f32 0 <|
     .cst .f32 0 <|
     .cst .f32 0 <|
     .cst .f32 0 <|
     .cst .f32 0 <|
     .cst .f32 0 <|
     .cst .f32 0 <|
     .cst .f32 0 <|
     .cst .f32 0 <|
     .cst .f32 0 <|
     .cst .f32 0 <|
     .cst .f32 0 <|
     .cst .f32 0 <|
     .cst .f32 0 <|
     .cst .f32 0 <|
     .cst .f32 0 <|
     .cst .f32 0 <|
     .cst .f32 0 <|
     .cst .f32 0 <|
     .cst .f32 0 <|
     .cst .f32 0 <|
     .cst .f32 0 <|
     .cst .f32 0 <|
     .cst .f32 0 <|
     .cst .f32 0 <|
     .cst .f32 0 <|
     .cst .f32 0 <|
     .cst .f32 0 <|
     .cst .f32 0 <|
     .cst .f32 0 <|
     .cst .f32 0 <|
     .cst .f32 0 <|
     .cst .f32 0 <|
     .ret [.v 89, .v 90, .v 91, .v 92, .v 93, .v 94, .v 95, .v 96, .v 97, .v 98, .v 99, .v 100, .v 101, .v 102, .v 103, .v 104, .v 105, .v 106, .v 107, .v 108, .v 109, .v 110, .i .i64 2])
     (.sw 77 4
      (.cst .f32 0 <|
      .cst .f32 0 <|
      .cst .f32 0 <|
      .cst .f32 0 <|
      .cst .f32 0 <|
      .cst .f32 0 <|
      .cst .f32 0 <|
      .cst .f32 0 <|
      .cst .f32 0 <|
      .cst .f32 0 <|
      .cst .f32 0 <|
      .cst .f32 0 <|
      .cst .f32 0 <|
      .cst .f32 0 <|
      .cst .f32 0 <|
      .cst .f32 0 <|
      .cst .f32 0 <|
      .cst .f32 0 <|
      .cst .f32 0 <|
      .cst .f32 0 <|
      .cst .f32 0 <|
      .cst .f32 0 <|
      .cst .f32 0 <|
      .cst .f32 0 <|
      .cst .f32 0 <|
      .cst .f32 0 <|
      .cst .f32 0 <|
      .cst .f32 0 <|
      .cst .f32 0 <|
      .cst .f32 0 <|
      .cst .f32 0 <|
      .cst .f32 0 <|
      .cst .f32 0 <|
      .ret [.v 89, .v 90, .v 91, .v 92, .v 93, .v 94, .v 95, .v 96, .v 97, .v 98, .v 99, .v 100, .v 101, .v 102, .v 103, .v 104, .v 105, .v 106, .v 107, .v 108, .v 109, .v 110, .i .i64 2])
      (.sw 77 1
       (.cst .f32 0 <|
       .cst .f32 0 <|
       .cst .f32 0 <|
       .cst .f32 0 <|
       .cst .f32 0 <|
       .cst .f32 0 <|
       .cst .f32 0 <|
       .cst .f32 0 <|
       .cst .f32 0 <|
       .cst .f32 0 <|
       .cst .f32 0 <|
       .cst .f32 0 <|
       .cst .f32 0 <|
       .cst .f32 0 <|
       .cst .f32 0 <|
       .cst .f32 0 <|
       .cst .f32 0 <|
       .cst .f32 0 <|
       .cst .f32 0 <|
       .cst .f32 0 <|
       .cst .f32 0 <|
       .cst .f32 0 <|
       .cst .f32 0 <|
       .cst .f32 0 <|
       .cst .f32 0 <|
       .cst .f32 0 <|
       .cst .f32 0 <|
       .cst .f32 0 <|
       .cst .f32 0 <|
       .cst .f32 0 <|
       .cst .f32 0 <|
       .cst .f32 0 <|
       .cst .f32 0 <|
       .ret [.v 89, .v 90, .v 91, .v 92, .v 93, .v 94, .v 95, .v 96, .v 97, .v 98, .v 99, .v 100, .v 101, .v 102, .v 103, .v 104, .v 105, .v 106, .v 107, .v 108, .v 109, .v 110, .i .i64 2])
       (.bad "sw")))))
   (.sw 50 0
    (.cst .f32 0 <|
    .cst .f32 0 <|
    .cst .f32 0 <|
    .cst .f32 0 <|
    .cst .f32 0 <|
    .cst .f32 0 <|
    .cst .f32 0 <|
    .cst .f32 0 <|
    .cst .f32 0 <|
    .cst .f32 0 <|
    .cst .f32 0 <|
    .cst .f32 1073741824 <|
    .bin .div .f32 11 62 <|
    .cst .f32 0 <|
    .cst .f32 0 <|
    .call 51 [.v 0, .v 1, .v 2, .v 3, .v 4, .v 5, .v 6, .v 7, .v 8, .v 9, .v 10, .v 63, .v 64, .v 65] 12 <|
    .sw 77 2
     (.cst .f32 0 <|
     .cst .f32 0 <|
     .cst .f32 0 <|
     .cst .f32 0 <|
     .cst .f32 0 <|
     .cst .f32 0 <|
     .cst .f32 0 <|
     .cst .f32 0 <|
     .cst .f32 0 <|
     .cst .f32 0 <|
     .cst .f32 0 <|
     .cst .f32 0 <|
     .cst .f32 0 <|
     .cst .f32 0 <|
     .cst .f32 0 <|
     .cst .f32 0 <|
     .cst .f32 0 <|
     .cst .f32 0 <|
     .cst .f32 0 <|
     .cst .f32 0 <|
     .cst .f32 0 <|
     .cst .f32 0 <|
     .cst .f32 0 <|
     .cst .f32 0 <|
     .cst .f32 0 <|
     .cst .f32 0 <|
     .cst .f32 0 <|
     .cst .f32 0 <|
     .cst .f32 0 <|
     .cst .f32 0 <|
     .cst .f32 0 <|
     .cst .f32 0 <|
     .cst .f32 0 <|
     .ret [.v 89, .v 90, .v 91, .v 92, .v 93, .v 94, .v 95, .v 96, .v 97, .v 98, .v 99, .v 100, .v 101, .v 102, .v 103, .v 104, .v 105, .v 106, .v 107, .v 108, .v 109, .v 110, .i .i64 2])
     (.sw 77 0
      (.cst .f32 0 <|
      .cst .f32 0 <|
      .cst .f32 0 <|
      .cst .f32 0 <|
      .cst .f32 0 <|
      .cst .f32 0 <|
      .cst .f32 0 <|
      .cst .f32 0 <|
      .cst .f32 0 <|
      .cst .f32 0 <|
      .cst .f32 0 <|
      .ret [.v 39, .v 40, .v 41, .v 42, .v 43, .v 44, .v 45, .v 46, .v 47, .v 48, .v 49, .v 66, .v 67, .v 68, .v 69, .v 70, .v 71, .v 72, .v 73, .v 74, .v 75, .v 76, .i .i64 0])
      (.sw 77 4
       (.cst .f32 0 <|
       .cst .f32 0 <|
       .cst .f32 0 <|
       .cst .f32 0 <|
       .cst .f32 0 <|
       .cst .f32 0 <|
       .cst .f32 0 <|
       .cst .f32 0 <|
       .cst .f32 0 <|
       .cst .f32 0 <|
       .cst .f32 0 <|
       .cst .f32 0 <|
       .cst .f32 0 <|
       .cst .f32 0 <|
       .cst .f32 0 <|
       .cst .f32 0 <|
       .cst .f32 0 <|
       .cst .f32 0 <|
       .cst .f32 0 <|
       .cst .f32 0 <|
       .cst .f32 0 <|
       .cst .f32 0 <|
       .cst .f32 0 <|
       .cst .f32 0 <|
       .cst .f32 0 <|
       .cst .f32 0 <|
       .cst .f32 0 <|
       .cst .f32 0 <|
       .cst .f32 0 <|
       .cst .f32 0 <|
       .cst .f32 0 <|
       .cst .f32 0 <|
       .cst .f32 0 <|
       .ret [.v 89, .v 90, .v 91, .v 92, .v 93, .v 94, .v 95, .v 96, .v 97, .v 98, .v 99, .v 100, .v 101, .v 102, .v 103, .v 104, .v 105, .v 106, .v 107, .v 108, .v 109, .v 110, .i .i64 4])
       (.sw 77 1
        (.cst .f32 0 <|
        .cst .f32 0 <|
        .cst .f32 0 <|
        .cst .f32 0 <|
        .cst .f32 0 <|
        .cst .f32 0 <|
        .cst .f32 0 <|
        .cst .f32 0 <|
        .cst .f32 0 <|
        .cst .f32 0 <|
        .cst .f32 0 <|
        .cst .f32 0 <|
        .cst .f32 0 <|
        .cst .f32 0 <|
        .cst .f32 0 <|
        .cst .f32 0 <|
        .cst .f32 0 <|
        .cst .f32 0 <|
        .cst .f32 0 <|
        .cst .f32 0 <|
        .cst .f32 0 <|
        .cst .f32 0 <|
        .cst .f32 0 <|
        .cst .f32 0 <|
        .cst .f32 0 <|
        .cst .f32 0 <|
        .cst .f32 0 <|
        .cst .f32 0 <|
        .cst .f32 0 <|
        .cst .f32 0 <|
        .cst .f32 0 <|
        .cst .f32 0 <|
        .cst .f32 0 <|
        .ret [.v 89, .v 90, .v 91, .v 92, .v 93, .v 94, .v 95, .v 96, .v 97, .v 98, .v 99, .v 100, .v 101, .v 102, .v 103, .v 104, .v 105, .v 106, .v 107, .v 108, .v 109, .v 110, .i .i64 1])
        (.bad "sw")))))
    (.sw 50 4
     (.cst .f32 0 <|
     .cst .f32 0 <|
     .cst .f32 0 <|
     .cst .f32 0 <|
     .cst .f32 0 <|
     .cst .f32 0 <|
     .cst .f32 0 <|
     .cst .f32 0 <|
     .cst .f32 0 <|
     .cst .f32 0 <|
     .cst .f32 0 <|
     .cst .f32 1073741824 <|
     .bin .div .f32 11 62 <|
     .cst .f32 0 <|
     .cst .f32 0 <|
     .call 51 [.v 0, .v 1, .v 2, .v 3, .v 4, .v 5, .v 6, .v 7, .v 8, .v 9, .v 10, .v 63, .v 64, .v 65] 12 <|
     .sw 77 2
      (.cst .f32 0 <|
      .cst .f32 0 <|
      .cst .f32 0 <|
      .cst .f32 0 <|
      .cst .f32 0 <|
      .cst .f32 0 <|
      .cst .f32 0 <|
      .cst .f32 0 <|
      .cst .f32 0 <|
      .cst .f32 0 <|
      .cst .f32 0 <|
      .cst .f32 0 <|
      .cst .f32 0 <|
      .cst .f32 0 <|
      .cst .f32 0 <|
      .cst .f32 0 <|
      .cst .f32 0 <|
      .cst .f32 0 <|
      .cst .f32 0 <|
      .cst .f32 0 <|
      .cst .f32 0 <|
      .cst .f32 0 <|
      .cst .f32 0 <|
      .cst .f32 0 <|
      .cst .f32 0 <|
      .cst .f32 0 <|
      .cst .f32 0 <|
      .cst .f32 0 <|
      .cst .f32 0 <|
      .cst .f32 0 <|
      .cst .f32 0 <|
      .cst .f32 0 <|
      .cst .f32 0 <|
      .ret [.v 89, .v 90, .v 91, .v 92, .v 93, .v 94, .v 95, .v 96, .v 97, .v 98, .v 99, .v 100, .v 101, .v 102, .v 103, .v 104, .v 105, .v 106, .v 107, .v 108, .v 109, .v 110, .i .i64 4])
      (.sw 77 0
       (.cst .f32 0 <|
       .cst .f32 0 <|
       .cst .f32 0 <|
       .cst .f32 0 <|
       .cst .f32 0 <|
       .cst .f32 0 <|
       .cst .f32 0 <|
       .cst .f32 0 <|
       .cst .f32 0 <|
       .cst .f32 0 <|
       .cst .f32 0 <|
       .cst .f32 0 <|
       .cst .f32 0 <|
       .cst .f32 0 <|
       .cst .f32 0 <|
       .cst .f32 0 <|
       .cst .f32 0 <|
       .cst .f32 0 <|
       .cst .f32 0 <|
       .cst .f32 0 <|
       .cst .f32 0 <|
       .cst .f32 0 <|
       .cst .f32 0 <|
       .cst .f32 0 <|
       .cst .f32 0 <|
       .cst .f32 0 <|
       .cst .f32 0 <|
       .cst .f32 0 <|
       .cst .f32 0 <|
       .cst .f32 0 <|
       .cst .f32 0 <|
       .cst .f32 0 <|
       .cst .f32 0 <|
       .ret [.v 89, .v 90, .v 91, .v 92, .v 93, .v 94, .v 95, .v 96, .v 97, .v 98, .v 99, .v 100, .v 101, .v 102, .v 103, .v 104, .v 105, .v 106, .v 107, .v 108, .v 109, .v 110, .i .i64 4])
       (.sw 77 4
        (.cst .f32 0 <|
        .cst .f32 0 <|
        .cst .f32 0 <|
        .cst .f32 0 <|
        .cst .f32 0 <|
        .cst .f32 0 <|
        .cst .f32 0 <|
        .cst .f32 0 <|
        .cst .f32 0 <|
        .cst .f32 0 <|
        .cst .f32 0 <|
        .cst .f32 0 <|
        .cst .f32 0 <|
        .cst .f32 0 <|
        .cst .f32 0 <|
        .cst .f32 0 <|
        .cst .f32 0 <|
        .cst .f32 0 <|
        .cst .f32 0 <|
        .cst .f32 0 <|
        .cst .f32 0 <|
        .cst .f32 0 <|
        .cst .f32 0 <|
        .cst .f32 0 <|
        .cst .f32 0 <|
        .cst .f32 0 <|
        .cst .f32 0 <|
        .cst .f32 0 <|
        .cst .f32 0 <|
        .cst .f32 0 <|
        .cst .f32 0 <|
        .cst .f32 0 <|
        .cst .f32 0 <|
        .ret [.v 89, .v 90, .v 91, .v 92, .v 93, .v 94, .v 95, .v 96, .v 97, .v 98, .v 99, .v 100, .v 101, .v 102, .v 103, .v 104, .v 105, .v 106, .v 107, .v 108, .v 109, .v 110, .i .i64 4])
        (.sw 77 1
         (.cst .f32 0 <|
         .cst .f32 0 <|
         .cst .f32 0 <|
         .cst .f32 0 <|
         .cst .f32 0 <|
         .cst .f32 0 <|
         .cst .f32 0 <|
         .cst .f32 0 <|
         .cst .f32 0 <|
         .cst .f32 0 <|
         .cst .f32 0 <|
         .cst .f32 0 <|
         .cst .f32 0 <|
         .cst .f32 0 <|
         .cst .f32 0 <|
         .cst .f32 0 <|
         .cst .f32 0 <|
         .cst .f32 0 <|
         .cst .f32 0 <|
         .cst .f32 0 <|
         .cst .f32 0 <|
         .cst .f32 0 <|
         .cst .f32 0 <|
         .cst .f32 0 <|
         .cst .f32 0 <|
         .cst .f32 0 <|
         .cst .f32 0 <|
         .cst .f32 0 <|
         .cst .f32 0 <|
         .cst .f32 0 <|
         .cst .f32 0 <|
         .cst .f32 0 <|
         .cst .f32 0 <|
         .ret [.v 89, .v 90, .v 91, .v 92, .v 93, .v 94, .v 95, .v 96, .v 97, .v 98, .v 99, .v 100, .v 101, .v 102, .v 103, .v 104, .v 105, .v 106, .v 107, .v 108, .v 109, .v 110, .i .i64 4])
         (.bad "sw")))))
     (.sw 50 1
      (.cst .f32 0 <|
      .cst .f32 0 <|
      .cst .f32 0 <|
      .cst .f32 0 <|
      .cst .f32 0 <|
      .cst .f32 0 <|
      .cst .f32 0 <|
      .cst .f32 0 <|
      .cst .f32 0 <|
      .cst .f32 0 <|
      .cst .f32 0 <|
      .cst .f32 1073741824 <|
      .bin .div .f32 11 62 <|
      .cst .f32 0 <|
      .cst .f32 0 <|
      .call 51 [.v 0, .v 1, .v 2, .v 3, .v 4, .v 5, .v 6, .v 7, .v 8, .v 9, .v 10, .v 63, .v 64, .v 65] 12 <|
      .sw 77 2
       (.cst .f32 0 <|
       .cst .f32 0 <|
       .cst .f32 0 <|
       .cst .f32 0 <|
       .cst .f32 0 <|
       .cst .f32 0 <|
       .cst .f32 0 <|
       .cst .f32 0 <|
       .cst .f32 0 <|
       .cst .f32 0 <|
       .cst .f32 0 <|
       .cst .f32 0 <|
       .cst .f32 0 <|
       .cst .f32 0 <|
       .cst .f32 0 <|
       .cst .f32 0 <|
       .cst .f32 0 <|
       .cst .f32 0 <|
       .cst .f32 0 <|
       .cst .f32 0 <|
       .cst .f32 0 <|
       .cst .f32 0 <|
       .cst .f32 0 <|
       .cst .f32 0 <|
       .cst .f32 0 <|
       .cst .f32 0 <|
       .cst .f32 0 <|
       .cst .f32 0 <|
       .cst .f32 0 <|
       .cst .f32 0 <|
       .cst .f32 0 <|
       .cst .f32 0 <|
       .cst .f32 0 <|
       .ret [.v 89, .v 90, .v 91, .v 92, .v 93, .v 94, .v 95, .v 96, .v 97, .v 98, .v 99, .v 100, .v 101, .v 102, .v 103, .v 104, .v 105, .v 106, .v 107, .v 108, .v 109, .v 110, .i .i64 1])
       (.sw 77 0
        (.cst .f32 0 <|
        .cst .f32 0 <|
        .cst .f32 0 <|
        .cst .f32 0 <|
        .cst .f32 0 <|
        .cst .f32 0 <|
        .cst .f32 0 <|
        .cst .f32 0 <|
        .cst .f32 0 <|
        .cst .f32 0 <|
        .cst .f32 0 <|
        .cst .f32 0 <|
        .cst .f32 0 <|
        .cst .f32 0 <|
        .cst .f32 0 <|
        .cst .f32 0 <|
        .cst .f32 0 <|
        .cst .f32 0 <|
        .cst .f32 0 <|
        .cst .f32 0 <|
        .cst .f32 0 <|
        .cst .f32 0 <|
        .cst .f32 0 <|
        .cst .f32 0 <|
        .cst .f32 0 <|
        .cst .f32 0 <|
        .cst .f32 0 <|
        .cst .f32 0 <|
        .cst .f32 0 <|
        .cst .f32 0 <|
        .cst .f32 0 <|
        .cst .f32 0 <|
        .cst .f32 0 <|
        .ret [.v 89, .v 90, .v 91, .v 92, .v 93, .v 94, .v 95, .v 96, .v 97, .v 98, .v 99, .v 100, .v 101, .v 102, .v 103, .v 104, .v 105, .v 106, .v 107, .v 108, .v 109, .v 110, .i .i64 1])
        (.sw 77 4
         (.cst .f32 0 <|
         .cst .f32 0 <|
         .cst .f32 0 <|
         .cst .f32 0 <|
         .cst .f32 0 <|
         .cst .f32 0 <|
         .cst .f32 0 <|
         .cst .f32 0 <|
         .cst .f32 0 <|
         .cst .f32 0 <|
         .cst .f32 0 <|
         .cst .f32 0 <|
         .cst .f32 0 <|
         .cst .f32 0 <|
         .cst .f32 0 <|
         .cst .f32 0 <|
         .cst .f32 0 <|
         .cst .f32 0 <|
         .cst .f32 0 <|
         .cst .f32 0 <|
         .cst .f32 0 <|
         .cst .f32 0 <|
         .cst .f32 0 <|
         .cst .f32 0 <|
         .cst .f32 0 <|
         .cst .f32 0 <|
         .cst .f32 0 <|
         .cst .f32 0 <|
         .cst .f32 0 <|
         .cst .f32 0 <|
         .cst .f32 0 <|
         .cst .f32 0 <|
         .cst .f32 0 <|
         .ret [.v 89, .v 90, .v 91, .v 92, .v 93, .v 94, .v 95, .v 96, .v 97, .v 98, .v 99, .v 100, .v 101, .v 102, .v 103, .v 104, .v 105, .v 106, .v 107, .v 108, .v 109, .v 110, .i .i64 1])
         (.sw 77 1
          (.cst .f32 0 <|
          .cst .f32 0 <|
          .cst .f32 0 <|
          .cst .f32 0 <|
          .cst .f32 0 <|
          .cst .f32 0 <|
          .cst .f32 0 <|
          .cst .f32 0 <|
          .cst .f32 0 <|
          .cst .f32 0 <|
          .cst .f32 0 <|
          .cst .f32 0 <|
          .cst .f32 0 <|
          .cst .f32 0 <|
          .cst .f32 0 <|
          .cst .f32 0 <|
          .cst .f32 0 <|
          .cst .f32 0 <|
          .cst .f32 0 <|
          .cst .f32 0 <|
          .cst .f32 0 <|
          .cst .f32 0 <|
          .cst .f32 0 <|
          .cst .f32 0 <|
          .cst .f32 0 <|
          .cst .f32 0 <|
          .cst .f32 0 <|
          .cst .f32 0 <|
          .cst .f32 0 <|
          .cst .f32 0 <|
          .cst .f32 0 <|
          .cst .f32 0 <|
          .cst .f32 0 <|
          .ret [.v 89, .v 90, .v 91, .v 92, .v 93, .v 94, .v 95, .v 96, .v 97, .v 98, .v 99, .v 100, .v 101, .v 102, .v 103, .v 104, .v 105, .v 106, .v 107, .v 108, .v 109, .v 110, .i .i64 1])
          (.bad "sw")))))
      (.bad "sw"))))
def s52 : Sum := ⟨52, [.agg [.f .f32, .f .f32, .f .f32, .f .f32, .f .f32, .f .f32, .f .f32, .f .f32, .f .f32, .f .f32, .f .f32], .val (.f .f32)], [.agg [.f .f32, .f .f32, .f .f32, .f .f32, .f .f32, .f .f32, .f .f32, .f .f32, .f .f32, .f .f32, .f .f32], .agg [.f .f32, .f .f32, .f .f32, .f .f32, .f .f32, .f .f32, .f .f32, .f .f32, .f .f32, .f .f32, .f .f32], .val (.i .i64 [2, 0, 4, 1])]⟩
/-- loop.example/g01249/laws.eqCamera -/
def t53 : T :=
  .call 35 [.v 0, .v 1, .v 2, .v 11, .v 12, .v 13] 1 <|
  .br 22
   (.call 35 [.v 3, .v 4, .v 5, .v 14, .v 15, .v 16] 1 <|
   .br 23
    (.call 35 [.v 6, .v 7, .v 8, .v 17, .v 18, .v 19] 1 <|
    .br 24
     (.un .widen .f32 9 <|
     .un .widen .f32 20 <|
     .call 34 [.v 25, .v 26] 1 <|
     .br 27
      (.un .widen .f32 10 <|
      .un .widen .f32 21 <|
      .call 34 [.v 28, .v 29] 1 <|
      .br 30
       (.ret [.b true])
       (.ret [.b false]))
      (.ret [.b false]))
     (.ret [.b false]))
    (.ret [.b false]))
   (.ret [.b false])
def s53 : Sum := ⟨53, [.agg [.f .f32, .f .f32, .f .f32, .f .f32, .f .f32, .f .f32, .f .f32, .f .f32, .f .f32, .f .f32, .f .f32], .agg [.f .f32, .f .f32, .f .f32, .f .f32, .f .f32, .f .f32, .f .f32, .f .f32, .f .f32, .f .f32, .f .f32]], [.val (.b)]⟩
/-- loop.example/g01249/laws.FnExactTwoViews -/
def t54 : T :=
  .call 37 [.v 0, .v 1, .v 2, .v 3, .v 4, .v 5, .v 6, .v 7, .v 8, .v 9, .v 10] 11 <|
  .call 45 [.v 12, .v 13, .v 14, .v 15, .v 16, .v 17, .v 18, .v 19, .v 20, .v 21, .v 22, .v 11] 23 <|
  .sw 45 0
   (.cst .f32 0 <|
   .cst .f32 0 <|
   .cst .f32 0 <|
   .cst .f32 0 <|
   .cst .f32 0 <|
   .cst .f32 0 <|
   .cst .f32 0 <|
   .cst .f32 0 <|
   .cst .f32 0 <|
   .cst .f32 0 <|
   .cst .f32 0 <|
   .cst .f32 0 <|
   .cst .f32 0 <|
   .cst .f32 0 <|
   .cst .f32 0 <|
   .cst .f32 0 <|
   .cst .f32 0 <|
   .cst .f32 0 <|
   .cst .f32 0 <|
   .cst .f32 0 <|
   .cst .f32 0 <|
   .cst .f32 0 <|
   .call 37 [.v 0, .v 1, .v 2, .v 3, .v 4, .v 5, .v 6, .v 7, .v 8, .v 9, .v 10] 11 <|
   .call 52 [.v 68, .v 69, .v 70, .v 71, .v 72, .v 73, .v 74, .v 75, .v 76, .v 77, .v 78, .v 11] 23 <|
   .sw 101 2
    (.cst .f32 0 <|
    .cst .f32 0 <|
    .cst .f32 0 <|
    .cst .f32 0 <|
    .cst .f32 0 <|
    .cst .f32 0 <|
    .cst .f32 0 <|
    .cst .f32 0 <|
    .cst .f32 0 <|
    .cst .f32 0 <|
    .cst .f32 0 <|
    .cst .f32 0 <|
    .cst .f32 0 <|
    .cst .f32 0 <|
    .cst .f32 0 <|
    .cst .f32 0 <|
    .cst .f32 0 <|
    .cst .f32 0 <|
    .cst .f32 0 <|
    .cst .f32 0 <|
    .cst .f32 0 <|
    .cst .f32 0 <|
    .call 53 [.v 79, .v 80, .v 81, .v 82, .v 83, .v 84, .v 85, .v 86, .v 87, .v 88, .v 89, .v 23, .v 24, .v 25, .v 26, .v 27, .v 28, .v 29, .v 30, .v 31, .v 32, .v 33] 1 <|
    .br 124
     (.call 53 [.v 90, .v 91, .v 92, .v 93, .v 94, .v 95, .v 96, .v 97, .v 98, .v 99, .v 100, .v 34, .v 35, .v 36, .v 37, .v 38, .v 39, .v 40, .v 41, .v 42, .v 43, .v 44] 1 <|
     .br 125
      (.ret [.b false])
      (.ret [.b false]))
     (.ret [.b false]))
    (.sw 101 0
     (.cst .f32 0 <|
     .cst .f32 0 <|
     .cst .f32 0 <|
     .cst .f32 0 <|
     .cst .f32 0 <|
     .cst .f32 0 <|
     .cst .f32 0 <|
     .cst .f32 0 <|
     .cst .f32 0 <|
     .cst .f32 0 <|
     .cst .f32 0 <|
     .cst .f32 0 <|
     .cst .f32 0 <|
     .cst .f32 0 <|
     .cst .f32 0 <|
     .cst .f32 0 <|
     .cst .f32 0 <|
     .cst .f32 0 <|
     .cst .f32 0 <|
     .cst .f32 0 <|
     .cst .f32 0 <|
     .cst .f32 0 <|
     .call 53 [.v 79, .v 80, .v 81, .v 82, .v 83, .v 84, .v 85, .v 86, .v 87, .v 88, .v 89, .v 23, .v 24, .v 25, .v 26, .v 27, .v 28, .v 29, .v 30, .v 31, .v 32, .v 33] 1 <|
     .br 124
      (.call 53 [.v 90, .v 91, .v 92, .v 93, .v 94, .v 95, .v 96, .v 97, .v 98, .v 99, .v 100, .v 34, .v 35, .v 36, .v 37, .v 38, .v 39, .v 40, .v 41, .v 42, .v 43, .v 44] 1 <|
      .br 125
       (.ret [.b true])
       (.ret [.b false]))
      (.ret [.b false]))
     (.sw 101 4
      (.cst .f32 0 <|
      .cst .f32 0 <|
      .cst .f32 0 <|
      .cst .f32 0 <|
      .cst .f32 0 <|
      .cst .f32 0 <|
      .cst .f32 0 <|
      .cst .f32 0 <|
      .cst .f32 0 <|
      .cst .f32 0 <|
      .cst .f32 0 <|
      .cst .f32 0 <|
      .cst .f32 0 <|
      .cst .f32 0 <|
      .cst .f32 0 <|
      .cst .f32 0 <|
      .cst .f32 0 <|
      .cst .f32 0 <|
      .cst .f32 0 <|
      .cst .f32 0 <|
      .cst .f32 0 <|
      .cst .f32 0 <|
      .call 53 [.v 79, .v 80, .v 81, .v 82, .v 83, .v 84, .v 85, .v 86, .v 87, .v 88, .v 89, .v 23, .v 24, .v 25, .v 26, .v 27, .v 28, .v 29, .v 30, .v 31, .v 32, .v 33] 1 <|
      .br 124
       (.call 53 [.v 90, .v 91, .v 92, .v 93, .v 94, .v 95, .v 96, .v 97, .v 98, .v 99, .v 100, .v 34, .v 35, .v 36, .v 37, .v 38, .v 39, .v 40, .v 41, .v 42, .v 43, .v 44] 1 <|
       .br 125
        (.ret [.b false])
        (.ret [.b false]))
       (.ret [.b false]))
      (.sw 101 1
       (.cst .f32 0 <|
       .cst .f32 0 <|
       .cst .f32 0 <|
       .cst .f32 0 <|
       .cst .f32 0 <|
       .cst .f32 0 <|
       .cst .f32 0 <|
       .cst .f32 0 <|
       .cst .f32 0 <|
       .cst .f32 0 <|
       .cst .f32 0 <|
       .cst .f32 0 <|
       .cst .f32 0 <|
       .cst .f32 0 <|
       .cst .f32 0 <|
       .cst .f32 0 <|
       .cst .f32 0 <|
       .cst .f32 0 <|
       .cst .f32 0 <|
       .cst .f32 0 <|
       .cst .f32 0 <|
       .cst .f32 0 <|
       .call 53 [.v 79, .v 80, .v 81, .v 82, .v 83, .v 84, .v 85, .v 86, .v 87, .v 88, .v 89, .v 23, .v 24, .v 25, .v 26, .v 27, .v 28, .v 29, .v 30, .v 31, .v 32, .v 33] 1 <|
       .br 124
        (.call 53 [.v 90, .v 91, .v 92, .v 93, .v 94, .v 95, .v 96, .v 97, .v 98, .v 99, .v 100, .v 34, .v 35, .v 36, .v 37, .v 38, .v 39, .v 40, .v 41, .v 42, .v 43, .v 44] 1 <|
        .br 125
         (.ret [.b false])
         (.ret [.b false]))
        (.ret [.b false]))
       (.bad "sw")))))
   (.sw 45 4
    (.cst .f32 0 <|
    .cst .f32 0 <|
    .cst .f32 0 <|
    .cst .f32 0 <|
    .cst .f32 0 <|
    .cst .f32 0 <|
    .cst .f32 0 <|
    .cst .f32 0 <|
    .cst .f32 0 <|
    .cst .f32 0 <|
    .cst .f32 0 <|
    .cst .f32 0 <|
    .cst .f32 0 <|
    .cst .f32 0 <|
    .cst .f32 0 <|
    .cst .f32 0 <|
    .cst .f32 0 <|
    .cst .f32 0 <|
    .cst .f32 0 <|
    .cst .f32 0 <|
    .cst .f32 0 <|
    .cst .f32 0 <|
    .call 37 [.v 0, .v 1, .v 2, .v 3, .v 4, .v 5, .v 6, .v 7, .v 8, .v 9, .v 10] 11 <|
    .call 52 [.v 68, .v 69, .v 70, .v 71, .v 72, .v 73, .v 74, .v 75, .v 76, .v 77, .v 78, .v 11] 23 <|
    .sw 101 2
     (.cst .f32 0 <|
     .cst .f32 0 <|
     .cst .f32 0 <|
     .cst .f32 0 <|
     .cst .f32 0 <|
     .cst .f32 0 <|
     .cst .f32 0 <|
     .cst .f32 0 <|
     .cst .f32 0 <|
     .cst .f32 0 <|
     .cst .f32 0 <|
     .cst .f32 0 <|
     .cst .f32 0 <|
     .cst .f32 0 <|
     .cst .f32 0 <|
     .cst .f32 0 <|
     .cst .f32 0 <|
     .cst .f32 0 <|
     .cst .f32 0 <|
     .cst .f32 0 <|
     .cst .f32 0 <|
     .cst .f32 0 <|
     .call 53 [.v 79, .v 80, .v 81, .v 82, .v 83, .v 84, .v 85, .v 86, .v 87, .v 88, .v 89, .v 23, .v 24, .v 25, .v 26, .v 27, .v 28, .v 29, .v 30, .v 31, .v 32, .v 33] 1 <|
     .br 124
      (.call 53 [.v 90, .v 91, .v 92, .v 93, .v 94, .v 95, .v 96, .v 97, .v 98, .v 99, .v 100, .v 34, .v 35, .v 36, .v 37, .v 38, .v 39, .v 40, .v 41, .v 42, .v 43, .v 44] 1 <|
      .br 125
       (.ret [.b false])
       (.ret [.b false]))
      (.ret [.b false]))
     (.sw 101 0
      (.cst .f32 0 <|
      .cst .f32 0 <|
      .cst .f32 0 <|
      .cst .f32 0 <|
      .cst .f32 0 <|
      .cst .f32 0 <|
      .cst .f32 0 <|
      .cst .f32 0 <|
      .cst .f32 0 <|
      .cst .f32 0 <|
      .cst .f32 0 <|
      .cst .f32 0 <|
      .cst .f32 0 <|
      .cst .f32 0 <|
      .cst .f32 0 <|
      .cst .f32 0 <|
      .cst .f32 0 <|
      .cst .f32 0 <|
      .cst .f32 0 <|
      .cst .f32 0 <|
      .cst .f32 0 <|
      .cst .f32 0 <|
      .call 53 [.v 79, .v 80, .v 81, .v 82, .v 83, .v 84, .v 85, .v 86, .v 87, .v 88, .v 89, .v 23, .v 24, .v 25, .v 26, .v 27, .v 28, .v 29, .v 30, .v 31, .v 32, .v 33] 1 <|
      .br 124
       (.call 53 [.v 90, .v 91, .v 92, .v 93, .v 94, .v 95, .v 96, .v 97, .v 98, .v 99, .v 100, .v 34, .v 35, .v 36, .v 37, .v 38, .v 39, .v 40, .v 41, .v 42, .v 43, .v 44] 1 <|
       .br 125
        (.ret [.b false])
        (.ret [.b false]))
       (.ret [.b false]))
      (.sw 101 4
       (.cst .f32 0 <|
       .cst .f32 0 <|
       .cst .f32 0 <|
       .cst .f32 0 <|
       .cst .f32 0 <|
       .cst .f32 0 <|
       .cst .f32 0 <|
       .cst .f32 0 <|
       .cst .f32 0 <|
       .cst .f32 0 <|
       .cst .f32 0 <|
       .cst .f32 0 <|
       .cst .f32 0 <|
       .cst .f32 0 <|
       .cst .f32 0 <|
       .cst .f32 0 <|
       .cst .f32 0 <|
       .cst .f32 0 <|
       .cst .f32 0 <|
       .cst .f32 0 <|
       .cst .f32 0 <|
       .cst .f32 0 <|
       .call 53 [.v 79, .v 80, .v 81, .v 82, .v 83, .v 84, .v 85, .v 86, .v 87, .v 88, .v 89, .v 23, .v 24, .v 25, .v 26, .v 27, .v 28, .v 29, .v 30, .v 31, .v 32, .v 33] 1 <|
       .br 124
        (.call 53 [.v 90, .v 91, .v 92, .v 93, .v 94, .v 95, .v 96, .v 97, .v 98, .v 99, .v 100, .v 34, .v 35, .v 36, .v 37, .v 38, .v 39, .v 40, .v 41, .v 42, .v 43, .v 44] 1 <|
        .br 125
         (.ret [.b true])
         (.ret [.b false]))
        (.ret [.b false]))
       (.sw 101 1
        (.cst .f32 0 <|
        .cst .f32 0 <|
        .cst .f32 0 <|
        .cst .f32 0 <|
        .cst .f32 0 <|
        .cst .f32 0 <|
        .cst .f32 0 <|
        .cst .f32 0 <|
        .cst .f32 0 <|
        .cst .f32 0 <|
        .cst .f32 0 <|
        .cst .f32 0 <|
        .cst .f32 0 <|
        .cst .f32 0 <|
        .cst .f32 0 <|
        .cst .f32 0 <|
        .cst .f32 0 <|
        .cst .f32 0 <|
        .cst .f32 0 <|
        .cst .f32 0 <|
        .cst .f32 0 <|
        .cst .f32 0 <|
        .call 53 [.v 79, .v 80, .v 81, .v 82, .v 83, .v 84, .v 85, .v 86, .v 87, .v 88, .v 89, .v 23, .v 24, .v 25, .v 26, .v 27, .v 28, .v 29, .v 30, .v 31, .v 32, .v 33] 1 <|
        .br 124
         (.call 53 [.v 90, .v 91, .v 92, .v 93, .v 94, .v 95, .v 96, .v 97, .v 98, .v 99, .v 100, .v 34, .v 35, .v 36, .v 37, .v 38, .v 39, .v 40, .v 41, .v 42, .v 43, .v 44] 1 <|
         .br 125
          (.ret [.b false])
          (.ret [.b false]))
         (.ret [.b false]))
        (.bad "sw")))))
    (.sw 45 2
     (.cst .f32 0 <|
     .cst .f32 0 <|
     .cst .f32 0 <|
     .cst .f32 0 <|
     .cst .f32 0 <|
     .cst .f32 0 <|
     .cst .f32 0 <|
     .cst .f32 0 <|
     .cst .f32 0 <|
     .cst .f32 0 <|
     .cst .f32 0 <|
     .cst .f32 0 <|
     .cst .f32 0 <|
     .cst .f32 0 <|
     .cst .f32 0 <|
     .cst .f32 0 <|
     .cst .f32 0 <|
     .cst .f32 0 <|
     .cst .f32 0 <|
     .cst .f32 0 <|
     .cst .f32 0 <|
     .cst .f32 0 <|
     .call 37 [.v 0, .v 1, .v 2, .v 3, .v 4, .v 5, .v 6, .v 7, .v 8, .v 9, .v 10] 11 <|
     .call 52 [.v 68, .v 69, .v 70, .v 71, .v 72, .v 73, .v 74, .v 75, .v 76, .v 77, .v 78, .v 11] 23 <|
     .sw 101 2
      (.cst .f32 0 <|
      .cst .f32 0 <|
      .cst .f32 0 <|
      .cst .f32 0 <|
      .cst .f32 0 <|
      .cst .f32 0 <|
      .cst .f32 0 <|
      .cst .f32 0 <|
      .cst .f32 0 <|
      .cst .f32 0 <|
      .cst .f32 0 <|
      .cst .f32 0 <|
      .cst .f32 0 <|
      .cst .f32 0 <|
      .cst .f32 0 <|
      .cst .f32 0 <|
      .cst .f32 0 <|
      .cst .f32 0 <|
      .cst .f32 0 <|
      .cst .f32 0 <|
      .cst .f32 0 <|
      .cst .f32 0 <|
      .call 53 [.v 79, .v 80, .v 81, .v 82, .v 83, .v 84, .v 85, .v 86, .v 87, .v 88, .v 89, .v 23, .v 24, .v 25, .v 26, .v 27, .v 28, .v 29, .v 30, .v 31, .v 32, .v 33] 1 <|
      .br 124
       (.call 53 [.v 90, .v 91, .v 92, .v 93, .v 94, .v 95, .v 96, .v 97, .v 98, .v 99, .v 100, .v 34, .v 35, .v 36, .v 37, .v 38, .v 39, .v 40, .v 41, .v 42, .v 43, .v 44] 1 <|
       .br 125
        (.ret [.b true])
        (.ret [.b false]))
       (.ret [.b false]))
      (.sw 101 0
       (.cst .f32 0 <|
       .cst .f32 0 <|
       .cst .f32 0 <|
       .cst .f32 0 <|
       .cst .f32 0 <|
       .cst .f32 0 <|
       .cst .f32 0 <|
       .cst .f32 0 <|
       .cst .f32 0 <|
       .cst .f32 0 <|
       .cst .f32 0 <|
       .cst .f32 0 <|
       .cst .f32 0 <|
       .cst .f32 0 <|
       .cst .f32 0 <|
       .cst .f32 0 <|
       .cst .f32 0 <|
       .cst .f32 0 <|
       .cst .f32 0 <|
       .cst .f32 0 <|
       .cst .f32 0 <|
       .cst .f32 0 <|
       .call 53 [.v 79, .v 80, .v 81, .v 82, .v 83, .v 84, .v 85, .v 86, .v 87, .v 88, .v 89, .v 23, .v 24, .v 25, .v 26, .v 27, .v 28, .v 29, .v 30, .v 31, .v 32, .v 33] 1 <|
       .br 124
        (.call 53 [.v 90, .v 91, .v 92, .v 93, .v 94, .v 95, .v 96, .v 97, .v 98, .v 99, .v 100, .v 34, .v 35, .v 36, .v 37, .v 38, .v 39, .v 40, .v 41, .v 42, .v 43, .v 44] 1 <|
        .br 125
         (.ret [.b false])
         (.ret [.b false]))
        (.ret [.b false]))
       (.sw 101 4
        (.cst .f32 0 <|
        .cst .f32 0 <|
        .cst .f32 0 <|
        .cst .f32 0 <|
        .cst .f32 0 <|
        .cst .f32 0 <|
        .cst .f32 0 <|
        .cst .f32 0 <|
        .cst .f32 0 <|
        .cst .f32 0 <|
        .cst .f32 0 <|
        .cst .f32 0 <|
        .cst .f32 0 <|
        .cst .f32 0 <|
        .cst .f32 0 <|
        .cst .f32 0 <|
        .cst .f32 0 <|
        .cst .f32 0 <|
        .cst .f32 0 <|
        .cst .f32 0 <|
        .cst .f32 0 <|
        .cst .f32 0 <|
        .call 53 [.v 79, .v 80, .v 81, .v 82, .v 83, .v 84, .v 85, .v 86, .v 87, .v 88, .v 89, .v 23, .v 24, .v 25, .v 26, .v 27, .v 28, .v 29, .v 30, .v 31, .v 32, .v 33] 1 <|
        .br 124
         (.call 53 [.v 90, .v 91, .v 92, .v 93, .v 94, .v 95, .v 96, .v 97, .v 98, .v 99, .v 100, .v 34, .v 35, .v 36, .v 37, .v 38, .v 39, .v 40, .v 41, .v 42, .v 43, .v 44] 1 <|
         .br 125
          (.ret [.b false])
          (.ret [.b false]))
         (.ret [.b false]))
        (.sw 101 1
         (.cst .f32 0 <|
         .cst .f32 0 <|
         .cst .f32 0 <|
         .cst .f32 0 <|
         .cst .f32 0 <|
         .cst .f32 0 <|
         .cst .f32 0 <|
         .cst .f32 0 <|
         .cst .f32 0 <|
         .cst .f32 0 <|
         .cst .f32 0 <|
         .cst .f32 0 <|
         .cst .f32 0 <|
         .cst .f32 0 <|
         .cst .f32 0 <|
         .cst .f32 0 <|
         .cst .f32 0 <|
         .cst .f32 0 <|
         .cst .f32 0 <|
         .cst .f32 0 <|
         .cst .f32 0 <|
         .cst .f32 0 <|
         .call 53 [.v 79, .v 80, .v 81, .v 82, .v 83, .v 84, .v 85, .v 86, .v 87, .v 88, .v 89, .v 23, .v 24, .v 25, .v 26, .v 27, .v 28, .v 29, .v 30, .v 31, .v 32, .v 33] 1 <|
         .br 124
          (.call 53 [.v 90, .v 91, .v 92, .v 93, .v 94, .v 95, .v 96, .v 97, .v 98, .v 99, .v 100, .v 34, .v 35, .v 36, .v 37, .v 38, .v 39, .v 40, .v 41, .v 42, .v 43, .v 44] 1 <|
          .br 125
           (.ret [.b false])
           (.ret [.b false]))
          (.ret [.b false]))
         (.bad "sw")))))
     (.sw 45 1
      (.cst .f32 0 <|
      .cst .f32 0 <|
      .cst .f32 0 <|
      .cst .f32 0 <|
      .cst .f32 0 <|
      .cst .f32 0 <|
      .cst .f32 0 <|
      .cst .f32 0 <|
      .cst .f32 0 <|
      .cst .f32 0 <|
      .cst .f32 0 <|
      .cst .f32 0 <|
      .cst .f32 0 <|
      .cst .f32 0 <|
      .cst .f32 0 <|
      .cst .f32 0 <|
      .cst .f32 0 <|
      .cst .f32 0 <|
      .cst .f32 0 <|
      .cst .f32 0 <|
      .cst .f32 0 <|
      .cst .f32 0 <|
      .call 37 [.v 0, .v 1, .v 2, .v 3, .v 4, .v 5, .v 6, .v 7, .v 8, .v 9, .v 10] 11 <|
      .call 52 [.v 68, .v 69, .v 70, .v 71, .v 72, .v 73, .v 74, .v 75, .v 76, .v 77, .v 78, .v 11] 23 <|
      .sw 101 2
       (.cst .f32 0 <|
       .cst .f32 0 <|
       .cst .f32 0 <|
       .cst .f32 0 <|
       .cst .f32 0 <|
       .cst .f32 0 <|
       .cst .f32 0 <|
       .cst .f32 0 <|
       .cst .f32 0 <|
       .cst .f32 0 <|
       .cst .f32 0 <|
       .cst .f32 0 <|
       .cst .f32 0 <|
       .cst .f32 0 <|
       .cst .f32 0 <|
       .cst .f32 0 <|
       .cst .f32 0 <|
       .cst .f32 0 <|
       .cst .f32 0 <|
       .cst .f32 0 <|
       .cst .f32 0 <|
       .cst .f32 0 <|
       .call 53 [.v 79, .v 80, .v 81, .v 82, .v 83, .v 84, .v 85, .v 86, .v 87, .v 88, .v 89, .v 23, .v 24, .v 25, .v 26, .v 27, .v 28, .v 29, .v 30, .v 31, .v 32, .v 33] 1 <|
       .br 124
        (.call 53 [.v 90, .v 91, .v 92, .v 93, .v 94, .v 95, .v 96, .v 97, .v 98, .v 99, .v 100, .v 34, .v 35, .v 36, .v 37, .v 38, .v 39, .v 40, .v 41, .v 42, .v 43, .v 44] 1 <|
        .br 125
         (.ret [.b false])
         (.ret [.b false]))
        (.ret [.b false]))
       (.sw 101 0
        (.cst .f32 0 <|
        .cst .f32 0 <|
        .cst .f32 0 <|
        .cst .f32 0 <|
        .cst .f32 0 <|
        .cst .f32 0 <|
        .cst .f32 0 <|
        .cst .f32 0 <|
        .cst .f32 0 <|
        .cst .f32 0 <|
        .cst .f32 0 <|
        .cst .f32 0 <|
        .cst .f32 0 <|
        .cst .f32 0 <|
        .cst .f32 0 <|
        .cst .f32 0 <|
        .cst .f32 0 <|
        .cst .f32 0 <|
        .cst .f32 0 <|
        .cst .f32 0 <|
        .cst .f32 0 <|
        .cst .f32 0 <|
        .call 53 [.v 79, .v 80, .v 81, .v 82, .v 83, .v 84, .v 85, .v 86, .v 87, .v 88, .v 89, .v 23, .v 24, .v 25, .v 26, .v 27, .v 28, .v 29, .v 30, .v 31, .v 32, .v 33] 1 <|
        .br 124
         (.call 53 [.v 90, .v 91, .v 92, .v 93, .v 94, .v 95, .v 96, .v 97, .v 98, .v 99, .v 100, .v 34, .v 35, .v 36, .v 37, .v 38, .v 39, .v 40, .v 41, .v 42, .v 43, .v 44] 1 <|
         .br 125
          (.ret [.b false])
          (.ret [.b false]))
         (.ret [.b false]))
        (.sw 101 4
         (.cst .f32 0 <|
         .cst .f32 0 <|
         .cst .f32 0 <|
         .cst .f32 0 <|
         .cst .f32 0 <|
         .cst .f32 0 <|
         .cst .f32 0 <|
         .cst .f32 0 <|
         .cst .f32 0 <|
         .cst .f32 0 <|
         .cst .f32 0 <|
         .cst .f32 0 <|
         .cst .f32 0 <|
         .cst .f32 0 <|
         .cst .f32 0 <|
         .cst .f32 0 <|
         .cst .f32 0 <|
         .cst .f32 0 <|
         .cst .f32 0 <|
         .cst .f32 0 <|
         .cst .f32 0 <|
         .cst .f32 0 <|
         .call 53 [.v 79, .v 80, .v 81, .v 82, .v 83, .v 84, .v 85, .v 86, .v 87, .v 88, .v 89, .v 23, .v 24, .v 25, .v 26, .v 27, .v 28, .v 29, .v 30, .v 31, .v 32, .v 33] 1 <|
         .br 124
          (.call 53 [.v 90, .v 91, .v 92, .v 93, .v 94, .v 95, .v 96, .v 97, .v 98, .v 99, .v 100, .v 34, .v 35, .v 36, .v 37, .v 38, .v 39, .v 40, .v 41, .v 42, .v 43, .v 44] 1 <|
          .br 125
           (.ret [.b false])
           (.ret [.b false]))
          (.ret [.b false]))
         (.sw 101 1
          (.cst .f32 0 <|
          .cst .f32 0 <|
          .cst .f32 0 <|
          .cst .f32 0 <|
          .cst .f32 0 <|
          .cst .f32 0 <|
          .cst .f32 0 <|
          .cst .f32 0 <|
          .cst .f32 0 <|
          .cst .f32 0 <|
          .cst .f32 0 <|
          .cst .f32 0 <|
          .cst .f32 0 <|
          .cst .f32 0 <|
          .cst .f32 0 <|
          .cst .f32 0 <|
          .cst .f32 0 <|
          .cst .f32 0 <|
          .cst .f32 0 <|
          .cst .f32 0 <|
          .cst .f32 0 <|
          .cst .f32 0 <|
          .call 53 [.v 79, .v 80, .v 81, .v 82, .v 83, .v 84, .v 85, .v 86, .v 87, .v 88, .v 89, .v 23, .v 24, .v 25, .v 26, .v 27, .v 28, .v 29, .v 30, .v 31, .v 32, .v 33] 1 <|
          .br 124
           (.call 53 [.v 90, .v 91, .v 92, .v 93, .v 94, .v 95, .v 96, .v 97, .v 98, .v 99, .v 100, .v 34, .v 35, .v 36, .v 37, .v 38, .v 39, .v 40, .v 41, .v 42, .v 43, .v 44] 1 <|
           .br 125
            (.ret [.b true])
            (.ret [.b false]))
           (.ret [.b false]))
          (.bad "sw")))))
      (.bad "sw"))))
def s54 : Sum := ⟨54, [.agg [.f .f32, .f .f32, .f .f32, .f .f32, .f .f32, .f .f32, .f .f32, .f .f32, .f .f32, .f .f32, .f .f32], .val (.f .f32)], [.val (.b)]⟩
/-- loop.example/g01249/spec.l02Depth -/
def t55 : T :=
  .cst .f32 0 <|
  .call 38 [.v 20, .v 21, .v 22, .v 0, .v 1, .v 2] 3 <|
  .call 3 [.v 24, .v 25, .v 26, .v 17, .v 18, .v 19] 1 <|
  .ret [.v 27]
def s55 : Sum := ⟨55, [.ptr [.f .f32, .f .f32, .f .f32, .f .f32, .f .f32, .f .f32, .f .f32, .f .f32, .f .f32, .f .f32, .f .f32], .ptr [.f .f32, .f .f32, .f .f32, .f .f32, .f .f32, .f .f32, .f .f32, .f .f32, .f .f32], .agg [.f .f32, .f .f32, .f .f32]], [.val (.f .f32)]⟩
/-- loop.example/g01249/spec.BetweenPoints -/
def t56 : T :=
  .cst .f32 0 <|
  .cst .f32 0 <|
  .cst .f32 0 <|
  .cst .f32 0 <|
  .cst .f32 0 <|
  .cst .f32 0 <|
  .cst .f32 0 <|
  .cst .f32 0 <|
  .cst .f32 0 <|
  .bin .sub .f32 3 0 <|
  .bin .mul .f32 6 16 <|
  .bin .add .f32 0 17 <|
  .bin .sub .f32 4 1 <|
  .bin .mul .f32 6 19 <|
  .bin .add .f32 1 20 <|
  .bin .sub .f32 5 2 <|
  .bin .mul .f32 6 22 <|
  .bin .add .f32 2 23 <|
  .ret [.v 18, .v 21, .v 24]
def s56 : Sum := ⟨56, [.agg [.f .f32, .f .f32, .f .f32], .agg [.f .f32, .f .f32, .f .f32], .val (.f .f32)], [.agg [.f .f32, .f .f32, .f .f32]]⟩
/-- loop.example/g01249/spec.l02Clip -/
def t57 : T :=
  .cst .f32 0 <|
  .cst .f32 0 <|
  .cst .f32 0 <|
  .cst .f32 0 <|
  .cst .f32 0 <|
  .cst .f32 0 <|
  .cst .f32 0 <|
  .cst .f32 0 <|
  .call 55 [.v 0, .v 1, .v 2, .v 3, .v 4, .v 5, .v 6, .v 7, .v 8, .v 9, .v 10, .v 11, .v 12, .v 13, .v 14, .v 15, .v 16, .v 17, .v 18, .v 19, .v 20, .v 21, .v 22] 1 <|
  .call 55 [.v 0, .v 1, .v 2, .v 3, .v 4, .v 5, .v 6, .v 7, .v 8, .v 9, .v 10, .v 11, .v 12, .v 13, .v 14, .v 15, .v 16, .v 17, .v 18, .v 19, .v 23, .v 24, .v 25] 1 <|
  .tst 0 .f32 34 10
   (.tst 0 .f32 35 10
    (.ret [.v 20, .v 21, .v 22, .v 23, .v 24, .v 25, .v 34, .v 35, .b false])
    (.bin .sub .f32 10 34 <|
    .bin .sub .f32 35 34 <|
    .bin .div .f32 36 37 <|
    .call 56 [.v 20, .v 21, .v 22, .v 23, .v 24, .v 25, .v 38] 3 <|
    .cst .f32 0 <|
    .cst .f32 0 <|
    .cst .f32 0 <|
    .tst 0 .f32 34 10
     (.ret [.v 39, .v 40, .v 41, .v 23, .v 24, .v 25, .v 10, .v 35, .b true])
     (.tst 0 .f32 35 10
      (.ret [.v 20, .v 21, .v 22, .v 39, .v 40, .v 41, .v 34, .v 10, .b true])
      (.ret [.v 20, .v 21, .v 22, .v 23, .v 24, .v 25, .v 34, .v 35, .b true]))))
   (.bin .sub .f32 10 34 <|
   .bin .sub .f32 35 34 <|
   .bin .div .f32 36 37 <|
   .call 56 [.v 20, .v 21, .v 22, .v 23, .v 24, .v 25, .v 38] 3 <|
   .cst .f32 0 <|
   .cst .f32 0 <|
   .cst .f32 0 <|
   .tst 0 .f32 34 10
    (.ret [.v 39, .v 40, .v 41, .v 23, .v 24, .v 25, .v 10, .v 35, .b true])
    (.tst 0 .f32 35 10
     (.ret [.v 20, .v 21, .v 22, .v 39, .v 40, .v 41, .v 34, .v 10, .b true])
     (.ret [.v 20, .v 21, .v 22, .v 23, .v 24, .v 25, .v 34, .v 35, .b true])))
def s57 : Sum := ⟨57, [.ptr [.f .f32, .f .f32, .f .f32, .f .f32, .f .f32, .f .f32, .f .f32, .f .f32, .f .f32, .f .f32, .f .f32], .ptr [.f .f32, .f .f32, .f .f32, .f .f32, .f .f32, .f .f32, .f .f32, .f .f32, .f .f32], .agg [.f .f32, .f .f32, .f .f32], .agg [.f .f32, .f .f32, .f .f32]], [.agg [.f .f32, .f .f32, .f .f32], .agg [.f .f32, .f .f32, .f .f32], .val (.f .f32), .val (.f .f32), .val (.b)]⟩
/-- loop.example/g01249/spec.ClipAhead -/
def t58 : T :=
  .cst .f32 0 <|
  .cst .f32 0 <|
  .cst .f32 0 <|
  .cst .f32 0 <|
  .cst .f32 0 <|
  .cst .f32 0 <|
  .call 40 [.v 0, .v 1, .v 2, .v 3, .v 4, .v 5, .v 6, .v 7, .v 8, .v 9, .v 10] 1 <|
  .br 23
   (.call 2 [.v 11, .v 12, .v 13] 1 <|
   .br 24
    (.call 2 [.v 14, .v 15, .v 16] 1 <|
    .br 25
     (.call 39 [.v 0, .v 1, .v 2, .v 3, .v 4, .v 5, .v 6, .v 7, .v 8, .v 9, .v 10] 10 <|
     .br 35
      (.cst .f32 0 <|
      .cst .f32 0 <|
      .cst .f32 0 <|
      .cst .f32 0 <|
      .cst .f32 0 <|
      .cst .f32 0 <|
      .cst .f32 0 <|
      .cst .f32 0 <|
      .cst .f32 0 <|
      .call 57 [.v 0, .v 1, .v 2, .v 3, .v 4, .v 5, .v 6, .v 7, .v 8, .v 9, .v 10, .v 26, .v 27, .v 28, .v 29, .v 30, .v 31, .v 32, .v 33, .v 34, .v 11, .v 12, .v 13, .v 14, .v 15, .v 16] 9 <|
      .br 53
       (.cst .f32 0 <|
       .cst .f32 0 <|
       .cst .f32 0 <|
       .cst .f32 0 <|
       .cst .f32 0 <|
       .cst .f32 0 <|
       .call 8 [.v 45, .v 46, .v 47] 1 <|
       .br 60
        (.call 8 [.v 48, .v 49, .v 50] 1 <|
        .br 61
         (.ret [.v 45, .v 46, .v 47, .v 48, .v 49, .v 50, .b true, .i .i64 0])
         (.cst .f32 0 <|
         .cst .f32 0 <|
         .cst .f32 0 <|
         .cst .f32 0 <|
         .cst .f32 0 <|
         .cst .f32 0 <|
         .ret [.v 62, .v 63, .v 64, .v 65, .v 66, .v 67, .b false, .i .i64 4]))
        (.cst .f32 0 <|
        .cst .f32 0 <|
        .cst .f32 0 <|
        .cst .f32 0 <|
        .cst .f32 0 <|
        .cst .f32 0 <|
        .ret [.v 61, .v 62, .v 63, .v 64, .v 65, .v 66, .b false, .i .i64 4]))
       (.cst .f32 0 <|
       .cst .f32 0 <|
       .cst .f32 0 <|
       .cst .f32 0 <|
       .cst .f32 0 <|
       .cst .f32 0 <|
       .cst .f32 0 <|
       .cst .f32 0 <|
       .cst .f32 0 <|
       .cst .f32 0 <|
       .cst .f32 0 <|
       .cst .f32 0 <|
       .ret [.v 60, .v 61, .v 62, .v 63, .v 64, .v 65, .b false, .i .i64 0]))
      (.cst .f32 0 <|
      .cst .f32 0 <|
      .cst .f32 0 <|
      .cst .f32 0 <|
      .cst .f32 0 <|
      .cst .f32 0 <|
      .cst .f32 0 <|
      .cst .f32 0 <|
      .cst .f32 0 <|
      .call 57 [.v 0, .v 1, .v 2, .v 3, .v 4, .v 5, .v 6, .v 7, .v 8, .v 9, .v 10, .v 26, .v 27, .v 28, .v 29, .v 30, .v 31, .v 32, .v 33, .v 34, .v 11, .v 12, .v 13, .v 14, .v 15, .v 16] 9 <|
      .br 53
       (.cst .f32 0 <|
       .cst .f32 0 <|
       .cst .f32 0 <|
       .cst .f32 0 <|
       .cst .f32 0 <|
       .cst .f32 0 <|
       .call 8 [.v 45, .v 46, .v 47] 1 <|
       .br 60
        (.call 8 [.v 48, .v 49, .v 50] 1 <|
        .br 61
         (.ret [.v 45, .v 46, .v 47, .v 48, .v 49, .v 50, .b true, .i .i64 0])
         (.cst .f32 0 <|
         .cst .f32 0 <|
         .cst .f32 0 <|
         .cst .f32 0 <|
         .cst .f32 0 <|
         .cst .f32 0 <|
         .ret [.v 62, .v 63, .v 64, .v 65, .v 66, .v 67, .b false, .i .i64 4]))
        (.cst .f32 0 <|
        .cst .f32 0 <|
        .cst .f32 0 <|
        .cst .f32 0 <|
        .cst .f32 0 <|
        .cst .f32 0 <|
        .ret [.v 61, .v 62, .v 63, .v 64, .v 65, .v 66, .b false, .i .i64 4]))
       (.cst .f32 0 <|
       .cst .f32 0 <|
       .cst .f32 0 <|
       .cst .f32 0 <|
       .cst .f32 0 <|
       .cst .f32 0 <|
       .cst .f32 0 <|
       .cst .f32 0 <|
       .cst .f32 0 <|
       .cst .f32 0 <|
       .cst .f32 0 <|
       .cst .f32 0 <|
       .ret [.v 60, .v 61, .v 62, .v 63, .v 64, .v 65, .b false, .i .i64 0])))
     (.cst .f32 0 <|
     .cst .f32 0 <|
     .cst .f32 0 <|
     .cst .f32 0 <|
     .cst .f32 0 <|
     .cst .f32 0 <|
     .ret [.v 26, .v 27, .v 28, .v 29, .v 30, .v 31, .b false, .i .i64 1]))
    (.cst .f32 0 <|
    .cst .f32 0 <|
    .cst .f32 0 <|
    .cst .f32 0 <|
    .cst .f32 0 <|
    .cst .f32 0 <|
    .ret [.v 25, .v 26, .v 27, .v 28, .v 29, .v 30, .b false, .i .i64 1]))
   (.cst .f32 0 <|
   .cst .f32 0 <|
   .cst .f32 0 <|
   .cst .f32 0 <|
   .cst .f32 0 <|
   .cst .f32 0 <|
   .ret [.v 24, .v 25, .v 26, .v 27, .v 28, .v 29, .b false, .i .i64 1])
def s58 : Sum := ⟨58, [.agg [.f .f32, .f .f32, .f .f32, .f .f32, .f .f32, .f .f32, .f .f32, .f .f32, .f .f32, .f .f32, .f .f32], .agg [.f .f32, .f .f32, .f .f32], .agg [.f .f32, .f .f32, .f .f32]], [.agg [.f .f32, .f .f32, .f .f32], .agg [.f .f32, .f .f32, .f .f32], .val (.b), .val (.i .i64 [0, 4, 1])]⟩
/-- (*loop.example/g01249/impl.view).depth -/
def t59 : T :=
  .cst .f32 0 <|
  .call 46 [.v 20, .v 21, .v 22, .v 0, .v 1, .v 2] 3 <|
  .call 20 [.v 24, .v 25, .v 26, .v 17, .v 18, .v 19] 1 <|
  .ret [.v 27]
def s59 : Sum := ⟨59, [.ptr [.f .f32, .f .f32, .f .f32, .f .f32, .f .f32, .f .f32, .f .f32, .f .f32, .f .f32, .f .f32, .f .f32, .f .f32, .f .f32, .f .f32, .f .f32, .f .f32, .f .f32, .f .f32, .f .f32, .f .f32], .agg [.f .f32, .f .f32, .f .f32]], [.val (.f .f32)]⟩
/-- loop.example/g01249/impl.BetweenPoints -/
def t60 : T :=
  .cst .f32 0 <|
  .cst .f32 0 <|
  .cst .f32 0 <|
  .cst .f32 0 <|
  .cst .f32 0 <|
  .cst .f32 0 <|
  .cst .f32 0 <|
  .cst .f32 0 <|
  .cst .f32 0 <|
  .bin .sub .f32 3 0 <|
  .bin .mul .f32 6 16 <|
  .bin .add .f32 0 17 <|
  .bin .sub .f32 4 1 <|
  .bin .mul .f32 6 19 <|
  .bin .add .f32 1 20 <|
  .bin .sub .f32 5 2 <|
  .bin .mul .f32 6 22 <|
  .bin .add .f32 2 23 <|
  .ret [.v 18, .v 21, .v 24]
def s60 : Sum := ⟨60, [.agg [.f .f32, .f .f32, .f .f32], .agg [.f .f32, .f .f32, .f .f32], .val (.f .f32)], [.agg [.f .f32, .f .f32, .f .f32]]⟩
/-- (*loop.example/g01249/impl.view).clip -/
def t61 : T :=
  .cst .f32 0 <|
  .cst .f32 0 <|
  .cst .f32 0 <|
  .cst .f32 0 <|
  .cst .f32 0 <|
  .cst .f32 0 <|
  .call 59 [.v 0, .v 1, .v 2, .v 3, .v 4, .v 5, .v 6, .v 7, .v 8, .v 9, .v 10, .v 11, .v 12, .v 13, .v 14, .v 15, .v 16, .v 17, .v 18, .v 19, .v 20, .v 21, .v 22] 1 <|
  .call 59 [.v 0, .v 1, .v 2, .v 3, .v 4, .v 5, .v 6, .v 7, .v 8, .v 9, .v 10, .v 11, .v 12, .v 13, .v 14, .v 15, .v 16, .v 17, .v 18, .v 19, .v 23, .v 24, .v 25] 1 <|
  .tst 0 .f32 32 10
   (.tst 0 .f32 33 10
    (.cst .f32 0 <|
    .cst .f32 0 <|
    .cst .f32 0 <|
    .cst .f32 0 <|
    .cst .f32 0 <|
    .cst .f32 0 <|
    .cst .f32 0 <|
    .cst .f32 0 <|
    .cst .f32 0 <|
    .cst .f32 0 <|
    .cst .f32 0 <|
    .cst .f32 0 <|
    .cst .f32 0 <|
    .cst .f32 0 <|
    .cst .f32 0 <|
    .cst .f32 0 <|
    .cst .f32 0 <|
    .cst .f32 0 <|
    .ret [.v 46, .v 47, .v 48, .v 49, .v 50, .v 51, .b false, .b false, .b false])
    (.cst .f32 0 <|
    .cst .f32 0 <|
    .cst .f32 0 <|
    .cst .f32 0 <|
    .cst .f32 0 <|
    .cst .f32 0 <|
    .cst .f32 0 <|
    .cst .f32 0 <|
    .cst .f32 0 <|
    .cst .f32 0 <|
    .cst .f32 0 <|
    .cst .f32 0 <|
    .bin .sub .f32 10 32 <|
    .bin .sub .f32 33 32 <|
    .bin .div .f32 46 47 <|
    .call 60 [.v 20, .v 21, .v 22, .v 23, .v 24, .v 25, .v 48] 3 <|
    .cst .f32 0 <|
    .cst .f32 0 <|
    .cst .f32 0 <|
    .ret [.v 49, .v 50, .v 51, .v 23, .v 24, .v 25, .b true, .b false, .b true]))
   (.tst 0 .f32 33 10
    (.cst .f32 0 <|
    .cst .f32 0 <|
    .cst .f32 0 <|
    .cst .f32 0 <|
    .cst .f32 0 <|
    .cst .f32 0 <|
    .cst .f32 0 <|
    .cst .f32 0 <|
    .cst .f32 0 <|
    .cst .f32 0 <|
    .cst .f32 0 <|
    .cst .f32 0 <|
    .bin .sub .f32 10 32 <|
    .bin .sub .f32 33 32 <|
    .bin .div .f32 46 47 <|
    .call 60 [.v 20, .v 21, .v 22, .v 23, .v 24, .v 25, .v 48] 3 <|
    .cst .f32 0 <|
    .cst .f32 0 <|
    .cst .f32 0 <|
    .ret [.v 20, .v 21, .v 22, .v 49, .v 50, .v 51, .b false, .b true, .b true])
    (.cst .f32 0 <|
    .cst .f32 0 <|
    .cst .f32 0 <|
    .cst .f32 0 <|
    .cst .f32 0 <|
    .cst .f32 0 <|
    .cst .f32 0 <|
    .cst .f32 0 <|
    .cst .f32 0 <|
    .cst .f32 0 <|
    .cst .f32 0 <|
    .cst .f32 0 <|
    .ret [.v 20, .v 21, .v 22, .v 23, .v 24, .v 25, .b false, .b false, .b true]))
def s61 : Sum := ⟨61, [.ptr [.f .f32, .f .f32, .f .f32, .f .f32, .f .f32, .f .f32, .f .f32, .f .f32, .f .f32, .f .f32, .f .f32, .f .f32, .f .f32, .f .f32, .f .f32, .f .f32, .f .f32, .f .f32, .f .f32, .f .f32], .agg [.f .f32, .f .f32, .f .f32], .agg [.f .f32, .f .f32, .f .f32]], [.agg [.f .f32, .f .f32, .f .f32, .f .f32, .f .f32, .f .f32, .b, .b], .val (.b)]⟩
/-- loop.example/g01249/impl.ClipAhead -/
def t62 : T :=
  .cst .f32 0 <|
  .cst .f32 0 <|
  .cst .f32 0 <|
  .cst .f32 0 <|
  .cst .f32 0 <|
  .cst .f32 0 <|
  .cst .f32 0 <|
  .cst .f32 0 <|
  .cst .f32 0 <|
  .call 48 [.v 0, .v 1, .v 2, .v 3, .v 4, .v 5, .v 6, .v 7, .v 8, .v 9, .v 10] 1 <|
  .br 26
   (.call 18 [.v 11, .v 12, .v 13] 1 <|
   .br 27
    (.cst .f32 0 <|
    .cst .f32 0 <|
    .cst .f32 0 <|
    .cst .f32 0 <|
    .cst .f32 0 <|
    .cst .f32 0 <|
    .ret [.v 28, .v 29, .v 30, .v 31, .v 32, .v 33, .b false, .i .i64 1])
    (.call 18 [.v 14, .v 15, .v 16] 1 <|
    .br 28
     (.cst .f32 0 <|
     .cst .f32 0 <|
     .cst .f32 0 <|
     .cst .f32 0 <|
     .cst .f32 0 <|
     .cst .f32 0 <|
     .ret [.v 29, .v 30, .v 31, .v 32, .v 33, .v 34, .b false, .i .i64 1])
     (.call 49 [.v 0, .v 1, .v 2, .v 3, .v 4, .v 5, .v 6, .v 7, .v 8, .v 9, .v 10] 20 <|
     .cst .f32 0 <|
     .cst .f32 0 <|
     .cst .f32 0 <|
     .cst .f32 0 <|
     .cst .f32 0 <|
     .cst .f32 0 <|
     .cst .f32 0 <|
     .cst .f32 0 <|
     .cst .f32 0 <|
     .cst .f32 0 <|
     .cst .f32 0 <|
     .cst .f32 0 <|
     .cst .f32 0 <|
     .cst .f32 0 <|
     .cst .f32 0 <|
     .cst .f32 0 <|
     .cst .f32 0 <|
     .cst .f32 0 <|
     .cst .f32 0 <|
     .cst .f32 0 <|
     .call 61 [.v 29, .v 30, .v 31, .v 32, .v 33, .v 34, .v 35, .v 36, .v 37, .v 38, .v 39, .v 40, .v 41, .v 42, .v 43, .v 44, .v 45, .v 46, .v 47, .v 48, .v 11, .v 12, .v 13, .v 14, .v 15, .v 16] 9 <|
     .br 75
      (.br 76
       (.br 77
        (.cst .f32 0 <|
        .cst .f32 0 <|
        .cst .f32 0 <|
        .cst .f32 0 <|
        .cst .f32 0 <|
        .cst .f32 0 <|
        .call 32 [.v 69, .v 70, .v 71] 4 <|
        .sw 87 4
         (.cst .f32 0 <|
         .cst .f32 0 <|
         .cst .f32 0 <|
         .call 32 [.v 72, .v 73, .v 74] 4 <|
         .sw 94 4
          (.cst .f32 0 <|
          .cst .f32 0 <|
          .cst .f32 0 <|
          .cst .f32 0 <|
          .cst .f32 0 <|
          .cst .f32 0 <|
          .cst .f32 0 <|
          .cst .f32 0 <|
          .cst .f32 0 <|
          .ret [.v 98, .v 99, .v 100, .v 101, .v 102, .v 103, .b false, .i .i64 4])
          (.sw 94 0
           (.cst .f32 0 <|
           .cst .f32 0 <|
           .cst .f32 0 <|
           .cst .f32 0 <|
           .cst .f32 0 <|
           .cst .f32 0 <|
           .cst .f32 0 <|
           .cst .f32 0 <|
           .cst .f32 0 <|
           .ret [.v 98, .v 99, .v 100, .v 101, .v 102, .v 103, .b false, .i .i64 4])
           (.bad "sw")))
         (.sw 87 0
          (.cst .f32 0 <|
          .cst .f32 0 <|
          .cst .f32 0 <|
          .call 32 [.v 72, .v 73, .v 74] 4 <|
          .sw 94 4
           (.cst .f32 0 <|
           .cst .f32 0 <|
           .cst .f32 0 <|
           .cst .f32 0 <|
           .cst .f32 0 <|
           .cst .f32 0 <|
           .cst .f32 0 <|
           .cst .f32 0 <|
           .cst .f32 0 <|
           .ret [.v 98, .v 99, .v 100, .v 101, .v 102, .v 103, .b false, .i .i64 4])
           (.sw 94 0
            (.cst .f32 0 <|
            .cst .f32 0 <|
            .cst .f32 0 <|
            .ret [.v 69, .v 70, .v 71, .v 72, .v 73, .v 74, .b true, .i .i64 0])
            (.bad "sw")))
          (.bad "sw")))
        (.cst .f32 0 <|
        .cst .f32 0 <|
        .cst .f32 0 <|
        .cst .f32 0 <|
        .cst .f32 0 <|
        .cst .f32 0 <|
        .cst .f32 0 <|
        .cst .f32 0 <|
        .cst .f32 0 <|
        .cst .f32 0 <|
        .cst .f32 0 <|
        .cst .f32 0 <|
        .ret [.v 84, .v 85, .v 86, .v 87, .v 88, .v 89, .b false, .i .i64 0]))
       (.br 77
        (.cst .f32 0 <|
        .cst .f32 0 <|
        .cst .f32 0 <|
        .cst .f32 0 <|
        .cst .f32 0 <|
        .cst .f32 0 <|
        .call 32 [.v 69, .v 70, .v 71] 4 <|
        .sw 87 4
         (.cst .f32 0 <|
         .cst .f32 0 <|
         .cst .f32 0 <|
         .call 32 [.v 72, .v 73, .v 74] 4 <|
         .sw 94 4
          (.cst .f32 0 <|
          .cst .f32 0 <|
          .cst .f32 0 <|
          .cst .f32 0 <|
          .cst .f32 0 <|
          .cst .f32 0 <|
          .cst .f32 0 <|
          .cst .f32 0 <|
          .cst .f32 0 <|
          .ret [.v 98, .v 99, .v 100, .v 101, .v 102, .v 103, .b false, .i .i64 4])
          (.sw 94 0
           (.cst .f32 0 <|
           .cst .f32 0 <|
           .cst .f32 0 <|
           .cst .f32 0 <|
           .cst .f32 0 <|
           .cst .f32 0 <|
           .cst .f32 0 <|
           .cst .f32 0 <|
           .cst .f32 0 <|
           .ret [.v 98, .v 99, .v 100, .v 101, .v 102, .v 103, .b false, .i .i64 4])
           (.bad "sw")))
         (.sw 87 0
          (.cst .f32 0 <|
          .cst .f32 0 <|
          .cst .f32 0 <|
          .call 32 [.v 72, .v 73, .v 74] 4 <|
          .sw 94 4
           (.cst .f32 0 <|
           .cst .f32 0 <|
           .cst .f32 0 <|
           .cst .f32 0 <|
           .cst .f32 0 <|
           .cst .f32 0 <|
           .cst .f32 0 <|
           .cst .f32 0 <|
           .cst .f32 0 <|
           .ret [.v 98, .v 99, .v 100, .v 101, .v 102, .v 103, .b false, .i .i64 4])
           (.sw 94 0
            (.cst .f32 0 <|
            .cst .f32 0 <|
            .cst .f32 0 <|
            .ret [.v 69, .v 70, .v 71, .v 72, .v 73, .v 74, .b true, .i .i64 0])
            (.bad "sw")))
          (.bad "sw")))
        (.cst .f32 0 <|
        .cst .f32 0 <|
        .cst .f32 0 <|
        .cst .f32 0 <|
        .cst .f32 0 <|
        .cst .f32 0 <|
        .cst .f32 0 <|
        .cst .f32 0 <|
        .cst .f32 0 <|
        .cst .f32 0 <|
        .cst .f32 0 <|
        .cst .f32 0 <|
        .ret [.v 84, .v 85, .v 86, .v 87, .v 88, .v 89, .b false, .i .i64 0])))
      (.br 76
       (.br 77
        (.cst .f32 0 <|
        .cst .f32 0 <|
        .cst .f32 0 <|
        .cst .f32 0 <|
        .cst .f32 0 <|
        .cst .f32 0 <|
        .call 32 [.v 69, .v 70, .v 71] 4 <|
        .sw 87 4
         (.cst .f32 0 <|
         .cst .f32 0 <|
         .cst .f32 0 <|
         .call 32 [.v 72, .v 73, .v 74] 4 <|
         .sw 94 4
          (.cst .f32 0 <|
          .cst .f32 0 <|
          .cst .f32 0 <|
          .cst .f32 0 <|
          .cst .f32 0 <|
          .cst .f32 0 <|
          .cst .f32 0 <|
          .cst .f32 0 <|
          .cst .f32 0 <|
          .ret [.v 98, .v 99, .v 100, .v 101, .v 102, .v 103, .b false, .i .i64 4])
          (.sw 94 0
           (.cst .f32 0 <|
           .cst .f32 0 <|
           .cst .f32 0 <|
           .cst .f32 0 <|
           .cst .f32 0 <|
           .cst .f32 0 <|
           .cst .f32 0 <|
           .cst .f32 0 <|
           .cst .f32 0 <|
           .ret [.v 98, .v 99, .v 100, .v 101, .v 102, .v 103, .b false, .i .i64 4])
           (.bad "sw")))
         (.sw 87 0
          (.cst .f32 0 <|
          .cst .f32 0 <|
          .cst .f32 0 <|
          .call 32 [.v 72, .v 73, .v 74] 4 <|
          .sw 94 4
           (.cst .f32 0 <|
           .cst .f32 0 <|
           .cst .f32 0 <|
           .cst .f32 0 <|
           .cst .f32 0 <|
           .cst .f32 0 <|
           .cst .f32 0 <|
           .cst .f32 0 <|
           .cst .f32 0 <|
           .ret [.v 98, .v 99, .v 100, .v 101, .v 102, .v 103, .b false, .i .i64 4])
           (.sw 94 0
            (.cst .f32 0 <|
            .cst .f32 0 <|
            .cst .f32 0 <|
            .ret [.v 69, .v 70, .v 71, .v 72, .v 73, .v 74, .b true, .i .i64 0])
            (.bad "sw")))
          (.bad "sw")))
        (.cst .f32 0 <|
        .cst .f32 0 <|
        .cst .f32 0 <|
        .cst .f32 0 <|
        .cst .f32 0 <|
        .cst .f32 0 <|
        .cst .f32 0 <|
        .cst .f32 0 <|
        .cst .f32 0 <|
        .cst .f32 0 <|
        .cst .f32 0 <|
        .cst .f32 0 <|
        .ret [.v 84, .v 85, .v 86, .v 87, .v 88, .v 89, .b false, .i .i64 0]))
       (.br 77
        (.cst .f32 0 <|
        .cst .f32 0 <|
        .cst .f32 0 <|
        .cst .f32 0 <|
        .cst .f32 0 <|
        .cst .f32 0 <|
        .call 32 [.v 69, .v 70, .v 71] 4 <|
        .sw 87 4
         (.cst .f32 0 <|
         .cst .f32 0 <|
         .cst .f32 0 <|
         .call 32 [.v 72, .v 73, .v 74] 4 <|
         .sw 94 4
          (.cst .f32 0 <|
          .cst .f32 0 <|
          .cst .f32 0 <|
          .cst .f32 0 <|
          .cst .f32 0 <|
          .cst .f32 0 <|
          .cst .f32 0 <|
          .cst .f32 0 <|
          .cst .f32 0 <|
          .ret [.v 98, .v 99, .v 100, .v 101, .v 102, .v 103, .b false, .i .i64 4])
          (.sw 94 0
           (.cst .f32 0 <|
           .cst .f32 0 <|
           .cst .f32 0 <|
           .cst .f32 0 <|
           .cst .f32 0 <|
           .cst .f32 0 <|
           .cst .f32 0 <|
           .cst .f32 0 <|
           .cst .f32 0 <|
           .ret [.v 98, .v 99, .v 100, .v 101, .v 102, .v 103, .b false, .i .i64 4])
           (.bad "sw")))
         (.sw 87 0
          (.cst .f32 0 <|
          .cst .f32 0 <|
          .cst .f32 0 <|
          .call 32 [.v 72, .v 73, .v 74] 4 <|
          .sw 94 4
           (.cst .f32 0 <|
           .cst .f32 0 <|
           .cst .f32 0 <|
           .cst .f32 0 <|
           .cst .f32 0 <|
           .cst .f32 0 <|
           .cst .f32 0 <|
           .cst .f32 0 <|
           .cst .f32 0 <|
           .ret [.v 98, .v 99, .v 100, .v 101, .v 102, .v 103, .b false, .i .i64 4])
           (.sw 94 0
            (.cst .f32 0 <|
            .cst .f32 0 <|
            .cst .f32 0 <|
            .ret [.v 69, .v 70, .v 71, .v 72, .v 73, .v 74, .b true, .i .i64 0])
            (.bad "sw")))
          (.bad "sw")))
        (.cst .f32 0 <|
        .cst .f32 0 <|
        .cst .f32 0 <|
        .cst .f32 0 <|
        .cst .f32 0 <|
        .cst .f32 0 <|
        .cst .f32 0 <|
        .cst .f32 0 <|
        .cst .f32 0 <|
        .cst .f32 0 <|
        .cst .f32 0 <|
        .cst .f32 0 <|
        .ret [.v 84, .v 85, .v 86, .v 87, .v 88, .v 89, .b false, .i .i64 0]))))))
   (.cst .f32 0 <|
   .cst .f32 0 <|
   .cst .f32 0 <|
   .cst .f32 0 <|
   .cst .f32 0 <|
   .cst .f32 0 <|
   .ret [.v 27, .v 28, .v 29, .v 30, .v 31, .v 32, .b false, .i .i64 1])
def s62 : Sum := ⟨62, [.agg [.f .f32, .f .f32, .f .f32, .f .f32, .f .f32, .f .f32, .f .f32, .f .f32, .f .f32, .f .f32, .f .f32], .agg [.f .f32, .f .f32, .f .f32], .agg [.f .f32, .f .f32, .f .f32]], [.agg [.f .f32, .f .f32, .f .f32], .agg [.f .f32, .f .f32, .f .f32], .val (.b), .val (.i .i64 [1, 4, 0])]⟩
/-- loop.example/g01249/laws.FnExactClipAhead -/
def t63 : T :=
  .call 37 [.v 0, .v 1, .v 2, .v 3, .v 4, .v 5, .v 6, .v 7, .v 8, .v 9, .v 10] 11 <|
  .call 0 [.v 11, .v 12, .v 13] 3 <|
  .call 0 [.v 14, .v 15, .v 16] 3 <|
  .call 58 [.v 17, .v 18, .v 19, .v 20, .v 21, .v 22, .v 23, .v 24, .v 25, .v 26, .v 27, .v 28, .v 29, .v 30, .v 31, .v 32, .v 33] 8 <|
  .br 40
   (.sw 41 0
    (.cst .f32 0 <|
    .cst .f32 0 <|
    .cst .f32 0 <|
    .cst .f32 0 <|
    .cst .f32 0 <|
    .cst .f32 0 <|
    .call 37 [.v 0, .v 1, .v 2, .v 3, .v 4, .v 5, .v 6, .v 7, .v 8, .v 9, .v 10] 11 <|
    .call 0 [.v 11, .v 12, .v 13] 3 <|
    .call 0 [.v 14, .v 15, .v 16] 3 <|
    .call 62 [.v 48, .v 49, .v 50, .v 51, .v 52, .v 53, .v 54, .v 55, .v 56, .v 57, .v 58, .v 59, .v 60, .v 61, .v 62, .v 63, .v 64] 8 <|
    .br 71
     (.sw 72 1
      (.cst .f32 0 <|
      .cst .f32 0 <|
      .cst .f32 0 <|
      .cst .f32 0 <|
      .cst .f32 0 <|
      .cst .f32 0 <|
      .call 35 [.v 65, .v 66, .v 67, .v 34, .v 35, .v 36] 1 <|
      .br 79
       (.call 35 [.v 68, .v 69, .v 70, .v 37, .v 38, .v 39] 1 <|
       .br 80
        (.ret [.b false])
        (.ret [.b false]))
       (.ret [.b false]))
      (.sw 72 4
       (.cst .f32 0 <|
       .cst .f32 0 <|
       .cst .f32 0 <|
       .cst .f32 0 <|
       .cst .f32 0 <|
       .cst .f32 0 <|
       .call 35 [.v 65, .v 66, .v 67, .v 34, .v 35, .v 36] 1 <|
       .br 79
        (.call 35 [.v 68, .v 69, .v 70, .v 37, .v 38, .v 39] 1 <|
        .br 80
         (.ret [.b false])
         (.ret [.b false]))
        (.ret [.b false]))
       (.sw 72 0
        (.cst .f32 0 <|
        .cst .f32 0 <|
        .cst .f32 0 <|
        .cst .f32 0 <|
        .cst .f32 0 <|
        .cst .f32 0 <|
        .call 35 [.v 65, .v 66, .v 67, .v 34, .v 35, .v 36] 1 <|
        .br 79
         (.call 35 [.v 68, .v 69, .v 70, .v 37, .v 38, .v 39] 1 <|
         .br 80
          (.ret [.b true])
          (.ret [.b false]))
         (.ret [.b false]))
        (.bad "sw"))))
     (.sw 72 1
      (.cst .f32 0 <|
      .cst .f32 0 <|
      .cst .f32 0 <|
      .cst .f32 0 <|
      .cst .f32 0 <|
      .cst .f32 0 <|
      .call 35 [.v 65, .v 66, .v 67, .v 34, .v 35, .v 36] 1 <|
      .br 79
       (.call 35 [.v 68, .v 69, .v 70, .v 37, .v 38, .v 39] 1 <|
       .br 80
        (.ret [.b false])
        (.ret [.b false]))
       (.ret [.b false]))
      (.sw 72 4
       (.cst .f32 0 <|
       .cst .f32 0 <|
       .cst .f32 0 <|
       .cst .f32 0 <|
       .cst .f32 0 <|
       .cst .f32 0 <|
       .call 35 [.v 65, .v 66, .v 67, .v 34, .v 35, .v 36] 1 <|
       .br 79
        (.call 35 [.v 68, .v 69, .v 70, .v 37, .v 38, .v 39] 1 <|
        .br 80
         (.ret [.b false])
         (.ret [.b false]))
        (.ret [.b false]))
       (.sw 72 0
        (.cst .f32 0 <|
        .cst .f32 0 <|
        .cst .f32 0 <|
        .cst .f32 0 <|
        .cst .f32 0 <|
        .cst .f32 0 <|
        .call 35 [.v 65, .v 66, .v 67, .v 34, .v 35, .v 36] 1 <|
        .br 79
         (.call 35 [.v 68, .v 69, .v 70, .v 37, .v 38, .v 39] 1 <|
         .br 80
          (.ret [.b false])
          (.ret [.b false]))
         (.ret [.b false]))
        (.bad "sw")))))
    (.sw 41 4
     (.cst .f32 0 <|
     .cst .f32 0 <|
     .cst .f32 0 <|
     .cst .f32 0 <|
     .cst .f32 0 <|
     .cst .f32 0 <|
     .call 37 [.v 0, .v 1, .v 2, .v 3, .v 4, .v 5, .v 6, .v 7, .v 8, .v 9, .v 10] 11 <|
     .call 0 [.v 11, .v 12, .v 13] 3 <|
     .call 0 [.v 14, .v 15, .v 16] 3 <|
     .call 62 [.v 48, .v 49, .v 50, .v 51, .v 52, .v 53, .v 54, .v 55, .v 56, .v 57, .v 58, .v 59, .v 60, .v 61, .v 62, .v 63, .v 64] 8 <|
     .br 71
      (.sw 72 1
       (.cst .f32 0 <|
       .cst .f32 0 <|
       .cst .f32 0 <|
       .cst .f32 0 <|
       .cst .f32 0 <|
       .cst .f32 0 <|
       .call 35 [.v 65, .v 66, .v 67, .v 34, .v 35, .v 36] 1 <|
       .br 79
        (.call 35 [.v 68, .v 69, .v 70, .v 37, .v 38, .v 39] 1 <|
        .br 80
         (.ret [.b false])
         (.ret [.b false]))
        (.ret [.b false]))
       (.sw 72 4
        (.cst .f32 0 <|
        .cst .f32 0 <|
        .cst .f32 0 <|
        .cst .f32 0 <|
        .cst .f32 0 <|
        .cst .f32 0 <|
        .call 35 [.v 65, .v 66, .v 67, .v 34, .v 35, .v 36] 1 <|
        .br 79
         (.call 35 [.v 68, .v 69, .v 70, .v 37, .v 38, .v 39] 1 <|
         .br 80
          (.ret [.b true])
          (.ret [.b false]))
         (.ret [.b false]))
        (.sw 72 0
         (.cst .f32 0 <|
         .cst .f32 0 <|
         .cst .f32 0 <|
         .cst .f32 0 <|
         .cst .f32 0 <|
         .cst .f32 0 <|
         .call 35 [.v 65, .v 66, .v 67, .v 34, .v 35, .v 36] 1 <|
         .br 79
          (.call 35 [.v 68, .v 69, .v 70, .v 37, .v 38, .v 39] 1 <|
          .br 80
           (.ret [.b false])
           (.ret [.b false]))
          (.ret [.b false]))
         (.bad "sw"))))
      (.sw 72 1
       (.cst .f32 0 <|
       .cst .f32 0 <|
       .cst .f32 0 <|
       .cst .f32 0 <|
       .cst .f32 0 <|
       .cst .f32 0 <|
       .call 35 [.v 65, .v 66, .v 67, .v 34, .v 35, .v 36] 1 <|
       .br 79
        (.call 35 [.v 68, .v 69, .v 70, .v 37, .v 38, .v 39] 1 <|
        .br 80
         (.ret [.b false])
         (.ret [.b false]))
        (.ret [.b false]))
       (.sw 72 4
        (.cst .f32 0 <|
        .cst .f32 0 <|
        .cst .f32 0 <|
        .cst .f32 0 <|
        .cst .f32 0 <|
        .cst .f32 0 <|
        .call 35 [.v 65, .v 66, .v 67, .v 34, .v 35, .v 36] 1 <|
        .br 79
         (.call 35 [.v 68, .v 69, .v 70, .v 37, .v 38, .v 39] 1 <|
         .br 80
          (.ret [.b false])
          (.ret [.b false]))
         (.ret [.b false]))
        (.sw 72 0
         (.cst .f32 0 <|
         .cst .f32 0 <|
         .cst .f32 0 <|
         .cst .f32 0 <|
         .cst .f32 0 <|
         .cst .f32 0 <|
         .call 35 [.v 65, .v 66, .v 67, .v 34, .v 35, .v 36] 1 <|
         .br 79
          (.call 35 [.v 68, .v 69, .v 70, .v 37, .v 38, .v 39] 1 <|
          .br 80
           (.ret [.b false])
           (.ret [.b false]))
          (.ret [.b false]))
         (.bad "sw")))))
     (.sw 41 1
      (.cst .f32 0 <|
      .cst .f32 0 <|
      .cst .f32 0 <|
      .cst .f32 0 <|
      .cst .f32 0 <|
      .cst .f32 0 <|
      .call 37 [.v 0, .v 1, .v 2, .v 3, .v 4, .v 5, .v 6, .v 7, .v 8, .v 9, .v 10] 11 <|
      .call 0 [.v 11, .v 12, .v 13] 3 <|
      .call 0 [.v 14, .v 15, .v 16] 3 <|
      .call 62 [.v 48, .v 49, .v 50, .v 51, .v 52, .v 53, .v 54, .v 55, .v 56, .v 57, .v 58, .v 59, .v 60, .v 61, .v 62, .v 63, .v 64] 8 <|
      .br 71
       (.sw 72 1
        (.cst .f32 0 <|
        .cst .f32 0 <|
        .cst .f32 0 <|
        .cst .f32 0 <|
        .cst .f32 0 <|
        .cst .f32 0 <|
        .call 35 [.v 65, .v 66, .v 67, .v 34, .v 35, .v 36] 1 <|
        .br 79
         (.call 35 [.v 68, .v 69, .v 70, .v 37, .v 38, .v 39] 1 <|
         .br 80
          (.ret [.b true])
          (.ret [.b false]))
         (.ret [.b false]))
        (.sw 72 4
         (.cst .f32 0 <|
         .cst .f32 0 <|
         .cst .f32 0 <|
         .cst .f32 0 <|
         .cst .f32 0 <|
         .cst .f32 0 <|
         .call 35 [.v 65, .v 66, .v 67, .v 34, .v 35, .v 36] 1 <|
         .br 79
          (.call 35 [.v 68, .v 69, .v 70, .v 37, .v 38, .v 39] 1 <|
          .br 80
           (.ret [.b false])
           (.ret [.b false]))
          (.ret [.b false]))
         (.sw 72 0
          (.cst .f32 0 <|
          .cst .f32 0 <|
          .cst .f32 0 <|
          .cst .f32 0 <|
          .cst .f32 0 <|
          .cst .f32 0 <|
          .call 35 [.v 65, .v 66, .v 67, .v 34, .v 35, .v 36] 1 <|
          .br 79
           (.call 35 [.v 68, .v 69, .v 70, .v 37, .v 38, .v 39] 1 <|
           .br 80
            (.ret [.b false])
            (.ret [.b false]))
           (.ret [.b false]))
          (.bad "sw"))))
       (.sw 72 1
        (.cst .f32 0 <|
        .cst .f32 0 <|
        .cst .f32 0 <|
        .cst .f32 0 <|
        .cst .f32 0 <|
        .cst .f32 0 <|
        .call 35 [.v 65, .v 66, .v 67, .v 34, .v 35, .v 36] 1 <|
        .br 79
         (.call 35 [.v 68, .v 69, .v 70, .v 37, .v 38, .v 39] 1 <|
         .br 80
          (.ret [.b false])
          (.ret [.b false]))
         (.ret [.b false]))
        (.sw 72 4
         (.cst .f32 0 <|
         .cst .f32 0 <|
         .cst .f32 0 <|
         .cst .f32 0 <|
         .cst .f32 0 <|
         .cst .f32 0 <|
         .call 35 [.v 65, .v 66, .v 67, .v 34, .v 35, .v 36] 1 <|
         .br 79
          (.call 35 [.v 68, .v 69, .v 70, .v 37, .v 38, .v 39] 1 <|
          .br 80
           (.ret [.b false])
           (.ret [.b false]))
          (.ret [.b false]))
         (.sw 72 0
          (.cst .f32 0 <|
          .cst .f32 0 <|
          .cst .f32 0 <|
          .cst .f32 0 <|
          .cst .f32 0 <|
          .cst .f32 0 <|
          .call 35 [.v 65, .v 66, .v 67, .v 34, .v 35, .v 36] 1 <|
          .br 79
           (.call 35 [.v 68, .v 69, .v 70, .v 37, .v 38, .v 39] 1 <|
           .br 80
            (.ret [.b false])
            (.ret [.b false]))
           (.ret [.b false]))
          (.bad "sw")))))
      (.bad "sw"))))
   (.sw 41 0
    (.cst .f32 0 <|
    .cst .f32 0 <|
    .cst .f32 0 <|
    .cst .f32 0 <|
    .cst .f32 0 <|
    .cst .f32 0 <|
    .call 37 [.v 0, .v 1, .v 2, .v 3, .v 4, .v 5, .v 6, .v 7, .v 8, .v 9, .v 10] 11 <|
    .call 0 [.v 11, .v 12, .v 13] 3 <|
    .call 0 [.v 14, .v 15, .v 16] 3 <|
    .call 62 [.v 48, .v 49, .v 50, .v 51, .v 52, .v 53, .v 54, .v 55, .v 56, .v 57, .v 58, .v 59, .v 60, .v 61, .v 62, .v 63, .v 64] 8 <|
    .br 71
     (.sw 72 1
      (.cst .f32 0 <|
      .cst .f32 0 <|
      .cst .f32 0 <|
      .cst .f32 0 <|
      .cst .f32 0 <|
      .cst .f32 0 <|
      .call 35 [.v 65, .v 66, .v 67, .v 34, .v 35, .v 36] 1 <|
      .br 79
       (.call 35 [.v 68, .v 69, .v 70, .v 37, .v 38, .v 39] 1 <|
       .br 80
        (.ret [.b false])
        (.ret [.b false]))
       (.ret [.b false]))
      (.sw 72 4
       (.cst .f32 0 <|
       .cst .f32 0 <|
       .cst .f32 0 <|
       .cst .f32 0 <|
       .cst .f32 0 <|
       .cst .f32 0 <|
       .call 35 [.v 65, .v 66, .v 67, .v 34, .v 35, .v 36] 1 <|
       .br 79
        (.call 35 [.v 68, .v 69, .v 70, .v 37, .v 38, .v 39] 1 <|
        .br 80
         (.ret [.b false])
         (.ret [.b false]))
        (.ret [.b false]))
       (.sw 72 0
        (.cst .f32 0 <|
        .cst .f32 0 <|
        .cst .f32 0 <|
        .cst .f32 0 <|
        .cst .f32 0 <|
        .cst .f32 0 <|
        .call 35 [.v 65, .v 66, .v 67, .v 34, .v 35, .v 36] 1 <|
        .br 79
         (.call 35 [.v 68, .v 69, .v 70, .v 37, .v 38, .v 39] 1 <|
         .br 80
          (.ret [.b false])
          (.ret [.b false]))
         (.ret [.b false]))
        (.bad "sw"))))
     (.sw 72 1
      (.cst .f32 0 <|
      .cst .f32 0 <|
      .cst .f32 0 <|
      .cst .f32 0 <|
      .cst .f32 0 <|
      .cst .f32 0 <|
      .call 35 [.v 65, .v 66, .v 67, .v 34, .v 35, .v 36] 1 <|
      .br 79
       (.call 35 [.v 68, .v 69, .v 70, .v 37, .v 38, .v 39] 1 <|
       .br 80
        (.ret [.b false])
        (.ret [.b false]))
       (.ret [.b false]))
      (.sw 72 4
       (.cst .f32 0 <|
       .cst .f32 0 <|
       .cst .f32 0 <|
       .cst .f32 0 <|
       .cst .f32 0 <|
       .cst .f32 0 <|
       .call 35 [.v 65, .v 66, .v 67, .v 34, .v 35, .v 36] 1 <|
       .br 79
        (.call 35 [.v 68, .v 69, .v 70, .v 37, .v 38, .v 39] 1 <|
        .br 80
         (.ret [.b false])
         (.ret [.b false]))
        (.ret [.b false]))
       (.sw 72 0
        (.cst .f32 0 <|
        .cst .f32 0 <|
        .cst .f32 0 <|
        .cst .f32 0 <|
        .cst .f32 0 <|
        .cst .f32 0 <|
        .call 35 [.v 65, .v 66, .v 67, .v 34, .v 35, .v 36] 1 <|
        .br 79
         (.call 35 [.v 68, .v 69, .v 70, .v 37, .v 38, .v 39] 1 <|
         .br 80
          (.ret [.b true])
          (.ret [.b false]))
         (.ret [.b false]))
        (.bad "sw")))))
    (.sw 41 4
     (.cst .f32 0 <|
     .cst .f32 0 <|
     .cst .f32 0 <|
     .cst .f32 0 <|
     .cst .f32 0 <|
     .cst .f32 0 <|
     .call 37 [.v 0, .v 1, .v 2, .v 3, .v 4, .v 5, .v 6, .v 7, .v 8, .v 9, .v 10] 11 <|
     .call 0 [.v 11, .v 12, .v 13] 3 <|
     .call 0 [.v 14, .v 15, .v 16] 3 <|
     .call 62 [.v 48, .v 49, .v 50, .v 51, .v 52, .v 53, .v 54, .v 55, .v 56, .v 57, .v 58, .v 59, .v 60, .v 61, .v 62, .v 63, .v 64] 8 <|
     .br 71
      (.sw 72 1
       (.cst .f32 0 <|
       .cst .f32 0 <|
       .cst .f32 0 <|
       .cst .f32 0 <|
       .cst .f32 0 <|
       .cst .f32 0 <|
       .call 35 [.v 65, .v 66, .v 67, .v 34, .v 35, .v 36] 1 <|
       .br 79
        (.call 35 [.v 68, .v 69, .v 70, .v 37, .v 38, .v 39] 1 <|
        .br 80
         (.ret [.b false])
         (.ret [.b false]))
        (.ret [.b false]))
       (.sw 72 4
        (.cst .f32 0 <|
        .cst .f32 0 <|
        .cst .f32 0 <|
        .cst .f32 0 <|
        .cst .f32 0 <|
        .cst .f32 0 <|
        .call 35 [.v 65, .v 66, .v 67, .v 34, .v 35, .v 36] 1 <|
        .br 79
         (.call 35 [.v 68, .v 69, .v 70, .v 37, .v 38, .v 39] 1 <|
         .br 80
          (.ret [.b false])
          (.ret [.b false]))
         (.ret [.b false]))
        (.sw 72 0
         (.cst .f32 0 <|
         .cst .f32 0 <|
         .cst .f32 0 <|
         .cst .f32 0 <|
         .cst .f32 0 <|
         .cst .f32 0 <|
         .call 35 [.v 65, .v 66, .v 67, .v 34, .v 35, .v 36] 1 <|
         .br 79
          (.call 35 [.v 68, .v 69, .v 70, .v 37, .v 38, .v 39] 1 <|
          .br 80
           (.ret [.b false])
           (.ret [.b false]))
          (.ret [.b false]))
         (.bad "sw"))))
      (.sw 72 1
       (.cst .f32 0 <|
       .cst .f32 0 <|
       .cst .f32 0 <|
       .cst .f32 0 <|
       .cst .f32 0 <|
       .cst .f32 0 <|
       .call 35 [.v 65, .v 66, .v 67, .v 34, .v 35, .v 36] 1 <|
       .br 79
        (.call 35 [.v 68, .v 69, .v 70, .v 37, .v 38, .v 39] 1 <|
        .br 80
         (.ret [.b false])
         (.ret [.b false]))
        (.ret [.b false]))
       (.sw 72 4
        (.cst .f32 0 <|
        .cst .f32 0 <|
        .cst .f32 0 <|
        .cst .f32 0 <|
        .cst .f32 0 <|
        .cst .f32 0 <|
        .call 35 [.v 65, .v 66, .v 67, .v 34, .v 35, .v 36] 1 <|
        .br 79
         (.call 35 [.v 68, .v 69, .v 70, .v 37, .v 38, .v 39] 1 <|
         .br 80
          (.ret [.b true])
          (.ret [.b false]))
         (.ret [.b false]))
        (.sw 72 0
         (.cst .f32 0 <|
         .cst .f32 0 <|
         .cst .f32 0 <|
         .cst .f32 0 <|
         .cst .f32 0 <|
         .cst .f32 0 <|
         .call 35 [.v 65, .v 66, .v 67, .v 34, .v 35, .v 36] 1 <|
         .br 79
          (.call 35 [.v 68, .v 69, .v 70, .v 37, .v 38, .v 39] 1 <|
          .br 80
           (.ret [.b false])
           (.ret [.b false]))
          (.ret [.b false]))
         (.bad "sw")))))
     (.sw 41 1
      (.cst .f32 0 <|
      .cst .f32 0 <|
      .cst .f32 0 <|
      .cst .f32 0 <|
      .cst .f32 0 <|
      .cst .f32 0 <|
      .call 37 [.v 0, .v 1, .v 2, .v 3, .v 4, .v 5, .v 6, .v 7, .v 8, .v 9, .v 10] 11 <|
      .call 0 [.v 11, .v 12, .v 13] 3 <|
      .call 0 [.v 14, .v 15, .v 16] 3 <|
      .call 62 [.v 48, .v 49, .v 50, .v 51, .v 52, .v 53, .v 54, .v 55, .v 56, .v 57, .v 58, .v 59, .v 60, .v 61, .v 62, .v 63, .v 64] 8 <|
      .br 71
       (.sw 72 1
        (.cst .f32 0 <|
        .cst .f32 0 <|
        .cst .f32 0 <|
        .cst .f32 0 <|
        .cst .f32 0 <|
        .cst .f32 0 <|
        .call 35 [.v 65, .v 66, .v 67, .v 34, .v 35, .v 36] 1 <|
        .br 79
         (.call 35 [.v 68, .v 69, .v 70, .v 37, .v 38, .v 39] 1 <|
         .br 80
          (.ret [.b false])
          (.ret [.b false]))
         (.ret [.b false]))
        (.sw 72 4
         (.cst .f32 0 <|
         .cst .f32 0 <|
         .cst .f32 0 <|
         .cst .f32 0 <|
         .cst .f32 0 <|
         .cst .f32 0 <|
         .call 35 [.v 65, .v 66, .v 67, .v 34, .v 35, .v 36] 1 <|
         .br 79
          (.call 35 [.v 68, .v 69, .v 70, .v 37, .v 38, .v 39] 1 <|
          .br 80
           (.ret [.b false])
           (.ret [.b false]))
          (.ret [.b false]))
         (.sw 72 0
          (.cst .f32 0 <|
          .cst .f32 0 <|
          .cst .f32 0 <|
          .cst .f32 0 <|
          .cst .f32 0 <|
          .cst .f32 0 <|
          .call 35 [.v 65, .v 66, .v 67, .v 34, .v 35, .v 36] 1 <|
          .br 79
           (.call 35 [.v 68, .v 69, .v 70, .v 37, .v 38, .v 39] 1 <|
           .br 80
            (.ret [.b false])
            (.ret [.b false]))
           (.ret [.b false]))
          (.bad "sw"))))
       (.sw 72 1
        (.cst .f32 0 <|
        .cst .f32 0 <|
        .cst .f32 0 <|
        .cst .f32 0 <|
        .cst .f32 0 <|
        .cst .f32 0 <|
        .call 35 [.v 65, .v 66, .v 67, .v 34, .v 35, .v 36] 1 <|
        .br 79
         (.call 35 [.v 68, .v 69, .v 70, .v 37, .v 38, .v 39] 1 <|
         .br 80
          (.ret [.b true])
          (.ret [.b false]))
         (.ret [.b false]))
        (.sw 72 4
         (.cst .f32 0 <|
         .cst .f32 0 <|
         .cst .f32 0 <|
         .cst .f32 0 <|
         .cst .f32 0 <|
         .cst .f32 0 <|
         .call 35 [.v 65, .v 66, .v 67, .v 34, .v 35, .v 36] 1 <|
         .br 79
          (.call 35 [.v 68, .v 69, .v 70, .v 37, .v 38, .v 39] 1 <|
          .br 80
           (.ret [.b false])
           (.ret [.b false]))
          (.ret [.b false]))
         (.sw 72 0
          (.cst .f32 0 <|
          .cst .f32 0 <|
          .cst .f32 0 <|
          .cst .f32 0 <|
          .cst .f32 0 <|
          .cst .f32 0 <|
          .call 35 [.v 65, .v 66, .v 67, .v 34, .v 35, .v 36] 1 <|
          .br 79
           (.call 35 [.v 68, .v 69, .v 70, .v 37, .v 38, .v 39] 1 <|
           .br 80
            (.ret [.b false])
            (.ret [.b false]))
           (.ret [.b false]))
          (.bad "sw")))))
      (.bad "sw"))))
def s63 : Sum := ⟨63, [.agg [.f .f32, .f .f32, .f .f32, .f .f32, .f .f32, .f .f32, .f .f32, .f .f32, .f .f32, .f .f32, .f .f32], .agg [.f .f32, .f .f32, .f .f32], .agg [.f .f32, .f .f32, .f .f32]], [.val (.b)]⟩
/-- loop.example/g01249/spec.l02Project -/
def t64 : T :=
  .cst .f32 0 <|
  .cst .f32 0 <|
  .call 38 [.v 20, .v 21, .v 22, .v 0, .v 1, .v 2] 3 <|
  .cst .f32 0 <|
  .cst .f32 0 <|
  .cst .f32 0 <|
  .call 3 [.v 26, .v 27, .v 28, .v 11, .v 12, .v 13] 1 <|
  .bin .div .f32 32 23 <|
  .bin .mul .f32 33 9 <|
  .call 3 [.v 26, .v 27, .v 28, .v 14, .v 15, .v 16] 1 <|
  .bin .div .f32 35 23 <|
  .bin .mul .f32 36 9 <|
  .cst .f32 0 <|
  .cst .f32 0 <|
  .cst .f32 0 <|
  .cst .f32 0 <|
  .call 7 [.v 34] 1 <|
  .br 42
   (.call 7 [.v 37] 1 <|
   .br 43
    (.ret [.v 34, .v 37, .i .i64 0])
    (.cst .f32 0 <|
    .cst .f32 0 <|
    .ret [.v 44, .v 45, .i .i64 4]))
   (.cst .f32 0 <|
   .cst .f32 0 <|
   .ret [.v 43, .v 44, .i .i64 4])
def s64 : Sum := ⟨64, [.ptr [.f .f32, .f .f32, .f .f32, .f .f32, .f .f32, .f .f32, .f .f32, .f .f32, .f .f32, .f .f32, .f .f32], .ptr [.f .f32, .f .f32, .f .f32, .f .f32, .f .f32, .f .f32, .f .f32, .f .f32, .f .f32], .agg [.f .f32, .f .f32, .f .f32], .val (.f .f32)], [.agg [.f .f32, .f .f32], .val (.i .i64 [0, 4])]⟩
/-- loop.example/g01249/spec.l02Line -/
def t65 : T :=
  .cst .f32 0 <|
  .cst .f32 0 <|
  .cst .f32 0 <|
  .cst .f32 0 <|
  .call 57 [.v 0, .v 1, .v 2, .v 3, .v 4, .v 5, .v 6, .v 7, .v 8, .v 9, .v 10, .v 11, .v 12, .v 13, .v 14, .v 15, .v 16, .v 17, .v 18, .v 19, .v 20, .v 21, .v 22, .v 23, .v 24, .v 25] 9 <|
  .br 38
   (.cst .f32 0 <|
   .cst .f32 0 <|
   .cst .f32 0 <|
   .cst .f32 0 <|
   .cst .f32 0 <|
   .cst .f32 0 <|
   .call 64 [.v 0, .v 1, .v 2, .v 3, .v 4, .v 5, .v 6, .v 7, .v 8, .v 9, .v 10, .v 11, .v 12, .v 13, .v 14, .v 15, .v 16, .v 17, .v 18, .v 19, .v 30, .v 31, .v 32, .v 36] 3 <|
   .sw 47 0
    (.cst .f32 0 <|
    .cst .f32 0 <|
    .call 64 [.v 0, .v 1, .v 2, .v 3, .v 4, .v 5, .v 6, .v 7, .v 8, .v 9, .v 10, .v 11, .v 12, .v 13, .v 14, .v 15, .v 16, .v 17, .v 18, .v 19, .v 33, .v 34, .v 35, .v 37] 3 <|
    .sw 52 0
     (.cst .f32 0 <|
     .cst .f32 0 <|
     .ret [.v 45, .v 46, .v 50, .v 51, .b true, .i .i64 0])
     (.sw 52 4
      (.cst .f32 0 <|
      .cst .f32 0 <|
      .cst .f32 0 <|
      .cst .f32 0 <|
      .cst .f32 0 <|
      .cst .f32 0 <|
      .ret [.v 55, .v 56, .v 57, .v 58, .b false, .i .i64 4])
      (.bad "sw")))
    (.sw 47 4
     (.cst .f32 0 <|
     .cst .f32 0 <|
     .call 64 [.v 0, .v 1, .v 2, .v 3, .v 4, .v 5, .v 6, .v 7, .v 8, .v 9, .v 10, .v 11, .v 12, .v 13, .v 14, .v 15, .v 16, .v 17, .v 18, .v 19, .v 33, .v 34, .v 35, .v 37] 3 <|
     .sw 52 0
      (.cst .f32 0 <|
      .cst .f32 0 <|
      .cst .f32 0 <|
      .cst .f32 0 <|
      .cst .f32 0 <|
      .cst .f32 0 <|
      .ret [.v 55, .v 56, .v 57, .v 58, .b false, .i .i64 4])
      (.sw 52 4
       (.cst .f32 0 <|
       .cst .f32 0 <|
       .cst .f32 0 <|
       .cst .f32 0 <|
       .cst .f32 0 <|
       .cst .f32 0 <|
       .ret [.v 55, .v 56, .v 57, .v 58, .b false, .i .i64 4])
       (.bad "sw")))
     (.bad "sw")))
   (.cst .f32 0 <|
   .cst .f32 0 <|
   .cst .f32 0 <|
   .cst .f32 0 <|
   .cst .f32 0 <|
   .cst .f32 0 <|
   .cst .f32 0 <|
   .cst .f32 0 <|
   .cst .f32 0 <|
   .cst .f32 0 <|
   .ret [.v 45, .v 46, .v 47, .v 48, .b false, .i .i64 0])
def s65 : Sum := ⟨65, [.ptr [.f .f32, .f .f32, .f .f32, .f .f32, .f .f32, .f .f32, .f .f32, .f .f32, .f .f32, .f .f32, .f .f32], .ptr [.f .f32, .f .f32, .f .f32, .f .f32, .f .f32, .f .f32, .f .f32, .f .f32, .f .f32], .agg [.f .f32, .f .f32, .f .f32], .agg [.f .f32, .f .f32, .f .f32]], [.agg [.f .f32, .f .f32], .agg [.f .f32, .f .f32], .val (.b), .val (.i .i64 [0, 4])]⟩
/-- loop.example/g01249/spec.ProjectLine -/
def t66 : T :=
  .cst .f32 0 <|
  .cst .f32 0 <|
  .cst .f32 0 <|
  .cst .f32 0 <|
  .call 40 [.v 0, .v 1, .v 2, .v 3, .v 4, .v 5, .v 6, .v 7, .v 8, .v 9, .v 10] 1 <|
  .br 21
   (.call 2 [.v 11, .v 12, .v 13] 1 <|
   .br 22
    (.call 2 [.v 14, .v 15, .v 16] 1 <|
    .br 23
     (.call 39 [.v 0, .v 1, .v 2, .v 3, .v 4, .v 5, .v 6, .v 7, .v 8, .v 9, .v 10] 10 <|
     .br 33
      (.cst .f32 0 <|
      .cst .f32 0 <|
      .cst .f32 0 <|
      .cst .f32 0 <|
      .cst .f32 0 <|
      .cst .f32 0 <|
      .cst .f32 0 <|
      .cst .f32 0 <|
      .cst .f32 0 <|
      .call 65 [.v 0, .v 1, .v 2, .v 3, .v 4, .v 5, .v 6, .v 7, .v 8, .v 9, .v 10, .v 24, .v 25, .v 26, .v 27, .v 28, .v 29, .v 30, .v 31, .v 32, .v 11, .v 12, .v 13, .v 14, .v 15, .v 16] 6 <|
      .br 47
       (.sw 48 0
        (.ret [.v 43, .v 44, .v 45, .v 46, .b true, .i .i64 0])
        (.sw 48 4
         (.ret [.v 43, .v 44, .v 45, .v 46, .b true, .i .i64 4])
         (.bad "sw")))
       (.sw 48 0
        (.ret [.v 43, .v 44, .v 45, .v 46, .b false, .i .i64 0])
        (.sw 48 4
         (.ret [.v 43, .v 44, .v 45, .v 46, .b false, .i .i64 4])
         (.bad "sw"))))
      (.cst .f32 0 <|
      .cst .f32 0 <|
      .cst .f32 0 <|
      .cst .f32 0 <|
      .cst .f32 0 <|
      .cst .f32 0 <|
      .cst .f32 0 <|
      .cst .f32 0 <|
      .cst .f32 0 <|
      .call 65 [.v 0, .v 1, .v 2, .v 3, .v 4, .v 5, .v 6, .v 7, .v 8, .v 9, .v 10, .v 24, .v 25, .v 26, .v 27, .v 28, .v 29, .v 30, .v 31, .v 32, .v 11, .v 12, .v 13, .v 14, .v 15, .v 16] 6 <|
      .br 47
       (.sw 48 0
        (.ret [.v 43, .v 44, .v 45, .v 46, .b true, .i .i64 0])
        (.sw 48 4
         (.ret [.v 43, .v 44, .v 45, .v 46, .b true, .i .i64 4])
         (.bad "sw")))
       (.sw 48 0
        (.ret [.v 43, .v 44, .v 45, .v 46, .b false, .i .i64 0])
        (.sw 48 4
         (.ret [.v 43, .v 44, .v 45, .v 46, .b false, .i .i64 4])
         (.bad "sw")))))
     (.cst .f32 0 <|
     .cst .f32 0 <|
     .cst .f32 0 <|
     .cst .f32 0 <|
     .ret [.v 24, .v 25, .v 26, .v 27, .b false, .i .i64 1]))
    (.cst .f32 0 <|
    .cst .f32 0 <|
    .cst .f32 0 <|
    .cst .f32 0 <|
    .ret [.v 23, .v 24, .v 25, .v 26, .b false, .i .i64 1]))
   (.cst .f32 0 <|
   .cst .f32 0 <|
   .cst .f32 0 <|
   .cst .f32 0 <|
   .ret [.v 22, .v 23, .v 24, .v 25, .b false, .i .i64 1])
def s66 : Sum := ⟨66, [.agg [.f .f32, .f .f32, .f .f32, .f .f32, .f .f32, .f .f32, .f .f32, .f .f32, .f .f32, .f .f32, .f .f32], .agg [.f .f32, .f .f32, .f .f32], .agg [.f .f32, .f .f32, .f .f32]], [.agg [.f .f32, .f .f32], .agg [.f .f32, .f .f32], .val (.b), .val (.i .i64 [0, 4, 1])]⟩
/-- (*loop.example/g01249/impl.view).along -/
def t67 : T :=
  .cst .f32 0 <|
  .cst .f32 0 <|
  .call 20 [.v 20, .v 21, .v 22, .v 11, .v 12, .v 13] 1 <|
  .bin .div .f32 26 23 <|
  .bin .mul .f32 27 9 <|
  .call 20 [.v 20, .v 21, .v 22, .v 14, .v 15, .v 16] 1 <|
  .bin .div .f32 29 23 <|
  .bin .mul .f32 30 9 <|
  .cst .f32 0 <|
  .cst .f32 0 <|
  .ret [.v 28, .v 31]
def s67 : Sum := ⟨67, [.ptr [.f .f32, .f .f32, .f .f32, .f .f32, .f .f32, .f .f32, .f .f32, .f .f32, .f .f32, .f .f32, .f .f32, .f .f32, .f .f32, .f .f32, .f .f32, .f .f32, .f .f32, .f .f32, .f .f32, .f .f32], .agg [.f .f32, .f .f32, .f .f32], .val (.f .f32)], [.agg [.f .f32, .f .f32]]⟩
/-- loop.example/g01249/impl.finiteSpot -/
def t68 : T :=
  .cst .f32 0 <|
  .cst .f32 0 <|
  .call 25 [.v 0] 1 <|
  .br 4
   (.cst .f32 0 <|
   .cst .f32 0 <|
   .ret [.v 5, .v 6, .i .i64 4])
   (.call 25 [.v 1] 1 <|
   .br 5
    (.cst .f32 0 <|
    .cst .f32 0 <|
    .ret [.v 6, .v 7, .i .i64 4])
    (.ret [.v 0, .v 1, .i .i64 0]))
def s68 : Sum := ⟨68, [.agg [.f .f32, .f .f32]], [.agg [.f .f32, .f .f32], .val (.i .i64 [4, 0])]⟩
/-- (*loop.example/g01249/impl.view).line -/
def t69 : T :=
  .cst .f32 0 <|
  .cst .f32 0 <|
  .cst .f32 0 <|
  .cst .f32 0 <|
  .call 61 [.v 0, .v 1, .v 2, .v 3, .v 4, .v 5, .v 6, .v 7, .v 8, .v 9, .v 10, .v 11, .v 12, .v 13, .v 14, .v 15, .v 16, .v 17, .v 18, .v 19, .v 20, .v 21, .v 22, .v 23, .v 24, .v 25] 9 <|
  .br 36
   (.br 37
    (.br 38
     (.cst .f32 0 <|
     .cst .f32 0 <|
     .cst .f32 0 <|
     .cst .f32 0 <|
     .cst .f32 0 <|
     .cst .f32 0 <|
     .cst .f32 0 <|
     .cst .f32 0 <|
     .call 59 [.v 0, .v 1, .v 2, .v 3, .v 4, .v 5, .v 6, .v 7, .v 8, .v 9, .v 10, .v 11, .v 12, .v 13, .v 14, .v 15, .v 16, .v 17, .v 18, .v 19, .v 30, .v 31, .v 32] 1 <|
     .call 46 [.v 30, .v 31, .v 32, .v 0, .v 1, .v 2] 3 <|
     .call 67 [.v 0, .v 1, .v 2, .v 3, .v 4, .v 5, .v 6, .v 7, .v 8, .v 9, .v 10, .v 11, .v 12, .v 13, .v 14, .v 15, .v 16, .v 17, .v 18, .v 19, .v 48, .v 49, .v 50, .v 10] 2 <|
     .call 68 [.v 51, .v 52] 3 <|
     .sw 55 4
      (.cst .f32 0 <|
      .cst .f32 0 <|
      .cst .f32 0 <|
      .cst .f32 0 <|
      .call 59 [.v 0, .v 1, .v 2, .v 3, .v 4, .v 5, .v 6, .v 7, .v 8, .v 9, .v 10, .v 11, .v 12, .v 13, .v 14, .v 15, .v 16, .v 17, .v 18, .v 19, .v 33, .v 34, .v 35] 1 <|
      .call 46 [.v 33, .v 34, .v 35, .v 0, .v 1, .v 2] 3 <|
      .call 67 [.v 0, .v 1, .v 2, .v 3, .v 4, .v 5, .v 6, .v 7, .v 8, .v 9, .v 10, .v 11, .v 12, .v 13, .v 14, .v 15, .v 16, .v 17, .v 18, .v 19, .v 61, .v 62, .v 63, .v 10] 2 <|
      .call 68 [.v 64, .v 65] 3 <|
      .sw 68 4
       (.cst .f32 0 <|
       .cst .f32 0 <|
       .cst .f32 0 <|
       .cst .f32 0 <|
       .cst .f32 0 <|
       .cst .f32 0 <|
       .ret [.v 71, .v 72, .v 73, .v 74, .b false, .i .i64 4])
       (.sw 68 0
        (.cst .f32 0 <|
        .cst .f32 0 <|
        .cst .f32 0 <|
        .cst .f32 0 <|
        .cst .f32 0 <|
        .cst .f32 0 <|
        .ret [.v 71, .v 72, .v 73, .v 74, .b false, .i .i64 4])
        (.bad "sw")))
      (.sw 55 0
       (.cst .f32 0 <|
       .cst .f32 0 <|
       .cst .f32 0 <|
       .cst .f32 0 <|
       .call 59 [.v 0, .v 1, .v 2, .v 3, .v 4, .v 5, .v 6, .v 7, .v 8, .v 9, .v 10, .v 11, .v 12, .v 13, .v 14, .v 15, .v 16, .v 17, .v 18, .v 19, .v 33, .v 34, .v 35] 1 <|
       .call 46 [.v 33, .v 34, .v 35, .v 0, .v 1, .v 2] 3 <|
       .call 67 [.v 0, .v 1, .v 2, .v 3, .v 4, .v 5, .v 6, .v 7, .v 8, .v 9, .v 10, .v 11, .v 12, .v 13, .v 14, .v 15, .v 16, .v 17, .v 18, .v 19, .v 61, .v 62, .v 63, .v 10] 2 <|
       .call 68 [.v 64, .v 65] 3 <|
       .sw 68 4
        (.cst .f32 0 <|
        .cst .f32 0 <|
        .cst .f32 0 <|
        .cst .f32 0 <|
        .cst .f32 0 <|
        .cst .f32 0 <|
        .ret [.v 71, .v 72, .v 73, .v 74, .b false, .i .i64 4])
        (.sw 68 0
         (.cst .f32 0 <|
         .cst .f32 0 <|
         .ret [.v 53, .v 54, .v 66, .v 67, .b true, .i .i64 0])
         (.bad "sw")))
       (.bad "sw")))
     (.cst .f32 0 <|
     .cst .f32 0 <|
     .cst .f32 0 <|
     .cst .f32 0 <|
     .cst .f32 0 <|
     .cst .f32 0 <|
     .cst .f32 0 <|
     .cst .f32 0 <|
     .cst .f32 0 <|
     .cst .f32 0 <|
     .ret [.v 45, .v 46, .v 47, .v 48, .b false, .i .i64 0]))
    (.br 38
     (.cst .f32 0 <|
     .cst .f32 0 <|
     .cst .f32 0 <|
     .cst .f32 0 <|
     .cst .f32 0 <|
     .cst .f32 0 <|
     .cst .f32 0 <|
     .cst .f32 0 <|
     .call 59 [.v 0, .v 1, .v 2, .v 3, .v 4, .v 5, .v 6, .v 7, .v 8, .v 9, .v 10, .v 11, .v 12, .v 13, .v 14, .v 15, .v 16, .v 17, .v 18, .v 19, .v 30, .v 31, .v 32] 1 <|
     .call 46 [.v 30, .v 31, .v 32, .v 0, .v 1, .v 2] 3 <|
     .call 67 [.v 0, .v 1, .v 2, .v 3, .v 4, .v 5, .v 6, .v 7, .v 8, .v 9, .v 10, .v 11, .v 12, .v 13, .v 14, .v 15, .v 16, .v 17, .v 18, .v 19, .v 48, .v 49, .v 50, .v 10] 2 <|
     .call 68 [.v 51, .v 52] 3 <|
     .sw 55 4
      (.cst .f32 0 <|
      .cst .f32 0 <|
      .cst .f32 0 <|
      .cst .f32 0 <|
      .call 59 [.v 0, .v 1, .v 2, .v 3, .v 4, .v 5, .v 6, .v 7, .v 8, .v 9, .v 10, .v 11, .v 12, .v 13, .v 14, .v 15, .v 16, .v 17, .v 18, .v 19, .v 33, .v 34, .v 35] 1 <|
      .call 46 [.v 33, .v 34, .v 35, .v 0, .v 1, .v 2] 3 <|
      .call 67 [.v 0, .v 1, .v 2, .v 3, .v 4, .v 5, .v 6, .v 7, .v 8, .v 9, .v 10, .v 11, .v 12, .v 13, .v 14, .v 15, .v 16, .v 17, .v 18, .v 19, .v 61, .v 62, .v 63, .v 60] 2 <|
      .call 68 [.v 64, .v 65] 3 <|
      .sw 68 4
       (.cst .f32 0 <|
       .cst .f32 0 <|
       .cst .f32 0 <|
       .cst .f32 0 <|
       .cst .f32 0 <|
       .cst .f32 0 <|
       .ret [.v 71, .v 72, .v 73, .v 74, .b false, .i .i64 4])
       (.sw 68 0
        (.cst .f32 0 <|
        .cst .f32 0 <|
        .cst .f32 0 <|
        .cst .f32 0 <|
        .cst .f32 0 <|
        .cst .f32 0 <|
        .ret [.v 71, .v 72, .v 73, .v 74, .b false, .i .i64 4])
        (.bad "sw")))
      (.sw 55 0
       (.cst .f32 0 <|
       .cst .f32 0 <|
       .cst .f32 0 <|
       .cst .f32 0 <|
       .call 59 [.v 0, .v 1, .v 2, .v 3, .v 4, .v 5, .v 6, .v 7, .v 8, .v 9, .v 10, .v 11, .v 12, .v 13, .v 14, .v 15, .v 16, .v 17, .v 18, .v 19, .v 33, .v 34, .v 35] 1 <|
       .call 46 [.v 33, .v 34, .v 35, .v 0, .v 1, .v 2] 3 <|
       .call 67 [.v 0, .v 1, .v 2, .v 3, .v 4, .v 5, .v 6, .v 7, .v 8, .v 9, .v 10, .v 11, .v 12, .v 13, .v 14, .v 15, .v 16, .v 17, .v 18, .v 19, .v 61, .v 62, .v 63, .v 60] 2 <|
       .call 68 [.v 64, .v 65] 3 <|
       .sw 68 4
        (.cst .f32 0 <|
        .cst .f32 0 <|
        .cst .f32 0 <|
        .cst .f32 0 <|
        .cst .f32 0 <|
        .cst .f32 0 <|
        .ret [.v 71, .v 72, .v 73, .v 74, .b false, .i .i64 4])
        (.sw 68 0
         (.cst .f32 0 <|
         .cst .f32 0 <|
         .ret [.v 53, .v 54, .v 66, .v 67, .b true, .i .i64 0])
         (.bad "sw")))
       (.bad "sw")))
     (.cst .f32 0 <|
     .cst .f32 0 <|
     .cst .f32 0 <|
     .cst .f32 0 <|
     .cst .f32 0 <|
     .cst .f32 0 <|
     .cst .f32 0 <|
     .cst .f32 0 <|
     .cst .f32 0 <|
     .cst .f32 0 <|
     .ret [.v 45, .v 46, .v 47, .v 48, .b false, .i .i64 0])))
   (.br 37
    (.br 38
     (.cst .f32 0 <|
     .cst .f32 0 <|
     .cst .f32 0 <|
     .cst .f32 0 <|
     .cst .f32 0 <|
     .cst .f32 0 <|
     .cst .f32 0 <|
     .cst .f32 0 <|
     .call 59 [.v 0, .v 1, .v 2, .v 3, .v 4, .v 5, .v 6, .v 7, .v 8, .v 9, .v 10, .v 11, .v 12, .v 13, .v 14, .v 15, .v 16, .v 17, .v 18, .v 19, .v 30, .v 31, .v 32] 1 <|
     .call 46 [.v 30, .v 31, .v 32, .v 0, .v 1, .v 2] 3 <|
     .call 67 [.v 0, .v 1, .v 2, .v 3, .v 4, .v 5, .v 6, .v 7, .v 8, .v 9, .v 10, .v 11, .v 12, .v 13, .v 14, .v 15, .v 16, .v 17, .v 18, .v 19, .v 48, .v 49, .v 50, .v 47] 2 <|
     .call 68 [.v 51, .v 52] 3 <|
     .sw 55 4
      (.cst .f32 0 <|
      .cst .f32 0 <|
      .cst .f32 0 <|
      .cst .f32 0 <|
      .call 59 [.v 0, .v 1, .v 2, .v 3, .v 4, .v 5, .v 6, .v 7, .v 8, .v 9, .v 10, .v 11, .v 12, .v 13, .v 14, .v 15, .v 16, .v 17, .v 18, .v 19, .v 33, .v 34, .v 35] 1 <|
      .call 46 [.v 33, .v 34, .v 35, .v 0, .v 1, .v 2] 3 <|
      .call 67 [.v 0, .v 1, .v 2, .v 3, .v 4, .v 5, .v 6, .v 7, .v 8, .v 9, .v 10, .v 11, .v 12, .v 13, .v 14, .v 15, .v 16, .v 17, .v 18, .v 19, .v 61, .v 62, .v 63, .v 10] 2 <|
      .call 68 [.v 64, .v 65] 3 <|
      .sw 68 4
       (.cst .f32 0 <|
       .cst .f32 0 <|
       .cst .f32 0 <|
       .cst .f32 0 <|
       .cst .f32 0 <|
       .cst .f32 0 <|
       .ret [.v 71, .v 72, .v 73, .v 74, .b false, .i .i64 4])
       (.sw 68 0
        (.cst .f32 0 <|
        .cst .f32 0 <|
        .cst .f32 0 <|
        .cst .f32 0 <|
        .cst .f32 0 <|
        .cst .f32 0 <|
        .ret [.v 71, .v 72, .v 73, .v 74, .b false, .i .i64 4])
        (.bad "sw")))
      (.sw 55 0
       (.cst .f32 0 <|
       .cst .f32 0 <|
       .cst .f32 0 <|
       .cst .f32 0 <|
       .call 59 [.v 0, .v 1, .v 2, .v 3, .v 4, .v 5, .v 6, .v 7, .v 8, .v 9, .v 10, .v 11, .v 12, .v 13, .v 14, .v 15, .v 16, .v 17, .v 18, .v 19, .v 33, .v 34, .v 35] 1 <|
       .call 46 [.v 33, .v 34, .v 35, .v 0, .v 1, .v 2] 3 <|
       .call 67 [.v 0, .v 1, .v 2, .v 3, .v 4, .v 5, .v 6, .v 7, .v 8, .v 9, .v 10, .v 11, .v 12, .v 13, .v 14, .v 15, .v 16, .v 17, .v 18, .v 19, .v 61, .v 62, .v 63, .v 10] 2 <|
       .call 68 [.v 64, .v 65] 3 <|
       .sw 68 4
        (.cst .f32 0 <|
        .cst .f32 0 <|
        .cst .f32 0 <|
        .cst .f32 0 <|
        .cst .f32 0 <|
        .cst .f32 0 <|
        .ret [.v 71, .v 72, .v 73, .v 74, .b false, .i .i64 4])
        (.sw 68 0
         (.cst .f32 0 <|
         .cst .f32 0 <|
         .ret [.v 53, .v 54, .v 66, .v 67, .b true, .i .i64 0])
         (.bad "sw")))
       (.bad "sw")))
     (.cst .f32 0 <|
     .cst .f32 0 <|
     .cst .f32 0 <|
     .cst .f32 0 <|
     .cst .f32 0 <|
     .cst .f32 0 <|
     .cst .f32 0 <|
     .cst .f32 0 <|
     .cst .f32 0 <|
     .cst .f32 0 <|
     .ret [.v 45, .v 46, .v 47, .v 48, .b false, .i .i64 0]))
    (.br 38
     (.cst .f32 0 <|
     .cst .f32 0 <|
     .cst .f32 0 <|
     .cst .f32 0 <|
     .cst .f32 0 <|
     .cst .f32 0 <|
     .cst .f32 0 <|
     .cst .f32 0 <|
     .call 59 [.v 0, .v 1, .v 2, .v 3, .v 4, .v 5, .v 6, .v 7, .v 8, .v 9, .v 10, .v 11, .v 12, .v 13, .v 14, .v 15, .v 16, .v 17, .v 18, .v 19, .v 30, .v 31, .v 32] 1 <|
     .call 46 [.v 30, .v 31, .v 32, .v 0, .v 1, .v 2] 3 <|
     .call 67 [.v 0, .v 1, .v 2, .v 3, .v 4, .v 5, .v 6, .v 7, .v 8, .v 9, .v 10, .v 11, .v 12, .v 13, .v 14, .v 15, .v 16, .v 17, .v 18, .v 19, .v 48, .v 49, .v 50, .v 47] 2 <|
     .call 68 [.v 51, .v 52] 3 <|
     .sw 55 4
      (.cst .f32 0 <|
      .cst .f32 0 <|
      .cst .f32 0 <|
      .cst .f32 0 <|
      .call 59 [.v 0, .v 1, .v 2, .v 3, .v 4, .v 5, .v 6, .v 7, .v 8, .v 9, .v 10, .v 11, .v 12, .v 13, .v 14, .v 15, .v 16, .v 17, .v 18, .v 19, .v 33, .v 34, .v 35] 1 <|
      .call 46 [.v 33, .v 34, .v 35, .v 0, .v 1, .v 2] 3 <|
      .call 67 [.v 0, .v 1, .v 2, .v 3, .v 4, .v 5, .v 6, .v 7, .v 8, .v 9, .v 10, .v 11, .v 12, .v 13, .v 14, .v 15, .v 16, .v 17, .v 18, .v 19, .v 61, .v 62, .v 63, .v 60] 2 <|
      .call 68 [.v 64, .v 65] 3 <|
      .sw 68 4
       (.cst .f32 0 <|
       .cst .f32 0 <|
       .cst .f32 0 <|
       .cst .f32 0 <|
       .cst .f32 0 <|
       .cst .f32 0 <|
       .ret [.v 71, .v 72, .v 73, .v 74, .b false, .i .i64 4])
       (.sw 68 0
        (.cst .f32 0 <|
        .cst .f32 0 <|
        .cst .f32 0 <|
        .cst .f32 0 <|
        .cst .f32 0 <|
        .cst .f32 0 <|
        .ret [.v 71, .v 72, .v 73, .v 74, .b false, .i .i64 4])
        (.bad "sw")))
      (.sw 55 0
       (.cst .f32 0 <|
       .cst .f32 0 <|
       .cst .f32 0 <|
       .cst .f32 0 <|
       .call 59 [.v 0, .v 1, .v 2, .v 3, .v 4, .v 5, .v 6, .v 7, .v 8, .v 9, .v 10, .v 11, .v 12, .v 13, .v 14, .v 15, .v 16, .v 17, .v 18, .v 19, .v 33, .v 34, .v 35] 1 <|
       .call 46 [.v 33, .v 34, .v 35, .v 0, .v 1, .v 2] 3 <|
       .call 67 [.v 0, .v 1, .v 2, .v 3, .v 4, .v 5, .v 6, .v 7, .v 8, .v 9, .v 10, .v 11, .v 12, .v 13, .v 14, .v 15, .v 16, .v 17, .v 18, .v 19, .v 61, .v 62, .v 63, .v 60] 2 <|
       .call 68 [.v 64, .v 65] 3 <|
       .sw 68 4
        (.cst .f32 0 <|
        .cst .f32 0 <|
        .cst .f32 0 <|
        .cst .f32 0 <|
        .cst .f32 0 <|
        .cst .f32 0 <|
        .ret [.v 71, .v 72, .v 73, .v 74, .b false, .i .i64 4])
        (.sw 68 0
         (.cst .f32 0 <|
         .cst .f32 0 <|
         .ret [.v 53, .v 54, .v 66, .v 67, .b true, .i .i64 0])
         (.bad "sw")))
       (.bad "sw")))
     (.cst .f32 0 <|
     .cst .f32 0 <|
     .cst .f32 0 <|
     .cst .f32 0 <|
     .cst .f32 0 <|
     .cst .f32 0 <|
     .cst .f32 0 <|
     .cst .f32 0 <|
     .cst .f32 0 <|
     .cst .f32 0 <|
     .ret [.v 45, .v 46, .v 47, .v 48, .b false, .i .i64 0])))
def s69 : Sum := ⟨69, [.ptr [.f .f32, .f .f32, .f .f32, .f .f32, .f .f32, .f .f32, .f .f32, .f .f32, .f .f32, .f .f32, .f .f32, .f .f32, .f .f32, .f .f32, .f .f32, .f .f32, .f .f32, .f .f32, .f .f32, .f .f32], .agg [.f .f32, .f .f32, .f .f32], .agg [.f .f32, .f .f32, .f .f32]], [.agg [.f .f32, .f .f32], .agg [.f .f32, .f .f32], .val (.b), .val (.i .i64 [4, 0])]⟩
/-- loop.example/g01249/impl.ProjectLine -/
def t70 : T :=
  .cst .f32 0 <|
  .cst .f32 0 <|
  .cst .f32 0 <|
  .cst .f32 0 <|
  .cst .f32 0 <|
  .cst .f32 0 <|
  .cst .f32 0 <|
  .call 48 [.v 0, .v 1, .v 2, .v 3, .v 4, .v 5, .v 6, .v 7, .v 8, .v 9, .v 10] 1 <|
  .br 24
   (.call 18 [.v 11, .v 12, .v 13] 1 <|
   .br 25
    (.cst .f32 0 <|
    .cst .f32 0 <|
    .cst .f32 0 <|
    .cst .f32 0 <|
    .ret [.v 26, .v 27, .v 28, .v 29, .b false, .i .i64 1])
    (.call 18 [.v 14, .v 15, .v 16] 1 <|
    .br 26
     (.cst .f32 0 <|
     .cst .f32 0 <|
     .cst .f32 0 <|
     .cst .f32 0 <|
     .ret [.v 27, .v 28, .v 29, .v 30, .b false, .i .i64 1])
     (.call 49 [.v 0, .v 1, .v 2, .v 3, .v 4, .v 5, .v 6, .v 7, .v 8, .v 9, .v 10] 20 <|
     .cst .f32 0 <|
     .cst .f32 0 <|
     .cst .f32 0 <|
     .cst .f32 0 <|
     .cst .f32 0 <|
     .cst .f32 0 <|
     .cst .f32 0 <|
     .cst .f32 0 <|
     .cst .f32 0 <|
     .cst .f32 0 <|
     .cst .f32 0 <|
     .cst .f32 0 <|
     .cst .f32 0 <|
     .cst .f32 0 <|
     .cst .f32 0 <|
     .cst .f32 0 <|
     .cst .f32 0 <|
     .cst .f32 0 <|
     .cst .f32 0 <|
     .cst .f32 0 <|
     .call 69 [.v 27, .v 28, .v 29, .v 30, .v 31, .v 32, .v 33, .v 34, .v 35, .v 36, .v 37, .v 38, .v 39, .v 40, .v 41, .v 42, .v 43, .v 44, .v 45, .v 46, .v 11, .v 12, .v 13, .v 14, .v 15, .v 16] 6 <|
     .br 71
      (.sw 72 4
       (.ret [.v 67, .v 68, .v 69, .v 70, .b true, .i .i64 4])
       (.sw 72 0
        (.ret [.v 67, .v 68, .v 69, .v 70, .b true, .i .i64 0])
        (.bad "sw")))
      (.sw 72 4
       (.ret [.v 67, .v 68, .v 69, .v 70, .b false, .i .i64 4])
       (.sw 72 0
        (.ret [.v 67, .v 68, .v 69, .v 70, .b false, .i .i64 0])
        (.bad "sw"))))))
   (.cst .f32 0 <|
   .cst .f32 0 <|
   .cst .f32 0 <|
   .cst .f32 0 <|
   .ret [.v 25, .v 26, .v 27, .v 28, .b false, .i .i64 1])
def s70 : Sum := ⟨70, [.agg [.f .f32, .f .f32, .f .f32, .f .f32, .f .f32, .f .f32, .f .f32, .f .f32, .f .f32, .f .f32, .f .f32], .agg [.f .f32, .f .f32, .f .f32], .agg [.f .f32, .f .f32, .f .f32]], [.agg [.f .f32, .f .f32], .agg [.f .f32, .f .f32], .val (.b), .val (.i .i64 [1, 4, 0])]⟩
/-- loop.example/g01249/laws.eqSpot -/
def t71 : T :=
  .un .widen .f32 0 <|
  .un .widen .f32 2 <|
  .call 34 [.v 4, .v 5] 1 <|
  .br 6
   (.un .widen .f32 1 <|
   .un .widen .f32 3 <|
   .call 34 [.v 7, .v 8] 1 <|
   .br 9
    (.ret [.b true])
    (.ret [.b false]))
   (.ret [.b false])
def s71 : Sum := ⟨71, [.agg [.f .f32, .f .f32], .agg [.f .f32, .f .f32]], [.val (.b)]⟩
/-- loop.example/g01249/laws.FnExactProjectLine -/
def t72 : T :=
  .call 37 [.v 0, .v 1, .v 2, .v 3, .v 4, .v 5, .v 6, .v 7, .v 8, .v 9, .v 10] 11 <|
  .call 0 [.v 11, .v 12, .v 13] 3 <|
  .call 0 [.v 14, .v 15, .v 16] 3 <|
  .call 66 [.v 17, .v 18, .v 19, .v 20, .v 21, .v 22, .v 23, .v 24, .v 25, .v 26, .v 27, .v 28, .v 29, .v 30, .v 31, .v 32, .v 33] 6 <|
  .br 38
   (.sw 39 0
    (.cst .f32 0 <|
    .cst .f32 0 <|
    .cst .f32 0 <|
    .cst .f32 0 <|
    .call 37 [.v 0, .v 1, .v 2, .v 3, .v 4, .v 5, .v 6, .v 7, .v 8, .v 9, .v 10] 11 <|
    .call 0 [.v 11, .v 12, .v 13] 3 <|
    .call 0 [.v 14, .v 15, .v 16] 3 <|
    .call 70 [.v 44, .v 45, .v 46, .v 47, .v 48, .v 49, .v 50, .v 51, .v 52, .v 53, .v 54, .v 55, .v 56, .v 57, .v 58, .v 59, .v 60] 6 <|
    .br 65
     (.sw 66 1
      (.cst .f32 0 <|
      .cst .f32 0 <|
      .cst .f32 0 <|
      .cst .f32 0 <|
      .call 71 [.v 61, .v 62, .v 34, .v 35] 1 <|
      .br 71
       (.call 71 [.v 63, .v 64, .v 36, .v 37] 1 <|
       .br 72
        (.ret [.b false])
        (.ret [.b false]))
       (.ret [.b false]))
      (.sw 66 4
       (.cst .f32 0 <|
       .cst .f32 0 <|
       .cst .f32 0 <|
       .cst .f32 0 <|
       .call 71 [.v 61, .v 62, .v 34, .v 35] 1 <|
       .br 71
        (.call 71 [.v 63, .v 64, .v 36, .v 37] 1 <|
        .br 72
         (.ret [.b false])
         (.ret [.b false]))
        (.ret [.b false]))
       (.sw 66 0
        (.cst .f32 0 <|
        .cst .f32 0 <|
        .cst .f32 0 <|
        .cst .f32 0 <|
        .call 71 [.v 61, .v 62, .v 34, .v 35] 1 <|
        .br 71
         (.call 71 [.v 63, .v 64, .v 36, .v 37] 1 <|
         .br 72
          (.ret [.b true])
          (.ret [.b false]))
         (.ret [.b false]))
        (.bad "sw"))))
     (.sw 66 1
      (.cst .f32 0 <|
      .cst .f32 0 <|
      .cst .f32 0 <|
      .cst .f32 0 <|
      .call 71 [.v 61, .v 62, .v 34, .v 35] 1 <|
      .br 71
       (.call 71 [.v 63, .v 64, .v 36, .v 37] 1 <|
       .br 72
        (.ret [.b false])
        (.ret [.b false]))
       (.ret [.b false]))
      (.sw 66 4
       (.cst .f32 0 <|
       .cst .f32 0 <|
       .cst .f32 0 <|
       .cst .f32 0 <|
       .call 71 [.v 61, .v 62, .v 34, .v 35] 1 <|
       .br 71
        (.call 71 [.v 63, .v 64, .v 36, .v 37] 1 <|
        .br 72
         (.ret [.b false])
         (.ret [.b false]))
        (.ret [.b false]))
       (.sw 66 0
        (.cst .f32 0 <|
        .cst .f32 0 <|
        .cst .f32 0 <|
        .cst .f32 0 <|
        .call 71 [.v 61, .v 62, .v 34, .v 35] 1 <|
        .br 71
         (.call 71 [.v 63, .v 64, .v 36, .v 37] 1 <|
         .br 72
          (.ret [.b false])
          (.ret [.b false]))
         (.ret [.b false]))
        (.bad "sw")))))
    (.sw 39 4
     (.cst .f32 0 <|
     .cst .f32 0 <|
     .cst .f32 0 <|
     .cst .f32 0 <|
     .call 37 [.v 0, .v 1, .v 2, .v 3, .v 4, .v 5, .v 6, .v 7, .v 8, .v 9, .v 10] 11 <|
     .call 0 [.v 11, .v 12, .v 13] 3 <|
     .call 0 [.v 14, .v 15, .v 16] 3 <|
     .call 70 [.v 44, .v 45, .v 46, .v 47, .v 48, .v 49, .v 50, .v 51, .v 52, .v 53, .v 54, .v 55, .v 56, .v 57, .v 58, .v 59, .v 60] 6 <|
     .br 65
      (.sw 66 1
       (.cst .f32 0 <|
       .cst .f32 0 <|
       .cst .f32 0 <|
       .cst .f32 0 <|
       .call 71 [.v 61, .v 62, .v 34, .v 35] 1 <|
       .br 71
        (.call 71 [.v 63, .v 64, .v 36, .v 37] 1 <|
        .br 72
         (.ret [.b false])
         (.ret [.b false]))
        (.ret [.b false]))
       (.sw 66 4
        (.cst .f32 0 <|
        .cst .f32 0 <|
        .cst .f32 0 <|
        .cst .f32 0 <|
        .call 71 [.v 61, .v 62, .v 34, .v 35] 1 <|
        .br 71
         (.call 71 [.v 63, .v 64, .v 36, .v 37] 1 <|
         .br 72
          (.ret [.b true])
          (.ret [.b false]))
         (.ret [.b false]))
        (.sw 66 0
         (.cst .f32 0 <|
         .cst .f32 0 <|
         .cst .f32 0 <|
         .cst .f32 0 <|
         .call 71 [.v 61, .v 62, .v 34, .v 35] 1 <|
         .br 71
          (.call 71 [.v 63, .v 64, .v 36, .v 37] 1 <|
          .br 72
           (.ret [.b false])
           (.ret [.b false]))
          (.ret [.b false]))
         (.bad "sw"))))
      (.sw 66 1
       (.cst .f32 0 <|
       .cst .f32 0 <|
       .cst .f32 0 <|
       .cst .f32 0 <|
       .call 71 [.v 61, .v 62, .v 34, .v 35] 1 <|
       .br 71
        (.call 71 [.v 63, .v 64, .v 36, .v 37] 1 <|
        .br 72
         (.ret [.b false])
         (.ret [.b false]))
        (.ret [.b false]))
       (.sw 66 4
        (.cst .f32 0 <|
        .cst .f32 0 <|
        .cst .f32 0 <|
        .cst .f32 0 <|
        .call 71 [.v 61, .v 62, .v 34, .v 35] 1 <|
        .br 71
         (.call 71 [.v 63, .v 64, .v 36, .v 37] 1 <|
         .br 72
          (.ret [.b false])
          (.ret [.b false]))
         (.ret [.b false]))
        (.sw 66 0
         (.cst .f32 0 <|
         .cst .f32 0 <|
         .cst .f32 0 <|
         .cst .f32 0 <|
         .call 71 [.v 61, .v 62, .v 34, .v 35] 1 <|
         .br 71
          (.call 71 [.v 63, .v 64, .v 36, .v 37] 1 <|
          .br 72
           (.ret [.b false])
           (.ret [.b false]))
          (.ret [.b false]))
         (.bad "sw")))))
     (.sw 39 1
      (.cst .f32 0 <|
      .cst .f32 0 <|
      .cst .f32 0 <|
      .cst .f32 0 <|
      .call 37 [.v 0, .v 1, .v 2, .v 3, .v 4, .v 5, .v 6, .v 7, .v 8, .v 9, .v 10] 11 <|
      .call 0 [.v 11, .v 12, .v 13] 3 <|
      .call 0 [.v 14, .v 15, .v 16] 3 <|
      .call 70 [.v 44, .v 45, .v 46, .v 47, .v 48, .v 49, .v 50, .v 51, .v 52, .v 53, .v 54, .v 55, .v 56, .v 57, .v 58, .v 59, .v 60] 6 <|
      .br 65
       (.sw 66 1
        (.cst .f32 0 <|
        .cst .f32 0 <|
        .cst .f32 0 <|
        .cst .f32 0 <|
        .call 71 [.v 61, .v 62, .v 34, .v 35] 1 <|
        .br 71
         (.call 71 [.v 63, .v 64, .v 36, .v 37] 1 <|
         .br 72
          (.ret [.b true])
          (.ret [.b false]))
         (.ret [.b false]))
        (.sw 66 4
         (.cst .f32 0 <|
         .cst .f32 0 <|
         .cst .f32 0 <|
         .cst .f32 0 <|
         .call 71 [.v 61, .v 62, .v 34, .v 35] 1 <|
         .br 71
          (.call 71 [.v 63, .v 64, .v 36, .v 37] 1 <|
          .br 72
           (.ret [.b false])
           (.ret [.b false]))
          (.ret [.b false]))
         (.sw 66 0
          (.cst .f32 0 <|
          .cst .f32 0 <|
          .cst .f32 0 <|
          .cst .f32 0 <|
          .call 71 [.v 61, .v 62, .v 34, .v 35] 1 <|
          .br 71
           (.call 71 [.v 63, .v 64, .v 36, .v 37] 1 <|
           .br 72
            (.ret [.b false])
            (.ret [.b false]))
           (.ret [.b false]))
          (.bad "sw"))))
       (.sw 66 1
        (.cst .f32 0 <|
        .cst .f32 0 <|
        .cst .f32 0 <|
        .cst .f32 0 <|
        .call 71 [.v 61, .v 62, .v 34, .v 35] 1 <|
        .br 71
         (.call 71 [.v 63, .v 64, .v 36, .v 37] 1 <|
         .br 72
          (.ret [.b false])
          (.ret [.b false]))
         (.ret [.b false]))
        (.sw 66 4
         (.cst .f32 0 <|
         .cst .f32 0 <|
         .cst .f32 0 <|
         .cst .f32 0 <|
         .call 71 [.v 61, .v 62, .v 34, .v 35] 1 <|
         .br 71
          (.call 71 [.v 63, .v 64, .v 36, .v 37] 1 <|
          .br 72
           (.ret [.b false])
           (.ret [.b false]))
          (.ret [.b false]))
         (.sw 66 0
          (.cst .f32 0 <|
          .cst .f32 0 <|
          .cst .f32 0 <|
          .cst .f32 0 <|
          .call 71 [.v 61, .v 62, .v 34, .v 35] 1 <|
          .br 71
           (.call 71 [.v 63, .v 64, .v 36, .v 37] 1 <|
           .br 72
            (.ret [.b false])
            (.ret [.b false]))
           (.ret [.b false]))
          (.bad "sw")))))
      (.bad "sw"))))
   (.sw 39 0
    (.cst .f32 0 <|
    .cst .f32 0 <|
    .cst .f32 0 <|
    .cst .f32 0 <|
    .call 37 [.v 0, .v 1, .v 2, .v 3, .v 4, .v 5, .v 6, .v 7, .v 8, .v 9, .v 10] 11 <|
    .call 0 [.v 11, .v 12, .v 13] 3 <|
    .call 0 [.v 14, .v 15, .v 16] 3 <|
    .call 70 [.v 44, .v 45, .v 46, .v 47, .v 48, .v 49, .v 50, .v 51, .v 52, .v 53, .v 54, .v 55, .v 56, .v 57, .v 58, .v 59, .v 60] 6 <|
    .br 65
     (.sw 66 1
      (.cst .f32 0 <|
      .cst .f32 0 <|
      .cst .f32 0 <|
      .cst .f32 0 <|
      .call 71 [.v 61, .v 62, .v 34, .v 35] 1 <|
      .br 71
       (.call 71 [.v 63, .v 64, .v 36, .v 37] 1 <|
       .br 72
        (.ret [.b false])
        (.ret [.b false]))
       (.ret [.b false]))
      (.sw 66 4
       (.cst .f32 0 <|
       .cst .f32 0 <|
       .cst .f32 0 <|
       .cst .f32 0 <|
       .call 71 [.v 61, .v 62, .v 34, .v 35] 1 <|
       .br 71
        (.call 71 [.v 63, .v 64, .v 36, .v 37] 1 <|
        .br 72
         (.ret [.b false])
         (.ret [.b false]))
        (.ret [.b false]))
       (.sw 66 0
        (.cst .f32 0 <|
        .cst .f32 0 <|
        .cst .f32 0 <|
        .cst .f32 0 <|
        .call 71 [.v 61, .v 62, .v 34, .v 35] 1 <|
        .br 71
         (.call 71 [.v 63, .v 64, .v 36, .v 37] 1 <|
         .br 72
          (.ret [.b false])
          (.ret [.b false]))
         (.ret [.b false]))
        (.bad "sw"))))
     (.sw 66 1
      (.cst .f32 0 <|
      .cst .f32 0 <|
      .cst .f32 0 <|
      .cst .f32 0 <|
      .call 71 [.v 61, .v 62, .v 34, .v 35] 1 <|
      .br 71
       (.call 71 [.v 63, .v 64, .v 36, .v 37] 1 <|
       .br 72
        (.ret [.b false])
        (.ret [.b false]))
       (.ret [.b false]))
      (.sw 66 4
       (.cst .f32 0 <|
       .cst .f32 0 <|
       .cst .f32 0 <|
       .cst .f32 0 <|
       .call 71 [.v 61, .v 62, .v 34, .v 35] 1 <|
       .br 71
        (.call 71 [.v 63, .v 64, .v 36, .v 37] 1 <|
        .br 72
         (.ret [.b false])
         (.ret [.b false]))
        (.ret [.b false]))
       (.sw 66 0
        (.cst .f32 0 <|
        .cst .f32 0 <|
        .cst .f32 0 <|
        .cst .f32 0 <|
        .call 71 [.v 61, .v 62, .v 34, .v 35] 1 <|
        .br 71
         (.call 71 [.v 63, .v 64, .v 36, .v 37] 1 <|
         .br 72
          (.ret [.b true])
          (.ret [.b false]))
         (.ret [.b false]))
        (.bad "sw")))))
    (.sw 39 4
     (.cst .f32 0 <|
     .cst .f32 0 <|
     .cst .f32 0 <|
     .cst .f32 0 <|
     .call 37 [.v 0, .v 1, .v 2, .v 3, .v 4, .v 5, .v 6, .v 7, .v 8, .v 9, .v 10] 11 <|
     .call 0 [.v 11, .v 12, .v 13] 3 <|
     .call 0 [.v 14, .v 15, .v 16] 3 <|
     .call 70 [.v 44, .v 45, .v 46, .v 47, .v 48, .v 49, .v 50, .v 51, .v 52, .v 53, .v 54, .v 55, .v 56, .v 57, .v 58, .v 59, .v 60] 6 <|
     .br 65
      (.sw 66 1
       (.cst .f32 0 <|
       .cst .f32 0 <|
       .cst .f32 0 <|
       .cst .f32 0 <|
       .call 71 [.v 61, .v 62, .v 34, .v 35] 1 <|
       .br 71
        (.call 71 [.v 63, .v 64, .v 36, .v 37] 1 <|
        .br 72
         (.ret [.b false])
         (.ret [.b false]))
        (.ret [.b false]))
       (.sw 66 4
        (.cst .f32 0 <|
        .cst .f32 0 <|
        .cst .f32 0 <|
        .cst .f32 0 <|
        .call 71 [.v 61, .v 62, .v 34, .v 35] 1 <|
        .br 71
         (.call 71 [.v 63, .v 64, .v 36, .v 37] 1 <|
         .br 72
          (.ret [.b false])
          (.ret [.b false]))
         (.ret [.b false]))
        (.sw 66 0
         (.cst .f32 0 <|
         .cst .f32 0 <|
         .cst .f32 0 <|
         .cst .f32 0 <|
         .call 71 [.v 61, .v 62, .v 34, .v 35] 1 <|
         .br 71
          (.call 71 [.v 63, .v 64, .v 36, .v 37] 1 <|
          .br 72
           (.ret [.b false])
           (.ret [.b false]))
          (.ret [.b false]))
         (.bad "sw"))))
      (.sw 66 1
       (.cst .f32 0 <|
       .cst .f32 0 <|
       .cst .f32 0 <|
       .cst .f32 0 <|
       .call 71 [.v 61, .v 62, .v 34, .v 35] 1 <|
       .br 71
        (.call 71 [.v 63, .v 64, .v 36, .v 37] 1 <|
        .br 72
         (.ret [.b false])
         (.ret [.b false]))
        (.ret [.b false]))
       (.sw 66 4
        (.cst .f32 0 <|
        .cst .f32 0 <|
        .cst .f32 0 <|
        .cst .f32 0 <|
        .call 71 [.v 61, .v 62, .v 34, .v 35] 1 <|
        .br 71
         (.call 71 [.v 63, .v 64, .v 36, .v 37] 1 <|
         .br 72
          (.ret [.b true])
          (.ret [.b false]))
         (.ret [.b false]))
        (.sw 66 0
         (.cst .f32 0 <|
         .cst .f32 0 <|
         .cst .f32 0 <|
         .cst .f32 0 <|
         .call 71 [.v 61, .v 62, .v 34, .v 35] 1 <|
         .br 71
          (.call 71 [.v 63, .v 64, .v 36, .v 37] 1 <|
          .br 72
           (.ret [.b false])
           (.ret [.b false]))
          (.ret [.b false]))
         (.bad "sw")))))
     (.sw 39 1
      (.cst .f32 0 <|
      .cst .f32 0 <|
      .cst .f32 0 <|
      .cst .f32 0 <|
      .call 37 [.v 0, .v 1, .v 2, .v 3, .v 4, .v 5, .v 6, .v 7, .v 8, .v 9, .v 10] 11 <|
      .call 0 [.v 11, .v 12, .v 13] 3 <|
      .call 0 [.v 14, .v 15, .v 16] 3 <|
      .call 70 [.v 44, .v 45, .v 46, .v 47, .v 48, .v 49, .v 50, .v 51, .v 52, .v 53, .v 54, .v 55, .v 56, .v 57, .v 58, .v 59, .v 60] 6 <|
      .br 65
       (.sw 66 1
        (.cst .f32 0 <|
        .cst .f32 0 <|
        .cst .f32 0 <|
        .cst .f32 0 <|
        .call 71 [.v 61, .v 62, .v 34, .v 35] 1 <|
        .br 71
         (.call 71 [.v 63, .v 64, .v 36, .v 37] 1 <|
         .br 72
          (.ret [.b false])
          (.ret [.b false]))
         (.ret [.b false]))
        (.sw 66 4
         (.cst .f32 0 <|
         .cst .f32 0 <|
         .cst .f32 0 <|
         .cst .f32 0 <|
         .call 71 [.v 61, .v 62, .v 34, .v 35] 1 <|
         .br 71
          (.call 71 [.v 63, .v 64, .v 36, .v 37] 1 <|
          .br 72
           (.ret [.b false])
           (.ret [.b false]))
          (.ret [.b false]))
         (.sw 66 0
          (.cst .f32 0 <|
          .cst .f32 0 <|
          .cst .f32 0 <|
          .cst .f32 0 <|
          .call 71 [.v 61, .v 62, .v 34, .v 35] 1 <|
          .br 71
           (.call 71 [.v 63, .v 64, .v 36, .v 37] 1 <|
           .br 72
            (.ret [.b false])
            (.ret [.b false]))
           (.ret [.b false]))
          (.bad "sw"))))
       (.sw 66 1
        (.cst .f32 0 <|
        .cst .f32 0 <|
        .cst .f32 0 <|
        .cst .f32 0 <|
        .call 71 [.v 61, .v 62, .v 34, .v 35] 1 <|
        .br 71
         (.call 71 [.v 63, .v 64, .v 36, .v 37] 1 <|
         .br 72
          (.ret [.b true])
          (.ret [.b false]))
         (.ret [.b false]))
        (.sw 66 4
         (.cst .f32 0 <|
         .cst .f32 0 <|
         .cst .f32 0 <|
         .cst .f32 0 <|
         .call 71 [.v 61, .v 62, .v 34, .v 35] 1 <|
         .br 71
          (.call 71 [.v 63, .v 64, .v 36, .v 37] 1 <|
          .br 72
           (.ret [.b false])
           (.ret [.b false]))
          (.ret [.b false]))
         (.sw 66 0
          (.cst .f32 0 <|
          .cst .f32 0 <|
          .cst .f32 0 <|
          .cst .f32 0 <|
          .call 71 [.v 61, .v 62, .v 34, .v 35] 1 <|
          .br 71
           (.call 71 [.v 63, .v 64, .v 36, .v 37] 1 <|
           .br 72
            (.ret [.b false])
            (.ret [.b false]))
           (.ret [.b false]))
          (.bad "sw")))))
      (.bad "sw"))))
def s72 : Sum := ⟨72, [.agg [.f .f32, .f .f32, .f .f32, .f .f32, .f .f32, .f .f32, .f .f32, .f .f32, .f .f32, .f .f32, .f .f32], .agg [.f .f32, .f .f32, .f .f32], .agg [.f .f32, .f .f32, .f .f32]], [.val (.b)]⟩
/-- loop.example/g01249/laws.toPlane -/
def t73 : T :=
  .cst .f32 0 <|
  .cst .f32 0 <|
  .cst .f32 0 <|
  .cst .f32 0 <|
  .cst .f32 0 <|
  .cst .f32 0 <|
  .cst .f32 0 <|
  .cst .f32 0 <|
  .call 0 [.v 0, .v 1, .v 2] 3 <|
  .ret [.v 12, .v 13, .v 14, .v 3]
def s73 : Sum := ⟨73, [.agg [.f .f32, .f .f32, .f .f32, .f .f32]], [.agg [.f .f32, .f .f32, .f .f32, .f .f32]]⟩
/-- loop.example/g01249/laws.toSpot -/
def t74 : T :=
  .cst .f32 0 <|
  .cst .f32 0 <|
  .cst .f32 0 <|
  .cst .f32 0 <|
  .ret [.v 0, .v 1]
def s74 : Sum := ⟨74, [.agg [.f .f32, .f .f32]], [.agg [.f .f32, .f .f32]]⟩
/-- loop.example/g01249/spec.l01Plane -/
def t75 : T :=
  .call 6 [.v 0, .v 1, .v 2] 1 <|
  .call 2 [.v 0, .v 1, .v 2] 1 <|
  .br 5
   (.call 1 [.v 3] 1 <|
   .br 6
    (.cst .f32 1065336439 <|
    .tst 1 .f32 7 4
     (.cst .f32 1065361605 <|
     .tst 1 .f32 4 8
      (.ret [.b true])
      (.ret [.b false]))
     (.ret [.b false]))
    (.ret [.b false]))
   (.ret [.b false])
def s75 : Sum := ⟨75, [.ptr [.f .f32, .f .f32, .f .f32, .f .f32]], [.val (.b)]⟩
/-- loop.example/g01249/spec.l02Spot -/
def t76 : T :=
  .call 1 [.v 0] 1 <|
  .br 2
   (.call 1 [.v 1] 1 <|
   .br 3
    (.ret [.b true])
    (.ret [.b false]))
   (.ret [.b false])
def s76 : Sum := ⟨76, [.agg [.f .f32, .f .f32]], [.val (.b)]⟩
/-- loop.example/g01249/spec.l02Way -/
def t77 : T :=
  .cst .f32 0 <|
  .cst .f32 0 <|
  .cst .f32 0 <|
  .cst .f32 0 <|
  .cst .f32 0 <|
  .cst .f32 0 <|
  .cst .f32 0 <|
  .cst .f32 0 <|
  .cst .f32 0 <|
  .bin .mul .f32 17 9 <|
  .bin .mul .f32 11 20 <|
  .bin .add .f32 31 32 <|
  .bin .mul .f32 14 21 <|
  .bin .add .f32 33 34 <|
  .bin .mul .f32 18 9 <|
  .bin .mul .f32 12 20 <|
  .bin .add .f32 36 37 <|
  .bin .mul .f32 15 21 <|
  .bin .add .f32 38 39 <|
  .bin .mul .f32 19 9 <|
  .bin .mul .f32 13 20 <|
  .bin .add .f32 41 42 <|
  .bin .mul .f32 16 21 <|
  .bin .add .f32 43 44 <|
  .ret [.v 35, .v 40, .v 45]
def s77 : Sum := ⟨77, [.ptr [.f .f32, .f .f32, .f .f32, .f .f32, .f .f32, .f .f32, .f .f32, .f .f32, .f .f32, .f .f32, .f .f32], .ptr [.f .f32, .f .f32, .f .f32, .f .f32, .f .f32, .f .f32, .f .f32, .f .f32, .f .f32], .agg [.f .f32, .f .f32]], [.agg [.f .f32, .f .f32, .f .f32]]⟩
/-- loop.example/g01249/spec.l01Small -/
def t78 : T :=
  .cst .f32 897581056 <|
  .tst 1 .f32 1 0
   (.ret [.b false])
   (.cst .f32 3045064704 <|
   .tst 1 .f32 0 2
    (.ret [.b false])
    (.ret [.b true]))
def s78 : Sum := ⟨78, [.val (.f .f32)], [.val (.b)]⟩
/-- loop.example/g01249/spec.SeenOnPlane -/
def t79 : T :=
  .cst .f32 0 <|
  .cst .f32 0 <|
  .cst .f32 0 <|
  .call 40 [.v 0, .v 1, .v 2, .v 3, .v 4, .v 5, .v 6, .v 7, .v 8, .v 9, .v 10] 1 <|
  .br 20
   (.call 75 [.v 11, .v 12, .v 13, .v 14] 1 <|
   .br 21
    (.call 76 [.v 15, .v 16] 1 <|
    .br 22
     (.call 39 [.v 0, .v 1, .v 2, .v 3, .v 4, .v 5, .v 6, .v 7, .v 8, .v 9, .v 10] 10 <|
     .br 32
      (.cst .f32 0 <|
      .cst .f32 0 <|
      .cst .f32 0 <|
      .cst .f32 0 <|
      .cst .f32 0 <|
      .cst .f32 0 <|
      .cst .f32 0 <|
      .cst .f32 0 <|
      .cst .f32 0 <|
      .call 77 [.v 0, .v 1, .v 2, .v 3, .v 4, .v 5, .v 6, .v 7, .v 8, .v 9, .v 10, .v 23, .v 24, .v 25, .v 26, .v 27, .v 28, .v 29, .v 30, .v 31, .v 15, .v 16] 3 <|
      .call 42 [.v 0, .v 1, .v 2, .v 42, .v 43, .v 44] 3 <|
      .cst .f32 0 <|
      .cst .f32 0 <|
      .cst .f32 0 <|
      .call 38 [.v 45, .v 46, .v 47, .v 0, .v 1, .v 2] 3 <|
      .call 3 [.v 11, .v 12, .v 13, .v 51, .v 52, .v 53] 1 <|
      .call 78 [.v 54] 1 <|
      .br 55
       (.cst .f32 0 <|
       .cst .f32 0 <|
       .cst .f32 0 <|
       .ret [.v 56, .v 57, .v 58, .i .i64 4])
       (.call 3 [.v 11, .v 12, .v 13, .v 0, .v 1, .v 2] 1 <|
       .bin .sub .f32 14 56 <|
       .bin .div .f32 57 54 <|
       .call 56 [.v 0, .v 1, .v 2, .v 45, .v 46, .v 47, .v 58] 3 <|
       .cst .f32 0 <|
       .cst .f32 0 <|
       .cst .f32 0 <|
       .call 7 [.v 58] 1 <|
       .br 65
        (.call 8 [.v 59, .v 60, .v 61] 1 <|
        .br 66
         (.cst .f32 0 <|
         .tst 0 .f32 58 67
          (.cst .f32 0 <|
          .cst .f32 0 <|
          .cst .f32 0 <|
          .ret [.v 68, .v 69, .v 70, .i .i64 6])
          (.call 55 [.v 0, .v 1, .v 2, .v 3, .v 4, .v 5, .v 6, .v 7, .v 8, .v 9, .v 10, .v 23, .v 24, .v 25, .v 26, .v 27, .v 28, .v 29, .v 30, .v 31, .v 59, .v 60, .v 61] 1 <|
          .tst 0 .f32 68 10
           (.cst .f32 0 <|
           .cst .f32 0 <|
           .cst .f32 0 <|
           .ret [.v 69, .v 70, .v 71, .i .i64 6])
           (.ret [.v 59, .v 60, .v 61, .i .i64 0])))
         (.cst .f32 0 <|
         .cst .f32 0 <|
         .cst .f32 0 <|
         .ret [.v 67, .v 68, .v 69, .i .i64 4]))
        (.cst .f32 0 <|
        .cst .f32 0 <|
        .cst .f32 0 <|
        .ret [.v 66, .v 67, .v 68, .i .i64 4])))
      (.cst .f32 0 <|
      .cst .f32 0 <|
      .cst .f32 0 <|
      .cst .f32 0 <|
      .cst .f32 0 <|
      .cst .f32 0 <|
      .cst .f32 0 <|
      .cst .f32 0 <|
      .cst .f32 0 <|
      .call 77 [.v 0, .v 1, .v 2, .v 3, .v 4, .v 5, .v 6, .v 7, .v 8, .v 9, .v 10, .v 23, .v 24, .v 25, .v 26, .v 27, .v 28, .v 29, .v 30, .v 31, .v 15, .v 16] 3 <|
      .call 42 [.v 0, .v 1, .v 2, .v 42, .v 43, .v 44] 3 <|
      .cst .f32 0 <|
      .cst .f32 0 <|
      .cst .f32 0 <|
      .call 38 [.v 45, .v 46, .v 47, .v 0, .v 1, .v 2] 3 <|
      .call 3 [.v 11, .v 12, .v 13, .v 51, .v 52, .v 53] 1 <|
      .call 78 [.v 54] 1 <|
      .br 55
       (.cst .f32 0 <|
       .cst .f32 0 <|
       .cst .f32 0 <|
       .ret [.v 56, .v 57, .v 58, .i .i64 4])
       (.call 3 [.v 11, .v 12, .v 13, .v 0, .v 1, .v 2] 1 <|
       .bin .sub .f32 14 56 <|
       .bin .div .f32 57 54 <|
       .call 56 [.v 0, .v 1, .v 2, .v 45, .v 46, .v 47, .v 58] 3 <|
       .cst .f32 0 <|
       .cst .f32 0 <|
       .cst .f32 0 <|
       .call 7 [.v 58] 1 <|
       .br 65
        (.call 8 [.v 59, .v 60, .v 61] 1 <|
        .br 66
         (.cst .f32 0 <|
         .tst 0 .f32 58 67
          (.cst .f32 0 <|
          .cst .f32 0 <|
          .cst .f32 0 <|
          .ret [.v 68, .v 69, .v 70, .i .i64 6])
          (.call 55 [.v 0, .v 1, .v 2, .v 3, .v 4, .v 5, .v 6, .v 7, .v 8, .v 9, .v 10, .v 23, .v 24, .v 25, .v 26, .v 27, .v 28, .v 29, .v 30, .v 31, .v 59, .v 60, .v 61] 1 <|
          .tst 0 .f32 68 10
           (.cst .f32 0 <|
           .cst .f32 0 <|
           .cst .f32 0 <|
           .ret [.v 69, .v 70, .v 71, .i .i64 6])
           (.ret [.v 59, .v 60, .v 61, .i .i64 0])))
         (.cst .f32 0 <|
         .cst .f32 0 <|
         .cst .f32 0 <|
         .ret [.v 67, .v 68, .v 69, .i .i64 4]))
        (.cst .f32 0 <|
        .cst .f32 0 <|
        .cst .f32 0 <|
        .ret [.v 66, .v 67, .v 68, .i .i64 4]))))
     (.cst .f32 0 <|
     .cst .f32 0 <|
     .cst .f32 0 <|
     .ret [.v 23, .v 24, .v 25, .i .i64 1]))
    (.cst .f32 0 <|
    .cst .f32 0 <|
    .cst .f32 0 <|
    .ret [.v 22, .v 23, .v 24, .i .i64 1]))
   (.cst .f32 0 <|
   .cst .f32 0 <|
   .cst .f32 0 <|
   .ret [.v 21, .v 22, .v 23, .i .i64 1])
def s79 : Sum := ⟨79, [.agg [.f .f32, .f .f32, .f .f32, .f .f32, .f .f32, .f .f32, .f .f32, .f .f32, .f .f32, .f .f32, .f .f32], .agg [.f .f32, .f .f32, .f .f32, .f .f32], .agg [.f .f32, .f .f32]], [.agg [.f .f32, .f .f32, .f .f32], .val (.i .i64 [4, 6, 0, 1])]⟩
/-- loop.example/g01249/impl.spotCode$1 -/
def t80 : T :=
  .call 16 [.v 0] 1 <|
  .br 2
   (.ret [.b true])
   (.call 16 [.v 1] 1 <|
   .br 3
    (.ret [.b true])
    (.ret [.b false]))
def s80 : Sum := ⟨80, [.agg [.f .f32, .f .f32]], [.val (.b)]⟩
/-- loop.example/g01249/impl.ValidPlane -/
def t81 : T :=
  .call 22 [.v 0, .v 1, .v 2] 1 <|
  .call 15 [.v 3] 1 <|
  .br 5
   (.call 17 [.v 0, .v 1, .v 2] 1 <|
   .br 6
    (.cst .f32 1065336439 <|
    .tst 1 .f32 7 4
     (.cst .f32 1065361605 <|
     .tst 1 .f32 4 8
      (.ret [.b true])
      (.ret [.b false]))
     (.ret [.b false]))
    (.ret [.b false]))
   (.ret [.b false])
def s81 : Sum := ⟨81, [.agg [.f .f32, .f .f32, .f .f32, .f .f32]], [.val (.b)]⟩
/-- (*loop.example/g01249/impl.view).through -/
def t82 : T :=
  .cst .f32 0 <|
  .cst .f32 0 <|
  .cst .f32 0 <|
  .call 28 [.v 17, .v 18, .v 19, .v 9] 3 <|
  .call 28 [.v 11, .v 12, .v 13, .v 20] 3 <|
  .call 30 [.v 25, .v 26, .v 27, .v 28, .v 29, .v 30] 3 <|
  .call 28 [.v 14, .v 15, .v 16, .v 21] 3 <|
  .call 30 [.v 31, .v 32, .v 33, .v 34, .v 35, .v 36] 3 <|
  .ret [.v 37, .v 38, .v 39]
def s82 : Sum := ⟨82, [.ptr [.f .f32, .f .f32, .f .f32, .f .f32, .f .f32, .f .f32, .f .f32, .f .f32, .f .f32, .f .f32, .f .f32, .f .f32, .f .f32, .f .f32, .f .f32, .f .f32, .f .f32, .f .f32, .f .f32, .f .f32], .agg [.f .f32, .f .f32]], [.agg [.f .f32, .f .f32, .f .f32]]⟩
/-- math.Abs -/
def t83 : T :=
  .cst .f64 0 <|
  .un .abs .f64 0 <|
  .ret [.v 2]
def s83 : Sum := ⟨83, [.val (.f .f64)], [.val (.f .f64)]⟩
/-- loop.example/g01249/impl.size -/
def t84 : T :=
  .cst .f32 0 <|
  .un .widen .f32 0 <|
  .call 83 [.v 2] 1 <|
  .un .narrow .f64 3 <|
  .ret [.v 4]
def s84 : Sum := ⟨84, [.val (.f .f32)], [.val (.f .f32)]⟩
/-- (loop.example/g01249/impl.Plane).meet -/
def t85 : T :=
  .cst .f32 0 <|
  .cst .f32 0 <|
  .cst .f32 0 <|
  .cst .f32 0 <|
  .call 46 [.v 7, .v 8, .v 9, .v 4, .v 5, .v 6] 3 <|
  .call 20 [.v 0, .v 1, .v 2, .v 14, .v 15, .v 16] 1 <|
  .call 84 [.v 17] 1 <|
  .cst .f32 897581056 <|
  .tst 0 .f32 18 19
   (.cst .f32 0 <|
   .cst .f32 0 <|
   .cst .f32 0 <|
   .cst .f32 0 <|
   .ret [.v 20, .v 21, .v 22, .v 23, .i .i64 4])
   (.call 20 [.v 0, .v 1, .v 2, .v 4, .v 5, .v 6] 1 <|
   .bin .sub .f32 3 20 <|
   .bin .div .f32 21 17 <|
   .call 60 [.v 4, .v 5, .v 6, .v 7, .v 8, .v 9, .v 22] 3 <|
   .call 32 [.v 23, .v 24, .v 25] 4 <|
   .sw 29 4
    (.cst .f32 0 <|
    .cst .f32 0 <|
    .cst .f32 0 <|
    .cst .f32 0 <|
    .cst .f32 0 <|
    .cst .f32 0 <|
    .cst .f32 0 <|
    .ret [.v 33, .v 34, .v 35, .v 36, .i .i64 4])
    (.sw 29 0
     (.cst .f32 0 <|
     .cst .f32 0 <|
     .cst .f32 0 <|
     .call 23 [.v 22] 1 <|
     .br 33
      (.ret [.v 26, .v 27, .v 28, .v 22, .i .i64 0])
      (.cst .f32 0 <|
      .cst .f32 0 <|
      .cst .f32 0 <|
      .cst .f32 0 <|
      .ret [.v 34, .v 35, .v 36, .v 37, .i .i64 4]))
     (.bad "sw")))
def s85 : Sum := ⟨85, [.agg [.f .f32, .f .f32, .f .f32, .f .f32], .agg [.f .f32, .f .f32, .f .f32], .agg [.f .f32, .f .f32, .f .f32]], [.agg [.f .f32, .f .f32, .f .f32], .val (.f .f32), .val (.i .i64 [4, 0])]⟩
/-- loop.example/g01249/impl.SeenOnPlane -/
def t86 : T :=
  .cst .f32 0 <|
  .cst .f32 0 <|
  .cst .f32 0 <|
  .cst .f32 0 <|
  .cst .f32 0 <|
  .call 80 [.v 15, .v 16] 1 <|
  .br 22
   (.call 48 [.v 0, .v 1, .v 2, .v 3, .v 4, .v 5, .v 6, .v 7, .v 8, .v 9, .v 10] 1 <|
   .br 23
    (.call 81 [.v 11, .v 12, .v 13, .v 14] 1 <|
    .br 24
     (.cst .f32 0 <|
     .cst .f32 0 <|
     .cst .f32 0 <|
     .ret [.v 25, .v 26, .v 27, .i .i64 1])
     (.cst .f32 0 <|
     .cst .f32 0 <|
     .cst .f32 0 <|
     .ret [.v 25, .v 26, .v 27, .i .i64 1]))
    (.call 81 [.v 11, .v 12, .v 13, .v 14] 1 <|
    .br 24
     (.cst .f32 0 <|
     .cst .f32 0 <|
     .cst .f32 0 <|
     .ret [.v 25, .v 26, .v 27, .i .i64 1])
     (.cst .f32 0 <|
     .cst .f32 0 <|
     .cst .f32 0 <|
     .ret [.v 25, .v 26, .v 27, .i .i64 1])))
   (.call 48 [.v 0, .v 1, .v 2, .v 3, .v 4, .v 5, .v 6, .v 7, .v 8, .v 9, .v 10] 1 <|
   .br 23
    (.call 81 [.v 11, .v 12, .v 13, .v 14] 1 <|
    .br 24
     (.call 49 [.v 0, .v 1, .v 2, .v 3, .v 4, .v 5, .v 6, .v 7, .v 8, .v 9, .v 10] 20 <|
     .cst .f32 0 <|
     .cst .f32 0 <|
     .cst .f32 0 <|
     .cst .f32 0 <|
     .cst .f32 0 <|
     .cst .f32 0 <|
     .cst .f32 0 <|
     .cst .f32 0 <|
     .cst .f32 0 <|
     .cst .f32 0 <|
     .cst .f32 0 <|
     .cst .f32 0 <|
     .cst .f32 0 <|
     .cst .f32 0 <|
     .cst .f32 0 <|
     .cst .f32 0 <|
     .cst .f32 0 <|
     .cst .f32 0 <|
     .cst .f32 0 <|
     .cst .f32 0 <|
     .call 82 [.v 25, .v 26, .v 27, .v 28, .v 29, .v 30, .v 31, .v 32, .v 33, .v 34, .v 35, .v 36, .v 37, .v 38, .v 39, .v 40, .v 41, .v 42, .v 43, .v 44, .v 15, .v 16] 3 <|
     .call 30 [.v 0, .v 1, .v 2, .v 65, .v 66, .v 67] 3 <|
     .call 85 [.v 11, .v 12, .v 13, .v 14, .v 0, .v 1, .v 2, .v 68, .v 69, .v 70] 5 <|
     .sw 75 4
      (.cst .f32 0 <|
      .cst .f32 0 <|
      .cst .f32 0 <|
      .cst .f32 0 <|
      .cst .f32 0 <|
      .cst .f32 0 <|
      .ret [.v 79, .v 80, .v 81, .i .i64 4])
      (.sw 75 0
       (.cst .f32 0 <|
       .cst .f32 0 <|
       .cst .f32 0 <|
       .cst .f32 0 <|
       .tst 0 .f32 74 79
        (.cst .f32 0 <|
        .cst .f32 0 <|
        .cst .f32 0 <|
        .ret [.v 80, .v 81, .v 82, .i .i64 6])
        (.call 59 [.v 25, .v 26, .v 27, .v 28, .v 29, .v 30, .v 31, .v 32, .v 33, .v 34, .v 35, .v 36, .v 37, .v 38, .v 39, .v 40, .v 41, .v 42, .v 43, .v 44, .v 71, .v 72, .v 73] 1 <|
        .tst 0 .f32 80 10
         (.cst .f32 0 <|
         .cst .f32 0 <|
         .cst .f32 0 <|
         .ret [.v 81, .v 82, .v 83, .i .i64 6])
         (.ret [.v 71, .v 72, .v 73, .i .i64 0])))
       (.bad "sw")))
     (.cst .f32 0 <|
     .cst .f32 0 <|
     .cst .f32 0 <|
     .ret [.v 25, .v 26, .v 27, .i .i64 1]))
    (.call 81 [.v 11, .v 12, .v 13, .v 14] 1 <|
    .br 24
     (.cst .f32 0 <|
     .cst .f32 0 <|
     .cst .f32 0 <|
     .ret [.v 25, .v 26, .v 27, .i .i64 1])
     (.cst .f32 0 <|
     .cst .f32 0 <|
     .cst .f32 0 <|
     .ret [.v 25, .v 26, .v 27, .i .i64 1])))
def s86 : Sum := ⟨86, [.agg [.f .f32, .f .f32, .f .f32, .f .f32, .f .f32, .f .f32, .f .f32, .f .f32, .f .f32, .f .f32, .f .f32], .agg [.f .f32, .f .f32, .f .f32, .f .f32], .agg [.f .f32, .f .f32]], [.agg [.f .f32, .f .f32, .f .f32], .val (.i .i64 [1, 4, 6, 0])]⟩
/-- loop.example/g01249/laws.FnExactSeenOnPlane -/
def t87 : T :=
  .call 37 [.v 0, .v 1, .v 2, .v 3, .v 4, .v 5, .v 6, .v 7, .v 8, .v 9, .v 10] 11 <|
  .call 73 [.v 11, .v 12, .v 13, .v 14] 4 <|
  .call 74 [.v 15, .v 16] 2 <|
  .call 79 [.v 17, .v 18, .v 19, .v 20, .v 21, .v 22, .v 23, .v 24, .v 25, .v 26, .v 27, .v 28, .v 29, .v 30, .v 31, .v 32, .v 33] 4 <|
  .sw 37 4
   (.cst .f32 0 <|
   .cst .f32 0 <|
   .cst .f32 0 <|
   .call 37 [.v 0, .v 1, .v 2, .v 3, .v 4, .v 5, .v 6, .v 7, .v 8, .v 9, .v 10] 11 <|
   .call 73 [.v 11, .v 12, .v 13, .v 14] 4 <|
   .call 74 [.v 15, .v 16] 2 <|
   .call 86 [.v 41, .v 42, .v 43, .v 44, .v 45, .v 46, .v 47, .v 48, .v 49, .v 50, .v 51, .v 52, .v 53, .v 54, .v 55, .v 56, .v 57] 4 <|
   .sw 61 1
    (.cst .f32 0 <|
    .cst .f32 0 <|
    .cst .f32 0 <|
    .call 35 [.v 58, .v 59, .v 60, .v 34, .v 35, .v 36] 1 <|
    .br 65
     (.ret [.b false])
     (.ret [.b false]))
    (.sw 61 4
     (.cst .f32 0 <|
     .cst .f32 0 <|
     .cst .f32 0 <|
     .call 35 [.v 58, .v 59, .v 60, .v 34, .v 35, .v 36] 1 <|
     .br 65
      (.ret [.b true])
      (.ret [.b false]))
     (.sw 61 6
      (.cst .f32 0 <|
      .cst .f32 0 <|
      .cst .f32 0 <|
      .call 35 [.v 58, .v 59, .v 60, .v 34, .v 35, .v 36] 1 <|
      .br 65
       (.ret [.b false])
       (.ret [.b false]))
      (.sw 61 0
       (.cst .f32 0 <|
       .cst .f32 0 <|
       .cst .f32 0 <|
       .call 35 [.v 58, .v 59, .v 60, .v 34, .v 35, .v 36] 1 <|
       .br 65
        (.ret [.b false])
        (.ret [.b false]))
       (.bad "sw")))))
   (.sw 37 6
    (.cst .f32 0 <|
    .cst .f32 0 <|
    .cst .f32 0 <|
    .call 37 [.v 0, .v 1, .v 2, .v 3, .v 4, .v 5, .v 6, .v 7, .v 8, .v 9, .v 10] 11 <|
    .call 73 [.v 11, .v 12, .v 13, .v 14] 4 <|
    .call 74 [.v 15, .v 16] 2 <|
    .call 86 [.v 41, .v 42, .v 43, .v 44, .v 45, .v 46, .v 47, .v 48, .v 49, .v 50, .v 51, .v 52, .v 53, .v 54, .v 55, .v 56, .v 57] 4 <|
    .sw 61 1
     (.cst .f32 0 <|
     .cst .f32 0 <|
     .cst .f32 0 <|
     .call 35 [.v 58, .v 59, .v 60, .v 34, .v 35, .v 36] 1 <|
     .br 65
      (.ret [.b false])
      (.ret [.b false]))
     (.sw 61 4
      (.cst .f32 0 <|
      .cst .f32 0 <|
      .cst .f32 0 <|
      .call 35 [.v 58, .v 59, .v 60, .v 34, .v 35, .v 36] 1 <|
      .br 65
       (.ret [.b false])
       (.ret [.b false]))
      (.sw 61 6
       (.cst .f32 0 <|
       .cst .f32 0 <|
       .cst .f32 0 <|
       .call 35 [.v 58, .v 59, .v 60, .v 34, .v 35, .v 36] 1 <|
       .br 65
        (.ret [.b true])
        (.ret [.b false]))
       (.sw 61 0
        (.cst .f32 0 <|
        .cst .f32 0 <|
        .cst .f32 0 <|
        .call 35 [.v 58, .v 59, .v 60, .v 34, .v 35, .v 36] 1 <|
        .br 65
         (.ret [.b false])
         (.ret [.b false]))
        (.bad "sw")))))
    (.sw 37 0
     (.cst .f32 0 <|
     .cst .f32 0 <|
     .cst .f32 0 <|
     .call 37 [.v 0, .v 1, .v 2, .v 3, .v 4, .v 5, .v 6, .v 7, .v 8, .v 9, .v 10] 11 <|
     .call 73 [.v 11, .v 12, .v 13, .v 14] 4 <|
     .call 74 [.v 15, .v 16] 2 <|
     .call 86 [.v 41, .v 42, .v 43, .v 44, .v 45, .v 46, .v 47, .v 48, .v 49, .v 50, .v 51, .v 52, .v 53, .v 54, .v 55, .v 56, .v 57] 4 <|
     .sw 61 1
      (.cst .f32 0 <|
      .cst .f32 0 <|
      .cst .f32 0 <|
      .call 35 [.v 58, .v 59, .v 60, .v 34, .v 35, .v 36] 1 <|
      .br 65
       (.ret [.b false])
       (.ret [.b false]))
      (.sw 61 4
       (.cst .f32 0 <|
       .cst .f32 0 <|
       .cst .f32 0 <|
       .call 35 [.v 58, .v 59, .v 60, .v 34, .v 35, .v 36] 1 <|
       .br 65
        (.ret [.b false])
        (.ret [.b false]))
       (.sw 61 6
        (.cst .f32 0 <|
        .cst .f32 0 <|
        .cst .f32 0 <|
        .call 35 [.v 58, .v 59, .v 60, .v 34, .v 35, .v 36] 1 <|
        .br 65
         (.ret [.b false])
         (.ret [.b false]))
        (.sw 61 0
         (.cst .f32 0 <|
         .cst .f32 0 <|
         .cst .f32 0 <|
         .call 35 [.v 58, .v 59, .v 60, .v 34, .v 35, .v 36] 1 <|
         .br 65
          (.ret [.b true])
          (.ret [.b false]))
         (.bad "sw")))))
     (.sw 37 1
      (.cst .f32 0 <|
      .cst .f32 0 <|
      .cst .f32 0 <|
      .call 37 [.v 0, .v 1, .v 2, .v 3, .v 4, .v 5, .v 6, .v 7, .v 8, .v 9, .v 10] 11 <|
      .call 73 [.v 11, .v 12, .v 13, .v 14] 4 <|
      .call 74 [.v 15, .v 16] 2 <|
      .call 86 [.v 41, .v 42, .v 43, .v 44, .v 45, .v 46, .v 47, .v 48, .v 49, .v 50, .v 51, .v 52, .v 53, .v 54, .v 55, .v 56, .v 57] 4 <|
      .sw 61 1
       (.cst .f32 0 <|
       .cst .f32 0 <|
       .cst .f32 0 <|
       .call 35 [.v 58, .v 59, .v 60, .v 34, .v 35, .v 36] 1 <|
       .br 65
        (.ret [.b true])
        (.ret [.b false]))
       (.sw 61 4
        (.cst .f32 0 <|
        .cst .f32 0 <|
        .cst .f32 0 <|
        .call 35 [.v 58, .v 59, .v 60, .v 34, .v 35, .v 36] 1 <|
        .br 65
         (.ret [.b false])
         (.ret [.b false]))
        (.sw 61 6
         (.cst .f32 0 <|
         .cst .f32 0 <|
         .cst .f32 0 <|
         .call 35 [.v 58, .v 59, .v 60, .v 34, .v 35, .v 36] 1 <|
         .br 65
          (.ret [.b false])
          (.ret [.b false]))
         (.sw 61 0
          (.cst .f32 0 <|
          .cst .f32 0 <|
          .cst .f32 0 <|
          .call 35 [.v 58, .v 59, .v 60, .v 34, .v 35, .v 36] 1 <|
          .br 65
           (.ret [.b false])
           (.ret [.b false]))
          (.bad "sw")))))
      (.bad "sw"))))
def s87 : Sum := ⟨87, [.agg [.f .f32, .f .f32, .f .f32, .f .f32, .f .f32, .f .f32, .f .f32, .f .f32, .f .f32, .f .f32, .f .f32], .agg [.f .f32, .f .f32, .f .f32, .f .f32], .agg [.f .f32, .f .f32]], [.val (.b)]⟩
/-- loop.example/g01249/spec.l02Turned -/
def t88 : T :=
  .cst .f32 0 <|
  .cst .f32 0 <|
  .cst .f32 0 <|
  .call 9 [.v 0, .v 1, .v 2] 4 <|
  .br 13
   (.cst .f32 0 <|
   .cst .f32 0 <|
   .cst .f32 0 <|
   .call 11 [.v 3] 1 <|
   .cst .f32 1048576000 <|
   .bin .add .f32 3 18 <|
   .call 11 [.v 19] 1 <|
   .call 3 [.v 10, .v 11, .v 12, .v 4, .v 5, .v 6] 1 <|
   .cst .f32 1065353216 <|
   .bin .sub .f32 22 20 <|
   .bin .mul .f32 21 23 <|
   .call 12 [.v 10, .v 11, .v 12, .v 4, .v 5, .v 6] 3 <|
   .cst .f32 0 <|
   .cst .f32 0 <|
   .cst .f32 0 <|
   .cst .f32 0 <|
   .cst .f32 0 <|
   .cst .f32 0 <|
   .cst .f32 0 <|
   .cst .f32 0 <|
   .cst .f32 0 <|
   .bin .mul .f32 4 20 <|
   .bin .mul .f32 25 17 <|
   .bin .add .f32 37 38 <|
   .bin .mul .f32 10 24 <|
   .bin .add .f32 39 40 <|
   .bin .mul .f32 5 20 <|
   .bin .mul .f32 26 17 <|
   .bin .add .f32 42 43 <|
   .bin .mul .f32 11 24 <|
   .bin .add .f32 44 45 <|
   .bin .mul .f32 6 20 <|
   .bin .mul .f32 27 17 <|
   .bin .add .f32 47 48 <|
   .bin .mul .f32 12 24 <|
   .bin .add .f32 49 50 <|
   .ret [.v 41, .v 46, .v 51])
   (.cst .f32 0 <|
   .cst .f32 0 <|
   .cst .f32 0 <|
   .call 11 [.v 3] 1 <|
   .cst .f32 1048576000 <|
   .bin .add .f32 3 18 <|
   .call 11 [.v 19] 1 <|
   .call 3 [.v 10, .v 11, .v 12, .v 4, .v 5, .v 6] 1 <|
   .cst .f32 1065353216 <|
   .bin .sub .f32 22 20 <|
   .bin .mul .f32 21 23 <|
   .call 12 [.v 10, .v 11, .v 12, .v 4, .v 5, .v 6] 3 <|
   .cst .f32 0 <|
   .cst .f32 0 <|
   .cst .f32 0 <|
   .cst .f32 0 <|
   .cst .f32 0 <|
   .cst .f32 0 <|
   .cst .f32 0 <|
   .cst .f32 0 <|
   .cst .f32 0 <|
   .bin .mul .f32 4 20 <|
   .bin .mul .f32 25 17 <|
   .bin .add .f32 37 38 <|
   .bin .mul .f32 10 24 <|
   .bin .add .f32 39 40 <|
   .bin .mul .f32 5 20 <|
   .bin .mul .f32 26 17 <|
   .bin .add .f32 42 43 <|
   .bin .mul .f32 11 24 <|
   .bin .add .f32 44 45 <|
   .bin .mul .f32 6 20 <|
   .bin .mul .f32 27 17 <|
   .bin .add .f32 47 48 <|
   .bin .mul .f32 12 24 <|
   .bin .add .f32 49 50 <|
   .call 10 [] 1 <|
   .un .narrow .f64 52 <|
   .ret [.v 53, .v 46, .v 51])
def s88 : Sum := ⟨88, [.agg [.f .f32, .f .f32, .f .f32], .val (.f .f32), .agg [.f .f32, .f .f32, .f .f32]], [.agg [.f .f32, .f .f32, .f .f32]]⟩
/-- loop.example/g01249/spec.TurnCamera -/
def t89 : T :=
  .cst .f32 0 <|
  .cst .f32 0 <|
  .cst .f32 0 <|
  .cst .f32 0 <|
  .cst .f32 0 <|
  .cst .f32 0 <|
  .cst .f32 0 <|
  .cst .f32 0 <|
  .cst .f32 0 <|
  .cst .f32 0 <|
  .cst .f32 0 <|
  .call 40 [.v 0, .v 1, .v 2, .v 3, .v 4, .v 5, .v 6, .v 7, .v 8, .v 9, .v 10] 1 <|
  .br 23
   (.cst .f32 3296329728 <|
   .tst 1 .f32 24 11
    (.cst .f32 1148846080 <|
    .tst 1 .f32 11 25
     (.call 39 [.v 0, .v 1, .v 2, .v 3, .v 4, .v 5, .v 6, .v 7, .v 8, .v 9, .v 10] 10 <|
     .br 35
      (.cst .f32 0 <|
      .cst .f32 0 <|
      .cst .f32 0 <|
      .cst .f32 0 <|
      .cst .f32 0 <|
      .cst .f32 0 <|
      .cst .f32 0 <|
      .cst .f32 0 <|
      .cst .f32 0 <|
      .call 38 [.v 3, .v 4, .v 5, .v 0, .v 1, .v 2] 3 <|
      .call 88 [.v 29, .v 30, .v 31, .v 11, .v 45, .v 46, .v 47] 3 <|
      .call 42 [.v 0, .v 1, .v 2, .v 48, .v 49, .v 50] 3 <|
      .call 43 [.v 0, .v 1, .v 2, .v 51, .v 52, .v 53, .v 6, .v 7, .v 8, .v 9, .v 10] 12 <|
      .sw 65 0
       (.ret [.v 54, .v 55, .v 56, .v 57, .v 58, .v 59, .v 60, .v 61, .v 62, .v 63, .v 64, .i .i64 0])
       (.sw 65 4
        (.ret [.v 54, .v 55, .v 56, .v 57, .v 58, .v 59, .v 60, .v 61, .v 62, .v 63, .v 64, .i .i64 4])
        (.bad "sw")))
      (.cst .f32 0 <|
      .cst .f32 0 <|
      .cst .f32 0 <|
      .cst .f32 0 <|
      .cst .f32 0 <|
      .cst .f32 0 <|
      .cst .f32 0 <|
      .cst .f32 0 <|
      .cst .f32 0 <|
      .call 38 [.v 3, .v 4, .v 5, .v 0, .v 1, .v 2] 3 <|
      .call 88 [.v 29, .v 30, .v 31, .v 11, .v 45, .v 46, .v 47] 3 <|
      .call 42 [.v 0, .v 1, .v 2, .v 48, .v 49, .v 50] 3 <|
      .call 43 [.v 0, .v 1, .v 2, .v 51, .v 52, .v 53, .v 6, .v 7, .v 8, .v 9, .v 10] 12 <|
      .sw 65 0
       (.ret [.v 54, .v 55, .v 56, .v 57, .v 58, .v 59, .v 60, .v 61, .v 62, .v 63, .v 64, .i .i64 0])
       (.sw 65 4
        (.ret [.v 54, .v 55, .v 56, .v 57, .v 58, .v 59, .v 60, .v 61, .v 62, .v 63, .v 64, .i .i64 4])
        (.bad "sw"))))
     (.cst .f32 0 <|
     .cst .f32 0 <|
     .cst .f32 0 <|
     .cst .f32 0 <|
     .cst .f32 0 <|
     .cst .f32 0 <|
     .cst .f32 0 <|
     .cst .f32 0 <|
     .cst .f32 0 <|
     .cst .f32 0 <|
     .cst .f32 0 <|
     .ret [.v 26, .v 27, .v 28, .v 29, .v 30, .v 31, .v 32, .v 33, .v 34, .v 35, .v 36, .i .i64 2]))
    (.cst .f32 0 <|
    .cst .f32 0 <|
    .cst .f32 0 <|
    .cst .f32 0 <|
    .cst .f32 0 <|
    .cst .f32 0 <|
    .cst .f32 0 <|
    .cst .f32 0 <|
    .cst .f32 0 <|
    .cst .f32 0 <|
    .cst .f32 0 <|
    .ret [.v 25, .v 26, .v 27, .v 28, .v 29, .v 30, .v 31, .v 32, .v 33, .v 34, .v 35, .i .i64 2]))
   (.cst .f32 0 <|
   .cst .f32 0 <|
   .cst .f32 0 <|
   .cst .f32 0 <|
   .cst .f32 0 <|
   .cst .f32 0 <|
   .cst .f32 0 <|
   .cst .f32 0 <|
   .cst .f32 0 <|
   .cst .f32 0 <|
   .cst .f32 0 <|
   .ret [.v 24, .v 25, .v 26, .v 27, .v 28, .v 29, .v 30, .v 31, .v 32, .v 33, .v 34, .i .i64 1])
def s89 : Sum := ⟨89, [.agg [.f .f32, .f .f32, .f .f32, .f .f32, .f .f32, .f .f32, .f .f32, .f .f32, .f .f32, .f .f32, .f .f32], .val (.f .f32)], [.agg [.f .f32, .f .f32, .f .f32, .f .f32, .f .f32, .f .f32, .f .f32, .f .f32, .f .f32, .f .f32, .f .f32], .val (.i .i64 [0, 4, 2, 1])]⟩
/-- loop.example/g01249/impl.turnCode -/
def t90 : T :=
  .call 48 [.v 0, .v 1, .v 2, .v 3, .v 4, .v 5, .v 6, .v 7, .v 8, .v 9, .v 10] 1 <|
  .br 12
   (.call 19 [.v 11] 1 <|
   .br 13
    (.ret [.i .i64 0])
    (.ret [.i .i64 2]))
   (.call 19 [.v 11] 1 <|
   .br 13
    (.ret [.i .i64 1])
    (.ret [.i .i64 1]))
def s90 : Sum := ⟨90, [.agg [.f .f32, .f .f32, .f .f32, .f .f32, .f .f32, .f .f32, .f .f32, .f .f32, .f .f32, .f .f32, .f .f32], .val (.f .f32)], [.val (.i .i64 [0, 2, 1])]⟩
/-- loop.example/g01249/impl.TurnCamera -/
def t91 : T :=
  .cst .f32 0 <|
  .cst .f32 0 <|
  .cst .f32 0 <|
  .cst .f32 0 <|
  .cst .f32 0 <|
  .cst .f32 0 <|
  .cst .f32 0 <|
  .cst .f32 0 <|
  .cst .f32 0 <|
  .cst .f32 0 <|
  .cst .f32 0 <|
  .call 90 [.v 0, .v 1, .v 2, .v 3, .v 4, .v 5, .v 6, .v 7, .v 8, .v 9, .v 10, .v 11] 1 <|
  .sw 23 0
   (.call 49 [.v 0, .v 1, .v 2, .v 3, .v 4, .v 5, .v 6, .v 7, .v 8, .v 9, .v 10] 20 <|
   .call 46 [.v 3, .v 4, .v 5, .v 0, .v 1, .v 2] 3 <|
   .call 31 [.v 38, .v 39, .v 40, .v 11, .v 44, .v 45, .v 46] 4 <|
   .br 50
    (.cst .f32 0 <|
    .cst .f32 0 <|
    .cst .f32 0 <|
    .call 30 [.v 0, .v 1, .v 2, .v 47, .v 48, .v 49] 3 <|
    .call 50 [.v 0, .v 1, .v 2, .v 54, .v 55, .v 56, .v 6, .v 7, .v 8, .v 9, .v 10] 12 <|
    .sw 68 0
     (.ret [.v 57, .v 58, .v 59, .v 60, .v 61, .v 62, .v 63, .v 64, .v 65, .v 66, .v 67, .i .i64 0])
     (.sw 68 4
      (.ret [.v 57, .v 58, .v 59, .v 60, .v 61, .v 62, .v 63, .v 64, .v 65, .v 66, .v 67, .i .i64 4])
      (.bad "sw")))
    (.cst .f32 0 <|
    .cst .f32 0 <|
    .cst .f32 0 <|
    .cst .f32 0 <|
    .cst .f32 0 <|
    .cst .f32 0 <|
    .cst .f32 0 <|
    .cst .f32 0 <|
    .cst .f32 0 <|
    .cst .f32 0 <|
    .cst .f32 0 <|
    .cst .f32 0 <|
    .cst .f32 0 <|
    .cst .f32 0 <|
    .ret [.v 54, .v 55, .v 56, .v 57, .v 58, .v 59, .v 60, .v 61, .v 62, .v 63, .v 64, .i .i64 4]))
   (.sw 23 2
    (.cst .f32 0 <|
    .cst .f32 0 <|
    .cst .f32 0 <|
    .cst .f32 0 <|
    .cst .f32 0 <|
    .cst .f32 0 <|
    .cst .f32 0 <|
    .cst .f32 0 <|
    .cst .f32 0 <|
    .cst .f32 0 <|
    .cst .f32 0 <|
    .ret [.v 24, .v 25, .v 26, .v 27, .v 28, .v 29, .v 30, .v 31, .v 32, .v 33, .v 34, .i .i64 2])
    (.sw 23 1
     (.cst .f32 0 <|
     .cst .f32 0 <|
     .cst .f32 0 <|
     .cst .f32 0 <|
     .cst .f32 0 <|
     .cst .f32 0 <|
     .cst .f32 0 <|
     .cst .f32 0 <|
     .cst .f32 0 <|
     .cst .f32 0 <|
     .cst .f32 0 <|
     .ret [.v 24, .v 25, .v 26, .v 27, .v 28, .v 29, .v 30, .v 31, .v 32, .v 33, .v 34, .i .i64 1])
     (.bad "sw")))
def s91 : Sum := ⟨91, [.agg [.f .f32, .f .f32, .f .f32, .f .f32, .f .f32, .f .f32, .f .f32, .f .f32, .f .f32, .f .f32, .f .f32], .val (.f .f32)], [.agg [.f .f32, .f .f32, .f .f32, .f .f32, .f .f32, .f .f32, .f .f32, .f .f32, .f .f32, .f .f32, .f .f32], .val (.i .i64 [0, 4, 2, 1])]⟩
/-- loop.example/g01249/laws.FnExactTurnCamera -/
def t92 : T :=
  .call 37 [.v 0, .v 1, .v 2, .v 3, .v 4, .v 5, .v 6, .v 7, .v 8, .v 9, .v 10] 11 <|
  .call 89 [.v 12, .v 13, .v 14, .v 15, .v 16, .v 17, .v 18, .v 19, .v 20, .v 21, .v 22, .v 11] 12 <|
  .sw 34 0
   (.cst .f32 0 <|
   .cst .f32 0 <|
   .cst .f32 0 <|
   .cst .f32 0 <|
   .cst .f32 0 <|
   .cst .f32 0 <|
   .cst .f32 0 <|
   .cst .f32 0 <|
   .cst .f32 0 <|
   .cst .f32 0 <|
   .cst .f32 0 <|
   .call 37 [.v 0, .v 1, .v 2, .v 3, .v 4, .v 5, .v 6, .v 7, .v 8, .v 9, .v 10] 11 <|
   .call 91 [.v 46, .v 47, .v 48, .v 49, .v 50, .v 51, .v 52, .v 53, .v 54, .v 55, .v 56, .v 11] 12 <|
   .sw 68 0
    (.cst .f32 0 <|
    .cst .f32 0 <|
    .cst .f32 0 <|
    .cst .f32 0 <|
    .cst .f32 0 <|
    .cst .f32 0 <|
    .cst .f32 0 <|
    .cst .f32 0 <|
    .cst .f32 0 <|
    .cst .f32 0 <|
    .cst .f32 0 <|
    .call 53 [.v 57, .v 58, .v 59, .v 60, .v 61, .v 62, .v 63, .v 64, .v 65, .v 66, .v 67, .v 23, .v 24, .v 25, .v 26, .v 27, .v 28, .v 29, .v 30, .v 31, .v 32, .v 33] 1 <|
    .br 80
     (.ret [.b true])
     (.ret [.b false]))
    (.sw 68 4
     (.cst .f32 0 <|
     .cst .f32 0 <|
     .cst .f32 0 <|
     .cst .f32 0 <|
     .cst .f32 0 <|
     .cst .f32 0 <|
     .cst .f32 0 <|
     .cst .f32 0 <|
     .cst .f32 0 <|
     .cst .f32 0 <|
     .cst .f32 0 <|
     .call 53 [.v 57, .v 58, .v 59, .v 60, .v 61, .v 62, .v 63, .v 64, .v 65, .v 66, .v 67, .v 23, .v 24, .v 25, .v 26, .v 27, .v 28, .v 29, .v 30, .v 31, .v 32, .v 33] 1 <|
     .br 80
      (.ret [.b false])
      (.ret [.b false]))
     (.sw 68 2
      (.cst .f32 0 <|
      .cst .f32 0 <|
      .cst .f32 0 <|
      .cst .f32 0 <|
      .cst .f32 0 <|
      .cst .f32 0 <|
      .cst .f32 0 <|
      .cst .f32 0 <|
      .cst .f32 0 <|
      .cst .f32 0 <|
      .cst .f32 0 <|
      .call 53 [.v 57, .v 58, .v 59, .v 60, .v 61, .v 62, .v 63, .v 64, .v 65, .v 66, .v 67, .v 23, .v 24, .v 25, .v 26, .v 27, .v 28, .v 29, .v 30, .v 31, .v 32, .v 33] 1 <|
      .br 80
       (.ret [.b false])
       (.ret [.b false]))
      (.sw 68 1
       (.cst .f32 0 <|
       .cst .f32 0 <|
       .cst .f32 0 <|
       .cst .f32 0 <|
       .cst .f32 0 <|
       .cst .f32 0 <|
       .cst .f32 0 <|
       .cst .f32 0 <|
       .cst .f32 0 <|
       .cst .f32 0 <|
       .cst .f32 0 <|
       .call 53 [.v 57, .v 58, .v 59, .v 60, .v 61, .v 62, .v 63, .v 64, .v 65, .v 66, .v 67, .v 23, .v 24, .v 25, .v 26, .v 27, .v 28, .v 29, .v 30, .v 31, .v 32, .v 33] 1 <|
       .br 80
        (.ret [.b false])
        (.ret [.b false]))
       (.bad "sw")))))
   (.sw 34 4
    (.cst .f32 0 <|
    .cst .f32 0 <|
    .cst .f32 0 <|
    .cst .f32 0 <|
    .cst .f32 0 <|
    .cst .f32 0 <|
    .cst .f32 0 <|
    .cst .f32 0 <|
    .cst .f32 0 <|
    .cst .f32 0 <|
    .cst .f32 0 <|
    .call 37 [.v 0, .v 1, .v 2, .v 3, .v 4, .v 5, .v 6, .v 7, .v 8, .v 9, .v 10] 11 <|
    .call 91 [.v 46, .v 47, .v 48, .v 49, .v 50, .v 51, .v 52, .v 53, .v 54, .v 55, .v 56, .v 11] 12 <|
    .sw 68 0
     (.cst .f32 0 <|
     .cst .f32 0 <|
     .cst .f32 0 <|
     .cst .f32 0 <|
     .cst .f32 0 <|
     .cst .f32 0 <|
     .cst .f32 0 <|
     .cst .f32 0 <|
     .cst .f32 0 <|
     .cst .f32 0 <|
     .cst .f32 0 <|
     .call 53 [.v 57, .v 58, .v 59, .v 60, .v 61, .v 62, .v 63, .v 64, .v 65, .v 66, .v 67, .v 23, .v 24, .v 25, .v 26, .v 27, .v 28, .v 29, .v 30, .v 31, .v 32, .v 33] 1 <|
     .br 80
      (.ret [.b false])
      (.ret [.b false]))
     (.sw 68 4
      (.cst .f32 0 <|
      .cst .f32 0 <|
      .cst .f32 0 <|
      .cst .f32 0 <|
      .cst .f32 0 <|
      .cst .f32 0 <|
      .cst .f32 0 <|
      .cst .f32 0 <|
      .cst .f32 0 <|
      .cst .f32 0 <|
      .cst .f32 0 <|
      .call 53 [.v 57, .v 58, .v 59, .v 60, .v 61, .v 62, .v 63, .v 64, .v 65, .v 66, .v 67, .v 23, .v 24, .v 25, .v 26, .v 27, .v 28, .v 29, .v 30, .v 31, .v 32, .v 33] 1 <|
      .br 80
       (.ret [.b true])
       (.ret [.b false]))
      (.sw 68 2
       (.cst .f32 0 <|
       .cst .f32 0 <|
       .cst .f32 0 <|
       .cst .f32 0 <|
       .cst .f32 0 <|
       .cst .f32 0 <|
       .cst .f32 0 <|
       .cst .f32 0 <|
       .cst .f32 0 <|
       .cst .f32 0 <|
       .cst .f32 0 <|
       .call 53 [.v 57, .v 58, .v 59, .v 60, .v 61, .v 62, .v 63, .v 64, .v 65, .v 66, .v 67, .v 23, .v 24, .v 25, .v 26, .v 27, .v 28, .v 29, .v 30, .v 31, .v 32, .v 33] 1 <|
       .br 80
        (.ret [.b false])
        (.ret [.b false]))
       (.sw 68 1
        (.cst .f32 0 <|
        .cst .f32 0 <|
        .cst .f32 0 <|
        .cst .f32 0 <|
        .cst .f32 0 <|
        .cst .f32 0 <|
        .cst .f32 0 <|
        .cst .f32 0 <|
        .cst .f32 0 <|
        .cst .f32 0 <|
        .cst .f32 0 <|
        .call 53 [.v 57, .v 58, .v 59, .v 60, .v 61, .v 62, .v 63, .v 64, .v 65, .v 66, .v 67, .v 23, .v 24, .v 25, .v 26, .v 27, .v 28, .v 29, .v 30, .v 31, .v 32, .v 33] 1 <|
        .br 80
         (.ret [.b false])
         (.ret [.b false]))
        (.bad "sw")))))
    (.sw 34 2
     (.cst .f32 0 <|
     .cst .f32 0 <|
     .cst .f32 0 <|
     .cst .f32 0 <|
     .cst .f32 0 <|
     .cst .f32 0 <|
     .cst .f32 0 <|
     .cst .f32 0 <|
     .cst .f32 0 <|
     .cst .f32 0 <|
     .cst .f32 0 <|
     .call 37 [.v 0, .v 1, .v 2, .v 3, .v 4, .v 5, .v 6, .v 7, .v 8, .v 9, .v 10] 11 <|
     .call 91 [.v 46, .v 47, .v 48, .v 49, .v 50, .v 51, .v 52, .v 53, .v 54, .v 55, .v 56, .v 11] 12 <|
     .sw 68 0
      (.cst .f32 0 <|
      .cst .f32 0 <|
      .cst .f32 0 <|
      .cst .f32 0 <|
      .cst .f32 0 <|
      .cst .f32 0 <|
      .cst .f32 0 <|
      .cst .f32 0 <|
      .cst .f32 0 <|
      .cst .f32 0 <|
      .cst .f32 0 <|
      .call 53 [.v 57, .v 58, .v 59, .v 60, .v 61, .v 62, .v 63, .v 64, .v 65, .v 66, .v 67, .v 23, .v 24, .v 25, .v 26, .v 27, .v 28, .v 29, .v 30, .v 31, .v 32, .v 33] 1 <|
      .br 80
       (.ret [.b false])
       (.ret [.b false]))
      (.sw 68 4
       (.cst .f32 0 <|
       .cst .f32 0 <|
       .cst .f32 0 <|
       .cst .f32 0 <|
       .cst .f32 0 <|
       .cst .f32 0 <|
       .cst .f32 0 <|
       .cst .f32 0 <|
       .cst .f32 0 <|
       .cst .f32 0 <|
       .cst .f32 0 <|
       .call 53 [.v 57, .v 58, .v 59, .v 60, .v 61, .v 62, .v 63, .v 64, .v 65, .v 66, .v 67, .v 23, .v 24, .v 25, .v 26, .v 27, .v 28, .v 29, .v 30, .v 31, .v 32, .v 33] 1 <|
       .br 80
        (.ret [.b false])
        (.ret [.b false]))
       (.sw 68 2
        (.cst .f32 0 <|
        .cst .f32 0 <|
        .cst .f32 0 <|
        .cst .f32 0 <|
        .cst .f32 0 <|
        .cst .f32 0 <|
        .cst .f32 0 <|
        .cst .f32 0 <|
        .cst .f32 0 <|
        .cst .f32 0 <|
        .cst .f32 0 <|
        .call 53 [.v 57, .v 58, .v 59, .v 60, .v 61, .v 62, .v 63, .v 64, .v 65, .v 66, .v 67, .v 23, .v 24, .v 25, .v 26, .v 27, .v 28, .v 29, .v 30, .v 31, .v 32, .v 33] 1 <|
        .br 80
         (.ret [.b true])
         (.ret [.b false]))
        (.sw 68 1
         (.cst .f32 0 <|
         .cst .f32 0 <|
         .cst .f32 0 <|
         .cst .f32 0 <|
         .cst .f32 0 <|
         .cst .f32 0 <|
         .cst .f32 0 <|
         .cst .f32 0 <|
         .cst .f32 0 <|
         .cst .f32 0 <|
         .cst .f32 0 <|
         .call 53 [.v 57, .v 58, .v 59, .v 60, .v 61, .v 62, .v 63, .v 64, .v 65, .v 66, .v 67, .v 23, .v 24, .v 25, .v 26, .v 27, .v 28, .v 29, .v 30, .v 31, .v 32, .v 33] 1 <|
         .br 80
          (.ret [.b false])
          (.ret [.b false]))
         (.bad "sw")))))
     (.sw 34 1
      (.cst .f32 0 <|
      .cst .f32 0 <|
      .cst .f32 0 <|
      .cst .f32 0 <|
      .cst .f32 0 <|
      .cst .f32 0 <|
      .cst .f32 0 <|
      .cst .f32 0 <|
      .cst .f32 0 <|
      .cst .f32 0 <|
      .cst .f32 0 <|
      .call 37 [.v 0, .v 1, .v 2, .v 3, .v 4, .v 5, .v 6, .v 7, .v 8, .v 9, .v 10] 11 <|
      .call 91 [.v 46, .v 47, .v 48, .v 49, .v 50, .v 51, .v 52, .v 53, .v 54, .v 55, .v 56, .v 11] 12 <|
      .sw 68 0
       (.cst .f32 0 <|
       .cst .f32 0 <|
       .cst .f32 0 <|
       .cst .f32 0 <|
       .cst .f32 0 <|
       .cst .f32 0 <|
       .cst .f32 0 <|
       .cst .f32 0 <|
       .cst .f32 0 <|
       .cst .f32 0 <|
       .cst .f32 0 <|
       .call 53 [.v 57, .v 58, .v 59, .v 60, .v 61, .v 62, .v 63, .v 64, .v 65, .v 66, .v 67, .v 23, .v 24, .v 25, .v 26, .v 27, .v 28, .v 29, .v 30, .v 31, .v 32, .v 33] 1 <|
       .br 80
        (.ret [.b false])
        (.ret [.b false]))
       (.sw 68 4
        (.cst .f32 0 <|
        .cst .f32 0 <|
        .cst .f32 0 <|
        .cst .f32 0 <|
        .cst .f32 0 <|
        .cst .f32 0 <|
        .cst .f32 0 <|
        .cst .f32 0 <|
        .cst .f32 0 <|
        .cst .f32 0 <|
        .cst .f32 0 <|
        .call 53 [.v 57, .v 58, .v 59, .v 60, .v 61, .v 62, .v 63, .v 64, .v 65, .v 66, .v 67, .v 23, .v 24, .v 25, .v 26, .v 27, .v 28, .v 29, .v 30, .v 31, .v 32, .v 33] 1 <|
        .br 80
         (.ret [.b false])
         (.ret [.b false]))
        (.sw 68 2
         (.cst .f32 0 <|
         .cst .f32 0 <|
         .cst .f32 0 <|
         .cst .f32 0 <|
         .cst .f32 0 <|
         .cst .f32 0 <|
         .cst .f32 0 <|
         .cst .f32 0 <|
         .cst .f32 0 <|
         .cst .f32 0 <|
         .cst .f32 0 <|
         .call 53 [.v 57, .v 58, .v 59, .v 60, .v 61, .v 62, .v 63, .v 64, .v 65, .v 66, .v 67, .v 23, .v 24, .v 25, .v 26, .v 27, .v 28, .v 29, .v 30, .v 31, .v 32, .v 33] 1 <|
         .br 80
          (.ret [.b false])
          (.ret [.b false]))
         (.sw 68 1
          (.cst .f32 0 <|
          .cst .f32 0 <|
          .cst .f32 0 <|
          .cst .f32 0 <|
          .cst .f32 0 <|
          .cst .f32 0 <|
          .cst .f32 0 <|
          .cst .f32 0 <|
          .cst .f32 0 <|
          .cst .f32 0 <|
          .cst .f32 0 <|
          .call 53 [.v 57, .v 58, .v 59, .v 60, .v 61, .v 62, .v 63, .v 64, .v 65, .v 66, .v 67, .v 23, .v 24, .v 25, .v 26, .v 27, .v 28, .v 29, .v 30, .v 31, .v 32, .v 33] 1 <|
          .br 80
           (.ret [.b true])
           (.ret [.b false]))
          (.bad "sw")))))
      (.bad "sw"))))
def s92 : Sum := ⟨92, [.agg [.f .f32, .f .f32, .f .f32, .f .f32, .f .f32, .f .f32, .f .f32, .f .f32, .f .f32, .f .f32, .f .f32], .val (.f .f32)], [.val (.b)]⟩
def ts : List T := [t0, t1, t2, t3, t4, t5, t6, t7, t8, t9, t10, t11, t12, t13, t14, t15, t16, t17, t18, t19, t20, t21, t22, t23, t24, t25, t26, t27, t28, t29, t30, t31, t32, t33, t34, t35, t36, t37, t38, t39, t40, t41, t42, t43, t44, t45, t46, t47, t48, t49, t50, t51, t52, t53, t54, t55, t56, t57, t58, t59, t60, t61, t62, t63, t64, t65, t66, t67, t68, t69, t70, t71, t72, t73, t74, t75, t76, t77, t78, t79, t80, t81, t82, t83, t84, t85, t86, t87, t88, t89, t90, t91, t92]
def sm : List (FuncId × Sum) := [(10, s0), (72, s1), (28, s2), (31, s3), (110, s4), (98, s5), (73, s6), (59, s7), (46, s8), (29, s9), (74, s10), (30, s11), (32, s12), (33, s13), (9, s14), (106, s15), (105, s16), (78, s17), (77, s18), (37, s19), (81, s20), (111, s21), (101, s22), (97, s23), (102, s24), (104, s25), (79, s26), (80, s27), (82, s28), (83, s29), (64, s30), (38, s31), (39, s32), (11, s33), (40, s34), (12, s35), (3, s36), (14, s37), (56, s38), (44, s39), (43, s40), (85, s41), (54, s42), (68, s43), (41, s44), (13, s45), (70, s46), (88, s47), (87, s48), (48, s49), (71, s50), (42, s51), (15, s52), (16, s53), (4, s54), (60, s55), (58, s56), (45, s57), (17, s58), (66, s59), (89, s60), (49, s61), (18, s62), (5, s63), (90, s64), (50, s65), (19, s66), (107, s67), (91, s68), (51, s69), (20, s70), (21, s71), (6, s72), (23, s73), (24, s74), (52, s75), (53, s76), (55, s77), (57, s78), (22, s79), (94, s80), (95, s81), (65, s82), (109, s83), (96, s84), (63, s85), (25, s86), (7, s87), (67, s88), (26, s89), (69, s90), (27, s91), (8, s92)]
def ex : List (FuncId × Ext) := [(75, .rte), (99, .frombits64), (113, .bits64), (114, .sqrt)]
end Go.Proofs.Ytkaiihbibcjglaa
