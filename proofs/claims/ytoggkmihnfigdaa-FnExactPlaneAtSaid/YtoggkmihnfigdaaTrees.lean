/- The trees of the program's functions. -/
import Derived.Test.YtoggkmihnfigdaaSxB
namespace Go.Proofs.Ytoggkmihnfigdaa
open Sx Go
/-- loop.example/g01249/laws.toPoint -/
def t0 : T :=
  .cst .f32 0 <|
  .cst .f32 0 <|
  .cst .f32 0 <|
  .cst .f32 0 <|
  .cst .f32 0 <|
  .cst .f32 0 <|
  .ret [.v 0, .v 1, .v 2]
def s0 : Sum := ⟨0, [.agg [.f .f32, .f .f32, .f .f32]], [.agg [.f .f32, .f .f32, .f .f32]]⟩
/-- loop.example/g01249/spec.CrossOf -/
def t1 : T :=
  .cst .f32 0 <|
  .cst .f32 0 <|
  .cst .f32 0 <|
  .bin .mul .f32 1 5 <|
  .bin .mul .f32 2 4 <|
  .bin .sub .f32 9 10 <|
  .bin .mul .f32 2 3 <|
  .bin .mul .f32 0 5 <|
  .bin .sub .f32 12 13 <|
  .bin .mul .f32 0 4 <|
  .bin .mul .f32 1 3 <|
  .bin .sub .f32 15 16 <|
  .cst .f32 0 <|
  .cst .f32 0 <|
  .cst .f32 0 <|
  .ret [.v 11, .v 14, .v 17]
def s1 : Sum := ⟨1, [.agg [.f .f32, .f .f32, .f .f32], .agg [.f .f32, .f .f32, .f .f32]], [.agg [.f .f32, .f .f32, .f .f32]]⟩
/-- loop.example/g01249/impl.CrossOf -/
def t2 : T :=
  .cst .f32 0 <|
  .cst .f32 0 <|
  .cst .f32 0 <|
  .bin .mul .f32 1 5 <|
  .bin .mul .f32 2 4 <|
  .bin .sub .f32 9 10 <|
  .bin .mul .f32 2 3 <|
  .bin .mul .f32 0 5 <|
  .bin .sub .f32 12 13 <|
  .bin .mul .f32 0 4 <|
  .bin .mul .f32 1 3 <|
  .bin .sub .f32 15 16 <|
  .cst .f32 0 <|
  .cst .f32 0 <|
  .cst .f32 0 <|
  .ret [.v 11, .v 14, .v 17]
def s2 : Sum := ⟨2, [.agg [.f .f32, .f .f32, .f .f32], .agg [.f .f32, .f .f32, .f .f32]], [.agg [.f .f32, .f .f32, .f .f32]]⟩
/-- loop.example/g01249/laws.sameFloat -/
def t3 : T :=
  .tst 2 .f64 0 0
   (.tst 2 .f64 1 1
    (.cst .f64 0 <|
    .tst 2 .f64 0 2
     (.cst .f64 0 <|
     .tst 2 .f64 1 3
      (.cst .f64 4607182418800017408 <|
      .bin .div .f64 4 0 <|
      .cst .f64 0 <|
      .tst 0 .f64 6 5
       (.cst .f64 4607182418800017408 <|
       .bin .div .f64 7 1 <|
       .cst .f64 0 <|
       .tst 0 .f64 9 8
        (.ret [.b true])
        (.ret [.b false]))
       (.cst .f64 4607182418800017408 <|
       .bin .div .f64 7 1 <|
       .cst .f64 0 <|
       .tst 0 .f64 9 8
        (.ret [.b false])
        (.ret [.b true])))
      (.tst 2 .f64 0 1
       (.ret [.b true])
       (.ret [.b false])))
     (.tst 2 .f64 0 1
      (.ret [.b true])
      (.ret [.b false])))
    (.tst 2 .f64 0 0
     (.ret [.b false])
     (.tst 2 .f64 1 1
      (.ret [.b false])
      (.ret [.b true]))))
   (.tst 2 .f64 0 0
    (.ret [.b false])
    (.tst 2 .f64 1 1
     (.ret [.b false])
     (.ret [.b true])))
def s3 : Sum := ⟨3, [.val (.f .f64), .val (.f .f64)], [.val (.b)]⟩
/-- loop.example/g01249/laws.eqPoint -/
def t4 : T :=
  .un .widen .f32 0 <|
  .un .widen .f32 3 <|
  .call 3 [.v 6, .v 7] 1 <|
  .br 8
   (.un .widen .f32 1 <|
   .un .widen .f32 4 <|
   .call 3 [.v 9, .v 10] 1 <|
   .br 11
    (.un .widen .f32 2 <|
    .un .widen .f32 5 <|
    .call 3 [.v 12, .v 13] 1 <|
    .br 14
     (.ret [.b true])
     (.ret [.b false]))
    (.ret [.b false]))
   (.ret [.b false])
def s4 : Sum := ⟨4, [.agg [.f .f32, .f .f32, .f .f32], .agg [.f .f32, .f .f32, .f .f32]], [.val (.b)]⟩
/-- loop.example/g01249/laws.FnExactCrossOf -/
def t5 : T :=
  .call 0 [.v 0, .v 1, .v 2] 3 <|
  .call 0 [.v 3, .v 4, .v 5] 3 <|
  .call 1 [.v 6, .v 7, .v 8, .v 9, .v 10, .v 11] 3 <|
  .cst .f32 0 <|
  .cst .f32 0 <|
  .cst .f32 0 <|
  .call 0 [.v 0, .v 1, .v 2] 3 <|
  .call 0 [.v 3, .v 4, .v 5] 3 <|
  .call 2 [.v 18, .v 19, .v 20, .v 21, .v 22, .v 23] 3 <|
  .cst .f32 0 <|
  .cst .f32 0 <|
  .cst .f32 0 <|
  .call 4 [.v 24, .v 25, .v 26, .v 12, .v 13, .v 14] 1 <|
  .br 30
   (.ret [.b true])
   (.ret [.b false])
def s5 : Sum := ⟨5, [.agg [.f .f32, .f .f32, .f .f32], .agg [.f .f32, .f .f32, .f .f32]], [.val (.b)]⟩
/-- loop.example/g01249/laws.toCamera -/
def t6 : T :=
  .cst .f32 0 <|
  .cst .f32 0 <|
  .cst .f32 0 <|
  .cst .f32 0 <|
  .cst .f32 0 <|
  .cst .f32 0 <|
  .cst .f32 0 <|
  .cst .f32 0 <|
  .cst .f32 0 <|
  .cst .f32 0 <|
  .cst .f32 0 <|
  .cst .f32 0 <|
  .cst .f32 0 <|
  .cst .f32 0 <|
  .cst .f32 0 <|
  .cst .f32 0 <|
  .cst .f32 0 <|
  .cst .f32 0 <|
  .cst .f32 0 <|
  .cst .f32 0 <|
  .cst .f32 0 <|
  .cst .f32 0 <|
  .call 0 [.v 0, .v 1, .v 2] 3 <|
  .call 0 [.v 3, .v 4, .v 5] 3 <|
  .call 0 [.v 6, .v 7, .v 8] 3 <|
  .ret [.v 33, .v 34, .v 35, .v 36, .v 37, .v 38, .v 39, .v 40, .v 41, .v 9, .v 10]
def s6 : Sum := ⟨6, [.agg [.f .f32, .f .f32, .f .f32, .f .f32, .f .f32, .f .f32, .f .f32, .f .f32, .f .f32, .f .f32, .f .f32]], [.agg [.f .f32, .f .f32, .f .f32, .f .f32, .f .f32, .f .f32, .f .f32, .f .f32, .f .f32, .f .f32, .f .f32]]⟩
/-- loop.example/g01249/spec.l01Same -/
def t7 : T :=
  .tst 2 .f32 0 0
   (.tst 2 .f32 1 1
    (.tsb .f32 0 1
     (.ret [.b true])
     (.ret [.b false]))
    (.tst 2 .f32 0 0
     (.ret [.b false])
     (.tst 2 .f32 1 1
      (.ret [.b false])
      (.ret [.b true]))))
   (.tst 2 .f32 0 0
    (.ret [.b false])
    (.tst 2 .f32 1 1
     (.ret [.b false])
     (.ret [.b true])))
def s7 : Sum := ⟨7, [.val (.f .f32), .val (.f .f32)], [.val (.b)]⟩
/-- loop.example/g01249/spec.l01SamePoint -/
def t8 : T :=
  .call 7 [.v 0, .v 3] 1 <|
  .br 6
   (.call 7 [.v 1, .v 4] 1 <|
   .br 7
    (.call 7 [.v 2, .v 5] 1 <|
    .br 8
     (.ret [.b true])
     (.ret [.b false]))
    (.ret [.b false]))
   (.ret [.b false])
def s8 : Sum := ⟨8, [.agg [.f .f32, .f .f32, .f .f32], .agg [.f .f32, .f .f32, .f .f32]], [.val (.b)]⟩
/-- loop.example/g01249/spec.l02Same -/
def t9 : T :=
  .call 8 [.v 0, .v 1, .v 2, .v 11, .v 12, .v 13] 1 <|
  .br 22
   (.call 8 [.v 3, .v 4, .v 5, .v 14, .v 15, .v 16] 1 <|
   .br 23
    (.call 8 [.v 6, .v 7, .v 8, .v 17, .v 18, .v 19] 1 <|
    .br 24
     (.call 7 [.v 9, .v 20] 1 <|
     .br 25
      (.call 7 [.v 10, .v 21] 1 <|
      .br 26
       (.ret [.b true])
       (.ret [.b false]))
      (.ret [.b false]))
     (.ret [.b false]))
    (.ret [.b false]))
   (.ret [.b false])
def s9 : Sum := ⟨9, [.ptr [.f .f32, .f .f32, .f .f32, .f .f32, .f .f32, .f .f32, .f .f32, .f .f32, .f .f32, .f .f32, .f .f32], .ptr [.f .f32, .f .f32, .f .f32, .f .f32, .f .f32, .f .f32, .f .f32, .f .f32, .f .f32, .f .f32, .f .f32]], [.val (.b)]⟩
/-- loop.example/g01249/spec.SameCamera -/
def t10 : T :=
  .call 9 [.v 0, .v 1, .v 2, .v 3, .v 4, .v 5, .v 6, .v 7, .v 8, .v 9, .v 10, .v 11, .v 12, .v 13, .v 14, .v 15, .v 16, .v 17, .v 18, .v 19, .v 20, .v 21] 1 <|
  .br 22
   (.ret [.b true])
   (.ret [.b false])
def s10 : Sum := ⟨10, [.agg [.f .f32, .f .f32, .f .f32, .f .f32, .f .f32, .f .f32, .f .f32, .f .f32, .f .f32, .f .f32, .f .f32], .agg [.f .f32, .f .f32, .f .f32, .f .f32, .f .f32, .f .f32, .f .f32, .f .f32, .f .f32, .f .f32, .f .f32]], [.val (.b)]⟩
/-- loop.example/g01249/impl.SameNumber -/
def t11 : T :=
  .tst 2 .f32 0 0
   (.tst 2 .f32 1 1
    (.tsb .f32 0 1
     (.ret [.b true])
     (.ret [.b false]))
    (.tst 2 .f32 0 0
     (.ret [.b false])
     (.tst 2 .f32 1 1
      (.ret [.b false])
      (.ret [.b true]))))
   (.tst 2 .f32 0 0
    (.ret [.b false])
    (.tst 2 .f32 1 1
     (.ret [.b false])
     (.ret [.b true])))
def s11 : Sum := ⟨11, [.val (.f .f32), .val (.f .f32)], [.val (.b)]⟩
/-- loop.example/g01249/impl.SamePoint -/
def t12 : T :=
  .call 11 [.v 0, .v 3] 1 <|
  .br 6
   (.call 11 [.v 1, .v 4] 1 <|
   .br 7
    (.call 11 [.v 2, .v 5] 1 <|
    .br 8
     (.ret [.b true])
     (.ret [.b false]))
    (.ret [.b false]))
   (.ret [.b false])
def s12 : Sum := ⟨12, [.agg [.f .f32, .f .f32, .f .f32], .agg [.f .f32, .f .f32, .f .f32]], [.val (.b)]⟩
/-- loop.example/g01249/impl.SameCamera -/
def t13 : T :=
  .call 12 [.v 0, .v 1, .v 2, .v 11, .v 12, .v 13] 1 <|
  .br 22
   (.call 12 [.v 3, .v 4, .v 5, .v 14, .v 15, .v 16] 1 <|
   .br 23
    (.call 12 [.v 6, .v 7, .v 8, .v 17, .v 18, .v 19] 1 <|
    .br 24
     (.call 11 [.v 9, .v 20] 1 <|
     .br 25
      (.call 11 [.v 10, .v 21] 1 <|
      .br 26
       (.ret [.b true])
       (.ret [.b false]))
      (.ret [.b false]))
     (.ret [.b false]))
    (.ret [.b false]))
   (.ret [.b false])
def s13 : Sum := ⟨13, [.agg [.f .f32, .f .f32, .f .f32, .f .f32, .f .f32, .f .f32, .f .f32, .f .f32, .f .f32, .f .f32, .f .f32], .agg [.f .f32, .f .f32, .f .f32, .f .f32, .f .f32, .f .f32, .f .f32, .f .f32, .f .f32, .f .f32, .f .f32]], [.val (.b)]⟩
/-- loop.example/g01249/laws.FnExactSameCamera -/
def t14 : T :=
  .call 6 [.v 0, .v 1, .v 2, .v 3, .v 4, .v 5, .v 6, .v 7, .v 8, .v 9, .v 10] 11 <|
  .call 6 [.v 11, .v 12, .v 13, .v 14, .v 15, .v 16, .v 17, .v 18, .v 19, .v 20, .v 21] 11 <|
  .call 10 [.v 22, .v 23, .v 24, .v 25, .v 26, .v 27, .v 28, .v 29, .v 30, .v 31, .v 32, .v 33, .v 34, .v 35, .v 36, .v 37, .v 38, .v 39, .v 40, .v 41, .v 42, .v 43] 1 <|
  .br 44
   (.call 6 [.v 0, .v 1, .v 2, .v 3, .v 4, .v 5, .v 6, .v 7, .v 8, .v 9, .v 10] 11 <|
   .call 6 [.v 11, .v 12, .v 13, .v 14, .v 15, .v 16, .v 17, .v 18, .v 19, .v 20, .v 21] 11 <|
   .call 13 [.v 45, .v 46, .v 47, .v 48, .v 49, .v 50, .v 51, .v 52, .v 53, .v 54, .v 55, .v 56, .v 57, .v 58, .v 59, .v 60, .v 61, .v 62, .v 63, .v 64, .v 65, .v 66] 1 <|
   .br 67
    (.ret [.b true])
    (.ret [.b false]))
   (.call 6 [.v 0, .v 1, .v 2, .v 3, .v 4, .v 5, .v 6, .v 7, .v 8, .v 9, .v 10] 11 <|
   .call 6 [.v 11, .v 12, .v 13, .v 14, .v 15, .v 16, .v 17, .v 18, .v 19, .v 20, .v 21] 11 <|
   .call 13 [.v 45, .v 46, .v 47, .v 48, .v 49, .v 50, .v 51, .v 52, .v 53, .v 54, .v 55, .v 56, .v 57, .v 58, .v 59, .v 60, .v 61, .v 62, .v 63, .v 64, .v 65, .v 66] 1 <|
   .br 67
    (.ret [.b false])
    (.ret [.b true]))
def s14 : Sum := ⟨14, [.agg [.f .f32, .f .f32, .f .f32, .f .f32, .f .f32, .f .f32, .f .f32, .f .f32, .f .f32, .f .f32, .f .f32], .agg [.f .f32, .f .f32, .f .f32, .f .f32, .f .f32, .f .f32, .f .f32, .f .f32, .f .f32, .f .f32, .f .f32]], [.val (.b)]⟩
/-- loop.example/g01249/spec.l01Finite -/
def t15 : T :=
  .bin .sub .f32 0 0 <|
  .cst .f32 0 <|
  .tst 2 .f32 1 2
   (.ret [.b true])
   (.ret [.b false])
def s15 : Sum := ⟨15, [.val (.f .f32)], [.val (.b)]⟩
/-- math.NaN -/
def t16 : T :=
  .cst .f64 0 <|
  .cst .f64 9221120237041090561 <|
  .ret [.v 1]
def s16 : Sum := ⟨16, [], [.val (.f .f64)]⟩
/-- loop.example/g01249/spec.SineOf -/
def t17 : T :=
  .cst .f32 0 <|
  .call 15 [.v 0] 1 <|
  .br 2
   (.un .widen .f32 0 <|
   .un .rte .f64 3 <|
   .cst .f64 0 <|
   .tst 2 .f64 4 5
    (.cst .f64 4618760256179416344 <|
    .bin .mul .f64 6 3 <|
    .bin .mul .f64 7 7 <|
    .cst .f64 4607182418800017408 <|
    .cst .f64 4628574517030027264 <|
    .cst .f64 4607182418800017408 <|
    .bin .add .f64 10 11 <|
    .bin .mul .f64 10 12 <|
    .bin .div .f64 8 13 <|
    .bin .mul .f64 14 9 <|
    .cst .f64 4607182418800017408 <|
    .bin .sub .f64 16 15 <|
    .cst .f64 4628011567076605952 <|
    .cst .f64 4607182418800017408 <|
    .bin .add .f64 18 19 <|
    .bin .mul .f64 18 20 <|
    .bin .div .f64 8 21 <|
    .bin .mul .f64 22 17 <|
    .cst .f64 4607182418800017408 <|
    .bin .sub .f64 24 23 <|
    .cst .f64 4627448617123184640 <|
    .cst .f64 4607182418800017408 <|
    .bin .add .f64 26 27 <|
    .bin .mul .f64 26 28 <|
    .bin .div .f64 8 29 <|
    .bin .mul .f64 30 25 <|
    .cst .f64 4607182418800017408 <|
    .bin .sub .f64 32 31 <|
    .cst .f64 4626885667169763328 <|
    .cst .f64 4607182418800017408 <|
    .bin .add .f64 34 35 <|
    .bin .mul .f64 34 36 <|
    .bin .div .f64 8 37 <|
    .bin .mul .f64 38 33 <|
    .cst .f64 4607182418800017408 <|
    .bin .sub .f64 40 39 <|
    .cst .f64 4626322717216342016 <|
    .cst .f64 4607182418800017408 <|
    .bin .add .f64 42 43 <|
    .bin .mul .f64 42 44 <|
    .bin .div .f64 8 45 <|
    .bin .mul .f64 46 41 <|
    .cst .f64 4607182418800017408 <|
    .bin .sub .f64 48 47 <|
    .cst .f64 4625759767262920704 <|
    .cst .f64 4607182418800017408 <|
    .bin .add .f64 50 51 <|
    .bin .mul .f64 50 52 <|
    .bin .div .f64 8 53 <|
    .bin .mul .f64 54 49 <|
    .cst .f64 4607182418800017408 <|
    .bin .sub .f64 56 55 <|
    .cst .f64 4625196817309499392 <|
    .cst .f64 4607182418800017408 <|
    .bin .add .f64 58 59 <|
    .bin .mul .f64 58 60 <|
    .bin .div .f64 8 61 <|
    .bin .mul .f64 62 57 <|
    .cst .f64 4607182418800017408 <|
    .bin .sub .f64 64 63 <|
    .cst .f64 4624070917402656768 <|
    .cst .f64 4607182418800017408 <|
    .bin .add .f64 66 67 <|
    .bin .mul .f64 66 68 <|
    .bin .div .f64 8 69 <|
    .bin .mul .f64 70 65 <|
    .cst .f64 4607182418800017408 <|
    .bin .sub .f64 72 71 <|
    .cst .f64 4622945017495814144 <|
    .cst .f64 4607182418800017408 <|
    .bin .add .f64 74 75 <|
    .bin .mul .f64 74 76 <|
    .bin .div .f64 8 77 <|
    .bin .mul .f64 78 73 <|
    .cst .f64 4607182418800017408 <|
    .bin .sub .f64 80 79 <|
    .cst .f64 4621819117588971520 <|
    .cst .f64 4607182418800017408 <|
    .bin .add .f64 82 83 <|
    .bin .mul .f64 82 84 <|
    .bin .div .f64 8 85 <|
    .bin .mul .f64 86 81 <|
    .cst .f64 4607182418800017408 <|
    .bin .sub .f64 88 87 <|
    .cst .f64 4620693217682128896 <|
    .cst .f64 4607182418800017408 <|
    .bin .add .f64 90 91 <|
    .bin .mul .f64 90 92 <|
    .bin .div .f64 8 93 <|
    .bin .mul .f64 94 89 <|
    .cst .f64 4607182418800017408 <|
    .bin .sub .f64 96 95 <|
    .cst .f64 4618441417868443648 <|
    .cst .f64 4607182418800017408 <|
    .bin .add .f64 98 99 <|
    .bin .mul .f64 98 100 <|
    .bin .div .f64 8 101 <|
    .bin .mul .f64 102 97 <|
    .cst .f64 4607182418800017408 <|
    .bin .sub .f64 104 103 <|
    .cst .f64 4616189618054758400 <|
    .cst .f64 4607182418800017408 <|
    .bin .add .f64 106 107 <|
    .bin .mul .f64 106 108 <|
    .bin .div .f64 8 109 <|
    .bin .mul .f64 110 105 <|
    .cst .f64 4607182418800017408 <|
    .bin .sub .f64 112 111 <|
    .cst .f64 4611686018427387904 <|
    .cst .f64 4607182418800017408 <|
    .bin .add .f64 114 115 <|
    .bin .mul .f64 114 116 <|
    .bin .div .f64 8 117 <|
    .bin .mul .f64 118 113 <|
    .cst .f64 4607182418800017408 <|
    .bin .sub .f64 120 119 <|
    .bin .mul .f64 7 121 <|
    .un .narrow .f64 122 <|
    .ret [.v 123])
    (.bin .sub .f64 3 4 <|
    .cst .f64 4618760256179416344 <|
    .bin .mul .f64 7 6 <|
    .bin .mul .f64 8 8 <|
    .cst .f64 4607182418800017408 <|
    .cst .f64 4628574517030027264 <|
    .cst .f64 4607182418800017408 <|
    .bin .add .f64 11 12 <|
    .bin .mul .f64 11 13 <|
    .bin .div .f64 9 14 <|
    .bin .mul .f64 15 10 <|
    .cst .f64 4607182418800017408 <|
    .bin .sub .f64 17 16 <|
    .cst .f64 4628011567076605952 <|
    .cst .f64 4607182418800017408 <|
    .bin .add .f64 19 20 <|
    .bin .mul .f64 19 21 <|
    .bin .div .f64 9 22 <|
    .bin .mul .f64 23 18 <|
    .cst .f64 4607182418800017408 <|
    .bin .sub .f64 25 24 <|
    .cst .f64 4627448617123184640 <|
    .cst .f64 4607182418800017408 <|
    .bin .add .f64 27 28 <|
    .bin .mul .f64 27 29 <|
    .bin .div .f64 9 30 <|
    .bin .mul .f64 31 26 <|
    .cst .f64 4607182418800017408 <|
    .bin .sub .f64 33 32 <|
    .cst .f64 4626885667169763328 <|
    .cst .f64 4607182418800017408 <|
    .bin .add .f64 35 36 <|
    .bin .mul .f64 35 37 <|
    .bin .div .f64 9 38 <|
    .bin .mul .f64 39 34 <|
    .cst .f64 4607182418800017408 <|
    .bin .sub .f64 41 40 <|
    .cst .f64 4626322717216342016 <|
    .cst .f64 4607182418800017408 <|
    .bin .add .f64 43 44 <|
    .bin .mul .f64 43 45 <|
    .bin .div .f64 9 46 <|
    .bin .mul .f64 47 42 <|
    .cst .f64 4607182418800017408 <|
    .bin .sub .f64 49 48 <|
    .cst .f64 4625759767262920704 <|
    .cst .f64 4607182418800017408 <|
    .bin .add .f64 51 52 <|
    .bin .mul .f64 51 53 <|
    .bin .div .f64 9 54 <|
    .bin .mul .f64 55 50 <|
    .cst .f64 4607182418800017408 <|
    .bin .sub .f64 57 56 <|
    .cst .f64 4625196817309499392 <|
    .cst .f64 4607182418800017408 <|
    .bin .add .f64 59 60 <|
    .bin .mul .f64 59 61 <|
    .bin .div .f64 9 62 <|
    .bin .mul .f64 63 58 <|
    .cst .f64 4607182418800017408 <|
    .bin .sub .f64 65 64 <|
    .cst .f64 4624070917402656768 <|
    .cst .f64 4607182418800017408 <|
    .bin .add .f64 67 68 <|
    .bin .mul .f64 67 69 <|
    .bin .div .f64 9 70 <|
    .bin .mul .f64 71 66 <|
    .cst .f64 4607182418800017408 <|
    .bin .sub .f64 73 72 <|
    .cst .f64 4622945017495814144 <|
    .cst .f64 4607182418800017408 <|
    .bin .add .f64 75 76 <|
    .bin .mul .f64 75 77 <|
    .bin .div .f64 9 78 <|
    .bin .mul .f64 79 74 <|
    .cst .f64 4607182418800017408 <|
    .bin .sub .f64 81 80 <|
    .cst .f64 4621819117588971520 <|
    .cst .f64 4607182418800017408 <|
    .bin .add .f64 83 84 <|
    .bin .mul .f64 83 85 <|
    .bin .div .f64 9 86 <|
    .bin .mul .f64 87 82 <|
    .cst .f64 4607182418800017408 <|
    .bin .sub .f64 89 88 <|
    .cst .f64 4620693217682128896 <|
    .cst .f64 4607182418800017408 <|
    .bin .add .f64 91 92 <|
    .bin .mul .f64 91 93 <|
    .bin .div .f64 9 94 <|
    .bin .mul .f64 95 90 <|
    .cst .f64 4607182418800017408 <|
    .bin .sub .f64 97 96 <|
    .cst .f64 4618441417868443648 <|
    .cst .f64 4607182418800017408 <|
    .bin .add .f64 99 100 <|
    .bin .mul .f64 99 101 <|
    .bin .div .f64 9 102 <|
    .bin .mul .f64 103 98 <|
    .cst .f64 4607182418800017408 <|
    .bin .sub .f64 105 104 <|
    .cst .f64 4616189618054758400 <|
    .cst .f64 4607182418800017408 <|
    .bin .add .f64 107 108 <|
    .bin .mul .f64 107 109 <|
    .bin .div .f64 9 110 <|
    .bin .mul .f64 111 106 <|
    .cst .f64 4607182418800017408 <|
    .bin .sub .f64 113 112 <|
    .cst .f64 4611686018427387904 <|
    .cst .f64 4607182418800017408 <|
    .bin .add .f64 115 116 <|
    .bin .mul .f64 115 117 <|
    .bin .div .f64 9 118 <|
    .bin .mul .f64 119 114 <|
    .cst .f64 4607182418800017408 <|
    .bin .sub .f64 121 120 <|
    .bin .mul .f64 8 122 <|
    .un .narrow .f64 123 <|
    .ret [.v 124]))
   (.call 16 [] 1 <|
   .un .narrow .f64 3 <|
   .ret [.v 4])
def s17 : Sum := ⟨17, [.val (.f .f32)], [.val (.f .f32)]⟩
/-- loop.example/g01249/impl.isFinite -/
def t18 : T :=
  .bin .sub .f32 0 0 <|
  .cst .f32 0 <|
  .tst 2 .f32 1 2
   (.ret [.b true])
   (.ret [.b false])
def s18 : Sum := ⟨18, [.val (.f .f32)], [.val (.b)]⟩
/-- loop.example/g01249/impl.SineOf -/
def t19 : T :=
  .cst .f32 0 <|
  .call 18 [.v 0] 1 <|
  .br 2
   (.un .widen .f32 0 <|
   .un .rte .f64 3 <|
   .cst .f64 0 <|
   .tst 2 .f64 4 5
    (.cst .f64 4618760256179416344 <|
    .bin .mul .f64 6 3 <|
    .bin .mul .f64 7 7 <|
    .cst .f64 4607182418800017408 <|
    .cst .f64 4650353643353014272 <|
    .bin .div .f64 8 10 <|
    .bin .mul .f64 11 9 <|
    .cst .f64 4607182418800017408 <|
    .bin .sub .f64 13 12 <|
    .cst .f64 4649386073120571392 <|
    .bin .div .f64 8 15 <|
    .bin .mul .f64 16 14 <|
    .cst .f64 4607182418800017408 <|
    .bin .sub .f64 18 17 <|
    .cst .f64 4648488871632306176 <|
    .bin .div .f64 8 20 <|
    .bin .mul .f64 21 19 <|
    .cst .f64 4607182418800017408 <|
    .bin .sub .f64 23 22 <|
    .cst .f64 4647609262330085376 <|
    .bin .div .f64 8 25 <|
    .bin .mul .f64 26 24 <|
    .cst .f64 4607182418800017408 <|
    .bin .sub .f64 28 27 <|
    .cst .f64 4646096334330265600 <|
    .bin .div .f64 8 30 <|
    .bin .mul .f64 31 29 <|
    .cst .f64 4607182418800017408 <|
    .bin .sub .f64 33 32 <|
    .cst .f64 4644724143818801152 <|
    .bin .div .f64 8 35 <|
    .bin .mul .f64 36 34 <|
    .cst .f64 4607182418800017408 <|
    .bin .sub .f64 38 37 <|
    .cst .f64 4643492690795692032 <|
    .bin .div .f64 8 40 <|
    .bin .mul .f64 41 39 <|
    .cst .f64 4607182418800017408 <|
    .bin .sub .f64 43 42 <|
    .cst .f64 4641592734702895104 <|
    .bin .div .f64 8 45 <|
    .bin .mul .f64 46 44 <|
    .cst .f64 4607182418800017408 <|
    .bin .sub .f64 48 47 <|
    .cst .f64 4639692778610098176 <|
    .bin .div .f64 8 50 <|
    .bin .mul .f64 51 49 <|
    .cst .f64 4607182418800017408 <|
    .bin .sub .f64 53 52 <|
    .cst .f64 4637440978796412928 <|
    .bin .div .f64 8 55 <|
    .bin .mul .f64 56 54 <|
    .cst .f64 4607182418800017408 <|
    .bin .sub .f64 58 57 <|
    .cst .f64 4634766966517661696 <|
    .bin .div .f64 8 60 <|
    .bin .mul .f64 61 59 <|
    .cst .f64 4607182418800017408 <|
    .bin .sub .f64 63 62 <|
    .cst .f64 4631107791820423168 <|
    .bin .div .f64 8 65 <|
    .bin .mul .f64 66 64 <|
    .cst .f64 4607182418800017408 <|
    .bin .sub .f64 68 67 <|
    .cst .f64 4626322717216342016 <|
    .bin .div .f64 8 70 <|
    .bin .mul .f64 71 69 <|
    .cst .f64 4607182418800017408 <|
    .bin .sub .f64 73 72 <|
    .cst .f64 4618441417868443648 <|
    .bin .div .f64 8 75 <|
    .bin .mul .f64 76 74 <|
    .cst .f64 4607182418800017408 <|
    .bin .sub .f64 78 77 <|
    .bin .mul .f64 7 79 <|
    .un .narrow .f64 80 <|
    .ret [.v 81])
    (.bin .sub .f64 3 4 <|
    .cst .f64 4618760256179416344 <|
    .bin .mul .f64 7 6 <|
    .bin .mul .f64 8 8 <|
    .cst .f64 4607182418800017408 <|
    .cst .f64 4650353643353014272 <|
    .bin .div .f64 9 11 <|
    .bin .mul .f64 12 10 <|
    .cst .f64 4607182418800017408 <|
    .bin .sub .f64 14 13 <|
    .cst .f64 4649386073120571392 <|
    .bin .div .f64 9 16 <|
    .bin .mul .f64 17 15 <|
    .cst .f64 4607182418800017408 <|
    .bin .sub .f64 19 18 <|
    .cst .f64 4648488871632306176 <|
    .bin .div .f64 9 21 <|
    .bin .mul .f64 22 20 <|
    .cst .f64 4607182418800017408 <|
    .bin .sub .f64 24 23 <|
    .cst .f64 4647609262330085376 <|
    .bin .div .f64 9 26 <|
    .bin .mul .f64 27 25 <|
    .cst .f64 4607182418800017408 <|
    .bin .sub .f64 29 28 <|
    .cst .f64 4646096334330265600 <|
    .bin .div .f64 9 31 <|
    .bin .mul .f64 32 30 <|
    .cst .f64 4607182418800017408 <|
    .bin .sub .f64 34 33 <|
    .cst .f64 4644724143818801152 <|
    .bin .div .f64 9 36 <|
    .bin .mul .f64 37 35 <|
    .cst .f64 4607182418800017408 <|
    .bin .sub .f64 39 38 <|
    .cst .f64 4643492690795692032 <|
    .bin .div .f64 9 41 <|
    .bin .mul .f64 42 40 <|
    .cst .f64 4607182418800017408 <|
    .bin .sub .f64 44 43 <|
    .cst .f64 4641592734702895104 <|
    .bin .div .f64 9 46 <|
    .bin .mul .f64 47 45 <|
    .cst .f64 4607182418800017408 <|
    .bin .sub .f64 49 48 <|
    .cst .f64 4639692778610098176 <|
    .bin .div .f64 9 51 <|
    .bin .mul .f64 52 50 <|
    .cst .f64 4607182418800017408 <|
    .bin .sub .f64 54 53 <|
    .cst .f64 4637440978796412928 <|
    .bin .div .f64 9 56 <|
    .bin .mul .f64 57 55 <|
    .cst .f64 4607182418800017408 <|
    .bin .sub .f64 59 58 <|
    .cst .f64 4634766966517661696 <|
    .bin .div .f64 9 61 <|
    .bin .mul .f64 62 60 <|
    .cst .f64 4607182418800017408 <|
    .bin .sub .f64 64 63 <|
    .cst .f64 4631107791820423168 <|
    .bin .div .f64 9 66 <|
    .bin .mul .f64 67 65 <|
    .cst .f64 4607182418800017408 <|
    .bin .sub .f64 69 68 <|
    .cst .f64 4626322717216342016 <|
    .bin .div .f64 9 71 <|
    .bin .mul .f64 72 70 <|
    .cst .f64 4607182418800017408 <|
    .bin .sub .f64 74 73 <|
    .cst .f64 4618441417868443648 <|
    .bin .div .f64 9 76 <|
    .bin .mul .f64 77 75 <|
    .cst .f64 4607182418800017408 <|
    .bin .sub .f64 79 78 <|
    .bin .mul .f64 8 80 <|
    .un .narrow .f64 81 <|
    .ret [.v 82]))
   (.call 16 [] 1 <|
   .un .narrow .f64 3 <|
   .ret [.v 4])
def s19 : Sum := ⟨19, [.val (.f .f32)], [.val (.f .f32)]⟩
/-- loop.example/g01249/laws.FnExactSineOf -/
def t20 : T :=
  .call 17 [.v 0] 1 <|
  .call 19 [.v 0] 1 <|
  .un .widen .f32 2 <|
  .un .widen .f32 1 <|
  .call 3 [.v 3, .v 4] 1 <|
  .br 5
   (.ret [.b true])
   (.ret [.b false])
def s20 : Sum := ⟨20, [.val (.f .f32)], [.val (.b)]⟩
/-- loop.example/g01249/spec.DotOf -/
def t21 : T :=
  .cst .f32 0 <|
  .bin .mul .f32 0 3 <|
  .bin .mul .f32 1 4 <|
  .bin .add .f32 7 8 <|
  .bin .mul .f32 2 5 <|
  .bin .add .f32 9 10 <|
  .ret [.v 11]
def s21 : Sum := ⟨21, [.agg [.f .f32, .f .f32, .f .f32], .agg [.f .f32, .f .f32, .f .f32]], [.val (.f .f32)]⟩
/-- math.Sqrt -/
def t22 : T :=
  .cst .f64 0 <|
  .un .sqrt .f64 0 <|
  .ret [.v 2]
def s22 : Sum := ⟨22, [.val (.f .f64)], [.val (.f .f64)]⟩
/-- loop.example/g01249/spec.l01Root -/
def t23 : T :=
  .cst .f32 0 <|
  .un .widen .f32 0 <|
  .call 22 [.v 2] 1 <|
  .un .narrow .f64 3 <|
  .ret [.v 4]
def s23 : Sum := ⟨23, [.val (.f .f32)], [.val (.f .f32)]⟩
/-- loop.example/g01249/spec.LengthOf -/
def t24 : T :=
  .cst .f32 0 <|
  .call 21 [.v 0, .v 1, .v 2, .v 0, .v 1, .v 2] 1 <|
  .call 23 [.v 4] 1 <|
  .ret [.v 5]
def s24 : Sum := ⟨24, [.agg [.f .f32, .f .f32, .f .f32]], [.val (.f .f32)]⟩
/-- loop.example/g01249/impl.DotOf -/
def t25 : T :=
  .cst .f32 0 <|
  .bin .mul .f32 0 3 <|
  .bin .mul .f32 1 4 <|
  .bin .add .f32 7 8 <|
  .bin .mul .f32 2 5 <|
  .bin .add .f32 9 10 <|
  .ret [.v 11]
def s25 : Sum := ⟨25, [.agg [.f .f32, .f .f32, .f .f32], .agg [.f .f32, .f .f32, .f .f32]], [.val (.f .f32)]⟩
/-- loop.example/g01249/impl.root -/
def t26 : T :=
  .cst .f32 0 <|
  .un .widen .f32 0 <|
  .call 22 [.v 2] 1 <|
  .un .narrow .f64 3 <|
  .ret [.v 4]
def s26 : Sum := ⟨26, [.val (.f .f32)], [.val (.f .f32)]⟩
/-- loop.example/g01249/impl.LengthOf -/
def t27 : T :=
  .cst .f32 0 <|
  .call 25 [.v 0, .v 1, .v 2, .v 0, .v 1, .v 2] 1 <|
  .call 26 [.v 4] 1 <|
  .ret [.v 5]
def s27 : Sum := ⟨27, [.agg [.f .f32, .f .f32, .f .f32]], [.val (.f .f32)]⟩
/-- loop.example/g01249/laws.FnExactLengthOf -/
def t28 : T :=
  .call 0 [.v 0, .v 1, .v 2] 3 <|
  .call 24 [.v 3, .v 4, .v 5] 1 <|
  .call 0 [.v 0, .v 1, .v 2] 3 <|
  .call 27 [.v 7, .v 8, .v 9] 1 <|
  .un .widen .f32 10 <|
  .un .widen .f32 6 <|
  .call 3 [.v 11, .v 12] 1 <|
  .br 13
   (.ret [.b true])
   (.ret [.b false])
def s28 : Sum := ⟨28, [.agg [.f .f32, .f .f32, .f .f32]], [.val (.b)]⟩
/-- loop.example/g01249/spec.SubPoints -/
def t29 : T :=
  .cst .f32 0 <|
  .cst .f32 0 <|
  .cst .f32 0 <|
  .bin .sub .f32 0 3 <|
  .bin .sub .f32 1 4 <|
  .bin .sub .f32 2 5 <|
  .cst .f32 0 <|
  .cst .f32 0 <|
  .cst .f32 0 <|
  .ret [.v 9, .v 10, .v 11]
def s29 : Sum := ⟨29, [.agg [.f .f32, .f .f32, .f .f32], .agg [.f .f32, .f .f32, .f .f32]], [.agg [.f .f32, .f .f32, .f .f32]]⟩
/-- loop.example/g01249/spec.DistanceBetween -/
def t30 : T :=
  .cst .f32 0 <|
  .call 29 [.v 0, .v 1, .v 2, .v 3, .v 4, .v 5] 3 <|
  .call 24 [.v 7, .v 8, .v 9] 1 <|
  .ret [.v 10]
def s30 : Sum := ⟨30, [.agg [.f .f32, .f .f32, .f .f32], .agg [.f .f32, .f .f32, .f .f32]], [.val (.f .f32)]⟩
/-- loop.example/g01249/impl.SubPoints -/
def t31 : T :=
  .cst .f32 0 <|
  .cst .f32 0 <|
  .cst .f32 0 <|
  .bin .sub .f32 0 3 <|
  .bin .sub .f32 1 4 <|
  .bin .sub .f32 2 5 <|
  .cst .f32 0 <|
  .cst .f32 0 <|
  .cst .f32 0 <|
  .ret [.v 9, .v 10, .v 11]
def s31 : Sum := ⟨31, [.agg [.f .f32, .f .f32, .f .f32], .agg [.f .f32, .f .f32, .f .f32]], [.agg [.f .f32, .f .f32, .f .f32]]⟩
/-- loop.example/g01249/impl.DistanceBetween -/
def t32 : T :=
  .cst .f32 0 <|
  .call 31 [.v 0, .v 1, .v 2, .v 3, .v 4, .v 5] 3 <|
  .call 27 [.v 7, .v 8, .v 9] 1 <|
  .ret [.v 10]
def s32 : Sum := ⟨32, [.agg [.f .f32, .f .f32, .f .f32], .agg [.f .f32, .f .f32, .f .f32]], [.val (.f .f32)]⟩
/-- loop.example/g01249/laws.FnExactDistanceBetween -/
def t33 : T :=
  .call 0 [.v 0, .v 1, .v 2] 3 <|
  .call 0 [.v 3, .v 4, .v 5] 3 <|
  .call 30 [.v 6, .v 7, .v 8, .v 9, .v 10, .v 11] 1 <|
  .call 0 [.v 0, .v 1, .v 2] 3 <|
  .call 0 [.v 3, .v 4, .v 5] 3 <|
  .call 32 [.v 13, .v 14, .v 15, .v 16, .v 17, .v 18] 1 <|
  .un .widen .f32 19 <|
  .un .widen .f32 12 <|
  .call 3 [.v 20, .v 21] 1 <|
  .br 22
   (.ret [.b true])
   (.ret [.b false])
def s33 : Sum := ⟨33, [.agg [.f .f32, .f .f32, .f .f32], .agg [.f .f32, .f .f32, .f .f32]], [.val (.b)]⟩
/-- loop.example/g01249/laws.toPlane -/
def t34 : T :=
  .cst .f32 0 <|
  .cst .f32 0 <|
  .cst .f32 0 <|
  .cst .f32 0 <|
  .cst .f32 0 <|
  .cst .f32 0 <|
  .cst .f32 0 <|
  .cst .f32 0 <|
  .call 0 [.v 0, .v 1, .v 2] 3 <|
  .ret [.v 12, .v 13, .v 14, .v 3]
def s34 : Sum := ⟨34, [.agg [.f .f32, .f .f32, .f .f32, .f .f32]], [.agg [.f .f32, .f .f32, .f .f32, .f .f32]]⟩
/-- loop.example/g01249/spec.l01Plain -/
def t35 : T :=
  .cst .f32 3379831808 <|
  .tst 1 .f32 1 0
   (.cst .f32 1232348160 <|
   .tst 1 .f32 0 2
    (.ret [.b true])
    (.ret [.b false]))
   (.ret [.b false])
def s35 : Sum := ⟨35, [.val (.f .f32)], [.val (.b)]⟩
/-- loop.example/g01249/spec.l01Point -/
def t36 : T :=
  .call 35 [.v 0] 1 <|
  .br 3
   (.call 35 [.v 1] 1 <|
   .br 4
    (.call 35 [.v 2] 1 <|
    .br 5
     (.ret [.b true])
     (.ret [.b false]))
    (.ret [.b false]))
   (.ret [.b false])
def s36 : Sum := ⟨36, [.agg [.f .f32, .f .f32, .f .f32]], [.val (.b)]⟩
/-- loop.example/g01249/spec.l01Plane -/
def t37 : T :=
  .call 24 [.v 0, .v 1, .v 2] 1 <|
  .call 36 [.v 0, .v 1, .v 2] 1 <|
  .br 5
   (.call 35 [.v 3] 1 <|
   .br 6
    (.cst .f32 1065336439 <|
    .tst 1 .f32 7 4
     (.cst .f32 1065361605 <|
     .tst 1 .f32 4 8
      (.ret [.b true])
      (.ret [.b false]))
     (.ret [.b false]))
    (.ret [.b false]))
   (.ret [.b false])
def s37 : Sum := ⟨37, [.ptr [.f .f32, .f .f32, .f .f32, .f .f32]], [.val (.b)]⟩
/-- loop.example/g01249/spec.ValidPlane -/
def t38 : T :=
  .call 37 [.v 0, .v 1, .v 2, .v 3] 1 <|
  .br 4
   (.ret [.b true])
   (.ret [.b false])
def s38 : Sum := ⟨38, [.agg [.f .f32, .f .f32, .f .f32, .f .f32]], [.val (.b)]⟩
/-- loop.example/g01249/impl.IsPlain -/
def t39 : T :=
  .cst .f32 3379831808 <|
  .tst 1 .f32 1 0
   (.cst .f32 1232348160 <|
   .tst 1 .f32 0 2
    (.ret [.b true])
    (.ret [.b false]))
   (.ret [.b false])
def s39 : Sum := ⟨39, [.val (.f .f32)], [.val (.b)]⟩
/-- loop.example/g01249/impl.arePlain$1 -/
def t40 : T :=
  .call 39 [.v 0] 1 <|
  .br 1
   (.ret [.b false])
   (.ret [.b true])
def s40 : Sum := ⟨40, [.val (.f .f32)], [.val (.b)]⟩
/-- loop.example/g01249/impl.ValidPoint -/
def t41 : T :=
  .call 40 [.v 0] 1 <|
  .br 3
   (.ret [.b false])
   (.call 40 [.v 1] 1 <|
   .br 4
    (.ret [.b false])
    (.call 40 [.v 2] 1 <|
    .br 5
     (.ret [.b false])
     (.ret [.b true])))
def s41 : Sum := ⟨41, [.agg [.f .f32, .f .f32, .f .f32]], [.val (.b)]⟩
/-- loop.example/g01249/impl.ValidPlane -/
def t42 : T :=
  .call 27 [.v 0, .v 1, .v 2] 1 <|
  .call 39 [.v 3] 1 <|
  .br 5
   (.call 41 [.v 0, .v 1, .v 2] 1 <|
   .br 6
    (.cst .f32 1065336439 <|
    .tst 1 .f32 7 4
     (.cst .f32 1065361605 <|
     .tst 1 .f32 4 8
      (.ret [.b true])
      (.ret [.b false]))
     (.ret [.b false]))
    (.ret [.b false]))
   (.ret [.b false])
def s42 : Sum := ⟨42, [.agg [.f .f32, .f .f32, .f .f32, .f .f32]], [.val (.b)]⟩
/-- loop.example/g01249/laws.FnExactValidPlane -/
def t43 : T :=
  .call 34 [.v 0, .v 1, .v 2, .v 3] 4 <|
  .call 38 [.v 4, .v 5, .v 6, .v 7] 1 <|
  .br 8
   (.call 34 [.v 0, .v 1, .v 2, .v 3] 4 <|
   .call 42 [.v 9, .v 10, .v 11, .v 12] 1 <|
   .br 13
    (.ret [.b true])
    (.ret [.b false]))
   (.call 34 [.v 0, .v 1, .v 2, .v 3] 4 <|
   .call 42 [.v 9, .v 10, .v 11, .v 12] 1 <|
   .br 13
    (.ret [.b false])
    (.ret [.b true]))
def s43 : Sum := ⟨43, [.agg [.f .f32, .f .f32, .f .f32, .f .f32]], [.val (.b)]⟩
/-- loop.example/g01249/spec.l01Finites -/
def t44 : T :=
  .call 15 [.v 0] 1 <|
  .br 3
   (.call 15 [.v 1] 1 <|
   .br 4
    (.call 15 [.v 2] 1 <|
    .br 5
     (.ret [.b true])
     (.ret [.b false]))
    (.ret [.b false]))
   (.ret [.b false])
def s44 : Sum := ⟨44, [.agg [.f .f32, .f .f32, .f .f32]], [.val (.b)]⟩
/-- loop.example/g01249/spec.l01Unit -/
def t45 : T :=
  .cst .f32 0 <|
  .cst .f32 0 <|
  .cst .f32 0 <|
  .call 24 [.v 0, .v 1, .v 2] 1 <|
  .cst .f32 897581056 <|
  .tst 1 .f32 7 6
   (.bin .div .f32 0 6 <|
   .bin .div .f32 1 6 <|
   .bin .div .f32 2 6 <|
   .cst .f32 0 <|
   .cst .f32 0 <|
   .cst .f32 0 <|
   .cst .f32 0 <|
   .cst .f32 0 <|
   .cst .f32 0 <|
   .call 44 [.v 8, .v 9, .v 10] 1 <|
   .br 17
    (.ret [.v 8, .v 9, .v 10, .b true])
    (.ret [.v 8, .v 9, .v 10, .b false]))
   (.cst .f32 0 <|
   .cst .f32 0 <|
   .cst .f32 0 <|
   .ret [.v 8, .v 9, .v 10, .b false])
def s45 : Sum := ⟨45, [.agg [.f .f32, .f .f32, .f .f32]], [.agg [.f .f32, .f .f32, .f .f32], .val (.b)]⟩
/-- loop.example/g01249/spec.UnitOf -/
def t46 : T :=
  .cst .f32 0 <|
  .cst .f32 0 <|
  .cst .f32 0 <|
  .call 36 [.v 0, .v 1, .v 2] 1 <|
  .br 6
   (.call 45 [.v 0, .v 1, .v 2] 4 <|
   .br 10
    (.cst .f32 0 <|
    .cst .f32 0 <|
    .cst .f32 0 <|
    .ret [.v 7, .v 8, .v 9, .i .i64 0])
    (.cst .f32 0 <|
    .cst .f32 0 <|
    .cst .f32 0 <|
    .cst .f32 0 <|
    .cst .f32 0 <|
    .cst .f32 0 <|
    .ret [.v 14, .v 15, .v 16, .i .i64 4]))
   (.cst .f32 0 <|
   .cst .f32 0 <|
   .cst .f32 0 <|
   .ret [.v 7, .v 8, .v 9, .i .i64 1])
def s46 : Sum := ⟨46, [.agg [.f .f32, .f .f32, .f .f32]], [.agg [.f .f32, .f .f32, .f .f32], .val (.i .i64 [0, 4, 1])]⟩
/-- loop.example/g01249/impl.quotients -/
def t47 : T :=
  .cst .f32 0 <|
  .cst .f32 0 <|
  .cst .f32 0 <|
  .bin .div .f32 0 3 <|
  .bin .div .f32 1 3 <|
  .bin .div .f32 2 3 <|
  .cst .f32 0 <|
  .cst .f32 0 <|
  .cst .f32 0 <|
  .ret [.v 7, .v 8, .v 9]
def s47 : Sum := ⟨47, [.agg [.f .f32, .f .f32, .f .f32], .val (.f .f32)], [.agg [.f .f32, .f .f32, .f .f32]]⟩
/-- loop.example/g01249/impl.areFinite$1 -/
def t48 : T :=
  .call 18 [.v 0] 1 <|
  .br 1
   (.ret [.b false])
   (.ret [.b true])
def s48 : Sum := ⟨48, [.val (.f .f32)], [.val (.b)]⟩
/-- loop.example/g01249/impl.unit -/
def t49 : T :=
  .cst .f32 0 <|
  .cst .f32 0 <|
  .cst .f32 0 <|
  .call 27 [.v 0, .v 1, .v 2] 1 <|
  .call 18 [.v 6] 1 <|
  .br 7
   (.cst .f32 897581056 <|
   .tst 0 .f32 6 8
    (.cst .f32 0 <|
    .cst .f32 0 <|
    .cst .f32 0 <|
    .ret [.v 9, .v 10, .v 11, .b false])
    (.call 47 [.v 0, .v 1, .v 2, .v 6] 3 <|
    .cst .f32 0 <|
    .cst .f32 0 <|
    .cst .f32 0 <|
    .call 48 [.v 9] 1 <|
    .br 15
     (.ret [.v 9, .v 10, .v 11, .b false])
     (.call 48 [.v 10] 1 <|
     .br 16
      (.ret [.v 9, .v 10, .v 11, .b false])
      (.call 48 [.v 11] 1 <|
      .br 17
       (.ret [.v 9, .v 10, .v 11, .b false])
       (.ret [.v 9, .v 10, .v 11, .b true])))))
   (.cst .f32 0 <|
   .cst .f32 0 <|
   .cst .f32 0 <|
   .ret [.v 8, .v 9, .v 10, .b false])
def s49 : Sum := ⟨49, [.agg [.f .f32, .f .f32, .f .f32]], [.agg [.f .f32, .f .f32, .f .f32], .val (.b)]⟩
/-- loop.example/g01249/impl.UnitOf -/
def t50 : T :=
  .cst .f32 0 <|
  .cst .f32 0 <|
  .cst .f32 0 <|
  .call 41 [.v 0, .v 1, .v 2] 1 <|
  .br 6
   (.call 49 [.v 0, .v 1, .v 2] 4 <|
   .br 10
    (.cst .f32 0 <|
    .cst .f32 0 <|
    .cst .f32 0 <|
    .ret [.v 7, .v 8, .v 9, .i .i64 0])
    (.cst .f32 0 <|
    .cst .f32 0 <|
    .cst .f32 0 <|
    .cst .f32 0 <|
    .cst .f32 0 <|
    .cst .f32 0 <|
    .ret [.v 14, .v 15, .v 16, .i .i64 4]))
   (.cst .f32 0 <|
   .cst .f32 0 <|
   .cst .f32 0 <|
   .ret [.v 7, .v 8, .v 9, .i .i64 1])
def s50 : Sum := ⟨50, [.agg [.f .f32, .f .f32, .f .f32]], [.agg [.f .f32, .f .f32, .f .f32], .val (.i .i64 [0, 4, 1])]⟩
/-- loop.example/g01249/laws.FnExactUnitOf -/
def t51 : T :=
  .call 0 [.v 0, .v 1, .v 2] 3 <|
  .call 46 [.v 3, .v 4, .v 5] 4 <|
  .sw 9 0
   (.cst .f32 0 <|
   .cst .f32 0 <|
   .cst .f32 0 <|
   .call 0 [.v 0, .v 1, .v 2] 3 <|
   .call 50 [.v 13, .v 14, .v 15] 4 <|
   .sw 19 0
    (.cst .f32 0 <|
    .cst .f32 0 <|
    .cst .f32 0 <|
    .call 4 [.v 16, .v 17, .v 18, .v 6, .v 7, .v 8] 1 <|
    .br 23
     (.ret [.b true])
     (.ret [.b false]))
    (.sw 19 4
     (.cst .f32 0 <|
     .cst .f32 0 <|
     .cst .f32 0 <|
     .call 4 [.v 16, .v 17, .v 18, .v 6, .v 7, .v 8] 1 <|
     .br 23
      (.ret [.b false])
      (.ret [.b false]))
     (.sw 19 1
      (.cst .f32 0 <|
      .cst .f32 0 <|
      .cst .f32 0 <|
      .call 4 [.v 16, .v 17, .v 18, .v 6, .v 7, .v 8] 1 <|
      .br 23
       (.ret [.b false])
       (.ret [.b false]))
      (.bad "sw"))))
   (.sw 9 4
    (.cst .f32 0 <|
    .cst .f32 0 <|
    .cst .f32 0 <|
    .call 0 [.v 0, .v 1, .v 2] 3 <|
    .call 50 [.v 13, .v 14, .v 15] 4 <|
    .sw 19 0
     (.cst .f32 0 <|
     .cst .f32 0 <|
     .cst .f32 0 <|
     .call 4 [.v 16, .v 17, .v 18, .v 6, .v 7, .v 8] 1 <|
     .br 23
      (.ret [.b false])
      (.ret [.b false]))
     (.sw 19 4
      (.cst .f32 0 <|
      .cst .f32 0 <|
      .cst .f32 0 <|
      .call 4 [.v 16, .v 17, .v 18, .v 6, .v 7, .v 8] 1 <|
      .br 23
       (.ret [.b true])
       (.ret [.b false]))
      (.sw 19 1
       (.cst .f32 0 <|
       .cst .f32 0 <|
       .cst .f32 0 <|
       .call 4 [.v 16, .v 17, .v 18, .v 6, .v 7, .v 8] 1 <|
       .br 23
        (.ret [.b false])
        (.ret [.b false]))
       (.bad "sw"))))
    (.sw 9 1
     (.cst .f32 0 <|
     .cst .f32 0 <|
     .cst .f32 0 <|
     .call 0 [.v 0, .v 1, .v 2] 3 <|
     .call 50 [.v 13, .v 14, .v 15] 4 <|
     .sw 19 0
      (.cst .f32 0 <|
      .cst .f32 0 <|
      .cst .f32 0 <|
      .call 4 [.v 16, .v 17, .v 18, .v 6, .v 7, .v 8] 1 <|
      .br 23
       (.ret [.b false])
       (.ret [.b false]))
      (.sw 19 4
       (.cst .f32 0 <|
       .cst .f32 0 <|
       .cst .f32 0 <|
       .call 4 [.v 16, .v 17, .v 18, .v 6, .v 7, .v 8] 1 <|
       .br 23
        (.ret [.b false])
        (.ret [.b false]))
       (.sw 19 1
        (.cst .f32 0 <|
        .cst .f32 0 <|
        .cst .f32 0 <|
        .call 4 [.v 16, .v 17, .v 18, .v 6, .v 7, .v 8] 1 <|
        .br 23
         (.ret [.b true])
         (.ret [.b false]))
        (.bad "sw"))))
     (.bad "sw")))
def s51 : Sum := ⟨51, [.agg [.f .f32, .f .f32, .f .f32]], [.val (.b)]⟩
/-- loop.example/g01249/spec.l01Both -/
def t52 : T :=
  .call 37 [.v 0, .v 1, .v 2, .v 3] 1 <|
  .br 7
   (.call 36 [.v 4, .v 5, .v 6] 1 <|
   .br 8
    (.ret [.i .i64 0])
    (.ret [.i .i64 1]))
   (.ret [.i .i64 1])
def s52 : Sum := ⟨52, [.ptr [.f .f32, .f .f32, .f .f32, .f .f32], .agg [.f .f32, .f .f32, .f .f32]], [.val (.i .i64 [0, 1])]⟩
/-- loop.example/g01249/spec.l01Side -/
def t53 : T :=
  .cst .f32 0 <|
  .call 21 [.v 0, .v 1, .v 2, .v 4, .v 5, .v 6] 1 <|
  .bin .sub .f32 8 3 <|
  .ret [.v 9]
def s53 : Sum := ⟨53, [.ptr [.f .f32, .f .f32, .f .f32, .f .f32], .agg [.f .f32, .f .f32, .f .f32]], [.val (.f .f32)]⟩
/-- loop.example/g01249/spec.SideOf -/
def t54 : T :=
  .cst .f32 0 <|
  .call 52 [.v 0, .v 1, .v 2, .v 3, .v 4, .v 5, .v 6] 1 <|
  .sw 8 0
   (.call 53 [.v 0, .v 1, .v 2, .v 3, .v 4, .v 5, .v 6] 1 <|
   .call 15 [.v 9] 1 <|
   .br 10
    (.ret [.v 9, .i .i64 0])
    (.cst .f32 0 <|
    .ret [.v 11, .i .i64 4]))
   (.sw 8 1
    (.cst .f32 0 <|
    .ret [.v 9, .i .i64 1])
    (.bad "sw"))
def s54 : Sum := ⟨54, [.agg [.f .f32, .f .f32, .f .f32, .f .f32], .agg [.f .f32, .f .f32, .f .f32]], [.val (.f .f32), .val (.i .i64 [0, 4, 1])]⟩
/-- loop.example/g01249/impl.arePoints$1 -/
def t55 : T :=
  .call 41 [.v 0, .v 1, .v 2] 1 <|
  .br 3
   (.ret [.b false])
   (.ret [.b true])
def s55 : Sum := ⟨55, [.agg [.f .f32, .f .f32, .f .f32]], [.val (.b)]⟩
/-- (loop.example/g01249/impl.Plane).side -/
def t56 : T :=
  .cst .f32 0 <|
  .call 25 [.v 0, .v 1, .v 2, .v 4, .v 5, .v 6] 1 <|
  .bin .sub .f32 8 3 <|
  .ret [.v 9]
def s56 : Sum := ⟨56, [.agg [.f .f32, .f .f32, .f .f32, .f .f32], .agg [.f .f32, .f .f32, .f .f32]], [.val (.f .f32)]⟩
/-- loop.example/g01249/impl.SideOf -/
def t57 : T :=
  .cst .f32 0 <|
  .cst .f32 0 <|
  .cst .f32 0 <|
  .cst .f32 0 <|
  .call 42 [.v 0, .v 1, .v 2, .v 3] 1 <|
  .br 11
   (.call 55 [.v 4, .v 5, .v 6] 1 <|
   .br 12
    (.cst .f32 0 <|
    .ret [.v 13, .i .i64 1])
    (.call 56 [.v 0, .v 1, .v 2, .v 3, .v 4, .v 5, .v 6] 1 <|
    .call 18 [.v 13] 1 <|
    .br 14
     (.ret [.v 13, .i .i64 0])
     (.cst .f32 0 <|
     .ret [.v 15, .i .i64 4])))
   (.cst .f32 0 <|
   .ret [.v 12, .i .i64 1])
def s57 : Sum := ⟨57, [.agg [.f .f32, .f .f32, .f .f32, .f .f32], .agg [.f .f32, .f .f32, .f .f32]], [.val (.f .f32), .val (.i .i64 [1, 0, 4])]⟩
/-- loop.example/g01249/laws.FnExactSideOf -/
def t58 : T :=
  .call 34 [.v 0, .v 1, .v 2, .v 3] 4 <|
  .call 0 [.v 4, .v 5, .v 6] 3 <|
  .call 54 [.v 7, .v 8, .v 9, .v 10, .v 11, .v 12, .v 13] 2 <|
  .sw 15 0
   (.call 34 [.v 0, .v 1, .v 2, .v 3] 4 <|
   .call 0 [.v 4, .v 5, .v 6] 3 <|
   .call 57 [.v 16, .v 17, .v 18, .v 19, .v 20, .v 21, .v 22] 2 <|
   .sw 24 1
    (.un .widen .f32 23 <|
    .un .widen .f32 14 <|
    .call 3 [.v 25, .v 26] 1 <|
    .br 27
     (.ret [.b false])
     (.ret [.b false]))
    (.sw 24 0
     (.un .widen .f32 23 <|
     .un .widen .f32 14 <|
     .call 3 [.v 25, .v 26] 1 <|
     .br 27
      (.ret [.b true])
      (.ret [.b false]))
     (.sw 24 4
      (.un .widen .f32 23 <|
      .un .widen .f32 14 <|
      .call 3 [.v 25, .v 26] 1 <|
      .br 27
       (.ret [.b false])
       (.ret [.b false]))
      (.bad "sw"))))
   (.sw 15 4
    (.call 34 [.v 0, .v 1, .v 2, .v 3] 4 <|
    .call 0 [.v 4, .v 5, .v 6] 3 <|
    .call 57 [.v 16, .v 17, .v 18, .v 19, .v 20, .v 21, .v 22] 2 <|
    .sw 24 1
     (.un .widen .f32 23 <|
     .un .widen .f32 14 <|
     .call 3 [.v 25, .v 26] 1 <|
     .br 27
      (.ret [.b false])
      (.ret [.b false]))
     (.sw 24 0
      (.un .widen .f32 23 <|
      .un .widen .f32 14 <|
      .call 3 [.v 25, .v 26] 1 <|
      .br 27
       (.ret [.b false])
       (.ret [.b false]))
      (.sw 24 4
       (.un .widen .f32 23 <|
       .un .widen .f32 14 <|
       .call 3 [.v 25, .v 26] 1 <|
       .br 27
        (.ret [.b true])
        (.ret [.b false]))
       (.bad "sw"))))
    (.sw 15 1
     (.call 34 [.v 0, .v 1, .v 2, .v 3] 4 <|
     .call 0 [.v 4, .v 5, .v 6] 3 <|
     .call 57 [.v 16, .v 17, .v 18, .v 19, .v 20, .v 21, .v 22] 2 <|
     .sw 24 1
      (.un .widen .f32 23 <|
      .un .widen .f32 14 <|
      .call 3 [.v 25, .v 26] 1 <|
      .br 27
       (.ret [.b true])
       (.ret [.b false]))
      (.sw 24 0
       (.un .widen .f32 23 <|
       .un .widen .f32 14 <|
       .call 3 [.v 25, .v 26] 1 <|
       .br 27
        (.ret [.b false])
        (.ret [.b false]))
       (.sw 24 4
        (.un .widen .f32 23 <|
        .un .widen .f32 14 <|
        .call 3 [.v 25, .v 26] 1 <|
        .br 27
         (.ret [.b false])
         (.ret [.b false]))
        (.bad "sw"))))
     (.bad "sw")))
def s58 : Sum := ⟨58, [.agg [.f .f32, .f .f32, .f .f32, .f .f32], .agg [.f .f32, .f .f32, .f .f32]], [.val (.b)]⟩
/-- loop.example/g01249/spec.l02Frame -/
def t59 : T :=
  .cst .f32 0 <|
  .cst .f32 0 <|
  .cst .f32 0 <|
  .cst .f32 0 <|
  .cst .f32 0 <|
  .cst .f32 0 <|
  .cst .f32 0 <|
  .cst .f32 0 <|
  .cst .f32 0 <|
  .call 29 [.v 3, .v 4, .v 5, .v 0, .v 1, .v 2] 3 <|
  .call 45 [.v 20, .v 21, .v 22] 4 <|
  .br 26
   (.cst .f32 0 <|
   .cst .f32 0 <|
   .cst .f32 0 <|
   .call 1 [.v 23, .v 24, .v 25, .v 6, .v 7, .v 8] 3 <|
   .call 45 [.v 30, .v 31, .v 32] 4 <|
   .br 36
    (.cst .f32 0 <|
    .cst .f32 0 <|
    .cst .f32 0 <|
    .call 1 [.v 33, .v 34, .v 35, .v 23, .v 24, .v 25] 3 <|
    .cst .f32 0 <|
    .cst .f32 0 <|
    .cst .f32 0 <|
    .cst .f32 0 <|
    .cst .f32 0 <|
    .cst .f32 0 <|
    .cst .f32 0 <|
    .cst .f32 0 <|
    .cst .f32 0 <|
    .ret [.v 33, .v 34, .v 35, .v 40, .v 41, .v 42, .v 23, .v 24, .v 25, .b true])
    (.cst .f32 0 <|
    .cst .f32 0 <|
    .cst .f32 0 <|
    .call 1 [.v 33, .v 34, .v 35, .v 23, .v 24, .v 25] 3 <|
    .cst .f32 0 <|
    .cst .f32 0 <|
    .cst .f32 0 <|
    .cst .f32 0 <|
    .cst .f32 0 <|
    .cst .f32 0 <|
    .cst .f32 0 <|
    .cst .f32 0 <|
    .cst .f32 0 <|
    .ret [.v 33, .v 34, .v 35, .v 40, .v 41, .v 42, .v 23, .v 24, .v 25, .b false]))
   (.cst .f32 0 <|
   .cst .f32 0 <|
   .cst .f32 0 <|
   .call 1 [.v 23, .v 24, .v 25, .v 6, .v 7, .v 8] 3 <|
   .call 45 [.v 30, .v 31, .v 32] 4 <|
   .br 36
    (.cst .f32 0 <|
    .cst .f32 0 <|
    .cst .f32 0 <|
    .call 1 [.v 33, .v 34, .v 35, .v 23, .v 24, .v 25] 3 <|
    .cst .f32 0 <|
    .cst .f32 0 <|
    .cst .f32 0 <|
    .cst .f32 0 <|
    .cst .f32 0 <|
    .cst .f32 0 <|
    .cst .f32 0 <|
    .cst .f32 0 <|
    .cst .f32 0 <|
    .ret [.v 33, .v 34, .v 35, .v 40, .v 41, .v 42, .v 23, .v 24, .v 25, .b false])
    (.cst .f32 0 <|
    .cst .f32 0 <|
    .cst .f32 0 <|
    .call 1 [.v 33, .v 34, .v 35, .v 23, .v 24, .v 25] 3 <|
    .cst .f32 0 <|
    .cst .f32 0 <|
    .cst .f32 0 <|
    .cst .f32 0 <|
    .cst .f32 0 <|
    .cst .f32 0 <|
    .cst .f32 0 <|
    .cst .f32 0 <|
    .cst .f32 0 <|
    .ret [.v 33, .v 34, .v 35, .v 40, .v 41, .v 42, .v 23, .v 24, .v 25, .b false]))
def s59 : Sum := ⟨59, [.ptr [.f .f32, .f .f32, .f .f32, .f .f32, .f .f32, .f .f32, .f .f32, .f .f32, .f .f32, .f .f32, .f .f32]], [.agg [.f .f32, .f .f32, .f .f32, .f .f32, .f .f32, .f .f32, .f .f32, .f .f32, .f .f32], .val (.b)]⟩
/-- loop.example/g01249/spec.l02Ok -/
def t60 : T :=
  .call 36 [.v 0, .v 1, .v 2] 1 <|
  .br 11
   (.call 36 [.v 3, .v 4, .v 5] 1 <|
   .br 12
    (.call 36 [.v 6, .v 7, .v 8] 1 <|
    .br 13
     (.call 35 [.v 9] 1 <|
     .br 14
      (.call 35 [.v 10] 1 <|
      .br 15
       (.cst .f32 1015021568 <|
       .tst 0 .f32 9 16
        (.ret [.b false])
        (.cst .f32 1015021568 <|
        .tst 0 .f32 10 17
         (.ret [.b false])
         (.call 59 [.v 0, .v 1, .v 2, .v 3, .v 4, .v 5, .v 6, .v 7, .v 8, .v 9, .v 10] 10 <|
         .br 27
          (.cst .f32 0 <|
          .cst .f32 0 <|
          .cst .f32 0 <|
          .cst .f32 0 <|
          .cst .f32 0 <|
          .cst .f32 0 <|
          .cst .f32 0 <|
          .cst .f32 0 <|
          .cst .f32 0 <|
          .ret [.b true])
          (.cst .f32 0 <|
          .cst .f32 0 <|
          .cst .f32 0 <|
          .cst .f32 0 <|
          .cst .f32 0 <|
          .cst .f32 0 <|
          .cst .f32 0 <|
          .cst .f32 0 <|
          .cst .f32 0 <|
          .ret [.b false]))))
       (.ret [.b false]))
      (.ret [.b false]))
     (.ret [.b false]))
    (.ret [.b false]))
   (.ret [.b false])
def s60 : Sum := ⟨60, [.ptr [.f .f32, .f .f32, .f .f32, .f .f32, .f .f32, .f .f32, .f .f32, .f .f32, .f .f32, .f .f32, .f .f32]], [.val (.b)]⟩
/-- loop.example/g01249/spec.ValidCamera -/
def t61 : T :=
  .call 60 [.v 0, .v 1, .v 2, .v 3, .v 4, .v 5, .v 6, .v 7, .v 8, .v 9, .v 10] 1 <|
  .br 11
   (.ret [.b true])
   (.ret [.b false])
def s61 : Sum := ⟨61, [.agg [.f .f32, .f .f32, .f .f32, .f .f32, .f .f32, .f .f32, .f .f32, .f .f32, .f .f32, .f .f32, .f .f32]], [.val (.b)]⟩
/-- (*loop.example/g01249/impl.Camera).frame -/
def t62 : T :=
  .cst .f32 0 <|
  .cst .f32 0 <|
  .cst .f32 0 <|
  .cst .f32 0 <|
  .cst .f32 0 <|
  .cst .f32 0 <|
  .cst .f32 0 <|
  .cst .f32 0 <|
  .cst .f32 0 <|
  .call 31 [.v 3, .v 4, .v 5, .v 0, .v 1, .v 2] 3 <|
  .call 49 [.v 20, .v 21, .v 22] 4 <|
  .br 26
   (.cst .f32 0 <|
   .cst .f32 0 <|
   .cst .f32 0 <|
   .call 2 [.v 23, .v 24, .v 25, .v 6, .v 7, .v 8] 3 <|
   .call 49 [.v 30, .v 31, .v 32] 4 <|
   .br 36
    (.cst .f32 0 <|
    .cst .f32 0 <|
    .cst .f32 0 <|
    .call 2 [.v 33, .v 34, .v 35, .v 23, .v 24, .v 25] 3 <|
    .cst .f32 0 <|
    .cst .f32 0 <|
    .cst .f32 0 <|
    .cst .f32 0 <|
    .cst .f32 0 <|
    .cst .f32 0 <|
    .cst .f32 0 <|
    .cst .f32 0 <|
    .cst .f32 0 <|
    .ret [.v 33, .v 34, .v 35, .v 40, .v 41, .v 42, .v 23, .v 24, .v 25, .b true])
    (.cst .f32 0 <|
    .cst .f32 0 <|
    .cst .f32 0 <|
    .call 2 [.v 33, .v 34, .v 35, .v 23, .v 24, .v 25] 3 <|
    .cst .f32 0 <|
    .cst .f32 0 <|
    .cst .f32 0 <|
    .cst .f32 0 <|
    .cst .f32 0 <|
    .cst .f32 0 <|
    .cst .f32 0 <|
    .cst .f32 0 <|
    .cst .f32 0 <|
    .ret [.v 33, .v 34, .v 35, .v 40, .v 41, .v 42, .v 23, .v 24, .v 25, .b false]))
   (.cst .f32 0 <|
   .cst .f32 0 <|
   .cst .f32 0 <|
   .call 2 [.v 23, .v 24, .v 25, .v 6, .v 7, .v 8] 3 <|
   .call 49 [.v 30, .v 31, .v 32] 4 <|
   .br 36
    (.cst .f32 0 <|
    .cst .f32 0 <|
    .cst .f32 0 <|
    .call 2 [.v 33, .v 34, .v 35, .v 23, .v 24, .v 25] 3 <|
    .cst .f32 0 <|
    .cst .f32 0 <|
    .cst .f32 0 <|
    .cst .f32 0 <|
    .cst .f32 0 <|
    .cst .f32 0 <|
    .cst .f32 0 <|
    .cst .f32 0 <|
    .cst .f32 0 <|
    .ret [.v 33, .v 34, .v 35, .v 40, .v 41, .v 42, .v 23, .v 24, .v 25, .b false])
    (.cst .f32 0 <|
    .cst .f32 0 <|
    .cst .f32 0 <|
    .call 2 [.v 33, .v 34, .v 35, .v 23, .v 24, .v 25] 3 <|
    .cst .f32 0 <|
    .cst .f32 0 <|
    .cst .f32 0 <|
    .cst .f32 0 <|
    .cst .f32 0 <|
    .cst .f32 0 <|
    .cst .f32 0 <|
    .cst .f32 0 <|
    .cst .f32 0 <|
    .ret [.v 33, .v 34, .v 35, .v 40, .v 41, .v 42, .v 23, .v 24, .v 25, .b false]))
def s62 : Sum := ⟨62, [.ptr [.f .f32, .f .f32, .f .f32, .f .f32, .f .f32, .f .f32, .f .f32, .f .f32, .f .f32, .f .f32, .f .f32]], [.agg [.f .f32, .f .f32, .f .f32, .f .f32, .f .f32, .f .f32, .f .f32, .f .f32, .f .f32], .val (.b)]⟩
/-- loop.example/g01249/impl.ValidCamera -/
def t63 : T :=
  .cst .f32 0 <|
  .cst .f32 0 <|
  .cst .f32 0 <|
  .call 55 [.v 0, .v 1, .v 2] 1 <|
  .br 14
   (.ret [.b false])
   (.call 55 [.v 3, .v 4, .v 5] 1 <|
   .br 15
    (.ret [.b false])
    (.call 55 [.v 6, .v 7, .v 8] 1 <|
    .br 16
     (.ret [.b false])
     (.cst .f32 0 <|
     .call 40 [.v 9] 1 <|
     .br 18
      (.ret [.b false])
      (.call 40 [.v 10] 1 <|
      .br 19
       (.ret [.b false])
       (.cst .f32 1015021568 <|
       .tst 1 .f32 20 9
        (.cst .f32 1015021568 <|
        .tst 1 .f32 21 10
         (.call 62 [.v 0, .v 1, .v 2, .v 3, .v 4, .v 5, .v 6, .v 7, .v 8, .v 9, .v 10] 10 <|
         .br 31
          (.cst .f32 0 <|
          .cst .f32 0 <|
          .cst .f32 0 <|
          .cst .f32 0 <|
          .cst .f32 0 <|
          .cst .f32 0 <|
          .cst .f32 0 <|
          .cst .f32 0 <|
          .cst .f32 0 <|
          .ret [.b true])
          (.cst .f32 0 <|
          .cst .f32 0 <|
          .cst .f32 0 <|
          .cst .f32 0 <|
          .cst .f32 0 <|
          .cst .f32 0 <|
          .cst .f32 0 <|
          .cst .f32 0 <|
          .cst .f32 0 <|
          .ret [.b false]))
         (.ret [.b false]))
        (.ret [.b false]))))))
def s63 : Sum := ⟨63, [.agg [.f .f32, .f .f32, .f .f32, .f .f32, .f .f32, .f .f32, .f .f32, .f .f32, .f .f32, .f .f32, .f .f32]], [.val (.b)]⟩
/-- loop.example/g01249/laws.FnExactValidCamera -/
def t64 : T :=
  .call 6 [.v 0, .v 1, .v 2, .v 3, .v 4, .v 5, .v 6, .v 7, .v 8, .v 9, .v 10] 11 <|
  .call 61 [.v 11, .v 12, .v 13, .v 14, .v 15, .v 16, .v 17, .v 18, .v 19, .v 20, .v 21] 1 <|
  .br 22
   (.call 6 [.v 0, .v 1, .v 2, .v 3, .v 4, .v 5, .v 6, .v 7, .v 8, .v 9, .v 10] 11 <|
   .call 63 [.v 23, .v 24, .v 25, .v 26, .v 27, .v 28, .v 29, .v 30, .v 31, .v 32, .v 33] 1 <|
   .br 34
    (.ret [.b true])
    (.ret [.b false]))
   (.call 6 [.v 0, .v 1, .v 2, .v 3, .v 4, .v 5, .v 6, .v 7, .v 8, .v 9, .v 10] 11 <|
   .call 63 [.v 23, .v 24, .v 25, .v 26, .v 27, .v 28, .v 29, .v 30, .v 31, .v 32, .v 33] 1 <|
   .br 34
    (.ret [.b false])
    (.ret [.b true]))
def s64 : Sum := ⟨64, [.agg [.f .f32, .f .f32, .f .f32, .f .f32, .f .f32, .f .f32, .f .f32, .f .f32, .f .f32, .f .f32, .f .f32]], [.val (.b)]⟩
/-- loop.example/g01249/spec.ScalePoint -/
def t65 : T :=
  .cst .f32 0 <|
  .cst .f32 0 <|
  .cst .f32 0 <|
  .bin .mul .f32 0 3 <|
  .bin .mul .f32 1 3 <|
  .bin .mul .f32 2 3 <|
  .cst .f32 0 <|
  .cst .f32 0 <|
  .cst .f32 0 <|
  .ret [.v 7, .v 8, .v 9]
def s65 : Sum := ⟨65, [.agg [.f .f32, .f .f32, .f .f32], .val (.f .f32)], [.agg [.f .f32, .f .f32, .f .f32]]⟩
/-- loop.example/g01249/spec.l01Done -/
def t66 : T :=
  .cst .f32 0 <|
  .cst .f32 0 <|
  .cst .f32 0 <|
  .call 44 [.v 0, .v 1, .v 2] 1 <|
  .br 6
   (.ret [.v 0, .v 1, .v 2, .i .i64 0])
   (.cst .f32 0 <|
   .cst .f32 0 <|
   .cst .f32 0 <|
   .ret [.v 7, .v 8, .v 9, .i .i64 4])
def s66 : Sum := ⟨66, [.agg [.f .f32, .f .f32, .f .f32]], [.agg [.f .f32, .f .f32, .f .f32], .val (.i .i64 [0, 4])]⟩
/-- loop.example/g01249/spec.FootOf -/
def t67 : T :=
  .cst .f32 0 <|
  .cst .f32 0 <|
  .cst .f32 0 <|
  .call 52 [.v 0, .v 1, .v 2, .v 3, .v 4, .v 5, .v 6] 1 <|
  .sw 10 0
   (.call 53 [.v 0, .v 1, .v 2, .v 3, .v 4, .v 5, .v 6] 1 <|
   .call 65 [.v 0, .v 1, .v 2, .v 11] 3 <|
   .call 29 [.v 4, .v 5, .v 6, .v 12, .v 13, .v 14] 3 <|
   .call 66 [.v 15, .v 16, .v 17] 4 <|
   .sw 21 0
    (.ret [.v 18, .v 19, .v 20, .i .i64 0])
    (.sw 21 4
     (.ret [.v 18, .v 19, .v 20, .i .i64 4])
     (.bad "sw")))
   (.sw 10 1
    (.cst .f32 0 <|
    .cst .f32 0 <|
    .cst .f32 0 <|
    .ret [.v 11, .v 12, .v 13, .i .i64 1])
    (.bad "sw"))
def s67 : Sum := ⟨67, [.agg [.f .f32, .f .f32, .f .f32, .f .f32], .agg [.f .f32, .f .f32, .f .f32]], [.agg [.f .f32, .f .f32, .f .f32], .val (.i .i64 [0, 4, 1])]⟩
/-- loop.example/g01249/impl.ScalePoint -/
def t68 : T :=
  .cst .f32 0 <|
  .cst .f32 0 <|
  .cst .f32 0 <|
  .bin .mul .f32 0 3 <|
  .bin .mul .f32 1 3 <|
  .bin .mul .f32 2 3 <|
  .cst .f32 0 <|
  .cst .f32 0 <|
  .cst .f32 0 <|
  .ret [.v 7, .v 8, .v 9]
def s68 : Sum := ⟨68, [.agg [.f .f32, .f .f32, .f .f32], .val (.f .f32)], [.agg [.f .f32, .f .f32, .f .f32]]⟩
/-- loop.example/g01249/impl.finite -/
def t69 : T :=
  .cst .f32 0 <|
  .cst .f32 0 <|
  .cst .f32 0 <|
  .call 48 [.v 0] 1 <|
  .br 6
   (.cst .f32 0 <|
   .cst .f32 0 <|
   .cst .f32 0 <|
   .ret [.v 7, .v 8, .v 9, .i .i64 4])
   (.call 48 [.v 1] 1 <|
   .br 7
    (.cst .f32 0 <|
    .cst .f32 0 <|
    .cst .f32 0 <|
    .ret [.v 8, .v 9, .v 10, .i .i64 4])
    (.call 48 [.v 2] 1 <|
    .br 8
     (.cst .f32 0 <|
     .cst .f32 0 <|
     .cst .f32 0 <|
     .ret [.v 9, .v 10, .v 11, .i .i64 4])
     (.ret [.v 0, .v 1, .v 2, .i .i64 0])))
def s69 : Sum := ⟨69, [.agg [.f .f32, .f .f32, .f .f32]], [.agg [.f .f32, .f .f32, .f .f32], .val (.i .i64 [4, 0])]⟩
/-- loop.example/g01249/impl.FootOf -/
def t70 : T :=
  .cst .f32 0 <|
  .cst .f32 0 <|
  .cst .f32 0 <|
  .cst .f32 0 <|
  .cst .f32 0 <|
  .cst .f32 0 <|
  .call 42 [.v 0, .v 1, .v 2, .v 3] 1 <|
  .br 13
   (.call 55 [.v 4, .v 5, .v 6] 1 <|
   .br 14
    (.cst .f32 0 <|
    .cst .f32 0 <|
    .cst .f32 0 <|
    .ret [.v 15, .v 16, .v 17, .i .i64 1])
    (.call 56 [.v 0, .v 1, .v 2, .v 3, .v 4, .v 5, .v 6] 1 <|
    .call 68 [.v 0, .v 1, .v 2, .v 15] 3 <|
    .call 31 [.v 4, .v 5, .v 6, .v 16, .v 17, .v 18] 3 <|
    .call 69 [.v 19, .v 20, .v 21] 4 <|
    .sw 25 4
     (.ret [.v 22, .v 23, .v 24, .i .i64 4])
     (.sw 25 0
      (.ret [.v 22, .v 23, .v 24, .i .i64 0])
      (.bad "sw"))))
   (.cst .f32 0 <|
   .cst .f32 0 <|
   .cst .f32 0 <|
   .ret [.v 14, .v 15, .v 16, .i .i64 1])
def s70 : Sum := ⟨70, [.agg [.f .f32, .f .f32, .f .f32, .f .f32], .agg [.f .f32, .f .f32, .f .f32]], [.agg [.f .f32, .f .f32, .f .f32], .val (.i .i64 [1, 4, 0])]⟩
/-- loop.example/g01249/laws.FnExactFootOf -/
def t71 : T :=
  .call 34 [.v 0, .v 1, .v 2, .v 3] 4 <|
  .call 0 [.v 4, .v 5, .v 6] 3 <|
  .call 67 [.v 7, .v 8, .v 9, .v 10, .v 11, .v 12, .v 13] 4 <|
  .sw 17 0
   (.cst .f32 0 <|
   .cst .f32 0 <|
   .cst .f32 0 <|
   .call 34 [.v 0, .v 1, .v 2, .v 3] 4 <|
   .call 0 [.v 4, .v 5, .v 6] 3 <|
   .call 70 [.v 21, .v 22, .v 23, .v 24, .v 25, .v 26, .v 27] 4 <|
   .sw 31 1
    (.cst .f32 0 <|
    .cst .f32 0 <|
    .cst .f32 0 <|
    .call 4 [.v 28, .v 29, .v 30, .v 14, .v 15, .v 16] 1 <|
    .br 35
     (.ret [.b false])
     (.ret [.b false]))
    (.sw 31 4
     (.cst .f32 0 <|
     .cst .f32 0 <|
     .cst .f32 0 <|
     .call 4 [.v 28, .v 29, .v 30, .v 14, .v 15, .v 16] 1 <|
     .br 35
      (.ret [.b false])
      (.ret [.b false]))
     (.sw 31 0
      (.cst .f32 0 <|
      .cst .f32 0 <|
      .cst .f32 0 <|
      .call 4 [.v 28, .v 29, .v 30, .v 14, .v 15, .v 16] 1 <|
      .br 35
       (.ret [.b true])
       (.ret [.b false]))
      (.bad "sw"))))
   (.sw 17 4
    (.cst .f32 0 <|
    .cst .f32 0 <|
    .cst .f32 0 <|
    .call 34 [.v 0, .v 1, .v 2, .v 3] 4 <|
    .call 0 [.v 4, .v 5, .v 6] 3 <|
    .call 70 [.v 21, .v 22, .v 23, .v 24, .v 25, .v 26, .v 27] 4 <|
    .sw 31 1
     (.cst .f32 0 <|
     .cst .f32 0 <|
     .cst .f32 0 <|
     .call 4 [.v 28, .v 29, .v 30, .v 14, .v 15, .v 16] 1 <|
     .br 35
      (.ret [.b false])
      (.ret [.b false]))
     (.sw 31 4
      (.cst .f32 0 <|
      .cst .f32 0 <|
      .cst .f32 0 <|
      .call 4 [.v 28, .v 29, .v 30, .v 14, .v 15, .v 16] 1 <|
      .br 35
       (.ret [.b true])
       (.ret [.b false]))
      (.sw 31 0
       (.cst .f32 0 <|
       .cst .f32 0 <|
       .cst .f32 0 <|
       .call 4 [.v 28, .v 29, .v 30, .v 14, .v 15, .v 16] 1 <|
       .br 35
        (.ret [.b false])
        (.ret [.b false]))
       (.bad "sw"))))
    (.sw 17 1
     (.cst .f32 0 <|
     .cst .f32 0 <|
     .cst .f32 0 <|
     .call 34 [.v 0, .v 1, .v 2, .v 3] 4 <|
     .call 0 [.v 4, .v 5, .v 6] 3 <|
     .call 70 [.v 21, .v 22, .v 23, .v 24, .v 25, .v 26, .v 27] 4 <|
     .sw 31 1
      (.cst .f32 0 <|
      .cst .f32 0 <|
      .cst .f32 0 <|
      .call 4 [.v 28, .v 29, .v 30, .v 14, .v 15, .v 16] 1 <|
      .br 35
       (.ret [.b true])
       (.ret [.b false]))
      (.sw 31 4
       (.cst .f32 0 <|
       .cst .f32 0 <|
       .cst .f32 0 <|
       .call 4 [.v 28, .v 29, .v 30, .v 14, .v 15, .v 16] 1 <|
       .br 35
        (.ret [.b false])
        (.ret [.b false]))
       (.sw 31 0
        (.cst .f32 0 <|
        .cst .f32 0 <|
        .cst .f32 0 <|
        .call 4 [.v 28, .v 29, .v 30, .v 14, .v 15, .v 16] 1 <|
        .br 35
         (.ret [.b false])
         (.ret [.b false]))
        (.bad "sw"))))
     (.bad "sw")))
def s71 : Sum := ⟨71, [.agg [.f .f32, .f .f32, .f .f32, .f .f32], .agg [.f .f32, .f .f32, .f .f32]], [.val (.b)]⟩
/-- loop.example/g01249/spec.MirrorPoint -/
def t72 : T :=
  .cst .f32 0 <|
  .cst .f32 0 <|
  .cst .f32 0 <|
  .call 52 [.v 0, .v 1, .v 2, .v 3, .v 4, .v 5, .v 6] 1 <|
  .sw 10 0
   (.call 53 [.v 0, .v 1, .v 2, .v 3, .v 4, .v 5, .v 6] 1 <|
   .cst .f32 1073741824 <|
   .bin .mul .f32 12 11 <|
   .call 65 [.v 0, .v 1, .v 2, .v 13] 3 <|
   .call 29 [.v 4, .v 5, .v 6, .v 14, .v 15, .v 16] 3 <|
   .call 66 [.v 17, .v 18, .v 19] 4 <|
   .sw 23 0
    (.ret [.v 20, .v 21, .v 22, .i .i64 0])
    (.sw 23 4
     (.ret [.v 20, .v 21, .v 22, .i .i64 4])
     (.bad "sw")))
   (.sw 10 1
    (.cst .f32 0 <|
    .cst .f32 0 <|
    .cst .f32 0 <|
    .ret [.v 11, .v 12, .v 13, .i .i64 1])
    (.bad "sw"))
def s72 : Sum := ⟨72, [.agg [.f .f32, .f .f32, .f .f32, .f .f32], .agg [.f .f32, .f .f32, .f .f32]], [.agg [.f .f32, .f .f32, .f .f32], .val (.i .i64 [0, 4, 1])]⟩
/-- loop.example/g01249/impl.MirrorPoint -/
def t73 : T :=
  .cst .f32 0 <|
  .cst .f32 0 <|
  .cst .f32 0 <|
  .cst .f32 0 <|
  .cst .f32 0 <|
  .cst .f32 0 <|
  .call 42 [.v 0, .v 1, .v 2, .v 3] 1 <|
  .br 13
   (.call 55 [.v 4, .v 5, .v 6] 1 <|
   .br 14
    (.cst .f32 0 <|
    .cst .f32 0 <|
    .cst .f32 0 <|
    .ret [.v 15, .v 16, .v 17, .i .i64 1])
    (.call 56 [.v 0, .v 1, .v 2, .v 3, .v 4, .v 5, .v 6] 1 <|
    .cst .f32 1073741824 <|
    .bin .mul .f32 16 15 <|
    .call 68 [.v 0, .v 1, .v 2, .v 17] 3 <|
    .call 31 [.v 4, .v 5, .v 6, .v 18, .v 19, .v 20] 3 <|
    .call 69 [.v 21, .v 22, .v 23] 4 <|
    .sw 27 4
     (.ret [.v 24, .v 25, .v 26, .i .i64 4])
     (.sw 27 0
      (.ret [.v 24, .v 25, .v 26, .i .i64 0])
      (.bad "sw"))))
   (.cst .f32 0 <|
   .cst .f32 0 <|
   .cst .f32 0 <|
   .ret [.v 14, .v 15, .v 16, .i .i64 1])
def s73 : Sum := ⟨73, [.agg [.f .f32, .f .f32, .f .f32, .f .f32], .agg [.f .f32, .f .f32, .f .f32]], [.agg [.f .f32, .f .f32, .f .f32], .val (.i .i64 [1, 4, 0])]⟩
/-- loop.example/g01249/laws.FnExactMirrorPoint -/
def t74 : T :=
  .call 34 [.v 0, .v 1, .v 2, .v 3] 4 <|
  .call 0 [.v 4, .v 5, .v 6] 3 <|
  .call 72 [.v 7, .v 8, .v 9, .v 10, .v 11, .v 12, .v 13] 4 <|
  .sw 17 0
   (.cst .f32 0 <|
   .cst .f32 0 <|
   .cst .f32 0 <|
   .call 34 [.v 0, .v 1, .v 2, .v 3] 4 <|
   .call 0 [.v 4, .v 5, .v 6] 3 <|
   .call 73 [.v 21, .v 22, .v 23, .v 24, .v 25, .v 26, .v 27] 4 <|
   .sw 31 1
    (.cst .f32 0 <|
    .cst .f32 0 <|
    .cst .f32 0 <|
    .call 4 [.v 28, .v 29, .v 30, .v 14, .v 15, .v 16] 1 <|
    .br 35
     (.ret [.b false])
     (.ret [.b false]))
    (.sw 31 4
     (.cst .f32 0 <|
     .cst .f32 0 <|
     .cst .f32 0 <|
     .call 4 [.v 28, .v 29, .v 30, .v 14, .v 15, .v 16] 1 <|
     .br 35
      (.ret [.b false])
      (.ret [.b false]))
     (.sw 31 0
      (.cst .f32 0 <|
      .cst .f32 0 <|
      .cst .f32 0 <|
      .call 4 [.v 28, .v 29, .v 30, .v 14, .v 15, .v 16] 1 <|
      .br 35
       (.ret [.b true])
       (.ret [.b false]))
      (.bad "sw"))))
   (.sw 17 4
    (.cst .f32 0 <|
    .cst .f32 0 <|
    .cst .f32 0 <|
    .call 34 [.v 0, .v 1, .v 2, .v 3] 4 <|
    .call 0 [.v 4, .v 5, .v 6] 3 <|
    .call 73 [.v 21, .v 22, .v 23, .v 24, .v 25, .v 26, .v 27] 4 <|
    .sw 31 1
     (.cst .f32 0 <|
     .cst .f32 0 <|
     .cst .f32 0 <|
     .call 4 [.v 28, .v 29, .v 30, .v 14, .v 15, .v 16] 1 <|
     .br 35
      (.ret [.b false])
      (.ret [.b false]))
     (.sw 31 4
      (.cst .f32 0 <|
      .cst .f32 0 <|
      .cst .f32 0 <|
      .call 4 [.v 28, .v 29, .v 30, .v 14, .v 15, .v 16] 1 <|
      .br 35
       (.ret [.b true])
       (.ret [.b false]))
      (.sw 31 0
       (.cst .f32 0 <|
       .cst .f32 0 <|
       .cst .f32 0 <|
       .call 4 [.v 28, .v 29, .v 30, .v 14, .v 15, .v 16] 1 <|
       .br 35
        (.ret [.b false])
        (.ret [.b false]))
       (.bad "sw"))))
    (.sw 17 1
     (.cst .f32 0 <|
     .cst .f32 0 <|
     .cst .f32 0 <|
     .call 34 [.v 0, .v 1, .v 2, .v 3] 4 <|
     .call 0 [.v 4, .v 5, .v 6] 3 <|
     .call 73 [.v 21, .v 22, .v 23, .v 24, .v 25, .v 26, .v 27] 4 <|
     .sw 31 1
      (.cst .f32 0 <|
      .cst .f32 0 <|
      .cst .f32 0 <|
      .call 4 [.v 28, .v 29, .v 30, .v 14, .v 15, .v 16] 1 <|
      .br 35
       (.ret [.b true])
       (.ret [.b false]))
      (.sw 31 4
       (.cst .f32 0 <|
       .cst .f32 0 <|
       .cst .f32 0 <|
       .call 4 [.v 28, .v 29, .v 30, .v 14, .v 15, .v 16] 1 <|
       .br 35
        (.ret [.b false])
        (.ret [.b false]))
       (.sw 31 0
        (.cst .f32 0 <|
        .cst .f32 0 <|
        .cst .f32 0 <|
        .call 4 [.v 28, .v 29, .v 30, .v 14, .v 15, .v 16] 1 <|
        .br 35
         (.ret [.b false])
         (.ret [.b false]))
        (.bad "sw"))))
     (.bad "sw")))
def s74 : Sum := ⟨74, [.agg [.f .f32, .f .f32, .f .f32, .f .f32], .agg [.f .f32, .f .f32, .f .f32]], [.val (.b)]⟩
/-- loop.example/g01249/spec.l01At -/
def t75 : T :=
  .cst .f32 0 <|
  .cst .f32 0 <|
  .cst .f32 0 <|
  .cst .f32 0 <|
  .call 45 [.v 3, .v 4, .v 5] 4 <|
  .br 13
   (.cst .f32 0 <|
   .cst .f32 0 <|
   .cst .f32 0 <|
   .call 21 [.v 10, .v 11, .v 12, .v 0, .v 1, .v 2] 1 <|
   .cst .f32 0 <|
   .cst .f32 0 <|
   .cst .f32 0 <|
   .cst .f32 0 <|
   .cst .f32 0 <|
   .cst .f32 0 <|
   .cst .f32 0 <|
   .cst .f32 0 <|
   .call 37 [.v 10, .v 11, .v 12, .v 17] 1 <|
   .br 26
    (.ret [.v 10, .v 11, .v 12, .v 17, .i .i64 0])
    (.cst .f32 0 <|
    .cst .f32 0 <|
    .cst .f32 0 <|
    .cst .f32 0 <|
    .ret [.v 27, .v 28, .v 29, .v 30, .i .i64 4]))
   (.cst .f32 0 <|
   .cst .f32 0 <|
   .cst .f32 0 <|
   .cst .f32 0 <|
   .cst .f32 0 <|
   .cst .f32 0 <|
   .cst .f32 0 <|
   .ret [.v 17, .v 18, .v 19, .v 20, .i .i64 4])
def s75 : Sum := ⟨75, [.agg [.f .f32, .f .f32, .f .f32], .agg [.f .f32, .f .f32, .f .f32]], [.agg [.f .f32, .f .f32, .f .f32, .f .f32], .val (.i .i64 [0, 4])]⟩
/-- loop.example/g01249/spec.PlaneAt -/
def t76 : T :=
  .cst .f32 0 <|
  .cst .f32 0 <|
  .cst .f32 0 <|
  .cst .f32 0 <|
  .call 36 [.v 0, .v 1, .v 2] 1 <|
  .br 10
   (.call 36 [.v 3, .v 4, .v 5] 1 <|
   .br 11
    (.call 75 [.v 0, .v 1, .v 2, .v 3, .v 4, .v 5] 5 <|
    .sw 16 0
     (.ret [.v 12, .v 13, .v 14, .v 15, .i .i64 0])
     (.sw 16 4
      (.ret [.v 12, .v 13, .v 14, .v 15, .i .i64 4])
      (.bad "sw")))
    (.cst .f32 0 <|
    .cst .f32 0 <|
    .cst .f32 0 <|
    .cst .f32 0 <|
    .ret [.v 12, .v 13, .v 14, .v 15, .i .i64 1]))
   (.cst .f32 0 <|
   .cst .f32 0 <|
   .cst .f32 0 <|
   .cst .f32 0 <|
   .ret [.v 11, .v 12, .v 13, .v 14, .i .i64 1])
def s76 : Sum := ⟨76, [.agg [.f .f32, .f .f32, .f .f32], .agg [.f .f32, .f .f32, .f .f32]], [.agg [.f .f32, .f .f32, .f .f32, .f .f32], .val (.i .i64 [0, 4, 1])]⟩
/-- loop.example/g01249/impl.planeAt -/
def t77 : T :=
  .cst .f32 0 <|
  .cst .f32 0 <|
  .cst .f32 0 <|
  .cst .f32 0 <|
  .call 49 [.v 3, .v 4, .v 5] 4 <|
  .br 13
   (.cst .f32 0 <|
   .cst .f32 0 <|
   .cst .f32 0 <|
   .call 25 [.v 10, .v 11, .v 12, .v 0, .v 1, .v 2] 1 <|
   .cst .f32 0 <|
   .cst .f32 0 <|
   .cst .f32 0 <|
   .cst .f32 0 <|
   .cst .f32 0 <|
   .cst .f32 0 <|
   .cst .f32 0 <|
   .cst .f32 0 <|
   .call 42 [.v 10, .v 11, .v 12, .v 17] 1 <|
   .br 26
    (.ret [.v 10, .v 11, .v 12, .v 17, .i .i64 0])
    (.cst .f32 0 <|
    .cst .f32 0 <|
    .cst .f32 0 <|
    .cst .f32 0 <|
    .ret [.v 27, .v 28, .v 29, .v 30, .i .i64 4]))
   (.cst .f32 0 <|
   .cst .f32 0 <|
   .cst .f32 0 <|
   .call 25 [.v 10, .v 11, .v 12, .v 0, .v 1, .v 2] 1 <|
   .cst .f32 0 <|
   .cst .f32 0 <|
   .cst .f32 0 <|
   .cst .f32 0 <|
   .cst .f32 0 <|
   .cst .f32 0 <|
   .cst .f32 0 <|
   .cst .f32 0 <|
   .cst .f32 0 <|
   .cst .f32 0 <|
   .cst .f32 0 <|
   .cst .f32 0 <|
   .ret [.v 26, .v 27, .v 28, .v 29, .i .i64 4])
def s77 : Sum := ⟨77, [.agg [.f .f32, .f .f32, .f .f32], .agg [.f .f32, .f .f32, .f .f32]], [.agg [.f .f32, .f .f32, .f .f32, .f .f32], .val (.i .i64 [0, 4])]⟩
/-- loop.example/g01249/impl.PlaneAt -/
def t78 : T :=
  .cst .f32 0 <|
  .cst .f32 0 <|
  .cst .f32 0 <|
  .cst .f32 0 <|
  .cst .f32 0 <|
  .cst .f32 0 <|
  .cst .f32 0 <|
  .call 55 [.v 0, .v 1, .v 2] 1 <|
  .br 13
   (.cst .f32 0 <|
   .cst .f32 0 <|
   .cst .f32 0 <|
   .cst .f32 0 <|
   .ret [.v 14, .v 15, .v 16, .v 17, .i .i64 1])
   (.call 55 [.v 3, .v 4, .v 5] 1 <|
   .br 14
    (.cst .f32 0 <|
    .cst .f32 0 <|
    .cst .f32 0 <|
    .cst .f32 0 <|
    .ret [.v 15, .v 16, .v 17, .v 18, .i .i64 1])
    (.call 77 [.v 0, .v 1, .v 2, .v 3, .v 4, .v 5] 5 <|
    .sw 19 0
     (.ret [.v 15, .v 16, .v 17, .v 18, .i .i64 0])
     (.sw 19 4
      (.ret [.v 15, .v 16, .v 17, .v 18, .i .i64 4])
      (.bad "sw"))))
def s78 : Sum := ⟨78, [.agg [.f .f32, .f .f32, .f .f32], .agg [.f .f32, .f .f32, .f .f32]], [.agg [.f .f32, .f .f32, .f .f32, .f .f32], .val (.i .i64 [1, 0, 4])]⟩
/-- loop.example/g01249/laws.eqPlane -/
def t79 : T :=
  .call 4 [.v 0, .v 1, .v 2, .v 4, .v 5, .v 6] 1 <|
  .br 8
   (.un .widen .f32 3 <|
   .un .widen .f32 7 <|
   .call 3 [.v 9, .v 10] 1 <|
   .br 11
    (.ret [.b true])
    (.ret [.b false]))
   (.ret [.b false])
def s79 : Sum := ⟨79, [.agg [.f .f32, .f .f32, .f .f32, .f .f32], .agg [.f .f32, .f .f32, .f .f32, .f .f32]], [.val (.b)]⟩
/-- loop.example/g01249/laws.FnExactPlaneAt -/
def t80 : T :=
  .call 0 [.v 0, .v 1, .v 2] 3 <|
  .call 0 [.v 3, .v 4, .v 5] 3 <|
  .call 76 [.v 6, .v 7, .v 8, .v 9, .v 10, .v 11] 5 <|
  .sw 16 0
   (.cst .f32 0 <|
   .cst .f32 0 <|
   .cst .f32 0 <|
   .cst .f32 0 <|
   .call 0 [.v 0, .v 1, .v 2] 3 <|
   .call 0 [.v 3, .v 4, .v 5] 3 <|
   .call 78 [.v 21, .v 22, .v 23, .v 24, .v 25, .v 26] 5 <|
   .sw 31 1
    (.cst .f32 0 <|
    .cst .f32 0 <|
    .cst .f32 0 <|
    .cst .f32 0 <|
    .call 79 [.v 27, .v 28, .v 29, .v 30, .v 12, .v 13, .v 14, .v 15] 1 <|
    .br 36
     (.ret [.b false])
     (.ret [.b false]))
    (.sw 31 0
     (.cst .f32 0 <|
     .cst .f32 0 <|
     .cst .f32 0 <|
     .cst .f32 0 <|
     .call 79 [.v 27, .v 28, .v 29, .v 30, .v 12, .v 13, .v 14, .v 15] 1 <|
     .br 36
      (.ret [.b true])
      (.ret [.b false]))
     (.sw 31 4
      (.cst .f32 0 <|
      .cst .f32 0 <|
      .cst .f32 0 <|
      .cst .f32 0 <|
      .call 79 [.v 27, .v 28, .v 29, .v 30, .v 12, .v 13, .v 14, .v 15] 1 <|
      .br 36
       (.ret [.b false])
       (.ret [.b false]))
      (.bad "sw"))))
   (.sw 16 4
    (.cst .f32 0 <|
    .cst .f32 0 <|
    .cst .f32 0 <|
    .cst .f32 0 <|
    .call 0 [.v 0, .v 1, .v 2] 3 <|
    .call 0 [.v 3, .v 4, .v 5] 3 <|
    .call 78 [.v 21, .v 22, .v 23, .v 24, .v 25, .v 26] 5 <|
    .sw 31 1
     (.cst .f32 0 <|
     .cst .f32 0 <|
     .cst .f32 0 <|
     .cst .f32 0 <|
     .call 79 [.v 27, .v 28, .v 29, .v 30, .v 12, .v 13, .v 14, .v 15] 1 <|
     .br 36
      (.ret [.b false])
      (.ret [.b false]))
     (.sw 31 0
      (.cst .f32 0 <|
      .cst .f32 0 <|
      .cst .f32 0 <|
      .cst .f32 0 <|
      .call 79 [.v 27, .v 28, .v 29, .v 30, .v 12, .v 13, .v 14, .v 15] 1 <|
      .br 36
       (.ret [.b false])
       (.ret [.b false]))
      (.sw 31 4
       (.cst .f32 0 <|
       .cst .f32 0 <|
       .cst .f32 0 <|
       .cst .f32 0 <|
       .call 79 [.v 27, .v 28, .v 29, .v 30, .v 12, .v 13, .v 14, .v 15] 1 <|
       .br 36
        (.ret [.b true])
        (.ret [.b false]))
       (.bad "sw"))))
    (.sw 16 1
     (.cst .f32 0 <|
     .cst .f32 0 <|
     .cst .f32 0 <|
     .cst .f32 0 <|
     .call 0 [.v 0, .v 1, .v 2] 3 <|
     .call 0 [.v 3, .v 4, .v 5] 3 <|
     .call 78 [.v 21, .v 22, .v 23, .v 24, .v 25, .v 26] 5 <|
     .sw 31 1
      (.cst .f32 0 <|
      .cst .f32 0 <|
      .cst .f32 0 <|
      .cst .f32 0 <|
      .call 79 [.v 27, .v 28, .v 29, .v 30, .v 12, .v 13, .v 14, .v 15] 1 <|
      .br 36
       (.ret [.b true])
       (.ret [.b false]))
      (.sw 31 0
       (.cst .f32 0 <|
       .cst .f32 0 <|
       .cst .f32 0 <|
       .cst .f32 0 <|
       .call 79 [.v 27, .v 28, .v 29, .v 30, .v 12, .v 13, .v 14, .v 15] 1 <|
       .br 36
        (.ret [.b false])
        (.ret [.b false]))
       (.sw 31 4
        (.cst .f32 0 <|
        .cst .f32 0 <|
        .cst .f32 0 <|
        .cst .f32 0 <|
        .call 79 [.v 27, .v 28, .v 29, .v 30, .v 12, .v 13, .v 14, .v 15] 1 <|
        .br 36
         (.ret [.b false])
         (.ret [.b false]))
        (.bad "sw"))))
     (.bad "sw")))
def s80 : Sum := ⟨80, [.agg [.f .f32, .f .f32, .f .f32], .agg [.f .f32, .f .f32, .f .f32]], [.val (.b)]⟩
def ts : List T := [t0, t1, t2, t3, t4, t5, t6, t7, t8, t9, t10, t11, t12, t13, t14, t15, t16, t17, t18, t19, t20, t21, t22, t23, t24, t25, t26, t27, t28, t29, t30, t31, t32, t33, t34, t35, t36, t37, t38, t39, t40, t41, t42, t43, t44, t45, t46, t47, t48, t49, t50, t51, t52, t53, t54, t55, t56, t57, t58, t59, t60, t61, t62, t63, t64, t65, t66, t67, t68, t69, t70, t71, t72, t73, t74, t75, t76, t77, t78, t79, t80]
def sm : List (FuncId × Sum) := [(16, s0), (15, s1), (17, s2), (24, s3), (18, s4), (3, s5), (20, s6), (79, s7), (78, s8), (45, s9), (19, s10), (47, s11), (46, s12), (21, s13), (4, s14), (48, s15), (49, s16), (22, s17), (51, s18), (23, s19), (5, s20), (53, s21), (82, s22), (52, s23), (25, s24), (55, s25), (54, s26), (26, s27), (6, s28), (56, s29), (27, s30), (57, s31), (28, s32), (7, s33), (30, s34), (83, s35), (61, s36), (58, s37), (29, s38), (59, s39), (92, s40), (60, s41), (31, s42), (8, s43), (84, s44), (62, s45), (32, s46), (85, s47), (94, s48), (63, s49), (33, s50), (9, s51), (64, s52), (65, s53), (34, s54), (90, s55), (67, s56), (35, s57), (10, s58), (88, s59), (68, s60), (36, s61), (71, s62), (37, s63), (11, s64), (73, s65), (72, s66), (38, s67), (75, s68), (74, s69), (39, s70), (12, s71), (40, s72), (41, s73), (13, s74), (76, s75), (42, s76), (77, s77), (43, s78), (44, s79), (14, s80)]
def ex : List (FuncId × Ext) := [(50, .rte), (80, .bits32), (81, .frombits64), (93, .sqrt)]
end Go.Proofs.Ytoggkmihnfigdaa
