/- The trees of the program's functions. -/
import Derived.Test.YtkaiihbibcjglabSxB
namespace Go.Proofs.Ytkaiihbibcjglab
open Sx Go
/-- loop.example/g01249/laws.toPoint -/
def t0 : T :=
  .cst .f32 0 <|
  .cst .f32 0 <|
  .cst .f32 0 <|
  .cst .f32 0 <|
  .cst .f32 0 <|
  .cst .f32 0 <|
  .ret [.v 0, .v 1, .v 2]
def s0 : Sum := ⟨0, [.agg [.f .f32, .f .f32, .f .f32]], [.agg [.f .f32, .f .f32, .f .f32]]⟩
/-- loop.example/g01249/laws.toCamera -/
def t1 : T :=
  .cst .f32 0 <|
  .cst .f32 0 <|
  .cst .f32 0 <|
  .cst .f32 0 <|
  .cst .f32 0 <|
  .cst .f32 0 <|
  .cst .f32 0 <|
  .cst .f32 0 <|
  .cst .f32 0 <|
  .cst .f32 0 <|
  .cst .f32 0 <|
  .cst .f32 0 <|
  .cst .f32 0 <|
  .cst .f32 0 <|
  .cst .f32 0 <|
  .cst .f32 0 <|
  .cst .f32 0 <|
  .cst .f32 0 <|
  .cst .f32 0 <|
  .cst .f32 0 <|
  .cst .f32 0 <|
  .cst .f32 0 <|
  .call 0 [.v 0, .v 1, .v 2] 3 <|
  .call 0 [.v 3, .v 4, .v 5] 3 <|
  .call 0 [.v 6, .v 7, .v 8] 3 <|
  .ret [.v 33, .v 34, .v 35, .v 36, .v 37, .v 38, .v 39, .v 40, .v 41, .v 9, .v 10]
def s1 : Sum := ⟨1, [.agg [.f .f32, .f .f32, .f .f32, .f .f32, .f .f32, .f .f32, .f .f32, .f .f32, .f .f32, .f .f32, .f .f32]], [.agg [.f .f32, .f .f32, .f .f32, .f .f32, .f .f32, .f .f32, .f .f32, .f .f32, .f .f32, .f .f32, .f .f32]]⟩
/-- loop.example/g01249/spec.l01Plain -/
def t2 : T :=
  .cst .f32 3379831808 <|
  .tst 1 .f32 1 0
   (.cst .f32 1232348160 <|
   .tst 1 .f32 0 2
    (.ret [.b true])
    (.ret [.b false]))
   (.ret [.b false])
def s2 : Sum := ⟨2, [.val (.f .f32)], [.val (.b)]⟩
/-- loop.example/g01249/spec.l01Point -/
def t3 : T :=
  .call 2 [.v 0] 1 <|
  .br 3
   (.call 2 [.v 1] 1 <|
   .br 4
    (.call 2 [.v 2] 1 <|
    .br 5
     (.ret [.b true])
     (.ret [.b false]))
    (.ret [.b false]))
   (.ret [.b false])
def s3 : Sum := ⟨3, [.agg [.f .f32, .f .f32, .f .f32]], [.val (.b)]⟩
/-- loop.example/g01249/spec.SubPoints -/
def t4 : T :=
  .cst .f32 0 <|
  .cst .f32 0 <|
  .cst .f32 0 <|
  .bin .sub .f32 0 3 <|
  .bin .sub .f32 1 4 <|
  .bin .sub .f32 2 5 <|
  .cst .f32 0 <|
  .cst .f32 0 <|
  .cst .f32 0 <|
  .ret [.v 9, .v 10, .v 11]
def s4 : Sum := ⟨4, [.agg [.f .f32, .f .f32, .f .f32], .agg [.f .f32, .f .f32, .f .f32]], [.agg [.f .f32, .f .f32, .f .f32]]⟩
/-- loop.example/g01249/spec.DotOf -/
def t5 : T :=
  .cst .f32 0 <|
  .bin .mul .f32 0 3 <|
  .bin .mul .f32 1 4 <|
  .bin .add .f32 7 8 <|
  .bin .mul .f32 2 5 <|
  .bin .add .f32 9 10 <|
  .ret [.v 11]
def s5 : Sum := ⟨5, [.agg [.f .f32, .f .f32, .f .f32], .agg [.f .f32, .f .f32, .f .f32]], [.val (.f .f32)]⟩
/-- math.Sqrt -/
def t6 : T :=
  .cst .f64 0 <|
  .un .sqrt .f64 0 <|
  .ret [.v 2]
def s6 : Sum := ⟨6, [.val (.f .f64)], [.val (.f .f64)]⟩
/-- loop.example/g01249/spec.l01Root -/
def t7 : T :=
  .cst .f32 0 <|
  .un .widen .f32 0 <|
  .call 6 [.v 2] 1 <|
  .un .narrow .f64 3 <|
  .ret [.v 4]
def s7 : Sum := ⟨7, [.val (.f .f32)], [.val (.f .f32)]⟩
/-- loop.example/g01249/spec.LengthOf -/
def t8 : T :=
  .cst .f32 0 <|
  .call 5 [.v 0, .v 1, .v 2, .v 0, .v 1, .v 2] 1 <|
  .call 7 [.v 4] 1 <|
  .ret [.v 5]
def s8 : Sum := ⟨8, [.agg [.f .f32, .f .f32, .f .f32]], [.val (.f .f32)]⟩
/-- loop.example/g01249/spec.l01Finite -/
def t9 : T :=
  .bin .sub .f32 0 0 <|
  .cst .f32 0 <|
  .tst 2 .f32 1 2
   (.ret [.b true])
   (.ret [.b false])
def s9 : Sum := ⟨9, [.val (.f .f32)], [.val (.b)]⟩
/-- loop.example/g01249/spec.l01Finites -/
def t10 : T :=
  .call 9 [.v 0] 1 <|
  .br 3
   (.call 9 [.v 1] 1 <|
   .br 4
    (.call 9 [.v 2] 1 <|
    .br 5
     (.ret [.b true])
     (.ret [.b false]))
    (.ret [.b false]))
   (.ret [.b false])
def s10 : Sum := ⟨10, [.agg [.f .f32, .f .f32, .f .f32]], [.val (.b)]⟩
/-- loop.example/g01249/spec.l01Unit -/
def t11 : T :=
  .cst .f32 0 <|
  .cst .f32 0 <|
  .cst .f32 0 <|
  .call 8 [.v 0, .v 1, .v 2] 1 <|
  .cst .f32 897581056 <|
  .tst 1 .f32 7 6
   (.bin .div .f32 0 6 <|
   .bin .div .f32 1 6 <|
   .bin .div .f32 2 6 <|
   .cst .f32 0 <|
   .cst .f32 0 <|
   .cst .f32 0 <|
   .cst .f32 0 <|
   .cst .f32 0 <|
   .cst .f32 0 <|
   .call 10 [.v 8, .v 9, .v 10] 1 <|
   .br 17
    (.ret [.v 8, .v 9, .v 10, .b true])
    (.ret [.v 8, .v 9, .v 10, .b false]))
   (.cst .f32 0 <|
   .cst .f32 0 <|
   .cst .f32 0 <|
   .ret [.v 8, .v 9, .v 10, .b false])
def s11 : Sum := ⟨11, [.agg [.f .f32, .f .f32, .f .f32]], [.agg [.f .f32, .f .f32, .f .f32], .val (.b)]⟩
/-- loop.example/g01249/spec.CrossOf -/
def t12 : T :=
  .cst .f32 0 <|
  .cst .f32 0 <|
  .cst .f32 0 <|
  .bin .mul .f32 1 5 <|
  .bin .mul .f32 2 4 <|
  .bin .sub .f32 9 10 <|
  .bin .mul .f32 2 3 <|
  .bin .mul .f32 0 5 <|
  .bin .sub .f32 12 13 <|
  .bin .mul .f32 0 4 <|
  .bin .mul .f32 1 3 <|
  .bin .sub .f32 15 16 <|
  .cst .f32 0 <|
  .cst .f32 0 <|
  .cst .f32 0 <|
  .ret [.v 11, .v 14, .v 17]
def s12 : Sum := ⟨12, [.agg [.f .f32, .f .f32, .f .f32], .agg [.f .f32, .f .f32, .f .f32]], [.agg [.f .f32, .f .f32, .f .f32]]⟩
/-- loop.example/g01249/spec.l02Frame -/
def t13 : T :=
  .cst .f32 0 <|
  .cst .f32 0 <|
  .cst .f32 0 <|
  .cst .f32 0 <|
  .cst .f32 0 <|
  .cst .f32 0 <|
  .cst .f32 0 <|
  .cst .f32 0 <|
  .cst .f32 0 <|
  .call 4 [.v 3, .v 4, .v 5, .v 0, .v 1, .v 2] 3 <|
  .call 11 [.v 20, .v 21, .v 22] 4 <|
  .br 26
   (.cst .f32 0 <|
   .cst .f32 0 <|
   .cst .f32 0 <|
   .call 12 [.v 23, .v 24, .v 25, .v 6, .v 7, .v 8] 3 <|
   .call 11 [.v 30, .v 31, .v 32] 4 <|
   .br 36
    (.cst .f32 0 <|
    .cst .f32 0 <|
    .cst .f32 0 <|
    .call 12 [.v 33, .v 34, .v 35, .v 23, .v 24, .v 25] 3 <|
    .cst .f32 0 <|
    .cst .f32 0 <|
    .cst .f32 0 <|
    .cst .f32 0 <|
    .cst .f32 0 <|
    .cst .f32 0 <|
    .cst .f32 0 <|
    .cst .f32 0 <|
    .cst .f32 0 <|
    .ret [.v 33, .v 34, .v 35, .v 40, .v 41, .v 42, .v 23, .v 24, .v 25, .b true])
    (.cst .f32 0 <|
    .cst .f32 0 <|
    .cst .f32 0 <|
    .call 12 [.v 33, .v 34, .v 35, .v 23, .v 24, .v 25] 3 <|
    .cst .f32 0 <|
    .cst .f32 0 <|
    .cst .f32 0 <|
    .cst .f32 0 <|
    .cst .f32 0 <|
    .cst .f32 0 <|
    .cst .f32 0 <|
    .cst .f32 0 <|
    .cst .f32 0 <|
    .ret [.v 33, .v 34, .v 35, .v 40, .v 41, .v 42, .v 23, .v 24, .v 25, .b false]))
   (.cst .f32 0 <|
   .cst .f32 0 <|
   .cst .f32 0 <|
   .call 12 [.v 23, .v 24, .v 25, .v 6, .v 7, .v 8] 3 <|
   .call 11 [.v 30, .v 31, .v 32] 4 <|
   .br 36
    (.cst .f32 0 <|
    .cst .f32 0 <|
    .cst .f32 0 <|
    .call 12 [.v 33, .v 34, .v 35, .v 23, .v 24, .v 25] 3 <|
    .cst .f32 0 <|
    .cst .f32 0 <|
    .cst .f32 0 <|
    .cst .f32 0 <|
    .cst .f32 0 <|
    .cst .f32 0 <|
    .cst .f32 0 <|
    .cst .f32 0 <|
    .cst .f32 0 <|
    .ret [.v 33, .v 34, .v 35, .v 40, .v 41, .v 42, .v 23, .v 24, .v 25, .b false])
    (.cst .f32 0 <|
    .cst .f32 0 <|
    .cst .f32 0 <|
    .call 12 [.v 33, .v 34, .v 35, .v 23, .v 24, .v 25] 3 <|
    .cst .f32 0 <|
    .cst .f32 0 <|
    .cst .f32 0 <|
    .cst .f32 0 <|
    .cst .f32 0 <|
    .cst .f32 0 <|
    .cst .f32 0 <|
    .cst .f32 0 <|
    .cst .f32 0 <|
    .ret [.v 33, .v 34, .v 35, .v 40, .v 41, .v 42, .v 23, .v 24, .v 25, .b false]))
def s13 : Sum := ⟨13, [.ptr [.f .f32, .f .f32, .f .f32, .f .f32, .f .f32, .f .f32, .f .f32, .f .f32, .f .f32, .f .f32, .f .f32]], [.agg [.f .f32, .f .f32, .f .f32, .f .f32, .f .f32, .f .f32, .f .f32, .f .f32, .f .f32], .val (.b)]⟩
/-- loop.example/g01249/spec.l02Ok -/
def t14 : T :=
  .call 3 [.v 0, .v 1, .v 2] 1 <|
  .br 11
   (.call 3 [.v 3, .v 4, .v 5] 1 <|
   .br 12
    (.call 3 [.v 6, .v 7, .v 8] 1 <|
    .br 13
     (.call 2 [.v 9] 1 <|
     .br 14
      (.call 2 [.v 10] 1 <|
      .br 15
       (.cst .f32 1015021568 <|
       .tst 0 .f32 9 16
        (.ret [.b false])
        (.cst .f32 1015021568 <|
        .tst 0 .f32 10 17
         (.ret [.b false])
         (.call 13 [.v 0, .v 1, .v 2, .v 3, .v 4, .v 5, .v 6, .v 7, .v 8, .v 9, .v 10] 10 <|
         .br 27
          (.cst .f32 0 <|
          .cst .f32 0 <|
          .cst .f32 0 <|
          .cst .f32 0 <|
          .cst .f32 0 <|
          .cst .f32 0 <|
          .cst .f32 0 <|
          .cst .f32 0 <|
          .cst .f32 0 <|
          .ret [.b true])
          (.cst .f32 0 <|
          .cst .f32 0 <|
          .cst .f32 0 <|
          .cst .f32 0 <|
          .cst .f32 0 <|
          .cst .f32 0 <|
          .cst .f32 0 <|
          .cst .f32 0 <|
          .cst .f32 0 <|
          .ret [.b false]))))
       (.ret [.b false]))
      (.ret [.b false]))
     (.ret [.b false]))
    (.ret [.b false]))
   (.ret [.b false])
def s14 : Sum := ⟨14, [.ptr [.f .f32, .f .f32, .f .f32, .f .f32, .f .f32, .f .f32, .f .f32, .f .f32, .f .f32, .f .f32, .f .f32]], [.val (.b)]⟩
/-- math.NaN -/
def t15 : T :=
  .cst .f64 0 <|
  .cst .f64 9221120237041090561 <|
  .ret [.v 1]
def s15 : Sum := ⟨15, [], [.val (.f .f64)]⟩
/-- loop.example/g01249/spec.SineOf -/
def t16 : T :=
  .cst .f32 0 <|
  .call 9 [.v 0] 1 <|
  .br 2
   (.un .widen .f32 0 <|
   .un .rte .f64 3 <|
   .cst .f64 0 <|
   .tst 2 .f64 4 5
    (.cst .f64 4618760256179416344 <|
    .bin .mul .f64 6 3 <|
    .bin .mul .f64 7 7 <|
    .cst .f64 4607182418800017408 <|
    .cst .f64 4628574517030027264 <|
    .cst .f64 4607182418800017408 <|
    .bin .add .f64 10 11 <|
    .bin .mul .f64 10 12 <|
    .bin .div .f64 8 13 <|
    .bin .mul .f64 14 9 <|
    .cst .f64 4607182418800017408 <|
    .bin .sub .f64 16 15 <|
    .cst .f64 4628011567076605952 <|
    .cst .f64 4607182418800017408 <|
    .bin .add .f64 18 19 <|
    .bin .mul .f64 18 20 <|
    .bin .div .f64 8 21 <|
    .bin .mul .f64 22 17 <|
    .cst .f64 4607182418800017408 <|
    .bin .sub .f64 24 23 <|
    .cst .f64 4627448617123184640 <|
    .cst .f64 4607182418800017408 <|
    .bin .add .f64 26 27 <|
    .bin .mul .f64 26 28 <|
    .bin .div .f64 8 29 <|
    .bin .mul .f64 30 25 <|
    .cst .f64 4607182418800017408 <|
    .bin .sub .f64 32 31 <|
    .cst .f64 4626885667169763328 <|
    .cst .f64 4607182418800017408 <|
    .bin .add .f64 34 35 <|
    .bin .mul .f64 34 36 <|
    .bin .div .f64 8 37 <|
    .bin .mul .f64 38 33 <|
    .cst .f64 4607182418800017408 <|
    .bin .sub .f64 40 39 <|
    .cst .f64 4626322717216342016 <|
    .cst .f64 4607182418800017408 <|
    .bin .add .f64 42 43 <|
    .bin .mul .f64 42 44 <|
    .bin .div .f64 8 45 <|
    .bin .mul .f64 46 41 <|
    .cst .f64 4607182418800017408 <|
    .bin .sub .f64 48 47 <|
    .cst .f64 4625759767262920704 <|
    .cst .f64 4607182418800017408 <|
    .bin .add .f64 50 51 <|
    .bin .mul .f64 50 52 <|
    .bin .div .f64 8 53 <|
    .bin .mul .f64 54 49 <|
    .cst .f64 4607182418800017408 <|
    .bin .sub .f64 56 55 <|
    .cst .f64 4625196817309499392 <|
    .cst .f64 4607182418800017408 <|
    .bin .add .f64 58 59 <|
    .bin .mul .f64 58 60 <|
    .bin .div .f64 8 61 <|
    .bin .mul .f64 62 57 <|
    .cst .f64 4607182418800017408 <|
    .bin .sub .f64 64 63 <|
    .cst .f64 4624070917402656768 <|
    .cst .f64 4607182418800017408 <|
    .bin .add .f64 66 67 <|
    .bin .mul .f64 66 68 <|
    .bin .div .f64 8 69 <|
    .bin .mul .f64 70 65 <|
    .cst .f64 4607182418800017408 <|
    .bin .sub .f64 72 71 <|
    .cst .f64 4622945017495814144 <|
    .cst .f64 4607182418800017408 <|
    .bin .add .f64 74 75 <|
    .bin .mul .f64 74 76 <|
    .bin .div .f64 8 77 <|
    .bin .mul .f64 78 73 <|
    .cst .f64 4607182418800017408 <|
    .bin .sub .f64 80 79 <|
    .cst .f64 4621819117588971520 <|
    .cst .f64 4607182418800017408 <|
    .bin .add .f64 82 83 <|
    .bin .mul .f64 82 84 <|
    .bin .div .f64 8 85 <|
    .bin .mul .f64 86 81 <|
    .cst .f64 4607182418800017408 <|
    .bin .sub .f64 88 87 <|
    .cst .f64 4620693217682128896 <|
    .cst .f64 4607182418800017408 <|
    .bin .add .f64 90 91 <|
    .bin .mul .f64 90 92 <|
    .bin .div .f64 8 93 <|
    .bin .mul .f64 94 89 <|
    .cst .f64 4607182418800017408 <|
    .bin .sub .f64 96 95 <|
    .cst .f64 4618441417868443648 <|
    .cst .f64 4607182418800017408 <|
    .bin .add .f64 98 99 <|
    .bin .mul .f64 98 100 <|
    .bin .div .f64 8 101 <|
    .bin .mul .f64 102 97 <|
    .cst .f64 4607182418800017408 <|
    .bin .sub .f64 104 103 <|
    .cst .f64 4616189618054758400 <|
    .cst .f64 4607182418800017408 <|
    .bin .add .f64 106 107 <|
    .bin .mul .f64 106 108 <|
    .bin .div .f64 8 109 <|
    .bin .mul .f64 110 105 <|
    .cst .f64 4607182418800017408 <|
    .bin .sub .f64 112 111 <|
    .cst .f64 4611686018427387904 <|
    .cst .f64 4607182418800017408 <|
    .bin .add .f64 114 115 <|
    .bin .mul .f64 114 116 <|
    .bin .div .f64 8 117 <|
    .bin .mul .f64 118 113 <|
    .cst .f64 4607182418800017408 <|
    .bin .sub .f64 120 119 <|
    .bin .mul .f64 7 121 <|
    .un .narrow .f64 122 <|
    .ret [.v 123])
    (.bin .sub .f64 3 4 <|
    .cst .f64 4618760256179416344 <|
    .bin .mul .f64 7 6 <|
    .bin .mul .f64 8 8 <|
    .cst .f64 4607182418800017408 <|
    .cst .f64 4628574517030027264 <|
    .cst .f64 4607182418800017408 <|
    .bin .add .f64 11 12 <|
    .bin .mul .f64 11 13 <|
    .bin .div .f64 9 14 <|
    .bin .mul .f64 15 10 <|
    .cst .f64 4607182418800017408 <|
    .bin .sub .f64 17 16 <|
    .cst .f64 4628011567076605952 <|
    .cst .f64 4607182418800017408 <|
    .bin .add .f64 19 20 <|
    .bin .mul .f64 19 21 <|
    .bin .div .f64 9 22 <|
    .bin .mul .f64 23 18 <|
    .cst .f64 4607182418800017408 <|
    .bin .sub .f64 25 24 <|
    .cst .f64 4627448617123184640 <|
    .cst .f64 4607182418800017408 <|
    .bin .add .f64 27 28 <|
    .bin .mul .f64 27 29 <|
    .bin .div .f64 9 30 <|
    .bin .mul .f64 31 26 <|
    .cst .f64 4607182418800017408 <|
    .bin .sub .f64 33 32 <|
    .cst .f64 4626885667169763328 <|
    .cst .f64 4607182418800017408 <|
    .bin .add .f64 35 36 <|
    .bin .mul .f64 35 37 <|
    .bin .div .f64 9 38 <|
    .bin .mul .f64 39 34 <|
    .cst .f64 4607182418800017408 <|
    .bin .sub .f64 41 40 <|
    .cst .f64 4626322717216342016 <|
    .cst .f64 4607182418800017408 <|
    .bin .add .f64 43 44 <|
    .bin .mul .f64 43 45 <|
    .bin .div .f64 9 46 <|
    .bin .mul .f64 47 42 <|
    .cst .f64 4607182418800017408 <|
    .bin .sub .f64 49 48 <|
    .cst .f64 4625759767262920704 <|
    .cst .f64 4607182418800017408 <|
    .bin .add .f64 51 52 <|
    .bin .mul .f64 51 53 <|
    .bin .div .f64 9 54 <|
    .bin .mul .f64 55 50 <|
    .cst .f64 4607182418800017408 <|
    .bin .sub .f64 57 56 <|
    .cst .f64 4625196817309499392 <|
    .cst .f64 4607182418800017408 <|
    .bin .add .f64 59 60 <|
    .bin .mul .f64 59 61 <|
    .bin .div .f64 9 62 <|
    .bin .mul .f64 63 58 <|
    .cst .f64 4607182418800017408 <|
    .bin .sub .f64 65 64 <|
    .cst .f64 4624070917402656768 <|
    .cst .f64 4607182418800017408 <|
    .bin .add .f64 67 68 <|
    .bin .mul .f64 67 69 <|
    .bin .div .f64 9 70 <|
    .bin .mul .f64 71 66 <|
    .cst .f64 4607182418800017408 <|
    .bin .sub .f64 73 72 <|
    .cst .f64 4622945017495814144 <|
    .cst .f64 4607182418800017408 <|
    .bin .add .f64 75 76 <|
    .bin .mul .f64 75 77 <|
    .bin .div .f64 9 78 <|
    .bin .mul .f64 79 74 <|
    .cst .f64 4607182418800017408 <|
    .bin .sub .f64 81 80 <|
    .cst .f64 4621819117588971520 <|
    .cst .f64 4607182418800017408 <|
    .bin .add .f64 83 84 <|
    .bin .mul .f64 83 85 <|
    .bin .div .f64 9 86 <|
    .bin .mul .f64 87 82 <|
    .cst .f64 4607182418800017408 <|
    .bin .sub .f64 89 88 <|
    .cst .f64 4620693217682128896 <|
    .cst .f64 4607182418800017408 <|
    .bin .add .f64 91 92 <|
    .bin .mul .f64 91 93 <|
    .bin .div .f64 9 94 <|
    .bin .mul .f64 95 90 <|
    .cst .f64 4607182418800017408 <|
    .bin .sub .f64 97 96 <|
    .cst .f64 4618441417868443648 <|
    .cst .f64 4607182418800017408 <|
    .bin .add .f64 99 100 <|
    .bin .mul .f64 99 101 <|
    .bin .div .f64 9 102 <|
    .bin .mul .f64 103 98 <|
    .cst .f64 4607182418800017408 <|
    .bin .sub .f64 105 104 <|
    .cst .f64 4616189618054758400 <|
    .cst .f64 4607182418800017408 <|
    .bin .add .f64 107 108 <|
    .bin .mul .f64 107 109 <|
    .bin .div .f64 9 110 <|
    .bin .mul .f64 111 106 <|
    .cst .f64 4607182418800017408 <|
    .bin .sub .f64 113 112 <|
    .cst .f64 4611686018427387904 <|
    .cst .f64 4607182418800017408 <|
    .bin .add .f64 115 116 <|
    .bin .mul .f64 115 117 <|
    .bin .div .f64 9 118 <|
    .bin .mul .f64 119 114 <|
    .cst .f64 4607182418800017408 <|
    .bin .sub .f64 121 120 <|
    .bin .mul .f64 8 122 <|
    .un .narrow .f64 123 <|
    .ret [.v 124]))
   (.call 15 [] 1 <|
   .un .narrow .f64 3 <|
   .ret [.v 4])
def s16 : Sum := ⟨16, [.val (.f .f32)], [.val (.f .f32)]⟩
/-- loop.example/g01249/spec.l02Turned -/
def t17 : T :=
  .cst .f32 0 <|
  .cst .f32 0 <|
  .cst .f32 0 <|
  .call 11 [.v 0, .v 1, .v 2] 4 <|
  .br 13
   (.cst .f32 0 <|
   .cst .f32 0 <|
   .cst .f32 0 <|
   .call 16 [.v 3] 1 <|
   .cst .f32 1048576000 <|
   .bin .add .f32 3 18 <|
   .call 16 [.v 19] 1 <|
   .call 5 [.v 10, .v 11, .v 12, .v 4, .v 5, .v 6] 1 <|
   .cst .f32 1065353216 <|
   .bin .sub .f32 22 20 <|
   .bin .mul .f32 21 23 <|
   .call 12 [.v 10, .v 11, .v 12, .v 4, .v 5, .v 6] 3 <|
   .cst .f32 0 <|
   .cst .f32 0 <|
   .cst .f32 0 <|
   .cst .f32 0 <|
   .cst .f32 0 <|
   .cst .f32 0 <|
   .cst .f32 0 <|
   .cst .f32 0 <|
   .cst .f32 0 <|
   .bin .mul .f32 4 20 <|
   .bin .mul .f32 25 17 <|
   .bin .add .f32 37 38 <|
   .bin .mul .f32 10 24 <|
   .bin .add .f32 39 40 <|
   .bin .mul .f32 5 20 <|
   .bin .mul .f32 26 17 <|
   .bin .add .f32 42 43 <|
   .bin .mul .f32 11 24 <|
   .bin .add .f32 44 45 <|
   .bin .mul .f32 6 20 <|
   .bin .mul .f32 27 17 <|
   .bin .add .f32 47 48 <|
   .bin .mul .f32 12 24 <|
   .bin .add .f32 49 50 <|
   .ret [.v 41, .v 46, .v 51])
   (.cst .f32 0 <|
   .cst .f32 0 <|
   .cst .f32 0 <|
   .call 16 [.v 3] 1 <|
   .cst .f32 1048576000 <|
   .bin .add .f32 3 18 <|
   .call 16 [.v 19] 1 <|
   .call 5 [.v 10, .v 11, .v 12, .v 4, .v 5, .v 6] 1 <|
   .cst .f32 1065353216 <|
   .bin .sub .f32 22 20 <|
   .bin .mul .f32 21 23 <|
   .call 12 [.v 10, .v 11, .v 12, .v 4, .v 5, .v 6] 3 <|
   .cst .f32 0 <|
   .cst .f32 0 <|
   .cst .f32 0 <|
   .cst .f32 0 <|
   .cst .f32 0 <|
   .cst .f32 0 <|
   .cst .f32 0 <|
   .cst .f32 0 <|
   .cst .f32 0 <|
   .bin .mul .f32 4 20 <|
   .bin .mul .f32 25 17 <|
   .bin .add .f32 37 38 <|
   .bin .mul .f32 10 24 <|
   .bin .add .f32 39 40 <|
   .bin .mul .f32 5 20 <|
   .bin .mul .f32 26 17 <|
   .bin .add .f32 42 43 <|
   .bin .mul .f32 11 24 <|
   .bin .add .f32 44 45 <|
   .bin .mul .f32 6 20 <|
   .bin .mul .f32 27 17 <|
   .bin .add .f32 47 48 <|
   .bin .mul .f32 12 24 <|
   .bin .add .f32 49 50 <|
   .call 15 [] 1 <|
   .un .narrow .f64 52 <|
   .ret [.v 53, .v 46, .v 51])
def s17 : Sum := ⟨17, [.agg [.f .f32, .f .f32, .f .f32], .val (.f .f32), .agg [.f .f32, .f .f32, .f .f32]], [.agg [.f .f32, .f .f32, .f .f32]]⟩
/-- loop.example/g01249/spec.AddPoints -/
def t18 : T :=
  .cst .f32 0 <|
  .cst .f32 0 <|
  .cst .f32 0 <|
  .bin .add .f32 0 3 <|
  .bin .add .f32 1 4 <|
  .bin .add .f32 2 5 <|
  .cst .f32 0 <|
  .cst .f32 0 <|
  .cst .f32 0 <|
  .ret [.v 9, .v 10, .v 11]
def s18 : Sum := ⟨18, [.agg [.f .f32, .f .f32, .f .f32], .agg [.f .f32, .f .f32, .f .f32]], [.agg [.f .f32, .f .f32, .f .f32]]⟩
/-- loop.example/g01249/spec.l02Moved -/
def t19 : T :=
  .cst .f32 0 <|
  .cst .f32 0 <|
  .cst .f32 0 <|
  .cst .f32 0 <|
  .cst .f32 0 <|
  .cst .f32 0 <|
  .cst .f32 0 <|
  .cst .f32 0 <|
  .cst .f32 0 <|
  .cst .f32 0 <|
  .cst .f32 0 <|
  .call 14 [.v 0, .v 1, .v 2, .v 3, .v 4, .v 5, .v 6, .v 7, .v 8, .v 9, .v 10] 1 <|
  .br 22
   (.ret [.v 0, .v 1, .v 2, .v 3, .v 4, .v 5, .v 6, .v 7, .v 8, .v 9, .v 10, .i .i64 0])
   (.cst .f32 0 <|
   .cst .f32 0 <|
   .cst .f32 0 <|
   .cst .f32 0 <|
   .cst .f32 0 <|
   .cst .f32 0 <|
   .cst .f32 0 <|
   .cst .f32 0 <|
   .cst .f32 0 <|
   .cst .f32 0 <|
   .cst .f32 0 <|
   .ret [.v 23, .v 24, .v 25, .v 26, .v 27, .v 28, .v 29, .v 30, .v 31, .v 32, .v 33, .i .i64 4])
def s19 : Sum := ⟨19, [.agg [.f .f32, .f .f32, .f .f32, .f .f32, .f .f32, .f .f32, .f .f32, .f .f32, .f .f32, .f .f32, .f .f32]], [.agg [.f .f32, .f .f32, .f .f32, .f .f32, .f .f32, .f .f32, .f .f32, .f .f32, .f .f32, .f .f32, .f .f32], .val (.i .i64 [0, 4])]⟩
/-- loop.example/g01249/spec.TiltCamera -/
def t20 : T :=
  .cst .f32 0 <|
  .cst .f32 0 <|
  .cst .f32 0 <|
  .cst .f32 0 <|
  .cst .f32 0 <|
  .cst .f32 0 <|
  .cst .f32 0 <|
  .cst .f32 0 <|
  .cst .f32 0 <|
  .cst .f32 0 <|
  .cst .f32 0 <|
  .call 14 [.v 0, .v 1, .v 2, .v 3, .v 4, .v 5, .v 6, .v 7, .v 8, .v 9, .v 10] 1 <|
  .br 23
   (.cst .f32 3296329728 <|
   .tst 1 .f32 24 11
    (.cst .f32 1148846080 <|
    .tst 1 .f32 11 25
     (.call 13 [.v 0, .v 1, .v 2, .v 3, .v 4, .v 5, .v 6, .v 7, .v 8, .v 9, .v 10] 10 <|
     .br 35
      (.cst .f32 0 <|
      .cst .f32 0 <|
      .cst .f32 0 <|
      .cst .f32 0 <|
      .cst .f32 0 <|
      .cst .f32 0 <|
      .cst .f32 0 <|
      .cst .f32 0 <|
      .cst .f32 0 <|
      .call 4 [.v 3, .v 4, .v 5, .v 0, .v 1, .v 2] 3 <|
      .call 17 [.v 26, .v 27, .v 28, .v 11, .v 45, .v 46, .v 47] 3 <|
      .call 18 [.v 0, .v 1, .v 2, .v 48, .v 49, .v 50] 3 <|
      .call 17 [.v 26, .v 27, .v 28, .v 11, .v 6, .v 7, .v 8] 3 <|
      .call 19 [.v 0, .v 1, .v 2, .v 51, .v 52, .v 53, .v 54, .v 55, .v 56, .v 9, .v 10] 12 <|
      .sw 68 0
       (.ret [.v 57, .v 58, .v 59, .v 60, .v 61, .v 62, .v 63, .v 64, .v 65, .v 66, .v 67, .i .i64 0])
       (.sw 68 4
        (.ret [.v 57, .v 58, .v 59, .v 60, .v 61, .v 62, .v 63, .v 64, .v 65, .v 66, .v 67, .i .i64 4])
        (.bad "sw")))
      (.cst .f32 0 <|
      .cst .f32 0 <|
      .cst .f32 0 <|
      .cst .f32 0 <|
      .cst .f32 0 <|
      .cst .f32 0 <|
      .cst .f32 0 <|
      .cst .f32 0 <|
      .cst .f32 0 <|
      .call 4 [.v 3, .v 4, .v 5, .v 0, .v 1, .v 2] 3 <|
      .call 17 [.v 26, .v 27, .v 28, .v 11, .v 45, .v 46, .v 47] 3 <|
      .call 18 [.v 0, .v 1, .v 2, .v 48, .v 49, .v 50] 3 <|
      .call 17 [.v 26, .v 27, .v 28, .v 11, .v 6, .v 7, .v 8] 3 <|
      .call 19 [.v 0, .v 1, .v 2, .v 51, .v 52, .v 53, .v 54, .v 55, .v 56, .v 9, .v 10] 12 <|
      .sw 68 0
       (.ret [.v 57, .v 58, .v 59, .v 60, .v 61, .v 62, .v 63, .v 64, .v 65, .v 66, .v 67, .i .i64 0])
       (.sw 68 4
        (.ret [.v 57, .v 58, .v 59, .v 60, .v 61, .v 62, .v 63, .v 64, .v 65, .v 66, .v 67, .i .i64 4])
        (.bad "sw"))))
     (.cst .f32 0 <|
     .cst .f32 0 <|
     .cst .f32 0 <|
     .cst .f32 0 <|
     .cst .f32 0 <|
     .cst .f32 0 <|
     .cst .f32 0 <|
     .cst .f32 0 <|
     .cst .f32 0 <|
     .cst .f32 0 <|
     .cst .f32 0 <|
     .ret [.v 26, .v 27, .v 28, .v 29, .v 30, .v 31, .v 32, .v 33, .v 34, .v 35, .v 36, .i .i64 2]))
    (.cst .f32 0 <|
    .cst .f32 0 <|
    .cst .f32 0 <|
    .cst .f32 0 <|
    .cst .f32 0 <|
    .cst .f32 0 <|
    .cst .f32 0 <|
    .cst .f32 0 <|
    .cst .f32 0 <|
    .cst .f32 0 <|
    .cst .f32 0 <|
    .ret [.v 25, .v 26, .v 27, .v 28, .v 29, .v 30, .v 31, .v 32, .v 33, .v 34, .v 35, .i .i64 2]))
   (.cst .f32 0 <|
   .cst .f32 0 <|
   .cst .f32 0 <|
   .cst .f32 0 <|
   .cst .f32 0 <|
   .cst .f32 0 <|
   .cst .f32 0 <|
   .cst .f32 0 <|
   .cst .f32 0 <|
   .cst .f32 0 <|
   .cst .f32 0 <|
   .ret [.v 24, .v 25, .v 26, .v 27, .v 28, .v 29, .v 30, .v 31, .v 32, .v 33, .v 34, .i .i64 1])
def s20 : Sum := ⟨20, [.agg [.f .f32, .f .f32, .f .f32, .f .f32, .f .f32, .f .f32, .f .f32, .f .f32, .f .f32, .f .f32, .f .f32], .val (.f .f32)], [.agg [.f .f32, .f .f32, .f .f32, .f .f32, .f .f32, .f .f32, .f .f32, .f .f32, .f .f32, .f .f32, .f .f32], .val (.i .i64 [0, 4, 2, 1])]⟩
/-- loop.example/g01249/impl.IsPlain -/
def t21 : T :=
  .cst .f32 3379831808 <|
  .tst 1 .f32 1 0
   (.cst .f32 1232348160 <|
   .tst 1 .f32 0 2
    (.ret [.b true])
    (.ret [.b false]))
   (.ret [.b false])
def s21 : Sum := ⟨21, [.val (.f .f32)], [.val (.b)]⟩
/-- loop.example/g01249/impl.arePlain$1 -/
def t22 : T :=
  .call 21 [.v 0] 1 <|
  .br 1
   (.ret [.b false])
   (.ret [.b true])
def s22 : Sum := ⟨22, [.val (.f .f32)], [.val (.b)]⟩
/-- loop.example/g01249/impl.ValidPoint -/
def t23 : T :=
  .call 22 [.v 0] 1 <|
  .br 3
   (.ret [.b false])
   (.call 22 [.v 1] 1 <|
   .br 4
    (.ret [.b false])
    (.call 22 [.v 2] 1 <|
    .br 5
     (.ret [.b false])
     (.ret [.b true])))
def s23 : Sum := ⟨23, [.agg [.f .f32, .f .f32, .f .f32]], [.val (.b)]⟩
/-- loop.example/g01249/impl.arePoints$1 -/
def t24 : T :=
  .call 23 [.v 0, .v 1, .v 2] 1 <|
  .br 3
   (.ret [.b false])
   (.ret [.b true])
def s24 : Sum := ⟨24, [.agg [.f .f32, .f .f32, .f .f32]], [.val (.b)]⟩
/-- loop.example/g01249/impl.SubPoints -/
def t25 : T :=
  .cst .f32 0 <|
  .cst .f32 0 <|
  .cst .f32 0 <|
  .bin .sub .f32 0 3 <|
  .bin .sub .f32 1 4 <|
  .bin .sub .f32 2 5 <|
  .cst .f32 0 <|
  .cst .f32 0 <|
  .cst .f32 0 <|
  .ret [.v 9, .v 10, .v 11]
def s25 : Sum := ⟨25, [.agg [.f .f32, .f .f32, .f .f32], .agg [.f .f32, .f .f32, .f .f32]], [.agg [.f .f32, .f .f32, .f .f32]]⟩
/-- loop.example/g01249/impl.DotOf -/
def t26 : T :=
  .cst .f32 0 <|
  .bin .mul .f32 0 3 <|
  .bin .mul .f32 1 4 <|
  .bin .add .f32 7 8 <|
  .bin .mul .f32 2 5 <|
  .bin .add .f32 9 10 <|
  .ret [.v 11]
def s26 : Sum := ⟨26, [.agg [.f .f32, .f .f32, .f .f32], .agg [.f .f32, .f .f32, .f .f32]], [.val (.f .f32)]⟩
/-- loop.example/g01249/impl.root -/
def t27 : T :=
  .cst .f32 0 <|
  .un .widen .f32 0 <|
  .call 6 [.v 2] 1 <|
  .un .narrow .f64 3 <|
  .ret [.v 4]
def s27 : Sum := ⟨27, [.val (.f .f32)], [.val (.f .f32)]⟩
/-- loop.example/g01249/impl.LengthOf -/
def t28 : T :=
  .cst .f32 0 <|
  .call 26 [.v 0, .v 1, .v 2, .v 0, .v 1, .v 2] 1 <|
  .call 27 [.v 4] 1 <|
  .ret [.v 5]
def s28 : Sum := ⟨28, [.agg [.f .f32, .f .f32, .f .f32]], [.val (.f .f32)]⟩
/-- loop.example/g01249/impl.isFinite -/
def t29 : T :=
  .bin .sub .f32 0 0 <|
  .cst .f32 0 <|
  .tst 2 .f32 1 2
   (.ret [.b true])
   (.ret [.b false])
def s29 : Sum := ⟨29, [.val (.f .f32)], [.val (.b)]⟩
/-- loop.example/g01249/impl.quotients -/
def t30 : T :=
  .cst .f32 0 <|
  .cst .f32 0 <|
  .cst .f32 0 <|
  .bin .div .f32 0 3 <|
  .bin .div .f32 1 3 <|
  .bin .div .f32 2 3 <|
  .cst .f32 0 <|
  .cst .f32 0 <|
  .cst .f32 0 <|
  .ret [.v 7, .v 8, .v 9]
def s30 : Sum := ⟨30, [.agg [.f .f32, .f .f32, .f .f32], .val (.f .f32)], [.agg [.f .f32, .f .f32, .f .f32]]⟩
/-- loop.example/g01249/impl.areFinite$1 -/
def t31 : T :=
  .call 29 [.v 0] 1 <|
  .br 1
   (.ret [.b false])
   (.ret [.b true])
def s31 : Sum := ⟨31, [.val (.f .f32)], [.val (.b)]⟩
/-- loop.example/g01249/impl.unit -/
def t32 : T :=
  .cst .f32 0 <|
  .cst .f32 0 <|
  .cst .f32 0 <|
  .call 28 [.v 0, .v 1, .v 2] 1 <|
  .call 29 [.v 6] 1 <|
  .br 7
   (.cst .f32 897581056 <|
   .tst 0 .f32 6 8
    (.cst .f32 0 <|
    .cst .f32 0 <|
    .cst .f32 0 <|
    .ret [.v 9, .v 10, .v 11, .b false])
    (.call 30 [.v 0, .v 1, .v 2, .v 6] 3 <|
    .cst .f32 0 <|
    .cst .f32 0 <|
    .cst .f32 0 <|
    .call 31 [.v 9] 1 <|
    .br 15
     (.ret [.v 9, .v 10, .v 11, .b false])
     (.call 31 [.v 10] 1 <|
     .br 16
      (.ret [.v 9, .v 10, .v 11, .b false])
      (.call 31 [.v 11] 1 <|
      .br 17
       (.ret [.v 9, .v 10, .v 11, .b false])
       (.ret [.v 9, .v 10, .v 11, .b true])))))
   (.cst .f32 0 <|
   .cst .f32 0 <|
   .cst .f32 0 <|
   .ret [.v 8, .v 9, .v 10, .b false])
def s32 : Sum := ⟨32, [.agg [.f .f32, .f .f32, .f .f32]], [.agg [.f .f32, .f .f32, .f .f32], .val (.b)]⟩
/-- loop.example/g01249/impl.CrossOf -/
def t33 : T :=
  .cst .f32 0 <|
  .cst .f32 0 <|
  .cst .f32 0 <|
  .bin .mul .f32 1 5 <|
  .bin .mul .f32 2 4 <|
  .bin .sub .f32 9 10 <|
  .bin .mul .f32 2 3 <|
  .bin .mul .f32 0 5 <|
  .bin .sub .f32 12 13 <|
  .bin .mul .f32 0 4 <|
  .bin .mul .f32 1 3 <|
  .bin .sub .f32 15 16 <|
  .cst .f32 0 <|
  .cst .f32 0 <|
  .cst .f32 0 <|
  .ret [.v 11, .v 14, .v 17]
def s33 : Sum := ⟨33, [.agg [.f .f32, .f .f32, .f .f32], .agg [.f .f32, .f .f32, .f .f32]], [.agg [.f .f32, .f .f32, .f .f32]]⟩
/-- (*loop.example/g01249/impl.Camera).frame -/
def t34 : T :=
  .cst .f32 0 <|
  .cst .f32 0 <|
  .cst .f32 0 <|
  .cst .f32 0 <|
  .cst .f32 0 <|
  .cst .f32 0 <|
  .cst .f32 0 <|
  .cst .f32 0 <|
  .cst .f32 0 <|
  .call 25 [.v 3, .v 4, .v 5, .v 0, .v 1, .v 2] 3 <|
  .call 32 [.v 20, .v 21, .v 22] 4 <|
  .br 26
   (.cst .f32 0 <|
   .cst .f32 0 <|
   .cst .f32 0 <|
   .call 33 [.v 23, .v 24, .v 25, .v 6, .v 7, .v 8] 3 <|
   .call 32 [.v 30, .v 31, .v 32] 4 <|
   .br 36
    (.cst .f32 0 <|
    .cst .f32 0 <|
    .cst .f32 0 <|
    .call 33 [.v 33, .v 34, .v 35, .v 23, .v 24, .v 25] 3 <|
    .cst .f32 0 <|
    .cst .f32 0 <|
    .cst .f32 0 <|
    .cst .f32 0 <|
    .cst .f32 0 <|
    .cst .f32 0 <|
    .cst .f32 0 <|
    .cst .f32 0 <|
    .cst .f32 0 <|
    .ret [.v 33, .v 34, .v 35, .v 40, .v 41, .v 42, .v 23, .v 24, .v 25, .b true])
    (.cst .f32 0 <|
    .cst .f32 0 <|
    .cst .f32 0 <|
    .call 33 [.v 33, .v 34, .v 35, .v 23, .v 24, .v 25] 3 <|
    .cst .f32 0 <|
    .cst .f32 0 <|
    .cst .f32 0 <|
    .cst .f32 0 <|
    .cst .f32 0 <|
    .cst .f32 0 <|
    .cst .f32 0 <|
    .cst .f32 0 <|
    .cst .f32 0 <|
    .ret [.v 33, .v 34, .v 35, .v 40, .v 41, .v 42, .v 23, .v 24, .v 25, .b false]))
   (.cst .f32 0 <|
   .cst .f32 0 <|
   .cst .f32 0 <|
   .call 33 [.v 23, .v 24, .v 25, .v 6, .v 7, .v 8] 3 <|
   .call 32 [.v 30, .v 31, .v 32] 4 <|
   .br 36
    (.cst .f32 0 <|
    .cst .f32 0 <|
    .cst .f32 0 <|
    .call 33 [.v 33, .v 34, .v 35, .v 23, .v 24, .v 25] 3 <|
    .cst .f32 0 <|
    .cst .f32 0 <|
    .cst .f32 0 <|
    .cst .f32 0 <|
    .cst .f32 0 <|
    .cst .f32 0 <|
    .cst .f32 0 <|
    .cst .f32 0 <|
    .cst .f32 0 <|
    .ret [.v 33, .v 34, .v 35, .v 40, .v 41, .v 42, .v 23, .v 24, .v 25, .b false])
    (.cst .f32 0 <|
    .cst .f32 0 <|
    .cst .f32 0 <|
    .call 33 [.v 33, .v 34, .v 35, .v 23, .v 24, .v 25] 3 <|
    .cst .f32 0 <|
    .cst .f32 0 <|
    .cst .f32 0 <|
    .cst .f32 0 <|
    .cst .f32 0 <|
    .cst .f32 0 <|
    .cst .f32 0 <|
    .cst .f32 0 <|
    .cst .f32 0 <|
    .ret [.v 33, .v 34, .v 35, .v 40, .v 41, .v 42, .v 23, .v 24, .v 25, .b false]))
def s34 : Sum := ⟨34, [.ptr [.f .f32, .f .f32, .f .f32, .f .f32, .f .f32, .f .f32, .f .f32, .f .f32, .f .f32, .f .f32, .f .f32]], [.agg [.f .f32, .f .f32, .f .f32, .f .f32, .f .f32, .f .f32, .f .f32, .f .f32, .f .f32], .val (.b)]⟩
/-- loop.example/g01249/impl.ValidCamera -/
def t35 : T :=
  .cst .f32 0 <|
  .cst .f32 0 <|
  .cst .f32 0 <|
  .call 24 [.v 0, .v 1, .v 2] 1 <|
  .br 14
   (.ret [.b false])
   (.call 24 [.v 3, .v 4, .v 5] 1 <|
   .br 15
    (.ret [.b false])
    (.call 24 [.v 6, .v 7, .v 8] 1 <|
    .br 16
     (.ret [.b false])
     (.cst .f32 0 <|
     .call 22 [.v 9] 1 <|
     .br 18
      (.ret [.b false])
      (.call 22 [.v 10] 1 <|
      .br 19
       (.ret [.b false])
       (.cst .f32 1015021568 <|
       .tst 1 .f32 20 9
        (.cst .f32 1015021568 <|
        .tst 1 .f32 21 10
         (.call 34 [.v 0, .v 1, .v 2, .v 3, .v 4, .v 5, .v 6, .v 7, .v 8, .v 9, .v 10] 10 <|
         .br 31
          (.cst .f32 0 <|
          .cst .f32 0 <|
          .cst .f32 0 <|
          .cst .f32 0 <|
          .cst .f32 0 <|
          .cst .f32 0 <|
          .cst .f32 0 <|
          .cst .f32 0 <|
          .cst .f32 0 <|
          .ret [.b true])
          (.cst .f32 0 <|
          .cst .f32 0 <|
          .cst .f32 0 <|
          .cst .f32 0 <|
          .cst .f32 0 <|
          .cst .f32 0 <|
          .cst .f32 0 <|
          .cst .f32 0 <|
          .cst .f32 0 <|
          .ret [.b false]))
         (.ret [.b false]))
        (.ret [.b false]))))))
def s35 : Sum := ⟨35, [.agg [.f .f32, .f .f32, .f .f32, .f .f32, .f .f32, .f .f32, .f .f32, .f .f32, .f .f32, .f .f32, .f .f32]], [.val (.b)]⟩
/-- loop.example/g01249/impl.areTurns -/
def t36 : T :=
  .cst .f32 3296329728 <|
  .tst 1 .f32 1 0
   (.cst .f32 1148846080 <|
   .tst 1 .f32 0 2
    (.ret [.b true])
    (.ret [.b false]))
   (.ret [.b false])
def s36 : Sum := ⟨36, [.val (.f .f32)], [.val (.b)]⟩
/-- loop.example/g01249/impl.turnCode -/
def t37 : T :=
  .call 35 [.v 0, .v 1, .v 2, .v 3, .v 4, .v 5, .v 6, .v 7, .v 8, .v 9, .v 10] 1 <|
  .br 12
   (.call 36 [.v 11] 1 <|
   .br 13
    (.ret [.i .i64 0])
    (.ret [.i .i64 2]))
   (.call 36 [.v 11] 1 <|
   .br 13
    (.ret [.i .i64 1])
    (.ret [.i .i64 1]))
def s37 : Sum := ⟨37, [.agg [.f .f32, .f .f32, .f .f32, .f .f32, .f .f32, .f .f32, .f .f32, .f .f32, .f .f32, .f .f32, .f .f32], .val (.f .f32)], [.val (.i .i64 [0, 2, 1])]⟩
/-- loop.example/g01249/impl.viewOf -/
def t38 : T :=
  .cst .f32 0 <|
  .cst .f32 0 <|
  .cst .f32 0 <|
  .cst .f32 0 <|
  .cst .f32 0 <|
  .cst .f32 0 <|
  .cst .f32 0 <|
  .cst .f32 0 <|
  .cst .f32 0 <|
  .cst .f32 0 <|
  .cst .f32 0 <|
  .cst .f32 0 <|
  .cst .f32 0 <|
  .cst .f32 0 <|
  .cst .f32 0 <|
  .cst .f32 0 <|
  .cst .f32 0 <|
  .cst .f32 0 <|
  .cst .f32 0 <|
  .cst .f32 0 <|
  .call 34 [.v 0, .v 1, .v 2, .v 3, .v 4, .v 5, .v 6, .v 7, .v 8, .v 9, .v 10] 10 <|
  .br 40
   (.cst .f32 0 <|
   .cst .f32 0 <|
   .cst .f32 0 <|
   .cst .f32 0 <|
   .cst .f32 0 <|
   .cst .f32 0 <|
   .cst .f32 0 <|
   .cst .f32 0 <|
   .cst .f32 0 <|
   .cst .f32 0 <|
   .cst .f32 0 <|
   .cst .f32 0 <|
   .cst .f32 0 <|
   .cst .f32 0 <|
   .cst .f32 0 <|
   .cst .f32 0 <|
   .cst .f32 0 <|
   .cst .f32 0 <|
   .cst .f32 0 <|
   .cst .f32 0 <|
   .cst .f32 0 <|
   .cst .f32 0 <|
   .cst .f32 0 <|
   .cst .f32 0 <|
   .cst .f32 0 <|
   .cst .f32 0 <|
   .cst .f32 0 <|
   .cst .f32 0 <|
   .cst .f32 0 <|
   .ret [.v 0, .v 1, .v 2, .v 3, .v 4, .v 5, .v 6, .v 7, .v 8, .v 9, .v 10, .v 31, .v 32, .v 33, .v 34, .v 35, .v 36, .v 37, .v 38, .v 39])
   (.cst .f32 0 <|
   .cst .f32 0 <|
   .cst .f32 0 <|
   .cst .f32 0 <|
   .cst .f32 0 <|
   .cst .f32 0 <|
   .cst .f32 0 <|
   .cst .f32 0 <|
   .cst .f32 0 <|
   .cst .f32 0 <|
   .cst .f32 0 <|
   .cst .f32 0 <|
   .cst .f32 0 <|
   .cst .f32 0 <|
   .cst .f32 0 <|
   .cst .f32 0 <|
   .cst .f32 0 <|
   .cst .f32 0 <|
   .cst .f32 0 <|
   .cst .f32 0 <|
   .cst .f32 0 <|
   .cst .f32 0 <|
   .cst .f32 0 <|
   .cst .f32 0 <|
   .cst .f32 0 <|
   .cst .f32 0 <|
   .cst .f32 0 <|
   .cst .f32 0 <|
   .cst .f32 0 <|
   .ret [.v 0, .v 1, .v 2, .v 3, .v 4, .v 5, .v 6, .v 7, .v 8, .v 9, .v 10, .v 31, .v 32, .v 33, .v 34, .v 35, .v 36, .v 37, .v 38, .v 39])
def s38 : Sum := ⟨38, [.agg [.f .f32, .f .f32, .f .f32, .f .f32, .f .f32, .f .f32, .f .f32, .f .f32, .f .f32, .f .f32, .f .f32]], [.agg [.f .f32, .f .f32, .f .f32, .f .f32, .f .f32, .f .f32, .f .f32, .f .f32, .f .f32, .f .f32, .f .f32, .f .f32, .f .f32, .f .f32, .f .f32, .f .f32, .f .f32, .f .f32, .f .f32, .f .f32]]⟩
/-- loop.example/g01249/impl.SineOf -/
def t39 : T :=
  .cst .f32 0 <|
  .call 29 [.v 0] 1 <|
  .br 2
   (.un .widen .f32 0 <|
   .un .rte .f64 3 <|
   .cst .f64 0 <|
   .tst 2 .f64 4 5
    (.cst .f64 4618760256179416344 <|
    .bin .mul .f64 6 3 <|
    .bin .mul .f64 7 7 <|
    .cst .f64 4607182418800017408 <|
    .cst .f64 4650353643353014272 <|
    .bin .div .f64 8 10 <|
    .bin .mul .f64 11 9 <|
    .cst .f64 4607182418800017408 <|
    .bin .sub .f64 13 12 <|
    .cst .f64 4649386073120571392 <|
    .bin .div .f64 8 15 <|
    .bin .mul .f64 16 14 <|
    .cst .f64 4607182418800017408 <|
    .bin .sub .f64 18 17 <|
    .cst .f64 4648488871632306176 <|
    .bin .div .f64 8 20 <|
    .bin .mul .f64 21 19 <|
    .cst .f64 4607182418800017408 <|
    .bin .sub .f64 23 22 <|
    .cst .f64 4647609262330085376 <|
    .bin .div .f64 8 25 <|
    .bin .mul .f64 26 24 <|
    .cst .f64 4607182418800017408 <|
    .bin .sub .f64 28 27 <|
    .cst .f64 4646096334330265600 <|
    .bin .div .f64 8 30 <|
    .bin .mul .f64 31 29 <|
    .cst .f64 4607182418800017408 <|
    .bin .sub .f64 33 32 <|
    .cst .f64 4644724143818801152 <|
    .bin .div .f64 8 35 <|
    .bin .mul .f64 36 34 <|
    .cst .f64 4607182418800017408 <|
    .bin .sub .f64 38 37 <|
    .cst .f64 4643492690795692032 <|
    .bin .div .f64 8 40 <|
    .bin .mul .f64 41 39 <|
    .cst .f64 4607182418800017408 <|
    .bin .sub .f64 43 42 <|
    .cst .f64 4641592734702895104 <|
    .bin .div .f64 8 45 <|
    .bin .mul .f64 46 44 <|
    .cst .f64 4607182418800017408 <|
    .bin .sub .f64 48 47 <|
    .cst .f64 4639692778610098176 <|
    .bin .div .f64 8 50 <|
    .bin .mul .f64 51 49 <|
    .cst .f64 4607182418800017408 <|
    .bin .sub .f64 53 52 <|
    .cst .f64 4637440978796412928 <|
    .bin .div .f64 8 55 <|
    .bin .mul .f64 56 54 <|
    .cst .f64 4607182418800017408 <|
    .bin .sub .f64 58 57 <|
    .cst .f64 4634766966517661696 <|
    .bin .div .f64 8 60 <|
    .bin .mul .f64 61 59 <|
    .cst .f64 4607182418800017408 <|
    .bin .sub .f64 63 62 <|
    .cst .f64 4631107791820423168 <|
    .bin .div .f64 8 65 <|
    .bin .mul .f64 66 64 <|
    .cst .f64 4607182418800017408 <|
    .bin .sub .f64 68 67 <|
    .cst .f64 4626322717216342016 <|
    .bin .div .f64 8 70 <|
    .bin .mul .f64 71 69 <|
    .cst .f64 4607182418800017408 <|
    .bin .sub .f64 73 72 <|
    .cst .f64 4618441417868443648 <|
    .bin .div .f64 8 75 <|
    .bin .mul .f64 76 74 <|
    .cst .f64 4607182418800017408 <|
    .bin .sub .f64 78 77 <|
    .bin .mul .f64 7 79 <|
    .un .narrow .f64 80 <|
    .ret [.v 81])
    (.bin .sub .f64 3 4 <|
    .cst .f64 4618760256179416344 <|
    .bin .mul .f64 7 6 <|
    .bin .mul .f64 8 8 <|
    .cst .f64 4607182418800017408 <|
    .cst .f64 4650353643353014272 <|
    .bin .div .f64 9 11 <|
    .bin .mul .f64 12 10 <|
    .cst .f64 4607182418800017408 <|
    .bin .sub .f64 14 13 <|
    .cst .f64 4649386073120571392 <|
    .bin .div .f64 9 16 <|
    .bin .mul .f64 17 15 <|
    .cst .f64 4607182418800017408 <|
    .bin .sub .f64 19 18 <|
    .cst .f64 4648488871632306176 <|
    .bin .div .f64 9 21 <|
    .bin .mul .f64 22 20 <|
    .cst .f64 4607182418800017408 <|
    .bin .sub .f64 24 23 <|
    .cst .f64 4647609262330085376 <|
    .bin .div .f64 9 26 <|
    .bin .mul .f64 27 25 <|
    .cst .f64 4607182418800017408 <|
    .bin .sub .f64 29 28 <|
    .cst .f64 4646096334330265600 <|
    .bin .div .f64 9 31 <|
    .bin .mul .f64 32 30 <|
    .cst .f64 4607182418800017408 <|
    .bin .sub .f64 34 33 <|
    .cst .f64 4644724143818801152 <|
    .bin .div .f64 9 36 <|
    .bin .mul .f64 37 35 <|
    .cst .f64 4607182418800017408 <|
    .bin .sub .f64 39 38 <|
    .cst .f64 4643492690795692032 <|
    .bin .div .f64 9 41 <|
    .bin .mul .f64 42 40 <|
    .cst .f64 4607182418800017408 <|
    .bin .sub .f64 44 43 <|
    .cst .f64 4641592734702895104 <|
    .bin .div .f64 9 46 <|
    .bin .mul .f64 47 45 <|
    .cst .f64 4607182418800017408 <|
    .bin .sub .f64 49 48 <|
    .cst .f64 4639692778610098176 <|
    .bin .div .f64 9 51 <|
    .bin .mul .f64 52 50 <|
    .cst .f64 4607182418800017408 <|
    .bin .sub .f64 54 53 <|
    .cst .f64 4637440978796412928 <|
    .bin .div .f64 9 56 <|
    .bin .mul .f64 57 55 <|
    .cst .f64 4607182418800017408 <|
    .bin .sub .f64 59 58 <|
    .cst .f64 4634766966517661696 <|
    .bin .div .f64 9 61 <|
    .bin .mul .f64 62 60 <|
    .cst .f64 4607182418800017408 <|
    .bin .sub .f64 64 63 <|
    .cst .f64 4631107791820423168 <|
    .bin .div .f64 9 66 <|
    .bin .mul .f64 67 65 <|
    .cst .f64 4607182418800017408 <|
    .bin .sub .f64 69 68 <|
    .cst .f64 4626322717216342016 <|
    .bin .div .f64 9 71 <|
    .bin .mul .f64 72 70 <|
    .cst .f64 4607182418800017408 <|
    .bin .sub .f64 74 73 <|
    .cst .f64 4618441417868443648 <|
    .bin .div .f64 9 76 <|
    .bin .mul .f64 77 75 <|
    .cst .f64 4607182418800017408 <|
    .bin .sub .f64 79 78 <|
    .bin .mul .f64 8 80 <|
    .un .narrow .f64 81 <|
    .ret [.v 82]))
   (.call 15 [] 1 <|
   .un .narrow .f64 3 <|
   .ret [.v 4])
def s39 : Sum := ⟨39, [.val (.f .f32)], [.val (.f .f32)]⟩
/-- loop.example/g01249/impl.ScalePoint -/
def t40 : T :=
  .cst .f32 0 <|
  .cst .f32 0 <|
  .cst .f32 0 <|
  .bin .mul .f32 0 3 <|
  .bin .mul .f32 1 3 <|
  .bin .mul .f32 2 3 <|
  .cst .f32 0 <|
  .cst .f32 0 <|
  .cst .f32 0 <|
  .ret [.v 7, .v 8, .v 9]
def s40 : Sum := ⟨40, [.agg [.f .f32, .f .f32, .f .f32], .val (.f .f32)], [.agg [.f .f32, .f .f32, .f .f32]]⟩
/-- loop.example/g01249/impl.AddPoints -/
def t41 : T :=
  .cst .f32 0 <|
  .cst .f32 0 <|
  .cst .f32 0 <|
  .bin .add .f32 0 3 <|
  .bin .add .f32 1 4 <|
  .bin .add .f32 2 5 <|
  .cst .f32 0 <|
  .cst .f32 0 <|
  .cst .f32 0 <|
  .ret [.v 9, .v 10, .v 11]
def s41 : Sum := ⟨41, [.agg [.f .f32, .f .f32, .f .f32], .agg [.f .f32, .f .f32, .f .f32]], [.agg [.f .f32, .f .f32, .f .f32]]⟩
/-- loop.example/g01249/impl.turned -/
def t42 : T :=
  .cst .f32 0 <|
  .cst .f32 0 <|
  .cst .f32 0 <|
  .call 32 [.v 0, .v 1, .v 2] 4 <|
  .br 13
   (.cst .f32 0 <|
   .cst .f32 0 <|
   .cst .f32 0 <|
   .call 39 [.v 3] 1 <|
   .cst .f32 1048576000 <|
   .bin .add .f32 3 18 <|
   .call 39 [.v 19] 1 <|
   .call 26 [.v 10, .v 11, .v 12, .v 4, .v 5, .v 6] 1 <|
   .cst .f32 1065353216 <|
   .bin .sub .f32 22 20 <|
   .bin .mul .f32 21 23 <|
   .call 40 [.v 4, .v 5, .v 6, .v 20] 3 <|
   .call 33 [.v 10, .v 11, .v 12, .v 4, .v 5, .v 6] 3 <|
   .call 40 [.v 28, .v 29, .v 30, .v 17] 3 <|
   .call 41 [.v 25, .v 26, .v 27, .v 31, .v 32, .v 33] 3 <|
   .call 40 [.v 10, .v 11, .v 12, .v 24] 3 <|
   .call 41 [.v 34, .v 35, .v 36, .v 37, .v 38, .v 39] 3 <|
   .ret [.v 40, .v 41, .v 42, .b true])
   (.cst .f32 0 <|
   .cst .f32 0 <|
   .cst .f32 0 <|
   .call 39 [.v 3] 1 <|
   .cst .f32 1048576000 <|
   .bin .add .f32 3 18 <|
   .call 39 [.v 19] 1 <|
   .call 26 [.v 10, .v 11, .v 12, .v 4, .v 5, .v 6] 1 <|
   .cst .f32 1065353216 <|
   .bin .sub .f32 22 20 <|
   .bin .mul .f32 21 23 <|
   .call 40 [.v 4, .v 5, .v 6, .v 20] 3 <|
   .call 33 [.v 10, .v 11, .v 12, .v 4, .v 5, .v 6] 3 <|
   .call 40 [.v 28, .v 29, .v 30, .v 17] 3 <|
   .call 41 [.v 25, .v 26, .v 27, .v 31, .v 32, .v 33] 3 <|
   .call 40 [.v 10, .v 11, .v 12, .v 24] 3 <|
   .call 41 [.v 34, .v 35, .v 36, .v 37, .v 38, .v 39] 3 <|
   .ret [.v 40, .v 41, .v 42, .b false])
def s42 : Sum := ⟨42, [.agg [.f .f32, .f .f32, .f .f32], .val (.f .f32), .agg [.f .f32, .f .f32, .f .f32]], [.agg [.f .f32, .f .f32, .f .f32], .val (.b)]⟩
/-- loop.example/g01249/impl.validCamera -/
def t43 : T :=
  .cst .f32 0 <|
  .cst .f32 0 <|
  .cst .f32 0 <|
  .cst .f32 0 <|
  .cst .f32 0 <|
  .cst .f32 0 <|
  .cst .f32 0 <|
  .cst .f32 0 <|
  .cst .f32 0 <|
  .cst .f32 0 <|
  .cst .f32 0 <|
  .call 35 [.v 0, .v 1, .v 2, .v 3, .v 4, .v 5, .v 6, .v 7, .v 8, .v 9, .v 10] 1 <|
  .br 22
   (.ret [.v 0, .v 1, .v 2, .v 3, .v 4, .v 5, .v 6, .v 7, .v 8, .v 9, .v 10, .i .i64 0])
   (.cst .f32 0 <|
   .cst .f32 0 <|
   .cst .f32 0 <|
   .cst .f32 0 <|
   .cst .f32 0 <|
   .cst .f32 0 <|
   .cst .f32 0 <|
   .cst .f32 0 <|
   .cst .f32 0 <|
   .cst .f32 0 <|
   .cst .f32 0 <|
   .ret [.v 23, .v 24, .v 25, .v 26, .v 27, .v 28, .v 29, .v 30, .v 31, .v 32, .v 33, .i .i64 4])
def s43 : Sum := ⟨43, [.agg [.f .f32, .f .f32, .f .f32, .f .f32, .f .f32, .f .f32, .f .f32, .f .f32, .f .f32, .f .f32, .f .f32]], [.agg [.f .f32, .f .f32, .f .f32, .f .f32, .f .f32, .f .f32, .f .f32, .f .f32, .f .f32, .f .f32, .f .f32], .val (.i .i64 [0, 4])]⟩
/-- loop.example/g01249/impl.TiltCamera -/
def t44 : T :=
  .cst .f32 0 <|
  .cst .f32 0 <|
  .cst .f32 0 <|
  .cst .f32 0 <|
  .cst .f32 0 <|
  .cst .f32 0 <|
  .cst .f32 0 <|
  .cst .f32 0 <|
  .cst .f32 0 <|
  .cst .f32 0 <|
  .cst .f32 0 <|
  .call 37 [.v 0, .v 1, .v 2, .v 3, .v 4, .v 5, .v 6, .v 7, .v 8, .v 9, .v 10, .v 11] 1 <|
  .sw 23 0
   (.call 38 [.v 0, .v 1, .v 2, .v 3, .v 4, .v 5, .v 6, .v 7, .v 8, .v 9, .v 10] 20 <|
   .cst .f32 0 <|
   .cst .f32 0 <|
   .cst .f32 0 <|
   .call 25 [.v 3, .v 4, .v 5, .v 0, .v 1, .v 2] 3 <|
   .call 42 [.v 35, .v 36, .v 37, .v 11, .v 47, .v 48, .v 49] 4 <|
   .br 53
    (.cst .f32 0 <|
    .cst .f32 0 <|
    .cst .f32 0 <|
    .call 42 [.v 35, .v 36, .v 37, .v 11, .v 6, .v 7, .v 8] 4 <|
    .br 60
     (.cst .f32 0 <|
     .cst .f32 0 <|
     .cst .f32 0 <|
     .call 41 [.v 0, .v 1, .v 2, .v 50, .v 51, .v 52] 3 <|
     .call 43 [.v 0, .v 1, .v 2, .v 64, .v 65, .v 66, .v 57, .v 58, .v 59, .v 9, .v 10] 12 <|
     .sw 78 0
      (.ret [.v 67, .v 68, .v 69, .v 70, .v 71, .v 72, .v 73, .v 74, .v 75, .v 76, .v 77, .i .i64 0])
      (.sw 78 4
       (.ret [.v 67, .v 68, .v 69, .v 70, .v 71, .v 72, .v 73, .v 74, .v 75, .v 76, .v 77, .i .i64 4])
       (.bad "sw")))
     (.cst .f32 0 <|
     .cst .f32 0 <|
     .cst .f32 0 <|
     .cst .f32 0 <|
     .cst .f32 0 <|
     .cst .f32 0 <|
     .cst .f32 0 <|
     .cst .f32 0 <|
     .cst .f32 0 <|
     .cst .f32 0 <|
     .cst .f32 0 <|
     .cst .f32 0 <|
     .cst .f32 0 <|
     .cst .f32 0 <|
     .ret [.v 64, .v 65, .v 66, .v 67, .v 68, .v 69, .v 70, .v 71, .v 72, .v 73, .v 74, .i .i64 4]))
    (.cst .f32 0 <|
    .cst .f32 0 <|
    .cst .f32 0 <|
    .call 42 [.v 35, .v 36, .v 37, .v 11, .v 6, .v 7, .v 8] 4 <|
    .br 60
     (.cst .f32 0 <|
     .cst .f32 0 <|
     .cst .f32 0 <|
     .cst .f32 0 <|
     .cst .f32 0 <|
     .cst .f32 0 <|
     .cst .f32 0 <|
     .cst .f32 0 <|
     .cst .f32 0 <|
     .cst .f32 0 <|
     .cst .f32 0 <|
     .cst .f32 0 <|
     .cst .f32 0 <|
     .cst .f32 0 <|
     .ret [.v 64, .v 65, .v 66, .v 67, .v 68, .v 69, .v 70, .v 71, .v 72, .v 73, .v 74, .i .i64 4])
     (.cst .f32 0 <|
     .cst .f32 0 <|
     .cst .f32 0 <|
     .cst .f32 0 <|
     .cst .f32 0 <|
     .cst .f32 0 <|
     .cst .f32 0 <|
     .cst .f32 0 <|
     .cst .f32 0 <|
     .cst .f32 0 <|
     .cst .f32 0 <|
     .cst .f32 0 <|
     .cst .f32 0 <|
     .cst .f32 0 <|
     .ret [.v 64, .v 65, .v 66, .v 67, .v 68, .v 69, .v 70, .v 71, .v 72, .v 73, .v 74, .i .i64 4])))
   (.sw 23 2
    (.cst .f32 0 <|
    .cst .f32 0 <|
    .cst .f32 0 <|
    .cst .f32 0 <|
    .cst .f32 0 <|
    .cst .f32 0 <|
    .cst .f32 0 <|
    .cst .f32 0 <|
    .cst .f32 0 <|
    .cst .f32 0 <|
    .cst .f32 0 <|
    .ret [.v 24, .v 25, .v 26, .v 27, .v 28, .v 29, .v 30, .v 31, .v 32, .v 33, .v 34, .i .i64 2])
    (.sw 23 1
     (.cst .f32 0 <|
     .cst .f32 0 <|
     .cst .f32 0 <|
     .cst .f32 0 <|
     .cst .f32 0 <|
     .cst .f32 0 <|
     .cst .f32 0 <|
     .cst .f32 0 <|
     .cst .f32 0 <|
     .cst .f32 0 <|
     .cst .f32 0 <|
     .ret [.v 24, .v 25, .v 26, .v 27, .v 28, .v 29, .v 30, .v 31, .v 32, .v 33, .v 34, .i .i64 1])
     (.bad "sw")))
def s44 : Sum := ⟨44, [.agg [.f .f32, .f .f32, .f .f32, .f .f32, .f .f32, .f .f32, .f .f32, .f .f32, .f .f32, .f .f32, .f .f32], .val (.f .f32)], [.agg [.f .f32, .f .f32, .f .f32, .f .f32, .f .f32, .f .f32, .f .f32, .f .f32, .f .f32, .f .f32, .f .f32], .val (.i .i64 [0, 4, 2, 1])]⟩
/-- loop.example/g01249/laws.sameFloat -/
def t45 : T :=
  .tst 2 .f64 0 0
   (.tst 2 .f64 1 1
    (.cst .f64 0 <|
    .tst 2 .f64 0 2
     (.cst .f64 0 <|
     .tst 2 .f64 1 3
      (.cst .f64 4607182418800017408 <|
      .bin .div .f64 4 0 <|
      .cst .f64 0 <|
      .tst 0 .f64 6 5
       (.cst .f64 4607182418800017408 <|
       .bin .div .f64 7 1 <|
       .cst .f64 0 <|
       .tst 0 .f64 9 8
        (.ret [.b true])
        (.ret [.b false]))
       (.cst .f64 4607182418800017408 <|
       .bin .div .f64 7 1 <|
       .cst .f64 0 <|
       .tst 0 .f64 9 8
        (.ret [.b false])
        (.ret [.b true])))
      (.tst 2 .f64 0 1
       (.ret [.b true])
       (.ret [.b false])))
     (.tst 2 .f64 0 1
      (.ret [.b true])
      (.ret [.b false])))
    (.tst 2 .f64 0 0
     (.ret [.b false])
     (.tst 2 .f64 1 1
      (.ret [.b false])
      (.ret [.b true]))))
   (.tst 2 .f64 0 0
    (.ret [.b false])
    (.tst 2 .f64 1 1
     (.ret [.b false])
     (.ret [.b true])))
def s45 : Sum := ⟨45, [.val (.f .f64), .val (.f .f64)], [.val (.b)]⟩
/-- loop.example/g01249/laws.eqPoint -/
def t46 : T :=
  .un .widen .f32 0 <|
  .un .widen .f32 3 <|
  .call 45 [.v 6, .v 7] 1 <|
  .br 8
   (.un .widen .f32 1 <|
   .un .widen .f32 4 <|
   .call 45 [.v 9, .v 10] 1 <|
   .br 11
    (.un .widen .f32 2 <|
    .un .widen .f32 5 <|
    .call 45 [.v 12, .v 13] 1 <|
    .br 14
     (.ret [.b true])
     (.ret [.b false]))
    (.ret [.b false]))
   (.ret [.b false])
def s46 : Sum := ⟨46, [.agg [.f .f32, .f .f32, .f .f32], .agg [.f .f32, .f .f32, .f .f32]], [.val (.b)]⟩
/-- loop.example/g01249/laws.eqCamera -/
def t47 : T :=
  .call 46 [.v 0, .v 1, .v 2, .v 11, .v 12, .v 13] 1 <|
  .br 22
   (.call 46 [.v 3, .v 4, .v 5, .v 14, .v 15, .v 16] 1 <|
   .br 23
    (.call 46 [.v 6, .v 7, .v 8, .v 17, .v 18, .v 19] 1 <|
    .br 24
     (.un .widen .f32 9 <|
     .un .widen .f32 20 <|
     .call 45 [.v 25, .v 26] 1 <|
     .br 27
      (.un .widen .f32 10 <|
      .un .widen .f32 21 <|
      .call 45 [.v 28, .v 29] 1 <|
      .br 30
       (.ret [.b true])
       (.ret [.b false]))
      (.ret [.b false]))
     (.ret [.b false]))
    (.ret [.b false]))
   (.ret [.b false])
def s47 : Sum := ⟨47, [.agg [.f .f32, .f .f32, .f .f32, .f .f32, .f .f32, .f .f32, .f .f32, .f .f32, .f .f32, .f .f32, .f .f32], .agg [.f .f32, .f .f32, .f .f32, .f .f32, .f .f32, .f .f32, .f .f32, .f .f32, .f .f32, .f .f32, .f .f32]], [.val (.b)]⟩
/-- loop.example/g01249/laws.FnExactTiltCamera -/
def t48 : T :=
  .call 1 [.v 0, .v 1, .v 2, .v 3, .v 4, .v 5, .v 6, .v 7, .v 8, .v 9, .v 10] 11 <|
  .call 20 [.v 12, .v 13, .v 14, .v 15, .v 16, .v 17, .v 18, .v 19, .v 20, .v 21, .v 22, .v 11] 12 <|
  .sw 34 0
   (.cst .f32 0 <|
   .cst .f32 0 <|
   .cst .f32 0 <|
   .cst .f32 0 <|
   .cst .f32 0 <|
   .cst .f32 0 <|
   .cst .f32 0 <|
   .cst .f32 0 <|
   .cst .f32 0 <|
   .cst .f32 0 <|
   .cst .f32 0 <|
   .call 1 [.v 0, .v 1, .v 2, .v 3, .v 4, .v 5, .v 6, .v 7, .v 8, .v 9, .v 10] 11 <|
   .call 44 [.v 46, .v 47, .v 48, .v 49, .v 50, .v 51, .v 52, .v 53, .v 54, .v 55, .v 56, .v 11] 12 <|
   .sw 68 0
    (.cst .f32 0 <|
    .cst .f32 0 <|
    .cst .f32 0 <|
    .cst .f32 0 <|
    .cst .f32 0 <|
    .cst .f32 0 <|
    .cst .f32 0 <|
    .cst .f32 0 <|
    .cst .f32 0 <|
    .cst .f32 0 <|
    .cst .f32 0 <|
    .call 47 [.v 57, .v 58, .v 59, .v 60, .v 61, .v 62, .v 63, .v 64, .v 65, .v 66, .v 67, .v 23, .v 24, .v 25, .v 26, .v 27, .v 28, .v 29, .v 30, .v 31, .v 32, .v 33] 1 <|
    .br 80
     (.ret [.b true])
     (.ret [.b false]))
    (.sw 68 4
     (.cst .f32 0 <|
     .cst .f32 0 <|
     .cst .f32 0 <|
     .cst .f32 0 <|
     .cst .f32 0 <|
     .cst .f32 0 <|
     .cst .f32 0 <|
     .cst .f32 0 <|
     .cst .f32 0 <|
     .cst .f32 0 <|
     .cst .f32 0 <|
     .call 47 [.v 57, .v 58, .v 59, .v 60, .v 61, .v 62, .v 63, .v 64, .v 65, .v 66, .v 67, .v 23, .v 24, .v 25, .v 26, .v 27, .v 28, .v 29, .v 30, .v 31, .v 32, .v 33] 1 <|
     .br 80
      (.ret [.b false])
      (.ret [.b false]))
     (.sw 68 2
      (.cst .f32 0 <|
      .cst .f32 0 <|
      .cst .f32 0 <|
      .cst .f32 0 <|
      .cst .f32 0 <|
      .cst .f32 0 <|
      .cst .f32 0 <|
      .cst .f32 0 <|
      .cst .f32 0 <|
      .cst .f32 0 <|
      .cst .f32 0 <|
      .call 47 [.v 57, .v 58, .v 59, .v 60, .v 61, .v 62, .v 63, .v 64, .v 65, .v 66, .v 67, .v 23, .v 24, .v 25, .v 26, .v 27, .v 28, .v 29, .v 30, .v 31, .v 32, .v 33] 1 <|
      .br 80
       (.ret [.b false])
       (.ret [.b false]))
      (.sw 68 1
       (.cst .f32 0 <|
       .cst .f32 0 <|
       .cst .f32 0 <|
       .cst .f32 0 <|
       .cst .f32 0 <|
       .cst .f32 0 <|
       .cst .f32 0 <|
       .cst .f32 0 <|
       .cst .f32 0 <|
       .cst .f32 0 <|
       .cst .f32 0 <|
       .call 47 [.v 57, .v 58, .v 59, .v 60, .v 61, .v 62, .v 63, .v 64, .v 65, .v 66, .v 67, .v 23, .v 24, .v 25, .v 26, .v 27, .v 28, .v 29, .v 30, .v 31, .v 32, .v 33] 1 <|
       .br 80
        (.ret [.b false])
        (.ret [.b false]))
       (.bad "sw")))))
   (.sw 34 4
    (.cst .f32 0 <|
    .cst .f32 0 <|
    .cst .f32 0 <|
    .cst .f32 0 <|
    .cst .f32 0 <|
    .cst .f32 0 <|
    .cst .f32 0 <|
    .cst .f32 0 <|
    .cst .f32 0 <|
    .cst .f32 0 <|
    .cst .f32 0 <|
    .call 1 [.v 0, .v 1, .v 2, .v 3, .v 4, .v 5, .v 6, .v 7, .v 8, .v 9, .v 10] 11 <|
    .call 44 [.v 46, .v 47, .v 48, .v 49, .v 50, .v 51, .v 52, .v 53, .v 54, .v 55, .v 56, .v 11] 12 <|
    .sw 68 0
     (.cst .f32 0 <|
     .cst .f32 0 <|
     .cst .f32 0 <|
     .cst .f32 0 <|
     .cst .f32 0 <|
     .cst .f32 0 <|
     .cst .f32 0 <|
     .cst .f32 0 <|
     .cst .f32 0 <|
     .cst .f32 0 <|
     .cst .f32 0 <|
     .call 47 [.v 57, .v 58, .v 59, .v 60, .v 61, .v 62, .v 63, .v 64, .v 65, .v 66, .v 67, .v 23, .v 24, .v 25, .v 26, .v 27, .v 28, .v 29, .v 30, .v 31, .v 32, .v 33] 1 <|
     .br 80
      (.ret [.b false])
      (.ret [.b false]))
     (.sw 68 4
      (.cst .f32 0 <|
      .cst .f32 0 <|
      .cst .f32 0 <|
      .cst .f32 0 <|
      .cst .f32 0 <|
      .cst .f32 0 <|
      .cst .f32 0 <|
      .cst .f32 0 <|
      .cst .f32 0 <|
      .cst .f32 0 <|
      .cst .f32 0 <|
      .call 47 [.v 57, .v 58, .v 59, .v 60, .v 61, .v 62, .v 63, .v 64, .v 65, .v 66, .v 67, .v 23, .v 24, .v 25, .v 26, .v 27, .v 28, .v 29, .v 30, .v 31, .v 32, .v 33] 1 <|
      .br 80
       (.ret [.b true])
       (.ret [.b false]))
      (.sw 68 2
       (.cst .f32 0 <|
       .cst .f32 0 <|
       .cst .f32 0 <|
       .cst .f32 0 <|
       .cst .f32 0 <|
       .cst .f32 0 <|
       .cst .f32 0 <|
       .cst .f32 0 <|
       .cst .f32 0 <|
       .cst .f32 0 <|
       .cst .f32 0 <|
       .call 47 [.v 57, .v 58, .v 59, .v 60, .v 61, .v 62, .v 63, .v 64, .v 65, .v 66, .v 67, .v 23, .v 24, .v 25, .v 26, .v 27, .v 28, .v 29, .v 30, .v 31, .v 32, .v 33] 1 <|
       .br 80
        (.ret [.b false])
        (.ret [.b false]))
       (.sw 68 1
        (.cst .f32 0 <|
        .cst .f32 0 <|
        .cst .f32 0 <|
        .cst .f32 0 <|
        .cst .f32 0 <|
        .cst .f32 0 <|
        .cst .f32 0 <|
        .cst .f32 0 <|
        .cst .f32 0 <|
        .cst .f32 0 <|
        .cst .f32 0 <|
        .call 47 [.v 57, .v 58, .v 59, .v 60, .v 61, .v 62, .v 63, .v 64, .v 65, .v 66, .v 67, .v 23, .v 24, .v 25, .v 26, .v 27, .v 28, .v 29, .v 30, .v 31, .v 32, .v 33] 1 <|
        .br 80
         (.ret [.b false])
         (.ret [.b false]))
        (.bad "sw")))))
    (.sw 34 2
     (.cst .f32 0 <|
     .cst .f32 0 <|
     .cst .f32 0 <|
     .cst .f32 0 <|
     .cst .f32 0 <|
     .cst .f32 0 <|
     .cst .f32 0 <|
     .cst .f32 0 <|
     .cst .f32 0 <|
     .cst .f32 0 <|
     .cst .f32 0 <|
     .call 1 [.v 0, .v 1, .v 2, .v 3, .v 4, .v 5, .v 6, .v 7, .v 8, .v 9, .v 10] 11 <|
     .call 44 [.v 46, .v 47, .v 48, .v 49, .v 50, .v 51, .v 52, .v 53, .v 54, .v 55, .v 56, .v 11] 12 <|
     .sw 68 0
      (.cst .f32 0 <|
      .cst .f32 0 <|
      .cst .f32 0 <|
      .cst .f32 0 <|
      .cst .f32 0 <|
      .cst .f32 0 <|
      .cst .f32 0 <|
      .cst .f32 0 <|
      .cst .f32 0 <|
      .cst .f32 0 <|
      .cst .f32 0 <|
      .call 47 [.v 57, .v 58, .v 59, .v 60, .v 61, .v 62, .v 63, .v 64, .v 65, .v 66, .v 67, .v 23, .v 24, .v 25, .v 26, .v 27, .v 28, .v 29, .v 30, .v 31, .v 32, .v 33] 1 <|
      .br 80
       (.ret [.b false])
       (.ret [.b false]))
      (.sw 68 4
       (.cst .f32 0 <|
       .cst .f32 0 <|
       .cst .f32 0 <|
       .cst .f32 0 <|
       .cst .f32 0 <|
       .cst .f32 0 <|
       .cst .f32 0 <|
       .cst .f32 0 <|
       .cst .f32 0 <|
       .cst .f32 0 <|
       .cst .f32 0 <|
       .call 47 [.v 57, .v 58, .v 59, .v 60, .v 61, .v 62, .v 63, .v 64, .v 65, .v 66, .v 67, .v 23, .v 24, .v 25, .v 26, .v 27, .v 28, .v 29, .v 30, .v 31, .v 32, .v 33] 1 <|
       .br 80
        (.ret [.b false])
        (.ret [.b false]))
       (.sw 68 2
        (.cst .f32 0 <|
        .cst .f32 0 <|
        .cst .f32 0 <|
        .cst .f32 0 <|
        .cst .f32 0 <|
        .cst .f32 0 <|
        .cst .f32 0 <|
        .cst .f32 0 <|
        .cst .f32 0 <|
        .cst .f32 0 <|
        .cst .f32 0 <|
        .call 47 [.v 57, .v 58, .v 59, .v 60, .v 61, .v 62, .v 63, .v 64, .v 65, .v 66, .v 67, .v 23, .v 24, .v 25, .v 26, .v 27, .v 28, .v 29, .v 30, .v 31, .v 32, .v 33] 1 <|
        .br 80
         (.ret [.b true])
         (.ret [.b false]))
        (.sw 68 1
         (.cst .f32 0 <|
         .cst .f32 0 <|
         .cst .f32 0 <|
         .cst .f32 0 <|
         .cst .f32 0 <|
         .cst .f32 0 <|
         .cst .f32 0 <|
         .cst .f32 0 <|
         .cst .f32 0 <|
         .cst .f32 0 <|
         .cst .f32 0 <|
         .call 47 [.v 57, .v 58, .v 59, .v 60, .v 61, .v 62, .v 63, .v 64, .v 65, .v 66, .v 67, .v 23, .v 24, .v 25, .v 26, .v 27, .v 28, .v 29, .v 30, .v 31, .v 32, .v 33] 1 <|
         .br 80
          (.ret [.b false])
          (.ret [.b false]))
         (.bad "sw")))))
     (.sw 34 1
      (.cst .f32 0 <|
      .cst .f32 0 <|
      .cst .f32 0 <|
      .cst .f32 0 <|
      .cst .f32 0 <|
      .cst .f32 0 <|
      .cst .f32 0 <|
      .cst .f32 0 <|
      .cst .f32 0 <|
      .cst .f32 0 <|
      .cst .f32 0 <|
      .call 1 [.v 0, .v 1, .v 2, .v 3, .v 4, .v 5, .v 6, .v 7, .v 8, .v 9, .v 10] 11 <|
      .call 44 [.v 46, .v 47, .v 48, .v 49, .v 50, .v 51, .v 52, .v 53, .v 54, .v 55, .v 56, .v 11] 12 <|
      .sw 68 0
       (.cst .f32 0 <|
       .cst .f32 0 <|
       .cst .f32 0 <|
       .cst .f32 0 <|
       .cst .f32 0 <|
       .cst .f32 0 <|
       .cst .f32 0 <|
       .cst .f32 0 <|
       .cst .f32 0 <|
       .cst .f32 0 <|
       .cst .f32 0 <|
       .call 47 [.v 57, .v 58, .v 59, .v 60, .v 61, .v 62, .v 63, .v 64, .v 65, .v 66, .v 67, .v 23, .v 24, .v 25, .v 26, .v 27, .v 28, .v 29, .v 30, .v 31, .v 32, .v 33] 1 <|
       .br 80
        (.ret [.b false])
        (.ret [.b false]))
       (.sw 68 4
        (.cst .f32 0 <|
        .cst .f32 0 <|
        .cst .f32 0 <|
        .cst .f32 0 <|
        .cst .f32 0 <|
        .cst .f32 0 <|
        .cst .f32 0 <|
        .cst .f32 0 <|
        .cst .f32 0 <|
        .cst .f32 0 <|
        .cst .f32 0 <|
        .call 47 [.v 57, .v 58, .v 59, .v 60, .v 61, .v 62, .v 63, .v 64, .v 65, .v 66, .v 67, .v 23, .v 24, .v 25, .v 26, .v 27, .v 28, .v 29, .v 30, .v 31, .v 32, .v 33] 1 <|
        .br 80
         (.ret [.b false])
         (.ret [.b false]))
        (.sw 68 2
         (.cst .f32 0 <|
         .cst .f32 0 <|
         .cst .f32 0 <|
         .cst .f32 0 <|
         .cst .f32 0 <|
         .cst .f32 0 <|
         .cst .f32 0 <|
         .cst .f32 0 <|
         .cst .f32 0 <|
         .cst .f32 0 <|
         .cst .f32 0 <|
         .call 47 [.v 57, .v 58, .v 59, .v 60, .v 61, .v 62, .v 63, .v 64, .v 65, .v 66, .v 67, .v 23, .v 24, .v 25, .v 26, .v 27, .v 28, .v 29, .v 30, .v 31, .v 32, .v 33] 1 <|
         .br 80
          (.ret [.b false])
          (.ret [.b false]))
         (.sw 68 1
          (.cst .f32 0 <|
          .cst .f32 0 <|
          .cst .f32 0 <|
          .cst .f32 0 <|
          .cst .f32 0 <|
          .cst .f32 0 <|
          .cst .f32 0 <|
          .cst .f32 0 <|
          .cst .f32 0 <|
          .cst .f32 0 <|
          .cst .f32 0 <|
          .call 47 [.v 57, .v 58, .v 59, .v 60, .v 61, .v 62, .v 63, .v 64, .v 65, .v 66, .v 67, .v 23, .v 24, .v 25, .v 26, .v 27, .v 28, .v 29, .v 30, .v 31, .v 32, .v 33] 1 <|
          .br 80
           (.ret [.b true])
           (.ret [.b false]))
          (.bad "sw")))))
      (.bad "sw"))))
def s48 : Sum := ⟨48, [.agg [.f .f32, .f .f32, .f .f32, .f .f32, .f .f32, .f .f32, .f .f32, .f .f32, .f .f32, .f .f32, .f .f32], .val (.f .f32)], [.val (.b)]⟩
def ts : List T := [t0, t1, t2, t3, t4, t5, t6, t7, t8, t9, t10, t11, t12, t13, t14, t15, t16, t17, t18, t19, t20, t21, t22, t23, t24, t25, t26, t27, t28, t29, t30, t31, t32, t33, t34, t35, t36, t37, t38, t39, t40, t41, t42, t43, t44, t45, t46, t47, t48]
def sm : List (FuncId × Sum) := [(14, s0), (5, s1), (24, s2), (23, s3), (12, s4), (28, s5), (61, s6), (52, s7), (41, s8), (43, s9), (42, s10), (25, s11), (26, s12), (9, s13), (8, s14), (29, s15), (27, s16), (11, s17), (10, s18), (13, s19), (4, s20), (60, s21), (59, s22), (55, s23), (54, s24), (18, s25), (37, s26), (56, s27), (47, s28), (48, s29), (49, s30), (58, s31), (35, s32), (39, s33), (34, s34), (40, s35), (33, s36), (15, s37), (16, s38), (36, s39), (38, s40), (19, s41), (17, s42), (20, s43), (6, s44), (22, s45), (21, s46), (7, s47), (3, s48)]
def ex : List (FuncId × Ext) := [(44, .rte), (45, .frombits64), (64, .sqrt)]
end Go.Proofs.Ytkaiihbibcjglab
