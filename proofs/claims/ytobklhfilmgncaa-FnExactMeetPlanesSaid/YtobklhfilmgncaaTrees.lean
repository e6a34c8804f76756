/- The trees of the program's functions. -/
import Derived.Test.YtobklhfilmgncaaSxB
namespace Go.Proofs.Ytobklhfilmgncaa
open Sx Go
/-- loop.example/g01249/laws.toPoint -/
def t0 : T :=
  .cst .f32 0 <|
  .cst .f32 0 <|
  .cst .f32 0 <|
  .cst .f32 0 <|
  .cst .f32 0 <|
  .cst .f32 0 <|
  .ret [.v 0, .v 1, .v 2]
def s0 : Sum := ⟨0, [.agg [.f .f32, .f .f32, .f .f32]], [.agg [.f .f32, .f .f32, .f .f32]]⟩
/-- loop.example/g01249/laws.toCamera -/
def t1 : T :=
  .cst .f32 0 <|
  .cst .f32 0 <|
  .cst .f32 0 <|
  .cst .f32 0 <|
  .cst .f32 0 <|
  .cst .f32 0 <|
  .cst .f32 0 <|
  .cst .f32 0 <|
  .cst .f32 0 <|
  .cst .f32 0 <|
  .cst .f32 0 <|
  .cst .f32 0 <|
  .cst .f32 0 <|
  .cst .f32 0 <|
  .cst .f32 0 <|
  .cst .f32 0 <|
  .cst .f32 0 <|
  .cst .f32 0 <|
  .cst .f32 0 <|
  .cst .f32 0 <|
  .cst .f32 0 <|
  .cst .f32 0 <|
  .call 0 [.v 0, .v 1, .v 2] 3 <|
  .call 0 [.v 3, .v 4, .v 5] 3 <|
  .call 0 [.v 6, .v 7, .v 8] 3 <|
  .ret [.v 33, .v 34, .v 35, .v 36, .v 37, .v 38, .v 39, .v 40, .v 41, .v 9, .v 10]
def s1 : Sum := ⟨1, [.agg [.f .f32, .f .f32, .f .f32, .f .f32, .f .f32, .f .f32, .f .f32, .f .f32, .f .f32, .f .f32, .f .f32]], [.agg [.f .f32, .f .f32, .f .f32, .f .f32, .f .f32, .f .f32, .f .f32, .f .f32, .f .f32, .f .f32, .f .f32]]⟩
/-- loop.example/g01249/laws.toSpot -/
def t2 : T :=
  .cst .f32 0 <|
  .cst .f32 0 <|
  .cst .f32 0 <|
  .cst .f32 0 <|
  .ret [.v 0, .v 1]
def s2 : Sum := ⟨2, [.agg [.f .f32, .f .f32]], [.agg [.f .f32, .f .f32]]⟩
/-- loop.example/g01249/spec.l01Plain -/
def t3 : T :=
  .cst .f32 3379831808 <|
  .tst 1 .f32 1 0
   (.cst .f32 1232348160 <|
   .tst 1 .f32 0 2
    (.ret [.b true])
    (.ret [.b false]))
   (.ret [.b false])
def s3 : Sum := ⟨3, [.val (.f .f32)], [.val (.b)]⟩
/-- loop.example/g01249/spec.l01Point -/
def t4 : T :=
  .call 3 [.v 0] 1 <|
  .br 3
   (.call 3 [.v 1] 1 <|
   .br 4
    (.call 3 [.v 2] 1 <|
    .br 5
     (.ret [.b true])
     (.ret [.b false]))
    (.ret [.b false]))
   (.ret [.b false])
def s4 : Sum := ⟨4, [.agg [.f .f32, .f .f32, .f .f32]], [.val (.b)]⟩
/-- loop.example/g01249/spec.SubPoints -/
def t5 : T :=
  .cst .f32 0 <|
  .cst .f32 0 <|
  .cst .f32 0 <|
  .bin .sub .f32 0 3 <|
  .bin .sub .f32 1 4 <|
  .bin .sub .f32 2 5 <|
  .cst .f32 0 <|
  .cst .f32 0 <|
  .cst .f32 0 <|
  .ret [.v 9, .v 10, .v 11]
def s5 : Sum := ⟨5, [.agg [.f .f32, .f .f32, .f .f32], .agg [.f .f32, .f .f32, .f .f32]], [.agg [.f .f32, .f .f32, .f .f32]]⟩
/-- loop.example/g01249/spec.DotOf -/
def t6 : T :=
  .cst .f32 0 <|
  .bin .mul .f32 0 3 <|
  .bin .mul .f32 1 4 <|
  .bin .add .f32 7 8 <|
  .bin .mul .f32 2 5 <|
  .bin .add .f32 9 10 <|
  .ret [.v 11]
def s6 : Sum := ⟨6, [.agg [.f .f32, .f .f32, .f .f32], .agg [.f .f32, .f .f32, .f .f32]], [.val (.f .f32)]⟩
/-- math.Sqrt -/
def t7 : T :=
  .cst .f64 0 <|
  .un .sqrt .f64 0 <|
  .ret [.v 2]
def s7 : Sum := ⟨7, [.val (.f .f64)], [.val (.f .f64)]⟩
/-- loop.example/g01249/spec.l01Root -/
def t8 : T :=
  .cst .f32 0 <|
  .un .widen .f32 0 <|
  .call 7 [.v 2] 1 <|
  .un .narrow .f64 3 <|
  .ret [.v 4]
def s8 : Sum := ⟨8, [.val (.f .f32)], [.val (.f .f32)]⟩
/-- loop.example/g01249/spec.LengthOf -/
def t9 : T :=
  .cst .f32 0 <|
  .call 6 [.v 0, .v 1, .v 2, .v 0, .v 1, .v 2] 1 <|
  .call 8 [.v 4] 1 <|
  .ret [.v 5]
def s9 : Sum := ⟨9, [.agg [.f .f32, .f .f32, .f .f32]], [.val (.f .f32)]⟩
/-- loop.example/g01249/spec.l01Finite -/
def t10 : T :=
  .bin .sub .f32 0 0 <|
  .cst .f32 0 <|
  .tst 2 .f32 1 2
   (.ret [.b true])
   (.ret [.b false])
def s10 : Sum := ⟨10, [.val (.f .f32)], [.val (.b)]⟩
/-- loop.example/g01249/spec.l01Finites -/
def t11 : T :=
  .call 10 [.v 0] 1 <|
  .br 3
   (.call 10 [.v 1] 1 <|
   .br 4
    (.call 10 [.v 2] 1 <|
    .br 5
     (.ret [.b true])
     (.ret [.b false]))
    (.ret [.b false]))
   (.ret [.b false])
def s11 : Sum := ⟨11, [.agg [.f .f32, .f .f32, .f .f32]], [.val (.b)]⟩
/-- loop.example/g01249/spec.l01Unit -/
def t12 : T :=
  .cst .f32 0 <|
  .cst .f32 0 <|
  .cst .f32 0 <|
  .call 9 [.v 0, .v 1, .v 2] 1 <|
  .cst .f32 897581056 <|
  .tst 1 .f32 7 6
   (.bin .div .f32 0 6 <|
   .bin .div .f32 1 6 <|
   .bin .div .f32 2 6 <|
   .cst .f32 0 <|
   .cst .f32 0 <|
   .cst .f32 0 <|
   .cst .f32 0 <|
   .cst .f32 0 <|
   .cst .f32 0 <|
   .call 11 [.v 8, .v 9, .v 10] 1 <|
   .br 17
    (.ret [.v 8, .v 9, .v 10, .b true])
    (.ret [.v 8, .v 9, .v 10, .b false]))
   (.cst .f32 0 <|
   .cst .f32 0 <|
   .cst .f32 0 <|
   .ret [.v 8, .v 9, .v 10, .b false])
def s12 : Sum := ⟨12, [.agg [.f .f32, .f .f32, .f .f32]], [.agg [.f .f32, .f .f32, .f .f32], .val (.b)]⟩
/-- loop.example/g01249/spec.CrossOf -/
def t13 : T :=
  .cst .f32 0 <|
  .cst .f32 0 <|
  .cst .f32 0 <|
  .bin .mul .f32 1 5 <|
  .bin .mul .f32 2 4 <|
  .bin .sub .f32 9 10 <|
  .bin .mul .f32 2 3 <|
  .bin .mul .f32 0 5 <|
  .bin .sub .f32 12 13 <|
  .bin .mul .f32 0 4 <|
  .bin .mul .f32 1 3 <|
  .bin .sub .f32 15 16 <|
  .cst .f32 0 <|
  .cst .f32 0 <|
  .cst .f32 0 <|
  .ret [.v 11, .v 14, .v 17]
def s13 : Sum := ⟨13, [.agg [.f .f32, .f .f32, .f .f32], .agg [.f .f32, .f .f32, .f .f32]], [.agg [.f .f32, .f .f32, .f .f32]]⟩
/-- loop.example/g01249/spec.l02Frame -/
def t14 : T :=
  .cst .f32 0 <|
  .cst .f32 0 <|
  .cst .f32 0 <|
  .cst .f32 0 <|
  .cst .f32 0 <|
  .cst .f32 0 <|
  .cst .f32 0 <|
  .cst .f32 0 <|
  .cst .f32 0 <|
  .call 5 [.v 3, .v 4, .v 5, .v 0, .v 1, .v 2] 3 <|
  .call 12 [.v 20, .v 21, .v 22] 4 <|
  .br 26
   (.cst .f32 0 <|
   .cst .f32 0 <|
   .cst .f32 0 <|
   .call 13 [.v 23, .v 24, .v 25, .v 6, .v 7, .v 8] 3 <|
   .call 12 [.v 30, .v 31, .v 32] 4 <|
   .br 36
    (.cst .f32 0 <|
    .cst .f32 0 <|
    .cst .f32 0 <|
    .call 13 [.v 33, .v 34, .v 35, .v 23, .v 24, .v 25] 3 <|
    .cst .f32 0 <|
    .cst .f32 0 <|
    .cst .f32 0 <|
    .cst .f32 0 <|
    .cst .f32 0 <|
    .cst .f32 0 <|
    .cst .f32 0 <|
    .cst .f32 0 <|
    .cst .f32 0 <|
    .ret [.v 33, .v 34, .v 35, .v 40, .v 41, .v 42, .v 23, .v 24, .v 25, .b true])
    (.cst .f32 0 <|
    .cst .f32 0 <|
    .cst .f32 0 <|
    .call 13 [.v 33, .v 34, .v 35, .v 23, .v 24, .v 25] 3 <|
    .cst .f32 0 <|
    .cst .f32 0 <|
    .cst .f32 0 <|
    .cst .f32 0 <|
    .cst .f32 0 <|
    .cst .f32 0 <|
    .cst .f32 0 <|
    .cst .f32 0 <|
    .cst .f32 0 <|
    .ret [.v 33, .v 34, .v 35, .v 40, .v 41, .v 42, .v 23, .v 24, .v 25, .b false]))
   (.cst .f32 0 <|
   .cst .f32 0 <|
   .cst .f32 0 <|
   .call 13 [.v 23, .v 24, .v 25, .v 6, .v 7, .v 8] 3 <|
   .call 12 [.v 30, .v 31, .v 32] 4 <|
   .br 36
    (.cst .f32 0 <|
    .cst .f32 0 <|
    .cst .f32 0 <|
    .call 13 [.v 33, .v 34, .v 35, .v 23, .v 24, .v 25] 3 <|
    .cst .f32 0 <|
    .cst .f32 0 <|
    .cst .f32 0 <|
    .cst .f32 0 <|
    .cst .f32 0 <|
    .cst .f32 0 <|
    .cst .f32 0 <|
    .cst .f32 0 <|
    .cst .f32 0 <|
    .ret [.v 33, .v 34, .v 35, .v 40, .v 41, .v 42, .v 23, .v 24, .v 25, .b false])
    (.cst .f32 0 <|
    .cst .f32 0 <|
    .cst .f32 0 <|
    .call 13 [.v 33, .v 34, .v 35, .v 23, .v 24, .v 25] 3 <|
    .cst .f32 0 <|
    .cst .f32 0 <|
    .cst .f32 0 <|
    .cst .f32 0 <|
    .cst .f32 0 <|
    .cst .f32 0 <|
    .cst .f32 0 <|
    .cst .f32 0 <|
    .cst .f32 0 <|
    .ret [.v 33, .v 34, .v 35, .v 40, .v 41, .v 42, .v 23, .v 24, .v 25, .b false]))
def s14 : Sum := ⟨14, [.ptr [.f .f32, .f .f32, .f .f32, .f .f32, .f .f32, .f .f32, .f .f32, .f .f32, .f .f32, .f .f32, .f .f32]], [.agg [.f .f32, .f .f32, .f .f32, .f .f32, .f .f32, .f .f32, .f .f32, .f .f32, .f .f32], .val (.b)]⟩
/-- loop.example/g01249/spec.l02Ok -/
def t15 : T :=
  .call 4 [.v 0, .v 1, .v 2] 1 <|
  .br 11
   (.call 4 [.v 3, .v 4, .v 5] 1 <|
   .br 12
    (.call 4 [.v 6, .v 7, .v 8] 1 <|
    .br 13
     (.call 3 [.v 9] 1 <|
     .br 14
      (.call 3 [.v 10] 1 <|
      .br 15
       (.cst .f32 1015021568 <|
       .tst 0 .f32 9 16
        (.ret [.b false])
        (.cst .f32 1015021568 <|
        .tst 0 .f32 10 17
         (.ret [.b false])
         (.call 14 [.v 0, .v 1, .v 2, .v 3, .v 4, .v 5, .v 6, .v 7, .v 8, .v 9, .v 10] 10 <|
         .br 27
          (.cst .f32 0 <|
          .cst .f32 0 <|
          .cst .f32 0 <|
          .cst .f32 0 <|
          .cst .f32 0 <|
          .cst .f32 0 <|
          .cst .f32 0 <|
          .cst .f32 0 <|
          .cst .f32 0 <|
          .ret [.b true])
          (.cst .f32 0 <|
          .cst .f32 0 <|
          .cst .f32 0 <|
          .cst .f32 0 <|
          .cst .f32 0 <|
          .cst .f32 0 <|
          .cst .f32 0 <|
          .cst .f32 0 <|
          .cst .f32 0 <|
          .ret [.b false]))))
       (.ret [.b false]))
      (.ret [.b false]))
     (.ret [.b false]))
    (.ret [.b false]))
   (.ret [.b false])
def s15 : Sum := ⟨15, [.ptr [.f .f32, .f .f32, .f .f32, .f .f32, .f .f32, .f .f32, .f .f32, .f .f32, .f .f32, .f .f32, .f .f32]], [.val (.b)]⟩
/-- loop.example/g01249/spec.l02Spot -/
def t16 : T :=
  .call 3 [.v 0] 1 <|
  .br 2
   (.call 3 [.v 1] 1 <|
   .br 3
    (.ret [.b true])
    (.ret [.b false]))
   (.ret [.b false])
def s16 : Sum := ⟨16, [.agg [.f .f32, .f .f32]], [.val (.b)]⟩
/-- loop.example/g01249/spec.l02Way -/
def t17 : T :=
  .cst .f32 0 <|
  .cst .f32 0 <|
  .cst .f32 0 <|
  .cst .f32 0 <|
  .cst .f32 0 <|
  .cst .f32 0 <|
  .cst .f32 0 <|
  .cst .f32 0 <|
  .cst .f32 0 <|
  .bin .mul .f32 17 9 <|
  .bin .mul .f32 11 20 <|
  .bin .add .f32 31 32 <|
  .bin .mul .f32 14 21 <|
  .bin .add .f32 33 34 <|
  .bin .mul .f32 18 9 <|
  .bin .mul .f32 12 20 <|
  .bin .add .f32 36 37 <|
  .bin .mul .f32 15 21 <|
  .bin .add .f32 38 39 <|
  .bin .mul .f32 19 9 <|
  .bin .mul .f32 13 20 <|
  .bin .add .f32 41 42 <|
  .bin .mul .f32 16 21 <|
  .bin .add .f32 43 44 <|
  .ret [.v 35, .v 40, .v 45]
def s17 : Sum := ⟨17, [.ptr [.f .f32, .f .f32, .f .f32, .f .f32, .f .f32, .f .f32, .f .f32, .f .f32, .f .f32, .f .f32, .f .f32], .ptr [.f .f32, .f .f32, .f .f32, .f .f32, .f .f32, .f .f32, .f .f32, .f .f32, .f .f32], .agg [.f .f32, .f .f32]], [.agg [.f .f32, .f .f32, .f .f32]]⟩
/-- loop.example/g01249/spec.ScalePoint -/
def t18 : T :=
  .cst .f32 0 <|
  .cst .f32 0 <|
  .cst .f32 0 <|
  .bin .mul .f32 0 3 <|
  .bin .mul .f32 1 3 <|
  .bin .mul .f32 2 3 <|
  .cst .f32 0 <|
  .cst .f32 0 <|
  .cst .f32 0 <|
  .ret [.v 7, .v 8, .v 9]
def s18 : Sum := ⟨18, [.agg [.f .f32, .f .f32, .f .f32], .val (.f .f32)], [.agg [.f .f32, .f .f32, .f .f32]]⟩
/-- loop.example/g01249/spec.AddPoints -/
def t19 : T :=
  .cst .f32 0 <|
  .cst .f32 0 <|
  .cst .f32 0 <|
  .bin .add .f32 0 3 <|
  .bin .add .f32 1 4 <|
  .bin .add .f32 2 5 <|
  .cst .f32 0 <|
  .cst .f32 0 <|
  .cst .f32 0 <|
  .ret [.v 9, .v 10, .v 11]
def s19 : Sum := ⟨19, [.agg [.f .f32, .f .f32, .f .f32], .agg [.f .f32, .f .f32, .f .f32]], [.agg [.f .f32, .f .f32, .f .f32]]⟩
/-- loop.example/g01249/spec.l01Done -/
def t20 : T :=
  .cst .f32 0 <|
  .cst .f32 0 <|
  .cst .f32 0 <|
  .call 11 [.v 0, .v 1, .v 2] 1 <|
  .br 6
   (.ret [.v 0, .v 1, .v 2, .i .i64 0])
   (.cst .f32 0 <|
   .cst .f32 0 <|
   .cst .f32 0 <|
   .ret [.v 7, .v 8, .v 9, .i .i64 4])
def s20 : Sum := ⟨20, [.agg [.f .f32, .f .f32, .f .f32]], [.agg [.f .f32, .f .f32, .f .f32], .val (.i .i64 [0, 4])]⟩
/-- loop.example/g01249/spec.PointAt -/
def t21 : T :=
  .cst .f32 0 <|
  .cst .f32 0 <|
  .cst .f32 0 <|
  .call 15 [.v 0, .v 1, .v 2, .v 3, .v 4, .v 5, .v 6, .v 7, .v 8, .v 9, .v 10] 1 <|
  .br 17
   (.call 16 [.v 11, .v 12] 1 <|
   .br 18
    (.call 3 [.v 13] 1 <|
    .br 19
     (.tst 0 .f32 13 10
      (.cst .f32 0 <|
      .cst .f32 0 <|
      .cst .f32 0 <|
      .ret [.v 20, .v 21, .v 22, .i .i64 2])
      (.call 14 [.v 0, .v 1, .v 2, .v 3, .v 4, .v 5, .v 6, .v 7, .v 8, .v 9, .v 10] 10 <|
      .br 29
       (.cst .f32 0 <|
       .cst .f32 0 <|
       .cst .f32 0 <|
       .cst .f32 0 <|
       .cst .f32 0 <|
       .cst .f32 0 <|
       .cst .f32 0 <|
       .cst .f32 0 <|
       .cst .f32 0 <|
       .call 17 [.v 0, .v 1, .v 2, .v 3, .v 4, .v 5, .v 6, .v 7, .v 8, .v 9, .v 10, .v 20, .v 21, .v 22, .v 23, .v 24, .v 25, .v 26, .v 27, .v 28, .v 11, .v 12] 3 <|
       .bin .div .f32 13 9 <|
       .call 18 [.v 39, .v 40, .v 41, .v 42] 3 <|
       .call 19 [.v 0, .v 1, .v 2, .v 43, .v 44, .v 45] 3 <|
       .call 20 [.v 46, .v 47, .v 48] 4 <|
       .sw 52 0
        (.ret [.v 49, .v 50, .v 51, .i .i64 0])
        (.sw 52 4
         (.ret [.v 49, .v 50, .v 51, .i .i64 4])
         (.bad "sw")))
       (.cst .f32 0 <|
       .cst .f32 0 <|
       .cst .f32 0 <|
       .cst .f32 0 <|
       .cst .f32 0 <|
       .cst .f32 0 <|
       .cst .f32 0 <|
       .cst .f32 0 <|
       .cst .f32 0 <|
       .call 17 [.v 0, .v 1, .v 2, .v 3, .v 4, .v 5, .v 6, .v 7, .v 8, .v 9, .v 10, .v 20, .v 21, .v 22, .v 23, .v 24, .v 25, .v 26, .v 27, .v 28, .v 11, .v 12] 3 <|
       .bin .div .f32 13 9 <|
       .call 18 [.v 39, .v 40, .v 41, .v 42] 3 <|
       .call 19 [.v 0, .v 1, .v 2, .v 43, .v 44, .v 45] 3 <|
       .call 20 [.v 46, .v 47, .v 48] 4 <|
       .sw 52 0
        (.ret [.v 49, .v 50, .v 51, .i .i64 0])
        (.sw 52 4
         (.ret [.v 49, .v 50, .v 51, .i .i64 4])
         (.bad "sw")))))
     (.cst .f32 0 <|
     .cst .f32 0 <|
     .cst .f32 0 <|
     .ret [.v 20, .v 21, .v 22, .i .i64 2]))
    (.cst .f32 0 <|
    .cst .f32 0 <|
    .cst .f32 0 <|
    .ret [.v 19, .v 20, .v 21, .i .i64 1]))
   (.cst .f32 0 <|
   .cst .f32 0 <|
   .cst .f32 0 <|
   .ret [.v 18, .v 19, .v 20, .i .i64 1])
def s21 : Sum := ⟨21, [.agg [.f .f32, .f .f32, .f .f32, .f .f32, .f .f32, .f .f32, .f .f32, .f .f32, .f .f32, .f .f32, .f .f32], .agg [.f .f32, .f .f32], .val (.f .f32)], [.agg [.f .f32, .f .f32, .f .f32], .val (.i .i64 [2, 0, 4, 1])]⟩
/-- loop.example/g01249/impl.IsPlain -/
def t22 : T :=
  .cst .f32 3379831808 <|
  .tst 1 .f32 1 0
   (.cst .f32 1232348160 <|
   .tst 1 .f32 0 2
    (.ret [.b true])
    (.ret [.b false]))
   (.ret [.b false])
def s22 : Sum := ⟨22, [.val (.f .f32)], [.val (.b)]⟩
/-- loop.example/g01249/impl.arePlain$1 -/
def t23 : T :=
  .call 22 [.v 0] 1 <|
  .br 1
   (.ret [.b false])
   (.ret [.b true])
def s23 : Sum := ⟨23, [.val (.f .f32)], [.val (.b)]⟩
/-- loop.example/g01249/impl.spotCode$1 -/
def t24 : T :=
  .call 23 [.v 0] 1 <|
  .br 2
   (.ret [.b true])
   (.call 23 [.v 1] 1 <|
   .br 3
    (.ret [.b true])
    (.ret [.b false]))
def s24 : Sum := ⟨24, [.agg [.f .f32, .f .f32]], [.val (.b)]⟩
/-- loop.example/g01249/impl.ValidPoint -/
def t25 : T :=
  .call 23 [.v 0] 1 <|
  .br 3
   (.ret [.b false])
   (.call 23 [.v 1] 1 <|
   .br 4
    (.ret [.b false])
    (.call 23 [.v 2] 1 <|
    .br 5
     (.ret [.b false])
     (.ret [.b true])))
def s25 : Sum := ⟨25, [.agg [.f .f32, .f .f32, .f .f32]], [.val (.b)]⟩
/-- loop.example/g01249/impl.arePoints$1 -/
def t26 : T :=
  .call 25 [.v 0, .v 1, .v 2] 1 <|
  .br 3
   (.ret [.b false])
   (.ret [.b true])
def s26 : Sum := ⟨26, [.agg [.f .f32, .f .f32, .f .f32]], [.val (.b)]⟩
/-- loop.example/g01249/impl.SubPoints -/
def t27 : T :=
  .cst .f32 0 <|
  .cst .f32 0 <|
  .cst .f32 0 <|
  .bin .sub .f32 0 3 <|
  .bin .sub .f32 1 4 <|
  .bin .sub .f32 2 5 <|
  .cst .f32 0 <|
  .cst .f32 0 <|
  .cst .f32 0 <|
  .ret [.v 9, .v 10, .v 11]
def s27 : Sum := ⟨27, [.agg [.f .f32, .f .f32, .f .f32], .agg [.f .f32, .f .f32, .f .f32]], [.agg [.f .f32, .f .f32, .f .f32]]⟩
/-- loop.example/g01249/impl.DotOf -/
def t28 : T :=
  .cst .f32 0 <|
  .bin .mul .f32 0 3 <|
  .bin .mul .f32 1 4 <|
  .bin .add .f32 7 8 <|
  .bin .mul .f32 2 5 <|
  .bin .add .f32 9 10 <|
  .ret [.v 11]
def s28 : Sum := ⟨28, [.agg [.f .f32, .f .f32, .f .f32], .agg [.f .f32, .f .f32, .f .f32]], [.val (.f .f32)]⟩
/-- loop.example/g01249/impl.root -/
def t29 : T :=
  .cst .f32 0 <|
  .un .widen .f32 0 <|
  .call 7 [.v 2] 1 <|
  .un .narrow .f64 3 <|
  .ret [.v 4]
def s29 : Sum := ⟨29, [.val (.f .f32)], [.val (.f .f32)]⟩
/-- loop.example/g01249/impl.LengthOf -/
def t30 : T :=
  .cst .f32 0 <|
  .call 28 [.v 0, .v 1, .v 2, .v 0, .v 1, .v 2] 1 <|
  .call 29 [.v 4] 1 <|
  .ret [.v 5]
def s30 : Sum := ⟨30, [.agg [.f .f32, .f .f32, .f .f32]], [.val (.f .f32)]⟩
/-- loop.example/g01249/impl.isFinite -/
def t31 : T :=
  .bin .sub .f32 0 0 <|
  .cst .f32 0 <|
  .tst 2 .f32 1 2
   (.ret [.b true])
   (.ret [.b false])
def s31 : Sum := ⟨31, [.val (.f .f32)], [.val (.b)]⟩
/-- loop.example/g01249/impl.quotients -/
def t32 : T :=
  .cst .f32 0 <|
  .cst .f32 0 <|
  .cst .f32 0 <|
  .bin .div .f32 0 3 <|
  .bin .div .f32 1 3 <|
  .bin .div .f32 2 3 <|
  .cst .f32 0 <|
  .cst .f32 0 <|
  .cst .f32 0 <|
  .ret [.v 7, .v 8, .v 9]
def s32 : Sum := ⟨32, [.agg [.f .f32, .f .f32, .f .f32], .val (.f .f32)], [.agg [.f .f32, .f .f32, .f .f32]]⟩
/-- loop.example/g01249/impl.areFinite$1 -/
def t33 : T :=
  .call 31 [.v 0] 1 <|
  .br 1
   (.ret [.b false])
   (.ret [.b true])
def s33 : Sum := ⟨33, [.val (.f .f32)], [.val (.b)]⟩
/-- loop.example/g01249/impl.unit -/
def t34 : T :=
  .cst .f32 0 <|
  .cst .f32 0 <|
  .cst .f32 0 <|
  .call 30 [.v 0, .v 1, .v 2] 1 <|
  .call 31 [.v 6] 1 <|
  .br 7
   (.cst .f32 897581056 <|
   .tst 0 .f32 6 8
    (.cst .f32 0 <|
    .cst .f32 0 <|
    .cst .f32 0 <|
    .ret [.v 9, .v 10, .v 11, .b false])
    (.call 32 [.v 0, .v 1, .v 2, .v 6] 3 <|
    .cst .f32 0 <|
    .cst .f32 0 <|
    .cst .f32 0 <|
    .call 33 [.v 9] 1 <|
    .br 15
     (.ret [.v 9, .v 10, .v 11, .b false])
     (.call 33 [.v 10] 1 <|
     .br 16
      (.ret [.v 9, .v 10, .v 11, .b false])
      (.call 33 [.v 11] 1 <|
      .br 17
       (.ret [.v 9, .v 10, .v 11, .b false])
       (.ret [.v 9, .v 10, .v 11, .b true])))))
   (.cst .f32 0 <|
   .cst .f32 0 <|
   .cst .f32 0 <|
   .ret [.v 8, .v 9, .v 10, .b false])
def s34 : Sum := ⟨34, [.agg [.f .f32, .f .f32, .f .f32]], [.agg [.f .f32, .f .f32, .f .f32], .val (.b)]⟩
/-- loop.example/g01249/impl.CrossOf -/
def t35 : T :=
  .cst .f32 0 <|
  .cst .f32 0 <|
  .cst .f32 0 <|
  .bin .mul .f32 1 5 <|
  .bin .mul .f32 2 4 <|
  .bin .sub .f32 9 10 <|
  .bin .mul .f32 2 3 <|
  .bin .mul .f32 0 5 <|
  .bin .sub .f32 12 13 <|
  .bin .mul .f32 0 4 <|
  .bin .mul .f32 1 3 <|
  .bin .sub .f32 15 16 <|
  .cst .f32 0 <|
  .cst .f32 0 <|
  .cst .f32 0 <|
  .ret [.v 11, .v 14, .v 17]
def s35 : Sum := ⟨35, [.agg [.f .f32, .f .f32, .f .f32], .agg [.f .f32, .f .f32, .f .f32]], [.agg [.f .f32, .f .f32, .f .f32]]⟩
/-- (*loop.example/g01249/impl.Camera).frame -/
def t36 : T :=
  .cst .f32 0 <|
  .cst .f32 0 <|
  .cst .f32 0 <|
  .cst .f32 0 <|
  .cst .f32 0 <|
  .cst .f32 0 <|
  .cst .f32 0 <|
  .cst .f32 0 <|
  .cst .f32 0 <|
  .call 27 [.v 3, .v 4, .v 5, .v 0, .v 1, .v 2] 3 <|
  .call 34 [.v 20, .v 21, .v 22] 4 <|
  .br 26
   (.cst .f32 0 <|
   .cst .f32 0 <|
   .cst .f32 0 <|
   .call 35 [.v 23, .v 24, .v 25, .v 6, .v 7, .v 8] 3 <|
   .call 34 [.v 30, .v 31, .v 32] 4 <|
   .br 36
    (.cst .f32 0 <|
    .cst .f32 0 <|
    .cst .f32 0 <|
    .call 35 [.v 33, .v 34, .v 35, .v 23, .v 24, .v 25] 3 <|
    .cst .f32 0 <|
    .cst .f32 0 <|
    .cst .f32 0 <|
    .cst .f32 0 <|
    .cst .f32 0 <|
    .cst .f32 0 <|
    .cst .f32 0 <|
    .cst .f32 0 <|
    .cst .f32 0 <|
    .ret [.v 33, .v 34, .v 35, .v 40, .v 41, .v 42, .v 23, .v 24, .v 25, .b true])
    (.cst .f32 0 <|
    .cst .f32 0 <|
    .cst .f32 0 <|
    .call 35 [.v 33, .v 34, .v 35, .v 23, .v 24, .v 25] 3 <|
    .cst .f32 0 <|
    .cst .f32 0 <|
    .cst .f32 0 <|
    .cst .f32 0 <|
    .cst .f32 0 <|
    .cst .f32 0 <|
    .cst .f32 0 <|
    .cst .f32 0 <|
    .cst .f32 0 <|
    .ret [.v 33, .v 34, .v 35, .v 40, .v 41, .v 42, .v 23, .v 24, .v 25, .b false]))
   (.cst .f32 0 <|
   .cst .f32 0 <|
   .cst .f32 0 <|
   .call 35 [.v 23, .v 24, .v 25, .v 6, .v 7, .v 8] 3 <|
   .call 34 [.v 30, .v 31, .v 32] 4 <|
   .br 36
    (.cst .f32 0 <|
    .cst .f32 0 <|
    .cst .f32 0 <|
    .call 35 [.v 33, .v 34, .v 35, .v 23, .v 24, .v 25] 3 <|
    .cst .f32 0 <|
    .cst .f32 0 <|
    .cst .f32 0 <|
    .cst .f32 0 <|
    .cst .f32 0 <|
    .cst .f32 0 <|
    .cst .f32 0 <|
    .cst .f32 0 <|
    .cst .f32 0 <|
    .ret [.v 33, .v 34, .v 35, .v 40, .v 41, .v 42, .v 23, .v 24, .v 25, .b false])
    (.cst .f32 0 <|
    .cst .f32 0 <|
    .cst .f32 0 <|
    .call 35 [.v 33, .v 34, .v 35, .v 23, .v 24, .v 25] 3 <|
    .cst .f32 0 <|
    .cst .f32 0 <|
    .cst .f32 0 <|
    .cst .f32 0 <|
    .cst .f32 0 <|
    .cst .f32 0 <|
    .cst .f32 0 <|
    .cst .f32 0 <|
    .cst .f32 0 <|
    .ret [.v 33, .v 34, .v 35, .v 40, .v 41, .v 42, .v 23, .v 24, .v 25, .b false]))
def s36 : Sum := ⟨36, [.ptr [.f .f32, .f .f32, .f .f32, .f .f32, .f .f32, .f .f32, .f .f32, .f .f32, .f .f32, .f .f32, .f .f32]], [.agg [.f .f32, .f .f32, .f .f32, .f .f32, .f .f32, .f .f32, .f .f32, .f .f32, .f .f32], .val (.b)]⟩
/-- loop.example/g01249/impl.ValidCamera -/
def t37 : T :=
  .cst .f32 0 <|
  .cst .f32 0 <|
  .cst .f32 0 <|
  .call 26 [.v 0, .v 1, .v 2] 1 <|
  .br 14
   (.ret [.b false])
   (.call 26 [.v 3, .v 4, .v 5] 1 <|
   .br 15
    (.ret [.b false])
    (.call 26 [.v 6, .v 7, .v 8] 1 <|
    .br 16
     (.ret [.b false])
     (.cst .f32 0 <|
     .call 23 [.v 9] 1 <|
     .br 18
      (.ret [.b false])
      (.call 23 [.v 10] 1 <|
      .br 19
       (.ret [.b false])
       (.cst .f32 1015021568 <|
       .tst 1 .f32 20 9
        (.cst .f32 1015021568 <|
        .tst 1 .f32 21 10
         (.call 36 [.v 0, .v 1, .v 2, .v 3, .v 4, .v 5, .v 6, .v 7, .v 8, .v 9, .v 10] 10 <|
         .br 31
          (.cst .f32 0 <|
          .cst .f32 0 <|
          .cst .f32 0 <|
          .cst .f32 0 <|
          .cst .f32 0 <|
          .cst .f32 0 <|
          .cst .f32 0 <|
          .cst .f32 0 <|
          .cst .f32 0 <|
          .ret [.b true])
          (.cst .f32 0 <|
          .cst .f32 0 <|
          .cst .f32 0 <|
          .cst .f32 0 <|
          .cst .f32 0 <|
          .cst .f32 0 <|
          .cst .f32 0 <|
          .cst .f32 0 <|
          .cst .f32 0 <|
          .ret [.b false]))
         (.ret [.b false]))
        (.ret [.b false]))))))
def s37 : Sum := ⟨37, [.agg [.f .f32, .f .f32, .f .f32, .f .f32, .f .f32, .f .f32, .f .f32, .f .f32, .f .f32, .f .f32, .f .f32]], [.val (.b)]⟩
/-- loop.example/g01249/impl.viewOf -/
def t38 : T :=
  .cst .f32 0 <|
  .cst .f32 0 <|
  .cst .f32 0 <|
  .cst .f32 0 <|
  .cst .f32 0 <|
  .cst .f32 0 <|
  .cst .f32 0 <|
  .cst .f32 0 <|
  .cst .f32 0 <|
  .cst .f32 0 <|
  .cst .f32 0 <|
  .cst .f32 0 <|
  .cst .f32 0 <|
  .cst .f32 0 <|
  .cst .f32 0 <|
  .cst .f32 0 <|
  .cst .f32 0 <|
  .cst .f32 0 <|
  .cst .f32 0 <|
  .cst .f32 0 <|
  .call 36 [.v 0, .v 1, .v 2, .v 3, .v 4, .v 5, .v 6, .v 7, .v 8, .v 9, .v 10] 10 <|
  .br 40
   (.cst .f32 0 <|
   .cst .f32 0 <|
   .cst .f32 0 <|
   .cst .f32 0 <|
   .cst .f32 0 <|
   .cst .f32 0 <|
   .cst .f32 0 <|
   .cst .f32 0 <|
   .cst .f32 0 <|
   .cst .f32 0 <|
   .cst .f32 0 <|
   .cst .f32 0 <|
   .cst .f32 0 <|
   .cst .f32 0 <|
   .cst .f32 0 <|
   .cst .f32 0 <|
   .cst .f32 0 <|
   .cst .f32 0 <|
   .cst .f32 0 <|
   .cst .f32 0 <|
   .cst .f32 0 <|
   .cst .f32 0 <|
   .cst .f32 0 <|
   .cst .f32 0 <|
   .cst .f32 0 <|
   .cst .f32 0 <|
   .cst .f32 0 <|
   .cst .f32 0 <|
   .cst .f32 0 <|
   .ret [.v 0, .v 1, .v 2, .v 3, .v 4, .v 5, .v 6, .v 7, .v 8, .v 9, .v 10, .v 31, .v 32, .v 33, .v 34, .v 35, .v 36, .v 37, .v 38, .v 39])
   (.cst .f32 0 <|
   .cst .f32 0 <|
   .cst .f32 0 <|
   .cst .f32 0 <|
   .cst .f32 0 <|
   .cst .f32 0 <|
   .cst .f32 0 <|
   .cst .f32 0 <|
   .cst .f32 0 <|
   .cst .f32 0 <|
   .cst .f32 0 <|
   .cst .f32 0 <|
   .cst .f32 0 <|
   .cst .f32 0 <|
   .cst .f32 0 <|
   .cst .f32 0 <|
   .cst .f32 0 <|
   .cst .f32 0 <|
   .cst .f32 0 <|
   .cst .f32 0 <|
   .cst .f32 0 <|
   .cst .f32 0 <|
   .cst .f32 0 <|
   .cst .f32 0 <|
   .cst .f32 0 <|
   .cst .f32 0 <|
   .cst .f32 0 <|
   .cst .f32 0 <|
   .cst .f32 0 <|
   .ret [.v 0, .v 1, .v 2, .v 3, .v 4, .v 5, .v 6, .v 7, .v 8, .v 9, .v 10, .v 31, .v 32, .v 33, .v 34, .v 35, .v 36, .v 37, .v 38, .v 39])
def s38 : Sum := ⟨38, [.agg [.f .f32, .f .f32, .f .f32, .f .f32, .f .f32, .f .f32, .f .f32, .f .f32, .f .f32, .f .f32, .f .f32]], [.agg [.f .f32, .f .f32, .f .f32, .f .f32, .f .f32, .f .f32, .f .f32, .f .f32, .f .f32, .f .f32, .f .f32, .f .f32, .f .f32, .f .f32, .f .f32, .f .f32, .f .f32, .f .f32, .f .f32, .f .f32]]⟩
/-- loop.example/g01249/impl.ScalePoint -/
def t39 : T :=
  .cst .f32 0 <|
  .cst .f32 0 <|
  .cst .f32 0 <|
  .bin .mul .f32 0 3 <|
  .bin .mul .f32 1 3 <|
  .bin .mul .f32 2 3 <|
  .cst .f32 0 <|
  .cst .f32 0 <|
  .cst .f32 0 <|
  .ret [.v 7, .v 8, .v 9]
def s39 : Sum := ⟨39, [.agg [.f .f32, .f .f32, .f .f32], .val (.f .f32)], [.agg [.f .f32, .f .f32, .f .f32]]⟩
/-- loop.example/g01249/impl.AddPoints -/
def t40 : T :=
  .cst .f32 0 <|
  .cst .f32 0 <|
  .cst .f32 0 <|
  .bin .add .f32 0 3 <|
  .bin .add .f32 1 4 <|
  .bin .add .f32 2 5 <|
  .cst .f32 0 <|
  .cst .f32 0 <|
  .cst .f32 0 <|
  .ret [.v 9, .v 10, .v 11]
def s40 : Sum := ⟨40, [.agg [.f .f32, .f .f32, .f .f32], .agg [.f .f32, .f .f32, .f .f32]], [.agg [.f .f32, .f .f32, .f .f32]]⟩
/-- (*loop.example/g01249/impl.view).through -/
def t41 : T :=
  .cst .f32 0 <|
  .cst .f32 0 <|
  .cst .f32 0 <|
  .call 39 [.v 17, .v 18, .v 19, .v 9] 3 <|
  .call 39 [.v 11, .v 12, .v 13, .v 20] 3 <|
  .call 40 [.v 25, .v 26, .v 27, .v 28, .v 29, .v 30] 3 <|
  .call 39 [.v 14, .v 15, .v 16, .v 21] 3 <|
  .call 40 [.v 31, .v 32, .v 33, .v 34, .v 35, .v 36] 3 <|
  .ret [.v 37, .v 38, .v 39]
def s41 : Sum := ⟨41, [.ptr [.f .f32, .f .f32, .f .f32, .f .f32, .f .f32, .f .f32, .f .f32, .f .f32, .f .f32, .f .f32, .f .f32, .f .f32, .f .f32, .f .f32, .f .f32, .f .f32, .f .f32, .f .f32, .f .f32, .f .f32], .agg [.f .f32, .f .f32]], [.agg [.f .f32, .f .f32, .f .f32]]⟩
/-- loop.example/g01249/impl.finite -/
def t42 : T :=
  .cst .f32 0 <|
  .cst .f32 0 <|
  .cst .f32 0 <|
  .call 33 [.v 0] 1 <|
  .br 6
   (.cst .f32 0 <|
   .cst .f32 0 <|
   .cst .f32 0 <|
   .ret [.v 7, .v 8, .v 9, .i .i64 4])
   (.call 33 [.v 1] 1 <|
   .br 7
    (.cst .f32 0 <|
    .cst .f32 0 <|
    .cst .f32 0 <|
    .ret [.v 8, .v 9, .v 10, .i .i64 4])
    (.call 33 [.v 2] 1 <|
    .br 8
     (.cst .f32 0 <|
     .cst .f32 0 <|
     .cst .f32 0 <|
     .ret [.v 9, .v 10, .v 11, .i .i64 4])
     (.ret [.v 0, .v 1, .v 2, .i .i64 0])))
def s42 : Sum := ⟨42, [.agg [.f .f32, .f .f32, .f .f32]], [.agg [.f .f32, .f .f32, .f .f32], .val (.i .i64 [4, 0])]⟩
/-- loop.example/g01249/impl.PointAt -/
def t43 : T :=
  .cst .f32 0 <|
  .cst .f32 0 <|
  .cst .f32 0 <|
  .cst .f32 0 <|
  .cst .f32 0 <|
  .call 24 [.v 11, .v 12] 1 <|
  .br 19
   (.call 37 [.v 0, .v 1, .v 2, .v 3, .v 4, .v 5, .v 6, .v 7, .v 8, .v 9, .v 10] 1 <|
   .br 20
    (.call 22 [.v 13] 1 <|
    .br 21
     (.tst 0 .f32 13 10
      (.cst .f32 0 <|
      .cst .f32 0 <|
      .cst .f32 0 <|
      .ret [.v 22, .v 23, .v 24, .i .i64 1])
      (.cst .f32 0 <|
      .cst .f32 0 <|
      .cst .f32 0 <|
      .ret [.v 22, .v 23, .v 24, .i .i64 1]))
     (.cst .f32 0 <|
     .cst .f32 0 <|
     .cst .f32 0 <|
     .ret [.v 22, .v 23, .v 24, .i .i64 1]))
    (.call 22 [.v 13] 1 <|
    .br 21
     (.tst 0 .f32 13 10
      (.cst .f32 0 <|
      .cst .f32 0 <|
      .cst .f32 0 <|
      .ret [.v 22, .v 23, .v 24, .i .i64 1])
      (.cst .f32 0 <|
      .cst .f32 0 <|
      .cst .f32 0 <|
      .ret [.v 22, .v 23, .v 24, .i .i64 1]))
     (.cst .f32 0 <|
     .cst .f32 0 <|
     .cst .f32 0 <|
     .ret [.v 22, .v 23, .v 24, .i .i64 1])))
   (.call 37 [.v 0, .v 1, .v 2, .v 3, .v 4, .v 5, .v 6, .v 7, .v 8, .v 9, .v 10] 1 <|
   .br 20
    (.call 22 [.v 13] 1 <|
    .br 21
     (.tst 0 .f32 13 10
      (.cst .f32 0 <|
      .cst .f32 0 <|
      .cst .f32 0 <|
      .ret [.v 22, .v 23, .v 24, .i .i64 2])
      (.call 38 [.v 0, .v 1, .v 2, .v 3, .v 4, .v 5, .v 6, .v 7, .v 8, .v 9, .v 10] 20 <|
      .cst .f32 0 <|
      .cst .f32 0 <|
      .cst .f32 0 <|
      .cst .f32 0 <|
      .cst .f32 0 <|
      .cst .f32 0 <|
      .cst .f32 0 <|
      .cst .f32 0 <|
      .cst .f32 0 <|
      .cst .f32 0 <|
      .cst .f32 0 <|
      .cst .f32 0 <|
      .cst .f32 0 <|
      .cst .f32 0 <|
      .cst .f32 0 <|
      .cst .f32 0 <|
      .cst .f32 0 <|
      .cst .f32 0 <|
      .cst .f32 0 <|
      .cst .f32 0 <|
      .call 41 [.v 22, .v 23, .v 24, .v 25, .v 26, .v 27, .v 28, .v 29, .v 30, .v 31, .v 32, .v 33, .v 34, .v 35, .v 36, .v 37, .v 38, .v 39, .v 40, .v 41, .v 11, .v 12] 3 <|
      .bin .div .f32 13 9 <|
      .call 39 [.v 62, .v 63, .v 64, .v 65] 3 <|
      .call 40 [.v 0, .v 1, .v 2, .v 66, .v 67, .v 68] 3 <|
      .call 42 [.v 69, .v 70, .v 71] 4 <|
      .sw 75 4
       (.ret [.v 72, .v 73, .v 74, .i .i64 4])
       (.sw 75 0
        (.ret [.v 72, .v 73, .v 74, .i .i64 0])
        (.bad "sw"))))
     (.cst .f32 0 <|
     .cst .f32 0 <|
     .cst .f32 0 <|
     .ret [.v 22, .v 23, .v 24, .i .i64 2]))
    (.call 22 [.v 13] 1 <|
    .br 21
     (.tst 0 .f32 13 10
      (.cst .f32 0 <|
      .cst .f32 0 <|
      .cst .f32 0 <|
      .ret [.v 22, .v 23, .v 24, .i .i64 1])
      (.cst .f32 0 <|
      .cst .f32 0 <|
      .cst .f32 0 <|
      .ret [.v 22, .v 23, .v 24, .i .i64 1]))
     (.cst .f32 0 <|
     .cst .f32 0 <|
     .cst .f32 0 <|
     .ret [.v 22, .v 23, .v 24, .i .i64 1])))
def s43 : Sum := ⟨43, [.agg [.f .f32, .f .f32, .f .f32, .f .f32, .f .f32, .f .f32, .f .f32, .f .f32, .f .f32, .f .f32, .f .f32], .agg [.f .f32, .f .f32], .val (.f .f32)], [.agg [.f .f32, .f .f32, .f .f32], .val (.i .i64 [1, 2, 4, 0])]⟩
/-- loop.example/g01249/laws.sameFloat -/
def t44 : T :=
  .tst 2 .f64 0 0
   (.tst 2 .f64 1 1
    (.cst .f64 0 <|
    .tst 2 .f64 0 2
     (.cst .f64 0 <|
     .tst 2 .f64 1 3
      (.cst .f64 4607182418800017408 <|
      .bin .div .f64 4 0 <|
      .cst .f64 0 <|
      .tst 0 .f64 6 5
       (.cst .f64 4607182418800017408 <|
       .bin .div .f64 7 1 <|
       .cst .f64 0 <|
       .tst 0 .f64 9 8
        (.ret [.b true])
        (.ret [.b false]))
       (.cst .f64 4607182418800017408 <|
       .bin .div .f64 7 1 <|
       .cst .f64 0 <|
       .tst 0 .f64 9 8
        (.ret [.b false])
        (.ret [.b true])))
      (.tst 2 .f64 0 1
       (.ret [.b true])
       (.ret [.b false])))
     (.tst 2 .f64 0 1
      (.ret [.b true])
      (.ret [.b false])))
    (.tst 2 .f64 0 0
     (.ret [.b false])
     (.tst 2 .f64 1 1
      (.ret [.b false])
      (.ret [.b true]))))
   (.tst 2 .f64 0 0
    (.ret [.b false])
    (.tst 2 .f64 1 1
     (.ret [.b false])
     (.ret [.b true])))
def s44 : Sum := ⟨44, [.val (.f .f64), .val (.f .f64)], [.val (.b)]⟩
/-- loop.example/g01249/laws.eqPoint -/
def t45 : T :=
  .un .widen .f32 0 <|
  .un .widen .f32 3 <|
  .call 44 [.v 6, .v 7] 1 <|
  .br 8
   (.un .widen .f32 1 <|
   .un .widen .f32 4 <|
   .call 44 [.v 9, .v 10] 1 <|
   .br 11
    (.un .widen .f32 2 <|
    .un .widen .f32 5 <|
    .call 44 [.v 12, .v 13] 1 <|
    .br 14
     (.ret [.b true])
     (.ret [.b false]))
    (.ret [.b false]))
   (.ret [.b false])
def s45 : Sum := ⟨45, [.agg [.f .f32, .f .f32, .f .f32], .agg [.f .f32, .f .f32, .f .f32]], [.val (.b)]⟩
/-- loop.example/g01249/laws.FnExactPointAt -/
def t46 : T :=
  .call 1 [.v 0, .v 1, .v 2, .v 3, .v 4, .v 5, .v 6, .v 7, .v 8, .v 9, .v 10] 11 <|
  .call 2 [.v 11, .v 12] 2 <|
  .call 21 [.v 14, .v 15, .v 16, .v 17, .v 18, .v 19, .v 20, .v 21, .v 22, .v 23, .v 24, .v 25, .v 26, .v 13] 4 <|
  .sw 30 2
   (.cst .f32 0 <|
   .cst .f32 0 <|
   .cst .f32 0 <|
   .call 1 [.v 0, .v 1, .v 2, .v 3, .v 4, .v 5, .v 6, .v 7, .v 8, .v 9, .v 10] 11 <|
   .call 2 [.v 11, .v 12] 2 <|
   .call 43 [.v 34, .v 35, .v 36, .v 37, .v 38, .v 39, .v 40, .v 41, .v 42, .v 43, .v 44, .v 45, .v 46, .v 13] 4 <|
   .sw 50 1
    (.cst .f32 0 <|
    .cst .f32 0 <|
    .cst .f32 0 <|
    .call 45 [.v 47, .v 48, .v 49, .v 27, .v 28, .v 29] 1 <|
    .br 54
     (.ret [.b false])
     (.ret [.b false]))
    (.sw 50 2
     (.cst .f32 0 <|
     .cst .f32 0 <|
     .cst .f32 0 <|
     .call 45 [.v 47, .v 48, .v 49, .v 27, .v 28, .v 29] 1 <|
     .br 54
      (.ret [.b true])
      (.ret [.b false]))
     (.sw 50 4
      (.cst .f32 0 <|
      .cst .f32 0 <|
      .cst .f32 0 <|
      .call 45 [.v 47, .v 48, .v 49, .v 27, .v 28, .v 29] 1 <|
      .br 54
       (.ret [.b false])
       (.ret [.b false]))
      (.sw 50 0
       (.cst .f32 0 <|
       .cst .f32 0 <|
       .cst .f32 0 <|
       .call 45 [.v 47, .v 48, .v 49, .v 27, .v 28, .v 29] 1 <|
       .br 54
        (.ret [.b false])
        (.ret [.b false]))
       (.bad "sw")))))
   (.sw 30 0
    (.cst .f32 0 <|
    .cst .f32 0 <|
    .cst .f32 0 <|
    .call 1 [.v 0, .v 1, .v 2, .v 3, .v 4, .v 5, .v 6, .v 7, .v 8, .v 9, .v 10] 11 <|
    .call 2 [.v 11, .v 12] 2 <|
    .call 43 [.v 34, .v 35, .v 36, .v 37, .v 38, .v 39, .v 40, .v 41, .v 42, .v 43, .v 44, .v 45, .v 46, .v 13] 4 <|
    .sw 50 1
     (.cst .f32 0 <|
     .cst .f32 0 <|
     .cst .f32 0 <|
     .call 45 [.v 47, .v 48, .v 49, .v 27, .v 28, .v 29] 1 <|
     .br 54
      (.ret [.b false])
      (.ret [.b false]))
     (.sw 50 2
      (.cst .f32 0 <|
      .cst .f32 0 <|
      .cst .f32 0 <|
      .call 45 [.v 47, .v 48, .v 49, .v 27, .v 28, .v 29] 1 <|
      .br 54
       (.ret [.b false])
       (.ret [.b false]))
      (.sw 50 4
       (.cst .f32 0 <|
       .cst .f32 0 <|
       .cst .f32 0 <|
       .call 45 [.v 47, .v 48, .v 49, .v 27, .v 28, .v 29] 1 <|
       .br 54
        (.ret [.b false])
        (.ret [.b false]))
       (.sw 50 0
        (.cst .f32 0 <|
        .cst .f32 0 <|
        .cst .f32 0 <|
        .call 45 [.v 47, .v 48, .v 49, .v 27, .v 28, .v 29] 1 <|
        .br 54
         (.ret [.b true])
         (.ret [.b false]))
        (.bad "sw")))))
    (.sw 30 4
     (.cst .f32 0 <|
     .cst .f32 0 <|
     .cst .f32 0 <|
     .call 1 [.v 0, .v 1, .v 2, .v 3, .v 4, .v 5, .v 6, .v 7, .v 8, .v 9, .v 10] 11 <|
     .call 2 [.v 11, .v 12] 2 <|
     .call 43 [.v 34, .v 35, .v 36, .v 37, .v 38, .v 39, .v 40, .v 41, .v 42, .v 43, .v 44, .v 45, .v 46, .v 13] 4 <|
     .sw 50 1
      (.cst .f32 0 <|
      .cst .f32 0 <|
      .cst .f32 0 <|
      .call 45 [.v 47, .v 48, .v 49, .v 27, .v 28, .v 29] 1 <|
      .br 54
       (.ret [.b false])
       (.ret [.b false]))
      (.sw 50 2
       (.cst .f32 0 <|
       .cst .f32 0 <|
       .cst .f32 0 <|
       .call 45 [.v 47, .v 48, .v 49, .v 27, .v 28, .v 29] 1 <|
       .br 54
        (.ret [.b false])
        (.ret [.b false]))
       (.sw 50 4
        (.cst .f32 0 <|
        .cst .f32 0 <|
        .cst .f32 0 <|
        .call 45 [.v 47, .v 48, .v 49, .v 27, .v 28, .v 29] 1 <|
        .br 54
         (.ret [.b true])
         (.ret [.b false]))
        (.sw 50 0
         (.cst .f32 0 <|
         .cst .f32 0 <|
         .cst .f32 0 <|
         .call 45 [.v 47, .v 48, .v 49, .v 27, .v 28, .v 29] 1 <|
         .br 54
          (.ret [.b false])
          (.ret [.b false]))
         (.bad "sw")))))
     (.sw 30 1
      (.cst .f32 0 <|
      .cst .f32 0 <|
      .cst .f32 0 <|
      .call 1 [.v 0, .v 1, .v 2, .v 3, .v 4, .v 5, .v 6, .v 7, .v 8, .v 9, .v 10] 11 <|
      .call 2 [.v 11, .v 12] 2 <|
      .call 43 [.v 34, .v 35, .v 36, .v 37, .v 38, .v 39, .v 40, .v 41, .v 42, .v 43, .v 44, .v 45, .v 46, .v 13] 4 <|
      .sw 50 1
       (.cst .f32 0 <|
       .cst .f32 0 <|
       .cst .f32 0 <|
       .call 45 [.v 47, .v 48, .v 49, .v 27, .v 28, .v 29] 1 <|
       .br 54
        (.ret [.b true])
        (.ret [.b false]))
       (.sw 50 2
        (.cst .f32 0 <|
        .cst .f32 0 <|
        .cst .f32 0 <|
        .call 45 [.v 47, .v 48, .v 49, .v 27, .v 28, .v 29] 1 <|
        .br 54
         (.ret [.b false])
         (.ret [.b false]))
        (.sw 50 4
         (.cst .f32 0 <|
         .cst .f32 0 <|
         .cst .f32 0 <|
         .call 45 [.v 47, .v 48, .v 49, .v 27, .v 28, .v 29] 1 <|
         .br 54
          (.ret [.b false])
          (.ret [.b false]))
         (.sw 50 0
          (.cst .f32 0 <|
          .cst .f32 0 <|
          .cst .f32 0 <|
          .call 45 [.v 47, .v 48, .v 49, .v 27, .v 28, .v 29] 1 <|
          .br 54
           (.ret [.b false])
           (.ret [.b false]))
          (.bad "sw")))))
      (.bad "sw"))))
def s46 : Sum := ⟨46, [.agg [.f .f32, .f .f32, .f .f32, .f .f32, .f .f32, .f .f32, .f .f32, .f .f32, .f .f32, .f .f32, .f .f32], .agg [.f .f32, .f .f32], .val (.f .f32)], [.val (.b)]⟩
/-- loop.example/g01249/laws.toPlane -/
def t47 : T :=
  .cst .f32 0 <|
  .cst .f32 0 <|
  .cst .f32 0 <|
  .cst .f32 0 <|
  .cst .f32 0 <|
  .cst .f32 0 <|
  .cst .f32 0 <|
  .cst .f32 0 <|
  .call 0 [.v 0, .v 1, .v 2] 3 <|
  .ret [.v 12, .v 13, .v 14, .v 3]
def s47 : Sum := ⟨47, [.agg [.f .f32, .f .f32, .f .f32, .f .f32]], [.agg [.f .f32, .f .f32, .f .f32, .f .f32]]⟩
/-- loop.example/g01249/spec.l01Plane -/
def t48 : T :=
  .call 9 [.v 0, .v 1, .v 2] 1 <|
  .call 4 [.v 0, .v 1, .v 2] 1 <|
  .br 5
   (.call 3 [.v 3] 1 <|
   .br 6
    (.cst .f32 1065336439 <|
    .tst 1 .f32 7 4
     (.cst .f32 1065361605 <|
     .tst 1 .f32 4 8
      (.ret [.b true])
      (.ret [.b false]))
     (.ret [.b false]))
    (.ret [.b false]))
   (.ret [.b false])
def s48 : Sum := ⟨48, [.ptr [.f .f32, .f .f32, .f .f32, .f .f32]], [.val (.b)]⟩
/-- loop.example/g01249/spec.HorizonOf -/
def t49 : T :=
  .cst .f32 0 <|
  .cst .f32 0 <|
  .cst .f32 0 <|
  .call 15 [.v 0, .v 1, .v 2, .v 3, .v 4, .v 5, .v 6, .v 7, .v 8, .v 9, .v 10] 1 <|
  .br 18
   (.call 48 [.v 11, .v 12, .v 13, .v 14] 1 <|
   .br 19
    (.call 14 [.v 0, .v 1, .v 2, .v 3, .v 4, .v 5, .v 6, .v 7, .v 8, .v 9, .v 10] 10 <|
    .br 29
     (.cst .f32 0 <|
     .cst .f32 0 <|
     .cst .f32 0 <|
     .cst .f32 0 <|
     .cst .f32 0 <|
     .cst .f32 0 <|
     .cst .f32 0 <|
     .cst .f32 0 <|
     .cst .f32 0 <|
     .call 6 [.v 11, .v 12, .v 13, .v 20, .v 21, .v 22] 1 <|
     .call 6 [.v 11, .v 12, .v 13, .v 23, .v 24, .v 25] 1 <|
     .call 6 [.v 11, .v 12, .v 13, .v 26, .v 27, .v 28] 1 <|
     .bin .mul .f32 41 9 <|
     .un .neg .f32 42 <|
     .cst .f32 0 <|
     .cst .f32 0 <|
     .cst .f32 0 <|
     .call 20 [.v 39, .v 40, .v 43] 4 <|
     .sw 50 0
      (.ret [.v 47, .v 48, .v 49, .i .i64 0])
      (.sw 50 4
       (.ret [.v 47, .v 48, .v 49, .i .i64 4])
       (.bad "sw")))
     (.cst .f32 0 <|
     .cst .f32 0 <|
     .cst .f32 0 <|
     .cst .f32 0 <|
     .cst .f32 0 <|
     .cst .f32 0 <|
     .cst .f32 0 <|
     .cst .f32 0 <|
     .cst .f32 0 <|
     .call 6 [.v 11, .v 12, .v 13, .v 20, .v 21, .v 22] 1 <|
     .call 6 [.v 11, .v 12, .v 13, .v 23, .v 24, .v 25] 1 <|
     .call 6 [.v 11, .v 12, .v 13, .v 26, .v 27, .v 28] 1 <|
     .bin .mul .f32 41 9 <|
     .un .neg .f32 42 <|
     .cst .f32 0 <|
     .cst .f32 0 <|
     .cst .f32 0 <|
     .call 20 [.v 39, .v 40, .v 43] 4 <|
     .sw 50 0
      (.ret [.v 47, .v 48, .v 49, .i .i64 0])
      (.sw 50 4
       (.ret [.v 47, .v 48, .v 49, .i .i64 4])
       (.bad "sw"))))
    (.cst .f32 0 <|
    .cst .f32 0 <|
    .cst .f32 0 <|
    .ret [.v 20, .v 21, .v 22, .i .i64 1]))
   (.cst .f32 0 <|
   .cst .f32 0 <|
   .cst .f32 0 <|
   .ret [.v 19, .v 20, .v 21, .i .i64 1])
def s49 : Sum := ⟨49, [.agg [.f .f32, .f .f32, .f .f32, .f .f32, .f .f32, .f .f32, .f .f32, .f .f32, .f .f32, .f .f32, .f .f32], .agg [.f .f32, .f .f32, .f .f32, .f .f32]], [.agg [.f .f32, .f .f32, .f .f32], .val (.i .i64 [0, 4, 1])]⟩
/-- loop.example/g01249/impl.ValidPlane -/
def t50 : T :=
  .call 30 [.v 0, .v 1, .v 2] 1 <|
  .call 22 [.v 3] 1 <|
  .br 5
   (.call 25 [.v 0, .v 1, .v 2] 1 <|
   .br 6
    (.cst .f32 1065336439 <|
    .tst 1 .f32 7 4
     (.cst .f32 1065361605 <|
     .tst 1 .f32 4 8
      (.ret [.b true])
      (.ret [.b false]))
     (.ret [.b false]))
    (.ret [.b false]))
   (.ret [.b false])
def s50 : Sum := ⟨50, [.agg [.f .f32, .f .f32, .f .f32, .f .f32]], [.val (.b)]⟩
/-- loop.example/g01249/impl.HorizonOf -/
def t51 : T :=
  .cst .f32 0 <|
  .cst .f32 0 <|
  .cst .f32 0 <|
  .call 37 [.v 0, .v 1, .v 2, .v 3, .v 4, .v 5, .v 6, .v 7, .v 8, .v 9, .v 10] 1 <|
  .br 18
   (.call 50 [.v 11, .v 12, .v 13, .v 14] 1 <|
   .br 19
    (.call 38 [.v 0, .v 1, .v 2, .v 3, .v 4, .v 5, .v 6, .v 7, .v 8, .v 9, .v 10] 20 <|
    .cst .f32 0 <|
    .cst .f32 0 <|
    .cst .f32 0 <|
    .cst .f32 0 <|
    .cst .f32 0 <|
    .cst .f32 0 <|
    .cst .f32 0 <|
    .cst .f32 0 <|
    .cst .f32 0 <|
    .cst .f32 0 <|
    .cst .f32 0 <|
    .cst .f32 0 <|
    .cst .f32 0 <|
    .cst .f32 0 <|
    .cst .f32 0 <|
    .cst .f32 0 <|
    .cst .f32 0 <|
    .cst .f32 0 <|
    .cst .f32 0 <|
    .cst .f32 0 <|
    .call 28 [.v 11, .v 12, .v 13, .v 31, .v 32, .v 33] 1 <|
    .call 28 [.v 11, .v 12, .v 13, .v 34, .v 35, .v 36] 1 <|
    .call 28 [.v 11, .v 12, .v 13, .v 37, .v 38, .v 39] 1 <|
    .bin .mul .f32 62 9 <|
    .un .neg .f32 63 <|
    .cst .f32 0 <|
    .cst .f32 0 <|
    .cst .f32 0 <|
    .call 42 [.v 60, .v 61, .v 64] 4 <|
    .sw 71 4
     (.ret [.v 68, .v 69, .v 70, .i .i64 4])
     (.sw 71 0
      (.ret [.v 68, .v 69, .v 70, .i .i64 0])
      (.bad "sw")))
    (.cst .f32 0 <|
    .cst .f32 0 <|
    .cst .f32 0 <|
    .ret [.v 20, .v 21, .v 22, .i .i64 1]))
   (.call 50 [.v 11, .v 12, .v 13, .v 14] 1 <|
   .br 19
    (.cst .f32 0 <|
    .cst .f32 0 <|
    .cst .f32 0 <|
    .ret [.v 20, .v 21, .v 22, .i .i64 1])
    (.cst .f32 0 <|
    .cst .f32 0 <|
    .cst .f32 0 <|
    .ret [.v 20, .v 21, .v 22, .i .i64 1]))
def s51 : Sum := ⟨51, [.agg [.f .f32, .f .f32, .f .f32, .f .f32, .f .f32, .f .f32, .f .f32, .f .f32, .f .f32, .f .f32, .f .f32], .agg [.f .f32, .f .f32, .f .f32, .f .f32]], [.agg [.f .f32, .f .f32, .f .f32], .val (.i .i64 [4, 0, 1])]⟩
/-- loop.example/g01249/laws.FnExactHorizonOf -/
def t52 : T :=
  .call 1 [.v 0, .v 1, .v 2, .v 3, .v 4, .v 5, .v 6, .v 7, .v 8, .v 9, .v 10] 11 <|
  .call 47 [.v 11, .v 12, .v 13, .v 14] 4 <|
  .call 49 [.v 15, .v 16, .v 17, .v 18, .v 19, .v 20, .v 21, .v 22, .v 23, .v 24, .v 25, .v 26, .v 27, .v 28, .v 29] 4 <|
  .sw 33 0
   (.cst .f32 0 <|
   .cst .f32 0 <|
   .cst .f32 0 <|
   .call 1 [.v 0, .v 1, .v 2, .v 3, .v 4, .v 5, .v 6, .v 7, .v 8, .v 9, .v 10] 11 <|
   .call 47 [.v 11, .v 12, .v 13, .v 14] 4 <|
   .call 51 [.v 37, .v 38, .v 39, .v 40, .v 41, .v 42, .v 43, .v 44, .v 45, .v 46, .v 47, .v 48, .v 49, .v 50, .v 51] 4 <|
   .sw 55 4
    (.cst .f32 0 <|
    .cst .f32 0 <|
    .cst .f32 0 <|
    .call 45 [.v 52, .v 53, .v 54, .v 30, .v 31, .v 32] 1 <|
    .br 59
     (.ret [.b false])
     (.ret [.b false]))
    (.sw 55 0
     (.cst .f32 0 <|
     .cst .f32 0 <|
     .cst .f32 0 <|
     .call 45 [.v 52, .v 53, .v 54, .v 30, .v 31, .v 32] 1 <|
     .br 59
      (.ret [.b true])
      (.ret [.b false]))
     (.sw 55 1
      (.cst .f32 0 <|
      .cst .f32 0 <|
      .cst .f32 0 <|
      .call 45 [.v 52, .v 53, .v 54, .v 30, .v 31, .v 32] 1 <|
      .br 59
       (.ret [.b false])
       (.ret [.b false]))
      (.bad "sw"))))
   (.sw 33 4
    (.cst .f32 0 <|
    .cst .f32 0 <|
    .cst .f32 0 <|
    .call 1 [.v 0, .v 1, .v 2, .v 3, .v 4, .v 5, .v 6, .v 7, .v 8, .v 9, .v 10] 11 <|
    .call 47 [.v 11, .v 12, .v 13, .v 14] 4 <|
    .call 51 [.v 37, .v 38, .v 39, .v 40, .v 41, .v 42, .v 43, .v 44, .v 45, .v 46, .v 47, .v 48, .v 49, .v 50, .v 51] 4 <|
    .sw 55 4
     (.cst .f32 0 <|
     .cst .f32 0 <|
     .cst .f32 0 <|
     .call 45 [.v 52, .v 53, .v 54, .v 30, .v 31, .v 32] 1 <|
     .br 59
      (.ret [.b true])
      (.ret [.b false]))
     (.sw 55 0
      (.cst .f32 0 <|
      .cst .f32 0 <|
      .cst .f32 0 <|
      .call 45 [.v 52, .v 53, .v 54, .v 30, .v 31, .v 32] 1 <|
      .br 59
       (.ret [.b false])
       (.ret [.b false]))
      (.sw 55 1
       (.cst .f32 0 <|
       .cst .f32 0 <|
       .cst .f32 0 <|
       .call 45 [.v 52, .v 53, .v 54, .v 30, .v 31, .v 32] 1 <|
       .br 59
        (.ret [.b false])
        (.ret [.b false]))
       (.bad "sw"))))
    (.sw 33 1
     (.cst .f32 0 <|
     .cst .f32 0 <|
     .cst .f32 0 <|
     .call 1 [.v 0, .v 1, .v 2, .v 3, .v 4, .v 5, .v 6, .v 7, .v 8, .v 9, .v 10] 11 <|
     .call 47 [.v 11, .v 12, .v 13, .v 14] 4 <|
     .call 51 [.v 37, .v 38, .v 39, .v 40, .v 41, .v 42, .v 43, .v 44, .v 45, .v 46, .v 47, .v 48, .v 49, .v 50, .v 51] 4 <|
     .sw 55 4
      (.cst .f32 0 <|
      .cst .f32 0 <|
      .cst .f32 0 <|
      .call 45 [.v 52, .v 53, .v 54, .v 30, .v 31, .v 32] 1 <|
      .br 59
       (.ret [.b false])
       (.ret [.b false]))
      (.sw 55 0
       (.cst .f32 0 <|
       .cst .f32 0 <|
       .cst .f32 0 <|
       .call 45 [.v 52, .v 53, .v 54, .v 30, .v 31, .v 32] 1 <|
       .br 59
        (.ret [.b false])
        (.ret [.b false]))
       (.sw 55 1
        (.cst .f32 0 <|
        .cst .f32 0 <|
        .cst .f32 0 <|
        .call 45 [.v 52, .v 53, .v 54, .v 30, .v 31, .v 32] 1 <|
        .br 59
         (.ret [.b true])
         (.ret [.b false]))
        (.bad "sw"))))
     (.bad "sw")))
def s52 : Sum := ⟨52, [.agg [.f .f32, .f .f32, .f .f32, .f .f32, .f .f32, .f .f32, .f .f32, .f .f32, .f .f32, .f .f32, .f .f32], .agg [.f .f32, .f .f32, .f .f32, .f .f32]], [.val (.b)]⟩
/-- loop.example/g01249/spec.l02Moved -/
def t53 : T :=
  .cst .f32 0 <|
  .cst .f32 0 <|
  .cst .f32 0 <|
  .cst .f32 0 <|
  .cst .f32 0 <|
  .cst .f32 0 <|
  .cst .f32 0 <|
  .cst .f32 0 <|
  .cst .f32 0 <|
  .cst .f32 0 <|
  .cst .f32 0 <|
  .call 15 [.v 0, .v 1, .v 2, .v 3, .v 4, .v 5, .v 6, .v 7, .v 8, .v 9, .v 10] 1 <|
  .br 22
   (.ret [.v 0, .v 1, .v 2, .v 3, .v 4, .v 5, .v 6, .v 7, .v 8, .v 9, .v 10, .i .i64 0])
   (.cst .f32 0 <|
   .cst .f32 0 <|
   .cst .f32 0 <|
   .cst .f32 0 <|
   .cst .f32 0 <|
   .cst .f32 0 <|
   .cst .f32 0 <|
   .cst .f32 0 <|
   .cst .f32 0 <|
   .cst .f32 0 <|
   .cst .f32 0 <|
   .ret [.v 23, .v 24, .v 25, .v 26, .v 27, .v 28, .v 29, .v 30, .v 31, .v 32, .v 33, .i .i64 4])
def s53 : Sum := ⟨53, [.agg [.f .f32, .f .f32, .f .f32, .f .f32, .f .f32, .f .f32, .f .f32, .f .f32, .f .f32, .f .f32, .f .f32]], [.agg [.f .f32, .f .f32, .f .f32, .f .f32, .f .f32, .f .f32, .f .f32, .f .f32, .f .f32, .f .f32, .f .f32], .val (.i .i64 [0, 4])]⟩
/-- loop.example/g01249/spec.MoveCamera -/
def t54 : T :=
  .cst .f32 0 <|
  .cst .f32 0 <|
  .cst .f32 0 <|
  .cst .f32 0 <|
  .cst .f32 0 <|
  .cst .f32 0 <|
  .cst .f32 0 <|
  .cst .f32 0 <|
  .cst .f32 0 <|
  .cst .f32 0 <|
  .cst .f32 0 <|
  .call 15 [.v 0, .v 1, .v 2, .v 3, .v 4, .v 5, .v 6, .v 7, .v 8, .v 9, .v 10] 1 <|
  .br 25
   (.call 3 [.v 11] 1 <|
   .br 26
    (.call 3 [.v 12] 1 <|
    .br 27
     (.call 3 [.v 13] 1 <|
     .br 28
      (.call 14 [.v 0, .v 1, .v 2, .v 3, .v 4, .v 5, .v 6, .v 7, .v 8, .v 9, .v 10] 10 <|
      .br 38
       (.cst .f32 0 <|
       .cst .f32 0 <|
       .cst .f32 0 <|
       .cst .f32 0 <|
       .cst .f32 0 <|
       .cst .f32 0 <|
       .cst .f32 0 <|
       .cst .f32 0 <|
       .cst .f32 0 <|
       .call 18 [.v 29, .v 30, .v 31, .v 11] 3 <|
       .call 18 [.v 32, .v 33, .v 34, .v 12] 3 <|
       .call 19 [.v 48, .v 49, .v 50, .v 51, .v 52, .v 53] 3 <|
       .call 18 [.v 35, .v 36, .v 37, .v 13] 3 <|
       .call 19 [.v 54, .v 55, .v 56, .v 57, .v 58, .v 59] 3 <|
       .cst .f32 0 <|
       .cst .f32 0 <|
       .cst .f32 0 <|
       .call 19 [.v 0, .v 1, .v 2, .v 60, .v 61, .v 62] 3 <|
       .call 19 [.v 3, .v 4, .v 5, .v 60, .v 61, .v 62] 3 <|
       .call 53 [.v 66, .v 67, .v 68, .v 69, .v 70, .v 71, .v 6, .v 7, .v 8, .v 9, .v 10] 12 <|
       .sw 83 0
        (.ret [.v 72, .v 73, .v 74, .v 75, .v 76, .v 77, .v 78, .v 79, .v 80, .v 81, .v 82, .i .i64 0])
        (.sw 83 4
         (.ret [.v 72, .v 73, .v 74, .v 75, .v 76, .v 77, .v 78, .v 79, .v 80, .v 81, .v 82, .i .i64 4])
         (.bad "sw")))
       (.cst .f32 0 <|
       .cst .f32 0 <|
       .cst .f32 0 <|
       .cst .f32 0 <|
       .cst .f32 0 <|
       .cst .f32 0 <|
       .cst .f32 0 <|
       .cst .f32 0 <|
       .cst .f32 0 <|
       .call 18 [.v 29, .v 30, .v 31, .v 11] 3 <|
       .call 18 [.v 32, .v 33, .v 34, .v 12] 3 <|
       .call 19 [.v 48, .v 49, .v 50, .v 51, .v 52, .v 53] 3 <|
       .call 18 [.v 35, .v 36, .v 37, .v 13] 3 <|
       .call 19 [.v 54, .v 55, .v 56, .v 57, .v 58, .v 59] 3 <|
       .cst .f32 0 <|
       .cst .f32 0 <|
       .cst .f32 0 <|
       .call 19 [.v 0, .v 1, .v 2, .v 60, .v 61, .v 62] 3 <|
       .call 19 [.v 3, .v 4, .v 5, .v 60, .v 61, .v 62] 3 <|
       .call 53 [.v 66, .v 67, .v 68, .v 69, .v 70, .v 71, .v 6, .v 7, .v 8, .v 9, .v 10] 12 <|
       .sw 83 0
        (.ret [.v 72, .v 73, .v 74, .v 75, .v 76, .v 77, .v 78, .v 79, .v 80, .v 81, .v 82, .i .i64 0])
        (.sw 83 4
         (.ret [.v 72, .v 73, .v 74, .v 75, .v 76, .v 77, .v 78, .v 79, .v 80, .v 81, .v 82, .i .i64 4])
         (.bad "sw"))))
      (.cst .f32 0 <|
      .cst .f32 0 <|
      .cst .f32 0 <|
      .cst .f32 0 <|
      .cst .f32 0 <|
      .cst .f32 0 <|
      .cst .f32 0 <|
      .cst .f32 0 <|
      .cst .f32 0 <|
      .cst .f32 0 <|
      .cst .f32 0 <|
      .ret [.v 29, .v 30, .v 31, .v 32, .v 33, .v 34, .v 35, .v 36, .v 37, .v 38, .v 39, .i .i64 2]))
     (.cst .f32 0 <|
     .cst .f32 0 <|
     .cst .f32 0 <|
     .cst .f32 0 <|
     .cst .f32 0 <|
     .cst .f32 0 <|
     .cst .f32 0 <|
     .cst .f32 0 <|
     .cst .f32 0 <|
     .cst .f32 0 <|
     .cst .f32 0 <|
     .ret [.v 28, .v 29, .v 30, .v 31, .v 32, .v 33, .v 34, .v 35, .v 36, .v 37, .v 38, .i .i64 2]))
    (.cst .f32 0 <|
    .cst .f32 0 <|
    .cst .f32 0 <|
    .cst .f32 0 <|
    .cst .f32 0 <|
    .cst .f32 0 <|
    .cst .f32 0 <|
    .cst .f32 0 <|
    .cst .f32 0 <|
    .cst .f32 0 <|
    .cst .f32 0 <|
    .ret [.v 27, .v 28, .v 29, .v 30, .v 31, .v 32, .v 33, .v 34, .v 35, .v 36, .v 37, .i .i64 2]))
   (.cst .f32 0 <|
   .cst .f32 0 <|
   .cst .f32 0 <|
   .cst .f32 0 <|
   .cst .f32 0 <|
   .cst .f32 0 <|
   .cst .f32 0 <|
   .cst .f32 0 <|
   .cst .f32 0 <|
   .cst .f32 0 <|
   .cst .f32 0 <|
   .ret [.v 26, .v 27, .v 28, .v 29, .v 30, .v 31, .v 32, .v 33, .v 34, .v 35, .v 36, .i .i64 1])
def s54 : Sum := ⟨54, [.agg [.f .f32, .f .f32, .f .f32, .f .f32, .f .f32, .f .f32, .f .f32, .f .f32, .f .f32, .f .f32, .f .f32], .val (.f .f32), .val (.f .f32), .val (.f .f32)], [.agg [.f .f32, .f .f32, .f .f32, .f .f32, .f .f32, .f .f32, .f .f32, .f .f32, .f .f32, .f .f32, .f .f32], .val (.i .i64 [0, 4, 2, 1])]⟩
/-- loop.example/g01249/impl.validCamera -/
def t55 : T :=
  .cst .f32 0 <|
  .cst .f32 0 <|
  .cst .f32 0 <|
  .cst .f32 0 <|
  .cst .f32 0 <|
  .cst .f32 0 <|
  .cst .f32 0 <|
  .cst .f32 0 <|
  .cst .f32 0 <|
  .cst .f32 0 <|
  .cst .f32 0 <|
  .call 37 [.v 0, .v 1, .v 2, .v 3, .v 4, .v 5, .v 6, .v 7, .v 8, .v 9, .v 10] 1 <|
  .br 22
   (.ret [.v 0, .v 1, .v 2, .v 3, .v 4, .v 5, .v 6, .v 7, .v 8, .v 9, .v 10, .i .i64 0])
   (.cst .f32 0 <|
   .cst .f32 0 <|
   .cst .f32 0 <|
   .cst .f32 0 <|
   .cst .f32 0 <|
   .cst .f32 0 <|
   .cst .f32 0 <|
   .cst .f32 0 <|
   .cst .f32 0 <|
   .cst .f32 0 <|
   .cst .f32 0 <|
   .ret [.v 23, .v 24, .v 25, .v 26, .v 27, .v 28, .v 29, .v 30, .v 31, .v 32, .v 33, .i .i64 4])
def s55 : Sum := ⟨55, [.agg [.f .f32, .f .f32, .f .f32, .f .f32, .f .f32, .f .f32, .f .f32, .f .f32, .f .f32, .f .f32, .f .f32]], [.agg [.f .f32, .f .f32, .f .f32, .f .f32, .f .f32, .f .f32, .f .f32, .f .f32, .f .f32, .f .f32, .f .f32], .val (.i .i64 [0, 4])]⟩
/-- loop.example/g01249/impl.MoveCamera -/
def t56 : T :=
  .cst .f32 0 <|
  .cst .f32 0 <|
  .cst .f32 0 <|
  .cst .f32 0 <|
  .cst .f32 0 <|
  .cst .f32 0 <|
  .cst .f32 0 <|
  .cst .f32 0 <|
  .cst .f32 0 <|
  .cst .f32 0 <|
  .cst .f32 0 <|
  .call 37 [.v 0, .v 1, .v 2, .v 3, .v 4, .v 5, .v 6, .v 7, .v 8, .v 9, .v 10] 1 <|
  .br 25
   (.cst .f32 0 <|
   .call 23 [.v 11] 1 <|
   .br 27
    (.cst .f32 0 <|
    .cst .f32 0 <|
    .cst .f32 0 <|
    .cst .f32 0 <|
    .cst .f32 0 <|
    .cst .f32 0 <|
    .cst .f32 0 <|
    .cst .f32 0 <|
    .cst .f32 0 <|
    .cst .f32 0 <|
    .cst .f32 0 <|
    .ret [.v 28, .v 29, .v 30, .v 31, .v 32, .v 33, .v 34, .v 35, .v 36, .v 37, .v 38, .i .i64 2])
    (.call 23 [.v 12] 1 <|
    .br 28
     (.cst .f32 0 <|
     .cst .f32 0 <|
     .cst .f32 0 <|
     .cst .f32 0 <|
     .cst .f32 0 <|
     .cst .f32 0 <|
     .cst .f32 0 <|
     .cst .f32 0 <|
     .cst .f32 0 <|
     .cst .f32 0 <|
     .cst .f32 0 <|
     .ret [.v 29, .v 30, .v 31, .v 32, .v 33, .v 34, .v 35, .v 36, .v 37, .v 38, .v 39, .i .i64 2])
     (.call 23 [.v 13] 1 <|
     .br 29
      (.cst .f32 0 <|
      .cst .f32 0 <|
      .cst .f32 0 <|
      .cst .f32 0 <|
      .cst .f32 0 <|
      .cst .f32 0 <|
      .cst .f32 0 <|
      .cst .f32 0 <|
      .cst .f32 0 <|
      .cst .f32 0 <|
      .cst .f32 0 <|
      .ret [.v 30, .v 31, .v 32, .v 33, .v 34, .v 35, .v 36, .v 37, .v 38, .v 39, .v 40, .i .i64 2])
      (.call 38 [.v 0, .v 1, .v 2, .v 3, .v 4, .v 5, .v 6, .v 7, .v 8, .v 9, .v 10] 20 <|
      .cst .f32 0 <|
      .cst .f32 0 <|
      .cst .f32 0 <|
      .cst .f32 0 <|
      .cst .f32 0 <|
      .cst .f32 0 <|
      .cst .f32 0 <|
      .cst .f32 0 <|
      .cst .f32 0 <|
      .call 39 [.v 41, .v 42, .v 43, .v 11] 3 <|
      .call 39 [.v 44, .v 45, .v 46, .v 12] 3 <|
      .call 40 [.v 59, .v 60, .v 61, .v 62, .v 63, .v 64] 3 <|
      .call 39 [.v 47, .v 48, .v 49, .v 13] 3 <|
      .call 40 [.v 65, .v 66, .v 67, .v 68, .v 69, .v 70] 3 <|
      .cst .f32 0 <|
      .cst .f32 0 <|
      .cst .f32 0 <|
      .call 40 [.v 0, .v 1, .v 2, .v 71, .v 72, .v 73] 3 <|
      .call 40 [.v 3, .v 4, .v 5, .v 71, .v 72, .v 73] 3 <|
      .call 55 [.v 77, .v 78, .v 79, .v 80, .v 81, .v 82, .v 6, .v 7, .v 8, .v 9, .v 10] 12 <|
      .sw 94 0
       (.ret [.v 83, .v 84, .v 85, .v 86, .v 87, .v 88, .v 89, .v 90, .v 91, .v 92, .v 93, .i .i64 0])
       (.sw 94 4
        (.ret [.v 83, .v 84, .v 85, .v 86, .v 87, .v 88, .v 89, .v 90, .v 91, .v 92, .v 93, .i .i64 4])
        (.bad "sw"))))))
   (.cst .f32 0 <|
   .call 23 [.v 11] 1 <|
   .br 27
    (.cst .f32 0 <|
    .cst .f32 0 <|
    .cst .f32 0 <|
    .cst .f32 0 <|
    .cst .f32 0 <|
    .cst .f32 0 <|
    .cst .f32 0 <|
    .cst .f32 0 <|
    .cst .f32 0 <|
    .cst .f32 0 <|
    .cst .f32 0 <|
    .ret [.v 28, .v 29, .v 30, .v 31, .v 32, .v 33, .v 34, .v 35, .v 36, .v 37, .v 38, .i .i64 1])
    (.call 23 [.v 12] 1 <|
    .br 28
     (.cst .f32 0 <|
     .cst .f32 0 <|
     .cst .f32 0 <|
     .cst .f32 0 <|
     .cst .f32 0 <|
     .cst .f32 0 <|
     .cst .f32 0 <|
     .cst .f32 0 <|
     .cst .f32 0 <|
     .cst .f32 0 <|
     .cst .f32 0 <|
     .ret [.v 29, .v 30, .v 31, .v 32, .v 33, .v 34, .v 35, .v 36, .v 37, .v 38, .v 39, .i .i64 1])
     (.call 23 [.v 13] 1 <|
     .br 29
      (.cst .f32 0 <|
      .cst .f32 0 <|
      .cst .f32 0 <|
      .cst .f32 0 <|
      .cst .f32 0 <|
      .cst .f32 0 <|
      .cst .f32 0 <|
      .cst .f32 0 <|
      .cst .f32 0 <|
      .cst .f32 0 <|
      .cst .f32 0 <|
      .ret [.v 30, .v 31, .v 32, .v 33, .v 34, .v 35, .v 36, .v 37, .v 38, .v 39, .v 40, .i .i64 1])
      (.cst .f32 0 <|
      .cst .f32 0 <|
      .cst .f32 0 <|
      .cst .f32 0 <|
      .cst .f32 0 <|
      .cst .f32 0 <|
      .cst .f32 0 <|
      .cst .f32 0 <|
      .cst .f32 0 <|
      .cst .f32 0 <|
      .cst .f32 0 <|
      .ret [.v 30, .v 31, .v 32, .v 33, .v 34, .v 35, .v 36, .v 37, .v 38, .v 39, .v 40, .i .i64 1]))))
def s56 : Sum := ⟨56, [.agg [.f .f32, .f .f32, .f .f32, .f .f32, .f .f32, .f .f32, .f .f32, .f .f32, .f .f32, .f .f32, .f .f32], .val (.f .f32), .val (.f .f32), .val (.f .f32)], [.agg [.f .f32, .f .f32, .f .f32, .f .f32, .f .f32, .f .f32, .f .f32, .f .f32, .f .f32, .f .f32, .f .f32], .val (.i .i64 [2, 0, 4, 1])]⟩
/-- loop.example/g01249/laws.eqCamera -/
def t57 : T :=
  .call 45 [.v 0, .v 1, .v 2, .v 11, .v 12, .v 13] 1 <|
  .br 22
   (.call 45 [.v 3, .v 4, .v 5, .v 14, .v 15, .v 16] 1 <|
   .br 23
    (.call 45 [.v 6, .v 7, .v 8, .v 17, .v 18, .v 19] 1 <|
    .br 24
     (.un .widen .f32 9 <|
     .un .widen .f32 20 <|
     .call 44 [.v 25, .v 26] 1 <|
     .br 27
      (.un .widen .f32 10 <|
      .un .widen .f32 21 <|
      .call 44 [.v 28, .v 29] 1 <|
      .br 30
       (.ret [.b true])
       (.ret [.b false]))
      (.ret [.b false]))
     (.ret [.b false]))
    (.ret [.b false]))
   (.ret [.b false])
def s57 : Sum := ⟨57, [.agg [.f .f32, .f .f32, .f .f32, .f .f32, .f .f32, .f .f32, .f .f32, .f .f32, .f .f32, .f .f32, .f .f32], .agg [.f .f32, .f .f32, .f .f32, .f .f32, .f .f32, .f .f32, .f .f32, .f .f32, .f .f32, .f .f32, .f .f32]], [.val (.b)]⟩
/-- loop.example/g01249/laws.FnExactMoveCamera -/
def t58 : T :=
  .call 1 [.v 0, .v 1, .v 2, .v 3, .v 4, .v 5, .v 6, .v 7, .v 8, .v 9, .v 10] 11 <|
  .call 54 [.v 14, .v 15, .v 16, .v 17, .v 18, .v 19, .v 20, .v 21, .v 22, .v 23, .v 24, .v 11, .v 12, .v 13] 12 <|
  .sw 36 0
   (.cst .f32 0 <|
   .cst .f32 0 <|
   .cst .f32 0 <|
   .cst .f32 0 <|
   .cst .f32 0 <|
   .cst .f32 0 <|
   .cst .f32 0 <|
   .cst .f32 0 <|
   .cst .f32 0 <|
   .cst .f32 0 <|
   .cst .f32 0 <|
   .call 1 [.v 0, .v 1, .v 2, .v 3, .v 4, .v 5, .v 6, .v 7, .v 8, .v 9, .v 10] 11 <|
   .call 56 [.v 48, .v 49, .v 50, .v 51, .v 52, .v 53, .v 54, .v 55, .v 56, .v 57, .v 58, .v 11, .v 12, .v 13] 12 <|
   .sw 70 2
    (.cst .f32 0 <|
    .cst .f32 0 <|
    .cst .f32 0 <|
    .cst .f32 0 <|
    .cst .f32 0 <|
    .cst .f32 0 <|
    .cst .f32 0 <|
    .cst .f32 0 <|
    .cst .f32 0 <|
    .cst .f32 0 <|
    .cst .f32 0 <|
    .call 57 [.v 59, .v 60, .v 61, .v 62, .v 63, .v 64, .v 65, .v 66, .v 67, .v 68, .v 69, .v 25, .v 26, .v 27, .v 28, .v 29, .v 30, .v 31, .v 32, .v 33, .v 34, .v 35] 1 <|
    .br 82
     (.ret [.b false])
     (.ret [.b false]))
    (.sw 70 0
     (.cst .f32 0 <|
     .cst .f32 0 <|
     .cst .f32 0 <|
     .cst .f32 0 <|
     .cst .f32 0 <|
     .cst .f32 0 <|
     .cst .f32 0 <|
     .cst .f32 0 <|
     .cst .f32 0 <|
     .cst .f32 0 <|
     .cst .f32 0 <|
     .call 57 [.v 59, .v 60, .v 61, .v 62, .v 63, .v 64, .v 65, .v 66, .v 67, .v 68, .v 69, .v 25, .v 26, .v 27, .v 28, .v 29, .v 30, .v 31, .v 32, .v 33, .v 34, .v 35] 1 <|
     .br 82
      (.ret [.b true])
      (.ret [.b false]))
     (.sw 70 4
      (.cst .f32 0 <|
      .cst .f32 0 <|
      .cst .f32 0 <|
      .cst .f32 0 <|
      .cst .f32 0 <|
      .cst .f32 0 <|
      .cst .f32 0 <|
      .cst .f32 0 <|
      .cst .f32 0 <|
      .cst .f32 0 <|
      .cst .f32 0 <|
      .call 57 [.v 59, .v 60, .v 61, .v 62, .v 63, .v 64, .v 65, .v 66, .v 67, .v 68, .v 69, .v 25, .v 26, .v 27, .v 28, .v 29, .v 30, .v 31, .v 32, .v 33, .v 34, .v 35] 1 <|
      .br 82
       (.ret [.b false])
       (.ret [.b false]))
      (.sw 70 1
       (.cst .f32 0 <|
       .cst .f32 0 <|
       .cst .f32 0 <|
       .cst .f32 0 <|
       .cst .f32 0 <|
       .cst .f32 0 <|
       .cst .f32 0 <|
       .cst .f32 0 <|
       .cst .f32 0 <|
       .cst .f32 0 <|
       .cst .f32 0 <|
       .call 57 [.v 59, .v 60, .v 61, .v 62, .v 63, .v 64, .v 65, .v 66, .v 67, .v 68, .v 69, .v 25, .v 26, .v 27, .v 28, .v 29, .v 30, .v 31, .v 32, .v 33, .v 34, .v 35] 1 <|
       .br 82
        (.ret [.b false])
        (.ret [.b false]))
       (.bad "sw")))))
   (.sw 36 4
    (.cst .f32 0 <|
    .cst .f32 0 <|
    .cst .f32 0 <|
    .cst .f32 0 <|
    .cst .f32 0 <|
    .cst .f32 0 <|
    .cst .f32 0 <|
    .cst .f32 0 <|
    .cst .f32 0 <|
    .cst .f32 0 <|
    .cst .f32 0 <|
    .call 1 [.v 0, .v 1, .v 2, .v 3, .v 4, .v 5, .v 6, .v 7, .v 8, .v 9, .v 10] 11 <|
    .call 56 [.v 48, .v 49, .v 50, .v 51, .v 52, .v 53, .v 54, .v 55, .v 56, .v 57, .v 58, .v 11, .v 12, .v 13] 12 <|
    .sw 70 2
     (.cst .f32 0 <|
     .cst .f32 0 <|
     .cst .f32 0 <|
     .cst .f32 0 <|
     .cst .f32 0 <|
     .cst .f32 0 <|
     .cst .f32 0 <|
     .cst .f32 0 <|
     .cst .f32 0 <|
     .cst .f32 0 <|
     .cst .f32 0 <|
     .call 57 [.v 59, .v 60, .v 61, .v 62, .v 63, .v 64, .v 65, .v 66, .v 67, .v 68, .v 69, .v 25, .v 26, .v 27, .v 28, .v 29, .v 30, .v 31, .v 32, .v 33, .v 34, .v 35] 1 <|
     .br 82
      (.ret [.b false])
      (.ret [.b false]))
     (.sw 70 0
      (.cst .f32 0 <|
      .cst .f32 0 <|
      .cst .f32 0 <|
      .cst .f32 0 <|
      .cst .f32 0 <|
      .cst .f32 0 <|
      .cst .f32 0 <|
      .cst .f32 0 <|
      .cst .f32 0 <|
      .cst .f32 0 <|
      .cst .f32 0 <|
      .call 57 [.v 59, .v 60, .v 61, .v 62, .v 63, .v 64, .v 65, .v 66, .v 67, .v 68, .v 69, .v 25, .v 26, .v 27, .v 28, .v 29, .v 30, .v 31, .v 32, .v 33, .v 34, .v 35] 1 <|
      .br 82
       (.ret [.b false])
       (.ret [.b false]))
      (.sw 70 4
       (.cst .f32 0 <|
       .cst .f32 0 <|
       .cst .f32 0 <|
       .cst .f32 0 <|
       .cst .f32 0 <|
       .cst .f32 0 <|
       .cst .f32 0 <|
       .cst .f32 0 <|
       .cst .f32 0 <|
       .cst .f32 0 <|
       .cst .f32 0 <|
       .call 57 [.v 59, .v 60, .v 61, .v 62, .v 63, .v 64, .v 65, .v 66, .v 67, .v 68, .v 69, .v 25, .v 26, .v 27, .v 28, .v 29, .v 30, .v 31, .v 32, .v 33, .v 34, .v 35] 1 <|
       .br 82
        (.ret [.b true])
        (.ret [.b false]))
       (.sw 70 1
        (.cst .f32 0 <|
        .cst .f32 0 <|
        .cst .f32 0 <|
        .cst .f32 0 <|
        .cst .f32 0 <|
        .cst .f32 0 <|
        .cst .f32 0 <|
        .cst .f32 0 <|
        .cst .f32 0 <|
        .cst .f32 0 <|
        .cst .f32 0 <|
        .call 57 [.v 59, .v 60, .v 61, .v 62, .v 63, .v 64, .v 65, .v 66, .v 67, .v 68, .v 69, .v 25, .v 26, .v 27, .v 28, .v 29, .v 30, .v 31, .v 32, .v 33, .v 34, .v 35] 1 <|
        .br 82
         (.ret [.b false])
         (.ret [.b false]))
        (.bad "sw")))))
    (.sw 36 2
     (.cst .f32 0 <|
     .cst .f32 0 <|
     .cst .f32 0 <|
     .cst .f32 0 <|
     .cst .f32 0 <|
     .cst .f32 0 <|
     .cst .f32 0 <|
     .cst .f32 0 <|
     .cst .f32 0 <|
     .cst .f32 0 <|
     .cst .f32 0 <|
     .call 1 [.v 0, .v 1, .v 2, .v 3, .v 4, .v 5, .v 6, .v 7, .v 8, .v 9, .v 10] 11 <|
     .call 56 [.v 48, .v 49, .v 50, .v 51, .v 52, .v 53, .v 54, .v 55, .v 56, .v 57, .v 58, .v 11, .v 12, .v 13] 12 <|
     .sw 70 2
      (.cst .f32 0 <|
      .cst .f32 0 <|
      .cst .f32 0 <|
      .cst .f32 0 <|
      .cst .f32 0 <|
      .cst .f32 0 <|
      .cst .f32 0 <|
      .cst .f32 0 <|
      .cst .f32 0 <|
      .cst .f32 0 <|
      .cst .f32 0 <|
      .call 57 [.v 59, .v 60, .v 61, .v 62, .v 63, .v 64, .v 65, .v 66, .v 67, .v 68, .v 69, .v 25, .v 26, .v 27, .v 28, .v 29, .v 30, .v 31, .v 32, .v 33, .v 34, .v 35] 1 <|
      .br 82
       (.ret [.b true])
       (.ret [.b false]))
      (.sw 70 0
       (.cst .f32 0 <|
       .cst .f32 0 <|
       .cst .f32 0 <|
       .cst .f32 0 <|
       .cst .f32 0 <|
       .cst .f32 0 <|
       .cst .f32 0 <|
       .cst .f32 0 <|
       .cst .f32 0 <|
       .cst .f32 0 <|
       .cst .f32 0 <|
       .call 57 [.v 59, .v 60, .v 61, .v 62, .v 63, .v 64, .v 65, .v 66, .v 67, .v 68, .v 69, .v 25, .v 26, .v 27, .v 28, .v 29, .v 30, .v 31, .v 32, .v 33, .v 34, .v 35] 1 <|
       .br 82
        (.ret [.b false])
        (.ret [.b false]))
       (.sw 70 4
        (.cst .f32 0 <|
        .cst .f32 0 <|
        .cst .f32 0 <|
        .cst .f32 0 <|
        .cst .f32 0 <|
        .cst .f32 0 <|
        .cst .f32 0 <|
        .cst .f32 0 <|
        .cst .f32 0 <|
        .cst .f32 0 <|
        .cst .f32 0 <|
        .call 57 [.v 59, .v 60, .v 61, .v 62, .v 63, .v 64, .v 65, .v 66, .v 67, .v 68, .v 69, .v 25, .v 26, .v 27, .v 28, .v 29, .v 30, .v 31, .v 32, .v 33, .v 34, .v 35] 1 <|
        .br 82
         (.ret [.b false])
         (.ret [.b false]))
        (.sw 70 1
         (.cst .f32 0 <|
         .cst .f32 0 <|
         .cst .f32 0 <|
         .cst .f32 0 <|
         .cst .f32 0 <|
         .cst .f32 0 <|
         .cst .f32 0 <|
         .cst .f32 0 <|
         .cst .f32 0 <|
         .cst .f32 0 <|
         .cst .f32 0 <|
         .call 57 [.v 59, .v 60, .v 61, .v 62, .v 63, .v 64, .v 65, .v 66, .v 67, .v 68, .v 69, .v 25, .v 26, .v 27, .v 28, .v 29, .v 30, .v 31, .v 32, .v 33, .v 34, .v 35] 1 <|
         .br 82
          (.ret [.b false])
          (.ret [.b false]))
         (.bad "sw")))))
     (.sw 36 1
      (.cst .f32 0 <|
      .cst .f32 0 <|
      .cst .f32 0 <|
      .cst .f32 0 <|
      .cst .f32 0 <|
      .cst .f32 0 <|
      .cst .f32 0 <|
      .cst .f32 0 <|
      .cst .f32 0 <|
      .cst .f32 0 <|
      .cst .f32 0 <|
      .call 1 [.v 0, .v 1, .v 2, .v 3, .v 4, .v 5, .v 6, .v 7, .v 8, .v 9, .v 10] 11 <|
      .call 56 [.v 48, .v 49, .v 50, .v 51, .v 52, .v 53, .v 54, .v 55, .v 56, .v 57, .v 58, .v 11, .v 12, .v 13] 12 <|
      .sw 70 2
       (.cst .f32 0 <|
       .cst .f32 0 <|
       .cst .f32 0 <|
       .cst .f32 0 <|
       .cst .f32 0 <|
       .cst .f32 0 <|
       .cst .f32 0 <|
       .cst .f32 0 <|
       .cst .f32 0 <|
       .cst .f32 0 <|
       .cst .f32 0 <|
       .call 57 [.v 59, .v 60, .v 61, .v 62, .v 63, .v 64, .v 65, .v 66, .v 67, .v 68, .v 69, .v 25, .v 26, .v 27, .v 28, .v 29, .v 30, .v 31, .v 32, .v 33, .v 34, .v 35] 1 <|
       .br 82
        (.ret [.b false])
        (.ret [.b false]))
       (.sw 70 0
        (.cst .f32 0 <|
        .cst .f32 0 <|
        .cst .f32 0 <|
        .cst .f32 0 <|
        .cst .f32 0 <|
        .cst .f32 0 <|
        .cst .f32 0 <|
        .cst .f32 0 <|
        .cst .f32 0 <|
        .cst .f32 0 <|
        .cst .f32 0 <|
        .call 57 [.v 59, .v 60, .v 61, .v 62, .v 63, .v 64, .v 65, .v 66, .v 67, .v 68, .v 69, .v 25, .v 26, .v 27, .v 28, .v 29, .v 30, .v 31, .v 32, .v 33, .v 34, .v 35] 1 <|
        .br 82
         (.ret [.b false])
         (.ret [.b false]))
        (.sw 70 4
         (.cst .f32 0 <|
         .cst .f32 0 <|
         .cst .f32 0 <|
         .cst .f32 0 <|
         .cst .f32 0 <|
         .cst .f32 0 <|
         .cst .f32 0 <|
         .cst .f32 0 <|
         .cst .f32 0 <|
         .cst .f32 0 <|
         .cst .f32 0 <|
         .call 57 [.v 59, .v 60, .v 61, .v 62, .v 63, .v 64, .v 65, .v 66, .v 67, .v 68, .v 69, .v 25, .v 26, .v 27, .v 28, .v 29, .v 30, .v 31, .v 32, .v 33, .v 34, .v 35] 1 <|
         .br 82
          (.ret [.b false])
          (.ret [.b false]))
         (.sw 70 1
          (.cst .f32 0 <|
          .cst .f32 0 <|
          .cst .f32 0 <|
          .cst .f32 0 <|
          .cst .f32 0 <|
          .cst .f32 0 <|
          .cst .f32 0 <|
          .cst .f32 0 <|
          .cst .f32 0 <|
          .cst .f32 0 <|
          .cst .f32 0 <|
          .call 57 [.v 59, .v 60, .v 61, .v 62, .v 63, .v 64, .v 65, .v 66, .v 67, .v 68, .v 69, .v 25, .v 26, .v 27, .v 28, .v 29, .v 30, .v 31, .v 32, .v 33, .v 34, .v 35] 1 <|
          .br 82
           (.ret [.b true])
           (.ret [.b false]))
          (.bad "sw")))))
      (.bad "sw"))))
def s58 : Sum := ⟨58, [.agg [.f .f32, .f .f32, .f .f32, .f .f32, .f .f32, .f .f32, .f .f32, .f .f32, .f .f32, .f .f32, .f .f32], .val (.f .f32), .val (.f .f32), .val (.f .f32)], [.val (.b)]⟩
/-- loop.example/g01249/spec.l01Small -/
def t59 : T :=
  .cst .f32 897581056 <|
  .tst 1 .f32 1 0
   (.ret [.b false])
   (.cst .f32 3045064704 <|
   .tst 1 .f32 0 2
    (.ret [.b false])
    (.ret [.b true]))
def s59 : Sum := ⟨59, [.val (.f .f32)], [.val (.b)]⟩
/-- loop.example/g01249/spec.MeetPlanes -/
def t60 : T :=
  .cst .f32 0 <|
  .cst .f32 0 <|
  .cst .f32 0 <|
  .cst .f32 0 <|
  .cst .f32 0 <|
  .cst .f32 0 <|
  .call 48 [.v 0, .v 1, .v 2, .v 3] 1 <|
  .br 14
   (.call 48 [.v 4, .v 5, .v 6, .v 7] 1 <|
   .br 15
    (.call 13 [.v 0, .v 1, .v 2, .v 4, .v 5, .v 6] 3 <|
    .cst .f32 0 <|
    .cst .f32 0 <|
    .cst .f32 0 <|
    .call 6 [.v 16, .v 17, .v 18, .v 16, .v 17, .v 18] 1 <|
    .call 59 [.v 22] 1 <|
    .br 23
     (.cst .f32 0 <|
     .cst .f32 0 <|
     .cst .f32 0 <|
     .cst .f32 0 <|
     .cst .f32 0 <|
     .cst .f32 0 <|
     .ret [.v 24, .v 25, .v 26, .v 27, .v 28, .v 29, .i .i64 4])
     (.call 12 [.v 16, .v 17, .v 18] 4 <|
     .br 27
      (.cst .f32 0 <|
      .cst .f32 0 <|
      .cst .f32 0 <|
      .call 18 [.v 4, .v 5, .v 6, .v 3] 3 <|
      .call 18 [.v 0, .v 1, .v 2, .v 7] 3 <|
      .call 5 [.v 31, .v 32, .v 33, .v 34, .v 35, .v 36] 3 <|
      .call 13 [.v 37, .v 38, .v 39, .v 16, .v 17, .v 18] 3 <|
      .cst .f32 0 <|
      .cst .f32 0 <|
      .cst .f32 0 <|
      .bin .div .f32 40 22 <|
      .bin .div .f32 41 22 <|
      .bin .div .f32 42 22 <|
      .cst .f32 0 <|
      .cst .f32 0 <|
      .cst .f32 0 <|
      .cst .f32 0 <|
      .cst .f32 0 <|
      .cst .f32 0 <|
      .call 11 [.v 46, .v 47, .v 48] 1 <|
      .br 55
       (.ret [.v 46, .v 47, .v 48, .v 24, .v 25, .v 26, .i .i64 0])
       (.cst .f32 0 <|
       .cst .f32 0 <|
       .cst .f32 0 <|
       .cst .f32 0 <|
       .cst .f32 0 <|
       .cst .f32 0 <|
       .ret [.v 56, .v 57, .v 58, .v 59, .v 60, .v 61, .i .i64 4]))
      (.cst .f32 0 <|
      .cst .f32 0 <|
      .cst .f32 0 <|
      .call 18 [.v 4, .v 5, .v 6, .v 3] 3 <|
      .call 18 [.v 0, .v 1, .v 2, .v 7] 3 <|
      .call 5 [.v 31, .v 32, .v 33, .v 34, .v 35, .v 36] 3 <|
      .call 13 [.v 37, .v 38, .v 39, .v 16, .v 17, .v 18] 3 <|
      .cst .f32 0 <|
      .cst .f32 0 <|
      .cst .f32 0 <|
      .bin .div .f32 40 22 <|
      .bin .div .f32 41 22 <|
      .bin .div .f32 42 22 <|
      .cst .f32 0 <|
      .cst .f32 0 <|
      .cst .f32 0 <|
      .cst .f32 0 <|
      .cst .f32 0 <|
      .cst .f32 0 <|
      .cst .f32 0 <|
      .cst .f32 0 <|
      .cst .f32 0 <|
      .cst .f32 0 <|
      .cst .f32 0 <|
      .cst .f32 0 <|
      .ret [.v 55, .v 56, .v 57, .v 58, .v 59, .v 60, .i .i64 4])))
    (.cst .f32 0 <|
    .cst .f32 0 <|
    .cst .f32 0 <|
    .cst .f32 0 <|
    .cst .f32 0 <|
    .cst .f32 0 <|
    .ret [.v 16, .v 17, .v 18, .v 19, .v 20, .v 21, .i .i64 1]))
   (.cst .f32 0 <|
   .cst .f32 0 <|
   .cst .f32 0 <|
   .cst .f32 0 <|
   .cst .f32 0 <|
   .cst .f32 0 <|
   .ret [.v 15, .v 16, .v 17, .v 18, .v 19, .v 20, .i .i64 1])
def s60 : Sum := ⟨60, [.agg [.f .f32, .f .f32, .f .f32, .f .f32], .agg [.f .f32, .f .f32, .f .f32, .f .f32]], [.agg [.f .f32, .f .f32, .f .f32], .agg [.f .f32, .f .f32, .f .f32], .val (.i .i64 [4, 0, 1])]⟩
/-- loop.example/g01249/impl.MeetPlanes -/
def t61 : T :=
  .cst .f32 0 <|
  .cst .f32 0 <|
  .cst .f32 0 <|
  .cst .f32 0 <|
  .cst .f32 0 <|
  .cst .f32 0 <|
  .call 50 [.v 0, .v 1, .v 2, .v 3] 1 <|
  .br 14
   (.call 50 [.v 4, .v 5, .v 6, .v 7] 1 <|
   .br 15
    (.call 35 [.v 0, .v 1, .v 2, .v 4, .v 5, .v 6] 3 <|
    .cst .f32 0 <|
    .cst .f32 0 <|
    .cst .f32 0 <|
    .call 28 [.v 16, .v 17, .v 18, .v 16, .v 17, .v 18] 1 <|
    .call 34 [.v 16, .v 17, .v 18] 4 <|
    .br 26
     (.cst .f32 0 <|
     .cst .f32 0 <|
     .cst .f32 0 <|
     .cst .f32 897581056 <|
     .tst 0 .f32 22 30
      (.cst .f32 0 <|
      .cst .f32 0 <|
      .cst .f32 0 <|
      .cst .f32 0 <|
      .cst .f32 0 <|
      .cst .f32 0 <|
      .ret [.v 31, .v 32, .v 33, .v 34, .v 35, .v 36, .i .i64 4])
      (.call 39 [.v 4, .v 5, .v 6, .v 3] 3 <|
      .call 39 [.v 0, .v 1, .v 2, .v 7] 3 <|
      .call 27 [.v 31, .v 32, .v 33, .v 34, .v 35, .v 36] 3 <|
      .call 35 [.v 37, .v 38, .v 39, .v 16, .v 17, .v 18] 3 <|
      .call 32 [.v 40, .v 41, .v 42, .v 22] 3 <|
      .call 42 [.v 43, .v 44, .v 45] 4 <|
      .sw 49 4
       (.cst .f32 0 <|
       .cst .f32 0 <|
       .cst .f32 0 <|
       .cst .f32 0 <|
       .cst .f32 0 <|
       .cst .f32 0 <|
       .cst .f32 0 <|
       .cst .f32 0 <|
       .cst .f32 0 <|
       .ret [.v 53, .v 54, .v 55, .v 56, .v 57, .v 58, .i .i64 4])
       (.sw 49 0
        (.cst .f32 0 <|
        .cst .f32 0 <|
        .cst .f32 0 <|
        .ret [.v 46, .v 47, .v 48, .v 23, .v 24, .v 25, .i .i64 0])
        (.bad "sw"))))
     (.cst .f32 0 <|
     .cst .f32 0 <|
     .cst .f32 0 <|
     .cst .f32 0 <|
     .cst .f32 0 <|
     .cst .f32 0 <|
     .cst .f32 0 <|
     .cst .f32 0 <|
     .cst .f32 0 <|
     .ret [.v 30, .v 31, .v 32, .v 33, .v 34, .v 35, .i .i64 4]))
    (.cst .f32 0 <|
    .cst .f32 0 <|
    .cst .f32 0 <|
    .cst .f32 0 <|
    .cst .f32 0 <|
    .cst .f32 0 <|
    .ret [.v 16, .v 17, .v 18, .v 19, .v 20, .v 21, .i .i64 1]))
   (.cst .f32 0 <|
   .cst .f32 0 <|
   .cst .f32 0 <|
   .cst .f32 0 <|
   .cst .f32 0 <|
   .cst .f32 0 <|
   .ret [.v 15, .v 16, .v 17, .v 18, .v 19, .v 20, .i .i64 1])
def s61 : Sum := ⟨61, [.agg [.f .f32, .f .f32, .f .f32, .f .f32], .agg [.f .f32, .f .f32, .f .f32, .f .f32]], [.agg [.f .f32, .f .f32, .f .f32], .agg [.f .f32, .f .f32, .f .f32], .val (.i .i64 [4, 0, 1])]⟩
/-- loop.example/g01249/laws.FnExactMeetPlanes -/
def t62 : T :=
  .call 47 [.v 0, .v 1, .v 2, .v 3] 4 <|
  .call 47 [.v 4, .v 5, .v 6, .v 7] 4 <|
  .call 60 [.v 8, .v 9, .v 10, .v 11, .v 12, .v 13, .v 14, .v 15] 7 <|
  .sw 22 4
   (.cst .f32 0 <|
   .cst .f32 0 <|
   .cst .f32 0 <|
   .cst .f32 0 <|
   .cst .f32 0 <|
   .cst .f32 0 <|
   .call 47 [.v 0, .v 1, .v 2, .v 3] 4 <|
   .call 47 [.v 4, .v 5, .v 6, .v 7] 4 <|
   .call 61 [.v 29, .v 30, .v 31, .v 32, .v 33, .v 34, .v 35, .v 36] 7 <|
   .sw 43 4
    (.cst .f32 0 <|
    .cst .f32 0 <|
    .cst .f32 0 <|
    .cst .f32 0 <|
    .cst .f32 0 <|
    .cst .f32 0 <|
    .call 45 [.v 37, .v 38, .v 39, .v 16, .v 17, .v 18] 1 <|
    .br 50
     (.call 45 [.v 40, .v 41, .v 42, .v 19, .v 20, .v 21] 1 <|
     .br 51
      (.ret [.b true])
      (.ret [.b false]))
     (.ret [.b false]))
    (.sw 43 0
     (.cst .f32 0 <|
     .cst .f32 0 <|
     .cst .f32 0 <|
     .cst .f32 0 <|
     .cst .f32 0 <|
     .cst .f32 0 <|
     .call 45 [.v 37, .v 38, .v 39, .v 16, .v 17, .v 18] 1 <|
     .br 50
      (.call 45 [.v 40, .v 41, .v 42, .v 19, .v 20, .v 21] 1 <|
      .br 51
       (.ret [.b false])
       (.ret [.b false]))
      (.ret [.b false]))
     (.sw 43 1
      (.cst .f32 0 <|
      .cst .f32 0 <|
      .cst .f32 0 <|
      .cst .f32 0 <|
      .cst .f32 0 <|
      .cst .f32 0 <|
      .call 45 [.v 37, .v 38, .v 39, .v 16, .v 17, .v 18] 1 <|
      .br 50
       (.call 45 [.v 40, .v 41, .v 42, .v 19, .v 20, .v 21] 1 <|
       .br 51
        (.ret [.b false])
        (.ret [.b false]))
       (.ret [.b false]))
      (.bad "sw"))))
   (.sw 22 0
    (.cst .f32 0 <|
    .cst .f32 0 <|
    .cst .f32 0 <|
    .cst .f32 0 <|
    .cst .f32 0 <|
    .cst .f32 0 <|
    .call 47 [.v 0, .v 1, .v 2, .v 3] 4 <|
    .call 47 [.v 4, .v 5, .v 6, .v 7] 4 <|
    .call 61 [.v 29, .v 30, .v 31, .v 32, .v 33, .v 34, .v 35, .v 36] 7 <|
    .sw 43 4
     (.cst .f32 0 <|
     .cst .f32 0 <|
     .cst .f32 0 <|
     .cst .f32 0 <|
     .cst .f32 0 <|
     .cst .f32 0 <|
     .call 45 [.v 37, .v 38, .v 39, .v 16, .v 17, .v 18] 1 <|
     .br 50
      (.call 45 [.v 40, .v 41, .v 42, .v 19, .v 20, .v 21] 1 <|
      .br 51
       (.ret [.b false])
       (.ret [.b false]))
      (.ret [.b false]))
     (.sw 43 0
      (.cst .f32 0 <|
      .cst .f32 0 <|
      .cst .f32 0 <|
      .cst .f32 0 <|
      .cst .f32 0 <|
      .cst .f32 0 <|
      .call 45 [.v 37, .v 38, .v 39, .v 16, .v 17, .v 18] 1 <|
      .br 50
       (.call 45 [.v 40, .v 41, .v 42, .v 19, .v 20, .v 21] 1 <|
       .br 51
        (.ret [.b true])
        (.ret [.b false]))
       (.ret [.b false]))
      (.sw 43 1
       (.cst .f32 0 <|
       .cst .f32 0 <|
       .cst .f32 0 <|
       .cst .f32 0 <|
       .cst .f32 0 <|
       .cst .f32 0 <|
       .call 45 [.v 37, .v 38, .v 39, .v 16, .v 17, .v 18] 1 <|
       .br 50
        (.call 45 [.v 40, .v 41, .v 42, .v 19, .v 20, .v 21] 1 <|
        .br 51
         (.ret [.b false])
         (.ret [.b false]))
        (.ret [.b false]))
       (.bad "sw"))))
    (.sw 22 1
     (.cst .f32 0 <|
     .cst .f32 0 <|
     .cst .f32 0 <|
     .cst .f32 0 <|
     .cst .f32 0 <|
     .cst .f32 0 <|
     .call 47 [.v 0, .v 1, .v 2, .v 3] 4 <|
     .call 47 [.v 4, .v 5, .v 6, .v 7] 4 <|
     .call 61 [.v 29, .v 30, .v 31, .v 32, .v 33, .v 34, .v 35, .v 36] 7 <|
     .sw 43 4
      (.cst .f32 0 <|
      .cst .f32 0 <|
      .cst .f32 0 <|
      .cst .f32 0 <|
      .cst .f32 0 <|
      .cst .f32 0 <|
      .call 45 [.v 37, .v 38, .v 39, .v 16, .v 17, .v 18] 1 <|
      .br 50
       (.call 45 [.v 40, .v 41, .v 42, .v 19, .v 20, .v 21] 1 <|
       .br 51
        (.ret [.b false])
        (.ret [.b false]))
       (.ret [.b false]))
      (.sw 43 0
       (.cst .f32 0 <|
       .cst .f32 0 <|
       .cst .f32 0 <|
       .cst .f32 0 <|
       .cst .f32 0 <|
       .cst .f32 0 <|
       .call 45 [.v 37, .v 38, .v 39, .v 16, .v 17, .v 18] 1 <|
       .br 50
        (.call 45 [.v 40, .v 41, .v 42, .v 19, .v 20, .v 21] 1 <|
        .br 51
         (.ret [.b false])
         (.ret [.b false]))
        (.ret [.b false]))
       (.sw 43 1
        (.cst .f32 0 <|
        .cst .f32 0 <|
        .cst .f32 0 <|
        .cst .f32 0 <|
        .cst .f32 0 <|
        .cst .f32 0 <|
        .call 45 [.v 37, .v 38, .v 39, .v 16, .v 17, .v 18] 1 <|
        .br 50
         (.call 45 [.v 40, .v 41, .v 42, .v 19, .v 20, .v 21] 1 <|
         .br 51
          (.ret [.b true])
          (.ret [.b false]))
         (.ret [.b false]))
        (.bad "sw"))))
     (.bad "sw")))
def s62 : Sum := ⟨62, [.agg [.f .f32, .f .f32, .f .f32, .f .f32], .agg [.f .f32, .f .f32, .f .f32, .f .f32]], [.val (.b)]⟩
def ts : List T := [t0, t1, t2, t3, t4, t5, t6, t7, t8, t9, t10, t11, t12, t13, t14, t15, t16, t17, t18, t19, t20, t21, t22, t23, t24, t25, t26, t27, t28, t29, t30, t31, t32, t33, t34, t35, t36, t37, t38, t39, t40, t41, t42, t43, t44, t45, t46, t47, t48, t49, t50, t51, t52, t53, t54, t55, t56, t57, t58, t59, t60, t61, t62]
def sm : List (FuncId × Sum) := [(28, s0), (8, s1), (9, s2), (22, s3), (57, s4), (50, s5), (40, s6), (78, s7), (73, s8), (63, s9), (67, s10), (51, s11), (49, s12), (47, s13), (23, s14), (20, s15), (21, s16), (27, s17), (26, s18), (25, s19), (24, s20), (7, s21), (32, s22), (66, s23), (59, s24), (69, s25), (75, s26), (56, s27), (43, s28), (77, s29), (68, s30), (70, s31), (55, s32), (72, s33), (54, s34), (53, s35), (61, s36), (60, s37), (33, s38), (36, s39), (35, s40), (37, s41), (34, s42), (10, s43), (38, s44), (11, s45), (3, s46), (13, s47), (39, s48), (12, s49), (52, s50), (14, s51), (4, s52), (44, s53), (15, s54), (46, s55), (16, s56), (17, s57), (5, s58), (48, s59), (18, s60), (19, s61), (6, s62)]
def ex : List (FuncId × Ext) := [(80, .sqrt)]
end Go.Proofs.Ytobklhfilmgncaa
