/- The trees of the program's functions. -/
import Derived.Test.YtconlkliclhbpaaSxB
namespace Go.Proofs.Ytconlkliclhbpaa
open Sx Go
/-- loop.example/g01249/laws.FnExactConstants -/
def t0 : T :=
  .ret [.b true]
def s0 : Sum := ⟨0, [], [.val (.b)]⟩
/-- loop.example/g01249/spec.l01Plain -/
def t1 : T :=
  .cst .f32 3379831808 <|
  .tst 1 .f32 1 0
   (.cst .f32 1232348160 <|
   .tst 1 .f32 0 2
    (.ret [.b true])
    (.ret [.b false]))
   (.ret [.b false])
def s1 : Sum := ⟨1, [.val (.f .f32)], [.val (.b)]⟩
/-- loop.example/g01249/spec.IsPlain -/
def t2 : T :=
  .call 1 [.v 0] 1 <|
  .br 1
   (.ret [.b true])
   (.ret [.b false])
def s2 : Sum := ⟨2, [.val (.f .f32)], [.val (.b)]⟩
/-- loop.example/g01249/impl.IsPlain -/
def t3 : T :=
  .cst .f32 3379831808 <|
  .tst 1 .f32 1 0
   (.cst .f32 1232348160 <|
   .tst 1 .f32 0 2
    (.ret [.b true])
    (.ret [.b false]))
   (.ret [.b false])
def s3 : Sum := ⟨3, [.val (.f .f32)], [.val (.b)]⟩
/-- loop.example/g01249/laws.FnExactIsPlain -/
def t4 : T :=
  .call 2 [.v 0] 1 <|
  .br 1
   (.call 3 [.v 0] 1 <|
   .br 2
    (.ret [.b true])
    (.ret [.b false]))
   (.call 3 [.v 0] 1 <|
   .br 2
    (.ret [.b false])
    (.ret [.b true]))
def s4 : Sum := ⟨4, [.val (.f .f32)], [.val (.b)]⟩
/-- loop.example/g01249/spec.l01Same -/
def t5 : T :=
  .tst 2 .f32 0 0
   (.tst 2 .f32 1 1
    (.tsb .f32 0 1
     (.ret [.b true])
     (.ret [.b false]))
    (.tst 2 .f32 0 0
     (.ret [.b false])
     (.tst 2 .f32 1 1
      (.ret [.b false])
      (.ret [.b true]))))
   (.tst 2 .f32 0 0
    (.ret [.b false])
    (.tst 2 .f32 1 1
     (.ret [.b false])
     (.ret [.b true])))
def s5 : Sum := ⟨5, [.val (.f .f32), .val (.f .f32)], [.val (.b)]⟩
/-- loop.example/g01249/spec.SameNumber -/
def t6 : T :=
  .call 5 [.v 0, .v 1] 1 <|
  .br 2
   (.ret [.b true])
   (.ret [.b false])
def s6 : Sum := ⟨6, [.val (.f .f32), .val (.f .f32)], [.val (.b)]⟩
/-- loop.example/g01249/impl.SameNumber -/
def t7 : T :=
  .tst 2 .f32 0 0
   (.tst 2 .f32 1 1
    (.tsb .f32 0 1
     (.ret [.b true])
     (.ret [.b false]))
    (.tst 2 .f32 0 0
     (.ret [.b false])
     (.tst 2 .f32 1 1
      (.ret [.b false])
      (.ret [.b true]))))
   (.tst 2 .f32 0 0
    (.ret [.b false])
    (.tst 2 .f32 1 1
     (.ret [.b false])
     (.ret [.b true])))
def s7 : Sum := ⟨7, [.val (.f .f32), .val (.f .f32)], [.val (.b)]⟩
/-- loop.example/g01249/laws.FnExactSameNumber -/
def t8 : T :=
  .call 6 [.v 0, .v 1] 1 <|
  .br 2
   (.call 7 [.v 0, .v 1] 1 <|
   .br 3
    (.ret [.b true])
    (.ret [.b false]))
   (.call 7 [.v 0, .v 1] 1 <|
   .br 3
    (.ret [.b false])
    (.ret [.b true]))
def s8 : Sum := ⟨8, [.val (.f .f32), .val (.f .f32)], [.val (.b)]⟩
/-- loop.example/g01249/laws.toPoint -/
def t9 : T :=
  .cst .f32 0 <|
  .cst .f32 0 <|
  .cst .f32 0 <|
  .cst .f32 0 <|
  .cst .f32 0 <|
  .cst .f32 0 <|
  .ret [.v 0, .v 1, .v 2]
def s9 : Sum := ⟨9, [.agg [.f .f32, .f .f32, .f .f32]], [.agg [.f .f32, .f .f32, .f .f32]]⟩
/-- loop.example/g01249/spec.DotOf -/
def t10 : T :=
  .cst .f32 0 <|
  .bin .mul .f32 0 3 <|
  .bin .mul .f32 1 4 <|
  .bin .add .f32 7 8 <|
  .bin .mul .f32 2 5 <|
  .bin .add .f32 9 10 <|
  .ret [.v 11]
def s10 : Sum := ⟨10, [.agg [.f .f32, .f .f32, .f .f32], .agg [.f .f32, .f .f32, .f .f32]], [.val (.f .f32)]⟩
/-- loop.example/g01249/impl.DotOf -/
def t11 : T :=
  .cst .f32 0 <|
  .bin .mul .f32 0 3 <|
  .bin .mul .f32 1 4 <|
  .bin .add .f32 7 8 <|
  .bin .mul .f32 2 5 <|
  .bin .add .f32 9 10 <|
  .ret [.v 11]
def s11 : Sum := ⟨11, [.agg [.f .f32, .f .f32, .f .f32], .agg [.f .f32, .f .f32, .f .f32]], [.val (.f .f32)]⟩
/-- loop.example/g01249/laws.sameFloat -/
def t12 : T :=
  .tst 2 .f64 0 0
   (.tst 2 .f64 1 1
    (.cst .f64 0 <|
    .tst 2 .f64 0 2
     (.cst .f64 0 <|
     .tst 2 .f64 1 3
      (.cst .f64 4607182418800017408 <|
      .bin .div .f64 4 0 <|
      .cst .f64 0 <|
      .tst 0 .f64 6 5
       (.cst .f64 4607182418800017408 <|
       .bin .div .f64 7 1 <|
       .cst .f64 0 <|
       .tst 0 .f64 9 8
        (.ret [.b true])
        (.ret [.b false]))
       (.cst .f64 4607182418800017408 <|
       .bin .div .f64 7 1 <|
       .cst .f64 0 <|
       .tst 0 .f64 9 8
        (.ret [.b false])
        (.ret [.b true])))
      (.tst 2 .f64 0 1
       (.ret [.b true])
       (.ret [.b false])))
     (.tst 2 .f64 0 1
      (.ret [.b true])
      (.ret [.b false])))
    (.tst 2 .f64 0 0
     (.ret [.b false])
     (.tst 2 .f64 1 1
      (.ret [.b false])
      (.ret [.b true]))))
   (.tst 2 .f64 0 0
    (.ret [.b false])
    (.tst 2 .f64 1 1
     (.ret [.b false])
     (.ret [.b true])))
def s12 : Sum := ⟨12, [.val (.f .f64), .val (.f .f64)], [.val (.b)]⟩
/-- loop.example/g01249/laws.FnExactDotOf -/
def t13 : T :=
  .call 9 [.v 0, .v 1, .v 2] 3 <|
  .call 9 [.v 3, .v 4, .v 5] 3 <|
  .call 10 [.v 6, .v 7, .v 8, .v 9, .v 10, .v 11] 1 <|
  .call 9 [.v 0, .v 1, .v 2] 3 <|
  .call 9 [.v 3, .v 4, .v 5] 3 <|
  .call 11 [.v 13, .v 14, .v 15, .v 16, .v 17, .v 18] 1 <|
  .un .widen .f32 19 <|
  .un .widen .f32 12 <|
  .call 12 [.v 20, .v 21] 1 <|
  .br 22
   (.ret [.b true])
   (.ret [.b false])
def s13 : Sum := ⟨13, [.agg [.f .f32, .f .f32, .f .f32], .agg [.f .f32, .f .f32, .f .f32]], [.val (.b)]⟩
/-- loop.example/g01249/spec.l01Point -/
def t14 : T :=
  .call 1 [.v 0] 1 <|
  .br 3
   (.call 1 [.v 1] 1 <|
   .br 4
    (.call 1 [.v 2] 1 <|
    .br 5
     (.ret [.b true])
     (.ret [.b false]))
    (.ret [.b false]))
   (.ret [.b false])
def s14 : Sum := ⟨14, [.agg [.f .f32, .f .f32, .f .f32]], [.val (.b)]⟩
/-- loop.example/g01249/spec.ValidPoint -/
def t15 : T :=
  .call 14 [.v 0, .v 1, .v 2] 1 <|
  .br 3
   (.ret [.b true])
   (.ret [.b false])
def s15 : Sum := ⟨15, [.agg [.f .f32, .f .f32, .f .f32]], [.val (.b)]⟩
/-- loop.example/g01249/impl.arePlain$1 -/
def t16 : T :=
  .call 3 [.v 0] 1 <|
  .br 1
   (.ret [.b false])
   (.ret [.b true])
def s16 : Sum := ⟨16, [.val (.f .f32)], [.val (.b)]⟩
/-- loop.example/g01249/impl.ValidPoint -/
def t17 : T :=
  .call 16 [.v 0] 1 <|
  .br 3
   (.ret [.b false])
   (.call 16 [.v 1] 1 <|
   .br 4
    (.ret [.b false])
    (.call 16 [.v 2] 1 <|
    .br 5
     (.ret [.b false])
     (.ret [.b true])))
def s17 : Sum := ⟨17, [.agg [.f .f32, .f .f32, .f .f32]], [.val (.b)]⟩
/-- loop.example/g01249/laws.FnExactValidPoint -/
def t18 : T :=
  .call 9 [.v 0, .v 1, .v 2] 3 <|
  .call 15 [.v 3, .v 4, .v 5] 1 <|
  .br 6
   (.call 9 [.v 0, .v 1, .v 2] 3 <|
   .call 17 [.v 7, .v 8, .v 9] 1 <|
   .br 10
    (.ret [.b true])
    (.ret [.b false]))
   (.call 9 [.v 0, .v 1, .v 2] 3 <|
   .call 17 [.v 7, .v 8, .v 9] 1 <|
   .br 10
    (.ret [.b false])
    (.ret [.b true]))
def s18 : Sum := ⟨18, [.agg [.f .f32, .f .f32, .f .f32]], [.val (.b)]⟩
/-- loop.example/g01249/spec.l01SamePoint -/
def t19 : T :=
  .call 5 [.v 0, .v 3] 1 <|
  .br 6
   (.call 5 [.v 1, .v 4] 1 <|
   .br 7
    (.call 5 [.v 2, .v 5] 1 <|
    .br 8
     (.ret [.b true])
     (.ret [.b false]))
    (.ret [.b false]))
   (.ret [.b false])
def s19 : Sum := ⟨19, [.agg [.f .f32, .f .f32, .f .f32], .agg [.f .f32, .f .f32, .f .f32]], [.val (.b)]⟩
/-- loop.example/g01249/spec.SamePoint -/
def t20 : T :=
  .call 19 [.v 0, .v 1, .v 2, .v 3, .v 4, .v 5] 1 <|
  .br 6
   (.ret [.b true])
   (.ret [.b false])
def s20 : Sum := ⟨20, [.agg [.f .f32, .f .f32, .f .f32], .agg [.f .f32, .f .f32, .f .f32]], [.val (.b)]⟩
/-- loop.example/g01249/impl.SamePoint -/
def t21 : T :=
  .call 7 [.v 0, .v 3] 1 <|
  .br 6
   (.call 7 [.v 1, .v 4] 1 <|
   .br 7
    (.call 7 [.v 2, .v 5] 1 <|
    .br 8
     (.ret [.b true])
     (.ret [.b false]))
    (.ret [.b false]))
   (.ret [.b false])
def s21 : Sum := ⟨21, [.agg [.f .f32, .f .f32, .f .f32], .agg [.f .f32, .f .f32, .f .f32]], [.val (.b)]⟩
/-- loop.example/g01249/laws.FnExactSamePoint -/
def t22 : T :=
  .call 9 [.v 0, .v 1, .v 2] 3 <|
  .call 9 [.v 3, .v 4, .v 5] 3 <|
  .call 20 [.v 6, .v 7, .v 8, .v 9, .v 10, .v 11] 1 <|
  .br 12
   (.call 9 [.v 0, .v 1, .v 2] 3 <|
   .call 9 [.v 3, .v 4, .v 5] 3 <|
   .call 21 [.v 13, .v 14, .v 15, .v 16, .v 17, .v 18] 1 <|
   .br 19
    (.ret [.b true])
    (.ret [.b false]))
   (.call 9 [.v 0, .v 1, .v 2] 3 <|
   .call 9 [.v 3, .v 4, .v 5] 3 <|
   .call 21 [.v 13, .v 14, .v 15, .v 16, .v 17, .v 18] 1 <|
   .br 19
    (.ret [.b false])
    (.ret [.b true]))
def s22 : Sum := ⟨22, [.agg [.f .f32, .f .f32, .f .f32], .agg [.f .f32, .f .f32, .f .f32]], [.val (.b)]⟩
/-- loop.example/g01249/spec.AddPoints -/
def t23 : T :=
  .cst .f32 0 <|
  .cst .f32 0 <|
  .cst .f32 0 <|
  .bin .add .f32 0 3 <|
  .bin .add .f32 1 4 <|
  .bin .add .f32 2 5 <|
  .cst .f32 0 <|
  .cst .f32 0 <|
  .cst .f32 0 <|
  .ret [.v 9, .v 10, .v 11]
def s23 : Sum := ⟨23, [.agg [.f .f32, .f .f32, .f .f32], .agg [.f .f32, .f .f32, .f .f32]], [.agg [.f .f32, .f .f32, .f .f32]]⟩
/-- loop.example/g01249/impl.AddPoints -/
def t24 : T :=
  .cst .f32 0 <|
  .cst .f32 0 <|
  .cst .f32 0 <|
  .bin .add .f32 0 3 <|
  .bin .add .f32 1 4 <|
  .bin .add .f32 2 5 <|
  .cst .f32 0 <|
  .cst .f32 0 <|
  .cst .f32 0 <|
  .ret [.v 9, .v 10, .v 11]
def s24 : Sum := ⟨24, [.agg [.f .f32, .f .f32, .f .f32], .agg [.f .f32, .f .f32, .f .f32]], [.agg [.f .f32, .f .f32, .f .f32]]⟩
/-- loop.example/g01249/laws.eqPoint -/
def t25 : T :=
  .un .widen .f32 0 <|
  .un .widen .f32 3 <|
  .call 12 [.v 6, .v 7] 1 <|
  .br 8
   (.un .widen .f32 1 <|
   .un .widen .f32 4 <|
   .call 12 [.v 9, .v 10] 1 <|
   .br 11
    (.un .widen .f32 2 <|
    .un .widen .f32 5 <|
    .call 12 [.v 12, .v 13] 1 <|
    .br 14
     (.ret [.b true])
     (.ret [.b false]))
    (.ret [.b false]))
   (.ret [.b false])
def s25 : Sum := ⟨25, [.agg [.f .f32, .f .f32, .f .f32], .agg [.f .f32, .f .f32, .f .f32]], [.val (.b)]⟩
/-- loop.example/g01249/laws.FnExactAddPoints -/
def t26 : T :=
  .call 9 [.v 0, .v 1, .v 2] 3 <|
  .call 9 [.v 3, .v 4, .v 5] 3 <|
  .call 23 [.v 6, .v 7, .v 8, .v 9, .v 10, .v 11] 3 <|
  .cst .f32 0 <|
  .cst .f32 0 <|
  .cst .f32 0 <|
  .call 9 [.v 0, .v 1, .v 2] 3 <|
  .call 9 [.v 3, .v 4, .v 5] 3 <|
  .call 24 [.v 18, .v 19, .v 20, .v 21, .v 22, .v 23] 3 <|
  .cst .f32 0 <|
  .cst .f32 0 <|
  .cst .f32 0 <|
  .call 25 [.v 24, .v 25, .v 26, .v 12, .v 13, .v 14] 1 <|
  .br 30
   (.ret [.b true])
   (.ret [.b false])
def s26 : Sum := ⟨26, [.agg [.f .f32, .f .f32, .f .f32], .agg [.f .f32, .f .f32, .f .f32]], [.val (.b)]⟩
/-- loop.example/g01249/spec.ScalePoint -/
def t27 : T :=
  .cst .f32 0 <|
  .cst .f32 0 <|
  .cst .f32 0 <|
  .bin .mul .f32 0 3 <|
  .bin .mul .f32 1 3 <|
  .bin .mul .f32 2 3 <|
  .cst .f32 0 <|
  .cst .f32 0 <|
  .cst .f32 0 <|
  .ret [.v 7, .v 8, .v 9]
def s27 : Sum := ⟨27, [.agg [.f .f32, .f .f32, .f .f32], .val (.f .f32)], [.agg [.f .f32, .f .f32, .f .f32]]⟩
/-- loop.example/g01249/impl.ScalePoint -/
def t28 : T :=
  .cst .f32 0 <|
  .cst .f32 0 <|
  .cst .f32 0 <|
  .bin .mul .f32 0 3 <|
  .bin .mul .f32 1 3 <|
  .bin .mul .f32 2 3 <|
  .cst .f32 0 <|
  .cst .f32 0 <|
  .cst .f32 0 <|
  .ret [.v 7, .v 8, .v 9]
def s28 : Sum := ⟨28, [.agg [.f .f32, .f .f32, .f .f32], .val (.f .f32)], [.agg [.f .f32, .f .f32, .f .f32]]⟩
/-- loop.example/g01249/laws.FnExactScalePoint -/
def t29 : T :=
  .call 9 [.v 0, .v 1, .v 2] 3 <|
  .call 27 [.v 4, .v 5, .v 6, .v 3] 3 <|
  .cst .f32 0 <|
  .cst .f32 0 <|
  .cst .f32 0 <|
  .call 9 [.v 0, .v 1, .v 2] 3 <|
  .call 28 [.v 13, .v 14, .v 15, .v 3] 3 <|
  .cst .f32 0 <|
  .cst .f32 0 <|
  .cst .f32 0 <|
  .call 25 [.v 16, .v 17, .v 18, .v 7, .v 8, .v 9] 1 <|
  .br 22
   (.ret [.b true])
   (.ret [.b false])
def s29 : Sum := ⟨29, [.agg [.f .f32, .f .f32, .f .f32], .val (.f .f32)], [.val (.b)]⟩
/-- loop.example/g01249/spec.SubPoints -/
def t30 : T :=
  .cst .f32 0 <|
  .cst .f32 0 <|
  .cst .f32 0 <|
  .bin .sub .f32 0 3 <|
  .bin .sub .f32 1 4 <|
  .bin .sub .f32 2 5 <|
  .cst .f32 0 <|
  .cst .f32 0 <|
  .cst .f32 0 <|
  .ret [.v 9, .v 10, .v 11]
def s30 : Sum := ⟨30, [.agg [.f .f32, .f .f32, .f .f32], .agg [.f .f32, .f .f32, .f .f32]], [.agg [.f .f32, .f .f32, .f .f32]]⟩
/-- loop.example/g01249/impl.SubPoints -/
def t31 : T :=
  .cst .f32 0 <|
  .cst .f32 0 <|
  .cst .f32 0 <|
  .bin .sub .f32 0 3 <|
  .bin .sub .f32 1 4 <|
  .bin .sub .f32 2 5 <|
  .cst .f32 0 <|
  .cst .f32 0 <|
  .cst .f32 0 <|
  .ret [.v 9, .v 10, .v 11]
def s31 : Sum := ⟨31, [.agg [.f .f32, .f .f32, .f .f32], .agg [.f .f32, .f .f32, .f .f32]], [.agg [.f .f32, .f .f32, .f .f32]]⟩
/-- loop.example/g01249/laws.FnExactSubPoints -/
def t32 : T :=
  .call 9 [.v 0, .v 1, .v 2] 3 <|
  .call 9 [.v 3, .v 4, .v 5] 3 <|
  .call 30 [.v 6, .v 7, .v 8, .v 9, .v 10, .v 11] 3 <|
  .cst .f32 0 <|
  .cst .f32 0 <|
  .cst .f32 0 <|
  .call 9 [.v 0, .v 1, .v 2] 3 <|
  .call 9 [.v 3, .v 4, .v 5] 3 <|
  .call 31 [.v 18, .v 19, .v 20, .v 21, .v 22, .v 23] 3 <|
  .cst .f32 0 <|
  .cst .f32 0 <|
  .cst .f32 0 <|
  .call 25 [.v 24, .v 25, .v 26, .v 12, .v 13, .v 14] 1 <|
  .br 30
   (.ret [.b true])
   (.ret [.b false])
def s32 : Sum := ⟨32, [.agg [.f .f32, .f .f32, .f .f32], .agg [.f .f32, .f .f32, .f .f32]], [.val (.b)]⟩
/-- loop.example/g01249/laws.toPlane -/
def t33 : T :=
  .cst .f32 0 <|
  .cst .f32 0 <|
  .cst .f32 0 <|
  .cst .f32 0 <|
  .cst .f32 0 <|
  .cst .f32 0 <|
  .cst .f32 0 <|
  .cst .f32 0 <|
  .call 9 [.v 0, .v 1, .v 2] 3 <|
  .ret [.v 12, .v 13, .v 14, .v 3]
def s33 : Sum := ⟨33, [.agg [.f .f32, .f .f32, .f .f32, .f .f32]], [.agg [.f .f32, .f .f32, .f .f32, .f .f32]]⟩
/-- loop.example/g01249/spec.l01SamePlane -/
def t34 : T :=
  .call 19 [.v 0, .v 1, .v 2, .v 4, .v 5, .v 6] 1 <|
  .br 8
   (.call 5 [.v 3, .v 7] 1 <|
   .br 9
    (.ret [.b true])
    (.ret [.b false]))
   (.ret [.b false])
def s34 : Sum := ⟨34, [.ptr [.f .f32, .f .f32, .f .f32, .f .f32], .ptr [.f .f32, .f .f32, .f .f32, .f .f32]], [.val (.b)]⟩
/-- loop.example/g01249/spec.SamePlane -/
def t35 : T :=
  .call 34 [.v 0, .v 1, .v 2, .v 3, .v 4, .v 5, .v 6, .v 7] 1 <|
  .br 8
   (.ret [.b true])
   (.ret [.b false])
def s35 : Sum := ⟨35, [.agg [.f .f32, .f .f32, .f .f32, .f .f32], .agg [.f .f32, .f .f32, .f .f32, .f .f32]], [.val (.b)]⟩
/-- loop.example/g01249/impl.SamePlane -/
def t36 : T :=
  .call 21 [.v 0, .v 1, .v 2, .v 4, .v 5, .v 6] 1 <|
  .br 8
   (.call 7 [.v 3, .v 7] 1 <|
   .br 9
    (.ret [.b true])
    (.ret [.b false]))
   (.ret [.b false])
def s36 : Sum := ⟨36, [.agg [.f .f32, .f .f32, .f .f32, .f .f32], .agg [.f .f32, .f .f32, .f .f32, .f .f32]], [.val (.b)]⟩
/-- loop.example/g01249/laws.FnExactSamePlane -/
def t37 : T :=
  .call 33 [.v 0, .v 1, .v 2, .v 3] 4 <|
  .call 33 [.v 4, .v 5, .v 6, .v 7] 4 <|
  .call 35 [.v 8, .v 9, .v 10, .v 11, .v 12, .v 13, .v 14, .v 15] 1 <|
  .br 16
   (.call 33 [.v 0, .v 1, .v 2, .v 3] 4 <|
   .call 33 [.v 4, .v 5, .v 6, .v 7] 4 <|
   .call 36 [.v 17, .v 18, .v 19, .v 20, .v 21, .v 22, .v 23, .v 24] 1 <|
   .br 25
    (.ret [.b true])
    (.ret [.b false]))
   (.call 33 [.v 0, .v 1, .v 2, .v 3] 4 <|
   .call 33 [.v 4, .v 5, .v 6, .v 7] 4 <|
   .call 36 [.v 17, .v 18, .v 19, .v 20, .v 21, .v 22, .v 23, .v 24] 1 <|
   .br 25
    (.ret [.b false])
    (.ret [.b true]))
def s37 : Sum := ⟨37, [.agg [.f .f32, .f .f32, .f .f32, .f .f32], .agg [.f .f32, .f .f32, .f .f32, .f .f32]], [.val (.b)]⟩
/-- loop.example/g01249/spec.BetweenPoints -/
def t38 : T :=
  .cst .f32 0 <|
  .cst .f32 0 <|
  .cst .f32 0 <|
  .cst .f32 0 <|
  .cst .f32 0 <|
  .cst .f32 0 <|
  .cst .f32 0 <|
  .cst .f32 0 <|
  .cst .f32 0 <|
  .bin .sub .f32 3 0 <|
  .bin .mul .f32 6 16 <|
  .bin .add .f32 0 17 <|
  .bin .sub .f32 4 1 <|
  .bin .mul .f32 6 19 <|
  .bin .add .f32 1 20 <|
  .bin .sub .f32 5 2 <|
  .bin .mul .f32 6 22 <|
  .bin .add .f32 2 23 <|
  .ret [.v 18, .v 21, .v 24]
def s38 : Sum := ⟨38, [.agg [.f .f32, .f .f32, .f .f32], .agg [.f .f32, .f .f32, .f .f32], .val (.f .f32)], [.agg [.f .f32, .f .f32, .f .f32]]⟩
/-- loop.example/g01249/impl.BetweenPoints -/
def t39 : T :=
  .cst .f32 0 <|
  .cst .f32 0 <|
  .cst .f32 0 <|
  .cst .f32 0 <|
  .cst .f32 0 <|
  .cst .f32 0 <|
  .cst .f32 0 <|
  .cst .f32 0 <|
  .cst .f32 0 <|
  .bin .sub .f32 3 0 <|
  .bin .mul .f32 6 16 <|
  .bin .add .f32 0 17 <|
  .bin .sub .f32 4 1 <|
  .bin .mul .f32 6 19 <|
  .bin .add .f32 1 20 <|
  .bin .sub .f32 5 2 <|
  .bin .mul .f32 6 22 <|
  .bin .add .f32 2 23 <|
  .ret [.v 18, .v 21, .v 24]
def s39 : Sum := ⟨39, [.agg [.f .f32, .f .f32, .f .f32], .agg [.f .f32, .f .f32, .f .f32], .val (.f .f32)], [.agg [.f .f32, .f .f32, .f .f32]]⟩
/-- loop.example/g01249/laws.FnExactBetweenPoints -/
def t40 : T :=
  .call 9 [.v 0, .v 1, .v 2] 3 <|
  .call 9 [.v 3, .v 4, .v 5] 3 <|
  .call 38 [.v 7, .v 8, .v 9, .v 10, .v 11, .v 12, .v 6] 3 <|
  .cst .f32 0 <|
  .cst .f32 0 <|
  .cst .f32 0 <|
  .call 9 [.v 0, .v 1, .v 2] 3 <|
  .call 9 [.v 3, .v 4, .v 5] 3 <|
  .call 39 [.v 19, .v 20, .v 21, .v 22, .v 23, .v 24, .v 6] 3 <|
  .cst .f32 0 <|
  .cst .f32 0 <|
  .cst .f32 0 <|
  .call 25 [.v 25, .v 26, .v 27, .v 13, .v 14, .v 15] 1 <|
  .br 31
   (.ret [.b true])
   (.ret [.b false])
def s40 : Sum := ⟨40, [.agg [.f .f32, .f .f32, .f .f32], .agg [.f .f32, .f .f32, .f .f32], .val (.f .f32)], [.val (.b)]⟩
def ts : List T := [t0, t1, t2, t3, t4, t5, t6, t7, t8, t9, t10, t11, t12, t13, t14, t15, t16, t17, t18, t19, t20, t21, t22, t23, t24, t25, t26, t27, t28, t29, t30, t31, t32, t33, t34, t35, t36, t37, t38, t39, t40]
def sm : List (FuncId × Sum) := [(3, s0), (41, s1), (15, s2), (16, s3), (4, s4), (42, s5), (17, s6), (18, s7), (5, s8), (22, s9), (21, s10), (23, s11), (24, s12), (7, s13), (46, s14), (25, s15), (51, s16), (26, s17), (8, s18), (48, s19), (27, s20), (28, s21), (9, s22), (29, s23), (30, s24), (31, s25), (10, s26), (32, s27), (33, s28), (11, s29), (34, s30), (35, s31), (12, s32), (37, s33), (49, s34), (36, s35), (38, s36), (13, s37), (39, s38), (40, s39), (14, s40)]
def ex : List (FuncId × Ext) := [(43, .bits32)]
end Go.Proofs.Ytconlkliclhbpaa
