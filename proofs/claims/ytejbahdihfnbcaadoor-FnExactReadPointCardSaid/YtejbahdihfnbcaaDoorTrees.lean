/- The trees of the program's functions. -/
import Derived.Test.YtejbahdihfnbcaaDoorSxB
namespace Go.Proofs.YtejbahdihfnbcaaDoor
open Sx Go
/-- loop.example/g01249/laws.toPoint -/
def t0 : T :=
  .cst .f32 0 <|
  .cst .f32 0 <|
  .cst .f32 0 <|
  .cst .f32 0 <|
  .cst .f32 0 <|
  .cst .f32 0 <|
  .ret [.v 0, .v 1, .v 2]
def s0 : Sum := ⟨0, [.agg [.f .f32, .f .f32, .f .f32]], [.agg [.f .f32, .f .f32, .f .f32]]⟩
/-- loop.example/g01249/spec.l01Plain -/
def t1 : T :=
  .cst .f32 3379831808 <|
  .tst 1 .f32 1 0
   (.cst .f32 1232348160 <|
   .tst 1 .f32 0 2
    (.ret [.b true])
    (.ret [.b false]))
   (.ret [.b false])
def s1 : Sum := ⟨1, [.val (.f .f32)], [.val (.b)]⟩
/-- loop.example/g01249/spec.l01Point -/
def t2 : T :=
  .call 1 [.v 0] 1 <|
  .br 3
   (.call 1 [.v 1] 1 <|
   .br 4
    (.call 1 [.v 2] 1 <|
    .br 5
     (.ret [.b true])
     (.ret [.b false]))
    (.ret [.b false]))
   (.ret [.b false])
def s2 : Sum := ⟨2, [.agg [.f .f32, .f .f32, .f .f32]], [.val (.b)]⟩
/-- loop.example/g01249/impl.IsPlain -/
def t3 : T :=
  .cst .f32 3379831808 <|
  .tst 1 .f32 1 0
   (.cst .f32 1232348160 <|
   .tst 1 .f32 0 2
    (.ret [.b true])
    (.ret [.b false]))
   (.ret [.b false])
def s3 : Sum := ⟨3, [.val (.f .f32)], [.val (.b)]⟩
/-- loop.example/g01249/impl.arePlain$1 -/
def t4 : T :=
  .call 3 [.v 0] 1 <|
  .br 1
   (.ret [.b false])
   (.ret [.b true])
def s4 : Sum := ⟨4, [.val (.f .f32)], [.val (.b)]⟩
/-- loop.example/g01249/impl.ValidPoint -/
def t5 : T :=
  .call 4 [.v 0] 1 <|
  .br 3
   (.ret [.b false])
   (.call 4 [.v 1] 1 <|
   .br 4
    (.ret [.b false])
    (.call 4 [.v 2] 1 <|
    .br 5
     (.ret [.b false])
     (.ret [.b true])))
def s5 : Sum := ⟨5, [.agg [.f .f32, .f .f32, .f .f32]], [.val (.b)]⟩
/-- loop.example/g01249/laws.toCamera -/
def t6 : T :=
  .cst .f32 0 <|
  .cst .f32 0 <|
  .cst .f32 0 <|
  .cst .f32 0 <|
  .cst .f32 0 <|
  .cst .f32 0 <|
  .cst .f32 0 <|
  .cst .f32 0 <|
  .cst .f32 0 <|
  .cst .f32 0 <|
  .cst .f32 0 <|
  .cst .f32 0 <|
  .cst .f32 0 <|
  .cst .f32 0 <|
  .cst .f32 0 <|
  .cst .f32 0 <|
  .cst .f32 0 <|
  .cst .f32 0 <|
  .cst .f32 0 <|
  .cst .f32 0 <|
  .cst .f32 0 <|
  .cst .f32 0 <|
  .call 0 [.v 0, .v 1, .v 2] 3 <|
  .call 0 [.v 3, .v 4, .v 5] 3 <|
  .call 0 [.v 6, .v 7, .v 8] 3 <|
  .ret [.v 33, .v 34, .v 35, .v 36, .v 37, .v 38, .v 39, .v 40, .v 41, .v 9, .v 10]
def s6 : Sum := ⟨6, [.agg [.f .f32, .f .f32, .f .f32, .f .f32, .f .f32, .f .f32, .f .f32, .f .f32, .f .f32, .f .f32, .f .f32]], [.agg [.f .f32, .f .f32, .f .f32, .f .f32, .f .f32, .f .f32, .f .f32, .f .f32, .f .f32, .f .f32, .f .f32]]⟩
/-- loop.example/g01249/spec.SubPoints -/
def t7 : T :=
  .cst .f32 0 <|
  .cst .f32 0 <|
  .cst .f32 0 <|
  .bin .sub .f32 0 3 <|
  .bin .sub .f32 1 4 <|
  .bin .sub .f32 2 5 <|
  .cst .f32 0 <|
  .cst .f32 0 <|
  .cst .f32 0 <|
  .ret [.v 9, .v 10, .v 11]
def s7 : Sum := ⟨7, [.agg [.f .f32, .f .f32, .f .f32], .agg [.f .f32, .f .f32, .f .f32]], [.agg [.f .f32, .f .f32, .f .f32]]⟩
/-- loop.example/g01249/spec.DotOf -/
def t8 : T :=
  .cst .f32 0 <|
  .bin .mul .f32 0 3 <|
  .bin .mul .f32 1 4 <|
  .bin .add .f32 7 8 <|
  .bin .mul .f32 2 5 <|
  .bin .add .f32 9 10 <|
  .ret [.v 11]
def s8 : Sum := ⟨8, [.agg [.f .f32, .f .f32, .f .f32], .agg [.f .f32, .f .f32, .f .f32]], [.val (.f .f32)]⟩
/-- math.Sqrt -/
def t9 : T :=
  .cst .f64 0 <|
  .un .sqrt .f64 0 <|
  .ret [.v 2]
def s9 : Sum := ⟨9, [.val (.f .f64)], [.val (.f .f64)]⟩
/-- loop.example/g01249/spec.l01Root -/
def t10 : T :=
  .cst .f32 0 <|
  .un .widen .f32 0 <|
  .call 9 [.v 2] 1 <|
  .un .narrow .f64 3 <|
  .ret [.v 4]
def s10 : Sum := ⟨10, [.val (.f .f32)], [.val (.f .f32)]⟩
/-- loop.example/g01249/spec.LengthOf -/
def t11 : T :=
  .cst .f32 0 <|
  .call 8 [.v 0, .v 1, .v 2, .v 0, .v 1, .v 2] 1 <|
  .call 10 [.v 4] 1 <|
  .ret [.v 5]
def s11 : Sum := ⟨11, [.agg [.f .f32, .f .f32, .f .f32]], [.val (.f .f32)]⟩
/-- loop.example/g01249/spec.l01Finite -/
def t12 : T :=
  .bin .sub .f32 0 0 <|
  .cst .f32 0 <|
  .tst 2 .f32 1 2
   (.ret [.b true])
   (.ret [.b false])
def s12 : Sum := ⟨12, [.val (.f .f32)], [.val (.b)]⟩
/-- loop.example/g01249/spec.l01Finites -/
def t13 : T :=
  .call 12 [.v 0] 1 <|
  .br 3
   (.call 12 [.v 1] 1 <|
   .br 4
    (.call 12 [.v 2] 1 <|
    .br 5
     (.ret [.b true])
     (.ret [.b false]))
    (.ret [.b false]))
   (.ret [.b false])
def s13 : Sum := ⟨13, [.agg [.f .f32, .f .f32, .f .f32]], [.val (.b)]⟩
/-- loop.example/g01249/spec.l01Unit -/
def t14 : T :=
  .cst .f32 0 <|
  .cst .f32 0 <|
  .cst .f32 0 <|
  .call 11 [.v 0, .v 1, .v 2] 1 <|
  .cst .f32 897581056 <|
  .tst 1 .f32 7 6
   (.bin .div .f32 0 6 <|
   .bin .div .f32 1 6 <|
   .bin .div .f32 2 6 <|
   .cst .f32 0 <|
   .cst .f32 0 <|
   .cst .f32 0 <|
   .cst .f32 0 <|
   .cst .f32 0 <|
   .cst .f32 0 <|
   .call 13 [.v 8, .v 9, .v 10] 1 <|
   .br 17
    (.ret [.v 8, .v 9, .v 10, .b true])
    (.ret [.v 8, .v 9, .v 10, .b false]))
   (.cst .f32 0 <|
   .cst .f32 0 <|
   .cst .f32 0 <|
   .ret [.v 8, .v 9, .v 10, .b false])
def s14 : Sum := ⟨14, [.agg [.f .f32, .f .f32, .f .f32]], [.agg [.f .f32, .f .f32, .f .f32], .val (.b)]⟩
/-- loop.example/g01249/spec.CrossOf -/
def t15 : T :=
  .cst .f32 0 <|
  .cst .f32 0 <|
  .cst .f32 0 <|
  .bin .mul .f32 1 5 <|
  .bin .mul .f32 2 4 <|
  .bin .sub .f32 9 10 <|
  .bin .mul .f32 2 3 <|
  .bin .mul .f32 0 5 <|
  .bin .sub .f32 12 13 <|
  .bin .mul .f32 0 4 <|
  .bin .mul .f32 1 3 <|
  .bin .sub .f32 15 16 <|
  .cst .f32 0 <|
  .cst .f32 0 <|
  .cst .f32 0 <|
  .ret [.v 11, .v 14, .v 17]
def s15 : Sum := ⟨15, [.agg [.f .f32, .f .f32, .f .f32], .agg [.f .f32, .f .f32, .f .f32]], [.agg [.f .f32, .f .f32, .f .f32]]⟩
/-- loop.example/g01249/spec.l02Frame -/
def t16 : T :=
  .cst .f32 0 <|
  .cst .f32 0 <|
  .cst .f32 0 <|
  .cst .f32 0 <|
  .cst .f32 0 <|
  .cst .f32 0 <|
  .cst .f32 0 <|
  .cst .f32 0 <|
  .cst .f32 0 <|
  .call 7 [.v 3, .v 4, .v 5, .v 0, .v 1, .v 2] 3 <|
  .call 14 [.v 20, .v 21, .v 22] 4 <|
  .br 26
   (.cst .f32 0 <|
   .cst .f32 0 <|
   .cst .f32 0 <|
   .call 15 [.v 23, .v 24, .v 25, .v 6, .v 7, .v 8] 3 <|
   .call 14 [.v 30, .v 31, .v 32] 4 <|
   .br 36
    (.cst .f32 0 <|
    .cst .f32 0 <|
    .cst .f32 0 <|
    .call 15 [.v 33, .v 34, .v 35, .v 23, .v 24, .v 25] 3 <|
    .cst .f32 0 <|
    .cst .f32 0 <|
    .cst .f32 0 <|
    .cst .f32 0 <|
    .cst .f32 0 <|
    .cst .f32 0 <|
    .cst .f32 0 <|
    .cst .f32 0 <|
    .cst .f32 0 <|
    .ret [.v 33, .v 34, .v 35, .v 40, .v 41, .v 42, .v 23, .v 24, .v 25, .b true])
    (.cst .f32 0 <|
    .cst .f32 0 <|
    .cst .f32 0 <|
    .call 15 [.v 33, .v 34, .v 35, .v 23, .v 24, .v 25] 3 <|
    .cst .f32 0 <|
    .cst .f32 0 <|
    .cst .f32 0 <|
    .cst .f32 0 <|
    .cst .f32 0 <|
    .cst .f32 0 <|
    .cst .f32 0 <|
    .cst .f32 0 <|
    .cst .f32 0 <|
    .ret [.v 33, .v 34, .v 35, .v 40, .v 41, .v 42, .v 23, .v 24, .v 25, .b false]))
   (.cst .f32 0 <|
   .cst .f32 0 <|
   .cst .f32 0 <|
   .call 15 [.v 23, .v 24, .v 25, .v 6, .v 7, .v 8] 3 <|
   .call 14 [.v 30, .v 31, .v 32] 4 <|
   .br 36
    (.cst .f32 0 <|
    .cst .f32 0 <|
    .cst .f32 0 <|
    .call 15 [.v 33, .v 34, .v 35, .v 23, .v 24, .v 25] 3 <|
    .cst .f32 0 <|
    .cst .f32 0 <|
    .cst .f32 0 <|
    .cst .f32 0 <|
    .cst .f32 0 <|
    .cst .f32 0 <|
    .cst .f32 0 <|
    .cst .f32 0 <|
    .cst .f32 0 <|
    .ret [.v 33, .v 34, .v 35, .v 40, .v 41, .v 42, .v 23, .v 24, .v 25, .b false])
    (.cst .f32 0 <|
    .cst .f32 0 <|
    .cst .f32 0 <|
    .call 15 [.v 33, .v 34, .v 35, .v 23, .v 24, .v 25] 3 <|
    .cst .f32 0 <|
    .cst .f32 0 <|
    .cst .f32 0 <|
    .cst .f32 0 <|
    .cst .f32 0 <|
    .cst .f32 0 <|
    .cst .f32 0 <|
    .cst .f32 0 <|
    .cst .f32 0 <|
    .ret [.v 33, .v 34, .v 35, .v 40, .v 41, .v 42, .v 23, .v 24, .v 25, .b false]))
def s16 : Sum := ⟨16, [.ptr [.f .f32, .f .f32, .f .f32, .f .f32, .f .f32, .f .f32, .f .f32, .f .f32, .f .f32, .f .f32, .f .f32]], [.agg [.f .f32, .f .f32, .f .f32, .f .f32, .f .f32, .f .f32, .f .f32, .f .f32, .f .f32], .val (.b)]⟩
/-- loop.example/g01249/spec.l02Ok -/
def t17 : T :=
  .call 2 [.v 0, .v 1, .v 2] 1 <|
  .br 11
   (.call 2 [.v 3, .v 4, .v 5] 1 <|
   .br 12
    (.call 2 [.v 6, .v 7, .v 8] 1 <|
    .br 13
     (.call 1 [.v 9] 1 <|
     .br 14
      (.call 1 [.v 10] 1 <|
      .br 15
       (.cst .f32 1015021568 <|
       .tst 0 .f32 9 16
        (.ret [.b false])
        (.cst .f32 1015021568 <|
        .tst 0 .f32 10 17
         (.ret [.b false])
         (.call 16 [.v 0, .v 1, .v 2, .v 3, .v 4, .v 5, .v 6, .v 7, .v 8, .v 9, .v 10] 10 <|
         .br 27
          (.cst .f32 0 <|
          .cst .f32 0 <|
          .cst .f32 0 <|
          .cst .f32 0 <|
          .cst .f32 0 <|
          .cst .f32 0 <|
          .cst .f32 0 <|
          .cst .f32 0 <|
          .cst .f32 0 <|
          .ret [.b true])
          (.cst .f32 0 <|
          .cst .f32 0 <|
          .cst .f32 0 <|
          .cst .f32 0 <|
          .cst .f32 0 <|
          .cst .f32 0 <|
          .cst .f32 0 <|
          .cst .f32 0 <|
          .cst .f32 0 <|
          .ret [.b false]))))
       (.ret [.b false]))
      (.ret [.b false]))
     (.ret [.b false]))
    (.ret [.b false]))
   (.ret [.b false])
def s17 : Sum := ⟨17, [.ptr [.f .f32, .f .f32, .f .f32, .f .f32, .f .f32, .f .f32, .f .f32, .f .f32, .f .f32, .f .f32, .f .f32]], [.val (.b)]⟩
/-- loop.example/g01249/impl.arePoints$1 -/
def t18 : T :=
  .call 5 [.v 0, .v 1, .v 2] 1 <|
  .br 3
   (.ret [.b false])
   (.ret [.b true])
def s18 : Sum := ⟨18, [.agg [.f .f32, .f .f32, .f .f32]], [.val (.b)]⟩
/-- loop.example/g01249/impl.SubPoints -/
def t19 : T :=
  .cst .f32 0 <|
  .cst .f32 0 <|
  .cst .f32 0 <|
  .bin .sub .f32 0 3 <|
  .bin .sub .f32 1 4 <|
  .bin .sub .f32 2 5 <|
  .cst .f32 0 <|
  .cst .f32 0 <|
  .cst .f32 0 <|
  .ret [.v 9, .v 10, .v 11]
def s19 : Sum := ⟨19, [.agg [.f .f32, .f .f32, .f .f32], .agg [.f .f32, .f .f32, .f .f32]], [.agg [.f .f32, .f .f32, .f .f32]]⟩
/-- loop.example/g01249/impl.DotOf -/
def t20 : T :=
  .cst .f32 0 <|
  .bin .mul .f32 0 3 <|
  .bin .mul .f32 1 4 <|
  .bin .add .f32 7 8 <|
  .bin .mul .f32 2 5 <|
  .bin .add .f32 9 10 <|
  .ret [.v 11]
def s20 : Sum := ⟨20, [.agg [.f .f32, .f .f32, .f .f32], .agg [.f .f32, .f .f32, .f .f32]], [.val (.f .f32)]⟩
/-- loop.example/g01249/impl.root -/
def t21 : T :=
  .cst .f32 0 <|
  .un .widen .f32 0 <|
  .call 9 [.v 2] 1 <|
  .un .narrow .f64 3 <|
  .ret [.v 4]
def s21 : Sum := ⟨21, [.val (.f .f32)], [.val (.f .f32)]⟩
/-- loop.example/g01249/impl.LengthOf -/
def t22 : T :=
  .cst .f32 0 <|
  .call 20 [.v 0, .v 1, .v 2, .v 0, .v 1, .v 2] 1 <|
  .call 21 [.v 4] 1 <|
  .ret [.v 5]
def s22 : Sum := ⟨22, [.agg [.f .f32, .f .f32, .f .f32]], [.val (.f .f32)]⟩
/-- loop.example/g01249/impl.isFinite -/
def t23 : T :=
  .bin .sub .f32 0 0 <|
  .cst .f32 0 <|
  .tst 2 .f32 1 2
   (.ret [.b true])
   (.ret [.b false])
def s23 : Sum := ⟨23, [.val (.f .f32)], [.val (.b)]⟩
/-- loop.example/g01249/impl.quotients -/
def t24 : T :=
  .cst .f32 0 <|
  .cst .f32 0 <|
  .cst .f32 0 <|
  .bin .div .f32 0 3 <|
  .bin .div .f32 1 3 <|
  .bin .div .f32 2 3 <|
  .cst .f32 0 <|
  .cst .f32 0 <|
  .cst .f32 0 <|
  .ret [.v 7, .v 8, .v 9]
def s24 : Sum := ⟨24, [.agg [.f .f32, .f .f32, .f .f32], .val (.f .f32)], [.agg [.f .f32, .f .f32, .f .f32]]⟩
/-- loop.example/g01249/impl.areFinite$1 -/
def t25 : T :=
  .call 23 [.v 0] 1 <|
  .br 1
   (.ret [.b false])
   (.ret [.b true])
def s25 : Sum := ⟨25, [.val (.f .f32)], [.val (.b)]⟩
/-- loop.example/g01249/impl.unit -/
def t26 : T :=
  .cst .f32 0 <|
  .cst .f32 0 <|
  .cst .f32 0 <|
  .call 22 [.v 0, .v 1, .v 2] 1 <|
  .call 23 [.v 6] 1 <|
  .br 7
   (.cst .f32 897581056 <|
   .tst 0 .f32 6 8
    (.cst .f32 0 <|
    .cst .f32 0 <|
    .cst .f32 0 <|
    .ret [.v 9, .v 10, .v 11, .b false])
    (.call 24 [.v 0, .v 1, .v 2, .v 6] 3 <|
    .cst .f32 0 <|
    .cst .f32 0 <|
    .cst .f32 0 <|
    .call 25 [.v 9] 1 <|
    .br 15
     (.ret [.v 9, .v 10, .v 11, .b false])
     (.call 25 [.v 10] 1 <|
     .br 16
      (.ret [.v 9, .v 10, .v 11, .b false])
      (.call 25 [.v 11] 1 <|
      .br 17
       (.ret [.v 9, .v 10, .v 11, .b false])
       (.ret [.v 9, .v 10, .v 11, .b true])))))
   (.cst .f32 0 <|
   .cst .f32 0 <|
   .cst .f32 0 <|
   .ret [.v 8, .v 9, .v 10, .b false])
def s26 : Sum := ⟨26, [.agg [.f .f32, .f .f32, .f .f32]], [.agg [.f .f32, .f .f32, .f .f32], .val (.b)]⟩
/-- loop.example/g01249/impl.CrossOf -/
def t27 : T :=
  .cst .f32 0 <|
  .cst .f32 0 <|
  .cst .f32 0 <|
  .bin .mul .f32 1 5 <|
  .bin .mul .f32 2 4 <|
  .bin .sub .f32 9 10 <|
  .bin .mul .f32 2 3 <|
  .bin .mul .f32 0 5 <|
  .bin .sub .f32 12 13 <|
  .bin .mul .f32 0 4 <|
  .bin .mul .f32 1 3 <|
  .bin .sub .f32 15 16 <|
  .cst .f32 0 <|
  .cst .f32 0 <|
  .cst .f32 0 <|
  .ret [.v 11, .v 14, .v 17]
def s27 : Sum := ⟨27, [.agg [.f .f32, .f .f32, .f .f32], .agg [.f .f32, .f .f32, .f .f32]], [.agg [.f .f32, .f .f32, .f .f32]]⟩
/-- (*loop.example/g01249/impl.Camera).frame -/
def t28 : T :=
  .cst .f32 0 <|
  .cst .f32 0 <|
  .cst .f32 0 <|
  .cst .f32 0 <|
  .cst .f32 0 <|
  .cst .f32 0 <|
  .cst .f32 0 <|
  .cst .f32 0 <|
  .cst .f32 0 <|
  .call 19 [.v 3, .v 4, .v 5, .v 0, .v 1, .v 2] 3 <|
  .call 26 [.v 20, .v 21, .v 22] 4 <|
  .br 26
   (.cst .f32 0 <|
   .cst .f32 0 <|
   .cst .f32 0 <|
   .call 27 [.v 23, .v 24, .v 25, .v 6, .v 7, .v 8] 3 <|
   .call 26 [.v 30, .v 31, .v 32] 4 <|
   .br 36
    (.cst .f32 0 <|
    .cst .f32 0 <|
    .cst .f32 0 <|
    .call 27 [.v 33, .v 34, .v 35, .v 23, .v 24, .v 25] 3 <|
    .cst .f32 0 <|
    .cst .f32 0 <|
    .cst .f32 0 <|
    .cst .f32 0 <|
    .cst .f32 0 <|
    .cst .f32 0 <|
    .cst .f32 0 <|
    .cst .f32 0 <|
    .cst .f32 0 <|
    .ret [.v 33, .v 34, .v 35, .v 40, .v 41, .v 42, .v 23, .v 24, .v 25, .b true])
    (.cst .f32 0 <|
    .cst .f32 0 <|
    .cst .f32 0 <|
    .call 27 [.v 33, .v 34, .v 35, .v 23, .v 24, .v 25] 3 <|
    .cst .f32 0 <|
    .cst .f32 0 <|
    .cst .f32 0 <|
    .cst .f32 0 <|
    .cst .f32 0 <|
    .cst .f32 0 <|
    .cst .f32 0 <|
    .cst .f32 0 <|
    .cst .f32 0 <|
    .ret [.v 33, .v 34, .v 35, .v 40, .v 41, .v 42, .v 23, .v 24, .v 25, .b false]))
   (.cst .f32 0 <|
   .cst .f32 0 <|
   .cst .f32 0 <|
   .call 27 [.v 23, .v 24, .v 25, .v 6, .v 7, .v 8] 3 <|
   .call 26 [.v 30, .v 31, .v 32] 4 <|
   .br 36
    (.cst .f32 0 <|
    .cst .f32 0 <|
    .cst .f32 0 <|
    .call 27 [.v 33, .v 34, .v 35, .v 23, .v 24, .v 25] 3 <|
    .cst .f32 0 <|
    .cst .f32 0 <|
    .cst .f32 0 <|
    .cst .f32 0 <|
    .cst .f32 0 <|
    .cst .f32 0 <|
    .cst .f32 0 <|
    .cst .f32 0 <|
    .cst .f32 0 <|
    .ret [.v 33, .v 34, .v 35, .v 40, .v 41, .v 42, .v 23, .v 24, .v 25, .b false])
    (.cst .f32 0 <|
    .cst .f32 0 <|
    .cst .f32 0 <|
    .call 27 [.v 33, .v 34, .v 35, .v 23, .v 24, .v 25] 3 <|
    .cst .f32 0 <|
    .cst .f32 0 <|
    .cst .f32 0 <|
    .cst .f32 0 <|
    .cst .f32 0 <|
    .cst .f32 0 <|
    .cst .f32 0 <|
    .cst .f32 0 <|
    .cst .f32 0 <|
    .ret [.v 33, .v 34, .v 35, .v 40, .v 41, .v 42, .v 23, .v 24, .v 25, .b false]))
def s28 : Sum := ⟨28, [.ptr [.f .f32, .f .f32, .f .f32, .f .f32, .f .f32, .f .f32, .f .f32, .f .f32, .f .f32, .f .f32, .f .f32]], [.agg [.f .f32, .f .f32, .f .f32, .f .f32, .f .f32, .f .f32, .f .f32, .f .f32, .f .f32], .val (.b)]⟩
/-- loop.example/g01249/impl.ValidCamera -/
def t29 : T :=
  .cst .f32 0 <|
  .cst .f32 0 <|
  .cst .f32 0 <|
  .call 18 [.v 0, .v 1, .v 2] 1 <|
  .br 14
   (.ret [.b false])
   (.call 18 [.v 3, .v 4, .v 5] 1 <|
   .br 15
    (.ret [.b false])
    (.call 18 [.v 6, .v 7, .v 8] 1 <|
    .br 16
     (.ret [.b false])
     (.cst .f32 0 <|
     .call 4 [.v 9] 1 <|
     .br 18
      (.ret [.b false])
      (.call 4 [.v 10] 1 <|
      .br 19
       (.ret [.b false])
       (.cst .f32 1015021568 <|
       .tst 1 .f32 20 9
        (.cst .f32 1015021568 <|
        .tst 1 .f32 21 10
         (.call 28 [.v 0, .v 1, .v 2, .v 3, .v 4, .v 5, .v 6, .v 7, .v 8, .v 9, .v 10] 10 <|
         .br 31
          (.cst .f32 0 <|
          .cst .f32 0 <|
          .cst .f32 0 <|
          .cst .f32 0 <|
          .cst .f32 0 <|
          .cst .f32 0 <|
          .cst .f32 0 <|
          .cst .f32 0 <|
          .cst .f32 0 <|
          .ret [.b true])
          (.cst .f32 0 <|
          .cst .f32 0 <|
          .cst .f32 0 <|
          .cst .f32 0 <|
          .cst .f32 0 <|
          .cst .f32 0 <|
          .cst .f32 0 <|
          .cst .f32 0 <|
          .cst .f32 0 <|
          .ret [.b false]))
         (.ret [.b false]))
        (.ret [.b false]))))))
def s29 : Sum := ⟨29, [.agg [.f .f32, .f .f32, .f .f32, .f .f32, .f .f32, .f .f32, .f .f32, .f .f32, .f .f32, .f .f32, .f .f32]], [.val (.b)]⟩
/-- loop.example/g01249/laws.sameFloat -/
def t30 : T :=
  .tst 2 .f64 0 0
   (.tst 2 .f64 1 1
    (.cst .f64 0 <|
    .tst 2 .f64 0 2
     (.cst .f64 0 <|
     .tst 2 .f64 1 3
      (.cst .f64 4607182418800017408 <|
      .bin .div .f64 4 0 <|
      .cst .f64 0 <|
      .tst 0 .f64 6 5
       (.cst .f64 4607182418800017408 <|
       .bin .div .f64 7 1 <|
       .cst .f64 0 <|
       .tst 0 .f64 9 8
        (.ret [.b true])
        (.ret [.b false]))
       (.cst .f64 4607182418800017408 <|
       .bin .div .f64 7 1 <|
       .cst .f64 0 <|
       .tst 0 .f64 9 8
        (.ret [.b false])
        (.ret [.b true])))
      (.tst 2 .f64 0 1
       (.ret [.b true])
       (.ret [.b false])))
     (.tst 2 .f64 0 1
      (.ret [.b true])
      (.ret [.b false])))
    (.tst 2 .f64 0 0
     (.ret [.b false])
     (.tst 2 .f64 1 1
      (.ret [.b false])
      (.ret [.b true]))))
   (.tst 2 .f64 0 0
    (.ret [.b false])
    (.tst 2 .f64 1 1
     (.ret [.b false])
     (.ret [.b true])))
def s30 : Sum := ⟨30, [.val (.f .f64), .val (.f .f64)], [.val (.b)]⟩
/-- loop.example/g01249/laws.eqPoint -/
def t31 : T :=
  .un .widen .f32 0 <|
  .un .widen .f32 3 <|
  .call 30 [.v 6, .v 7] 1 <|
  .br 8
   (.un .widen .f32 1 <|
   .un .widen .f32 4 <|
   .call 30 [.v 9, .v 10] 1 <|
   .br 11
    (.un .widen .f32 2 <|
    .un .widen .f32 5 <|
    .call 30 [.v 12, .v 13] 1 <|
    .br 14
     (.ret [.b true])
     (.ret [.b false]))
    (.ret [.b false]))
   (.ret [.b false])
def s31 : Sum := ⟨31, [.agg [.f .f32, .f .f32, .f .f32], .agg [.f .f32, .f .f32, .f .f32]], [.val (.b)]⟩
def ts : List T := [t0, t1, t2, t3, t4, t5, t6, t7, t8, t9, t10, t11, t12, t13, t14, t15, t16, t17, t18, t19, t20, t21, t22, t23, t24, t25, t26, t27, t28, t29, t30, t31]
def sm : List (FuncId × Sum) := [(11, s0), (49, s1), (26, s2), (59, s3), (58, s4), (28, s5), (14, s6), (70, s7), (111, s8), (122, s9), (110, s10), (94, s11), (112, s12), (95, s13), (69, s14), (71, s15), (51, s16), (30, s17), (73, s18), (75, s19), (114, s20), (113, s21), (97, s22), (98, s23), (99, s24), (115, s25), (74, s26), (76, s27), (53, s28), (32, s29), (18, s30), (21, s31)]
def ex : List (FuncId × Ext) := [(23, .bits32), (126, .sqrt)]
end Go.Proofs.YtejbahdihfnbcaaDoor
