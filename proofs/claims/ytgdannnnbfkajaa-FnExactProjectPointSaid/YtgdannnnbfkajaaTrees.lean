/- The trees of the program's functions. -/
import Derived.Test.YtgdannnnbfkajaaSxB
namespace Go.Proofs.Ytgdannnnbfkajaa
open Sx Go
/-- loop.example/g01249/laws.toPoint -/
def t0 : T :=
  .cst .f32 0 <|
  .cst .f32 0 <|
  .cst .f32 0 <|
  .cst .f32 0 <|
  .cst .f32 0 <|
  .cst .f32 0 <|
  .ret [.v 0, .v 1, .v 2]
def s0 : Sum := ⟨0, [.agg [.f .f32, .f .f32, .f .f32]], [.agg [.f .f32, .f .f32, .f .f32]]⟩
/-- loop.example/g01249/spec.l01Plain -/
def t1 : T :=
  .cst .f32 3379831808 <|
  .tst 1 .f32 1 0
   (.cst .f32 1232348160 <|
   .tst 1 .f32 0 2
    (.ret [.b true])
    (.ret [.b false]))
   (.ret [.b false])
def s1 : Sum := ⟨1, [.val (.f .f32)], [.val (.b)]⟩
/-- loop.example/g01249/spec.l01Point -/
def t2 : T :=
  .call 1 [.v 0] 1 <|
  .br 3
   (.call 1 [.v 1] 1 <|
   .br 4
    (.call 1 [.v 2] 1 <|
    .br 5
     (.ret [.b true])
     (.ret [.b false]))
    (.ret [.b false]))
   (.ret [.b false])
def s2 : Sum := ⟨2, [.agg [.f .f32, .f .f32, .f .f32]], [.val (.b)]⟩
/-- loop.example/g01249/spec.SubPoints -/
def t3 : T :=
  .cst .f32 0 <|
  .cst .f32 0 <|
  .cst .f32 0 <|
  .bin .sub .f32 0 3 <|
  .bin .sub .f32 1 4 <|
  .bin .sub .f32 2 5 <|
  .cst .f32 0 <|
  .cst .f32 0 <|
  .cst .f32 0 <|
  .ret [.v 9, .v 10, .v 11]
def s3 : Sum := ⟨3, [.agg [.f .f32, .f .f32, .f .f32], .agg [.f .f32, .f .f32, .f .f32]], [.agg [.f .f32, .f .f32, .f .f32]]⟩
/-- loop.example/g01249/spec.CrossOf -/
def t4 : T :=
  .cst .f32 0 <|
  .cst .f32 0 <|
  .cst .f32 0 <|
  .bin .mul .f32 1 5 <|
  .bin .mul .f32 2 4 <|
  .bin .sub .f32 9 10 <|
  .bin .mul .f32 2 3 <|
  .bin .mul .f32 0 5 <|
  .bin .sub .f32 12 13 <|
  .bin .mul .f32 0 4 <|
  .bin .mul .f32 1 3 <|
  .bin .sub .f32 15 16 <|
  .cst .f32 0 <|
  .cst .f32 0 <|
  .cst .f32 0 <|
  .ret [.v 11, .v 14, .v 17]
def s4 : Sum := ⟨4, [.agg [.f .f32, .f .f32, .f .f32], .agg [.f .f32, .f .f32, .f .f32]], [.agg [.f .f32, .f .f32, .f .f32]]⟩
/-- loop.example/g01249/spec.DotOf -/
def t5 : T :=
  .cst .f32 0 <|
  .bin .mul .f32 0 3 <|
  .bin .mul .f32 1 4 <|
  .bin .add .f32 7 8 <|
  .bin .mul .f32 2 5 <|
  .bin .add .f32 9 10 <|
  .ret [.v 11]
def s5 : Sum := ⟨5, [.agg [.f .f32, .f .f32, .f .f32], .agg [.f .f32, .f .f32, .f .f32]], [.val (.f .f32)]⟩
/-- math.Sqrt -/
def t6 : T :=
  .cst .f64 0 <|
  .un .sqrt .f64 0 <|
  .ret [.v 2]
def s6 : Sum := ⟨6, [.val (.f .f64)], [.val (.f .f64)]⟩
/-- loop.example/g01249/spec.l01Root -/
def t7 : T :=
  .cst .f32 0 <|
  .un .widen .f32 0 <|
  .call 6 [.v 2] 1 <|
  .un .narrow .f64 3 <|
  .ret [.v 4]
def s7 : Sum := ⟨7, [.val (.f .f32)], [.val (.f .f32)]⟩
/-- loop.example/g01249/spec.LengthOf -/
def t8 : T :=
  .cst .f32 0 <|
  .call 5 [.v 0, .v 1, .v 2, .v 0, .v 1, .v 2] 1 <|
  .call 7 [.v 4] 1 <|
  .ret [.v 5]
def s8 : Sum := ⟨8, [.agg [.f .f32, .f .f32, .f .f32]], [.val (.f .f32)]⟩
/-- loop.example/g01249/spec.l01Finite -/
def t9 : T :=
  .bin .sub .f32 0 0 <|
  .cst .f32 0 <|
  .tst 2 .f32 1 2
   (.ret [.b true])
   (.ret [.b false])
def s9 : Sum := ⟨9, [.val (.f .f32)], [.val (.b)]⟩
/-- loop.example/g01249/spec.l01Finites -/
def t10 : T :=
  .call 9 [.v 0] 1 <|
  .br 3
   (.call 9 [.v 1] 1 <|
   .br 4
    (.call 9 [.v 2] 1 <|
    .br 5
     (.ret [.b true])
     (.ret [.b false]))
    (.ret [.b false]))
   (.ret [.b false])
def s10 : Sum := ⟨10, [.agg [.f .f32, .f .f32, .f .f32]], [.val (.b)]⟩
/-- loop.example/g01249/spec.l01Unit -/
def t11 : T :=
  .cst .f32 0 <|
  .cst .f32 0 <|
  .cst .f32 0 <|
  .call 8 [.v 0, .v 1, .v 2] 1 <|
  .cst .f32 897581056 <|
  .tst 1 .f32 7 6
   (.bin .div .f32 0 6 <|
   .bin .div .f32 1 6 <|
   .bin .div .f32 2 6 <|
   .cst .f32 0 <|
   .cst .f32 0 <|
   .cst .f32 0 <|
   .cst .f32 0 <|
   .cst .f32 0 <|
   .cst .f32 0 <|
   .call 10 [.v 8, .v 9, .v 10] 1 <|
   .br 17
    (.ret [.v 8, .v 9, .v 10, .b true])
    (.ret [.v 8, .v 9, .v 10, .b false]))
   (.cst .f32 0 <|
   .cst .f32 0 <|
   .cst .f32 0 <|
   .ret [.v 8, .v 9, .v 10, .b false])
def s11 : Sum := ⟨11, [.agg [.f .f32, .f .f32, .f .f32]], [.agg [.f .f32, .f .f32, .f .f32], .val (.b)]⟩
/-- loop.example/g01249/spec.l01Plane -/
def t12 : T :=
  .call 8 [.v 0, .v 1, .v 2] 1 <|
  .call 2 [.v 0, .v 1, .v 2] 1 <|
  .br 5
   (.call 1 [.v 3] 1 <|
   .br 6
    (.cst .f32 1065336439 <|
    .tst 1 .f32 7 4
     (.cst .f32 1065361605 <|
     .tst 1 .f32 4 8
      (.ret [.b true])
      (.ret [.b false]))
     (.ret [.b false]))
    (.ret [.b false]))
   (.ret [.b false])
def s12 : Sum := ⟨12, [.ptr [.f .f32, .f .f32, .f .f32, .f .f32]], [.val (.b)]⟩
/-- loop.example/g01249/spec.l01At -/
def t13 : T :=
  .cst .f32 0 <|
  .cst .f32 0 <|
  .cst .f32 0 <|
  .cst .f32 0 <|
  .call 11 [.v 3, .v 4, .v 5] 4 <|
  .br 13
   (.cst .f32 0 <|
   .cst .f32 0 <|
   .cst .f32 0 <|
   .call 5 [.v 10, .v 11, .v 12, .v 0, .v 1, .v 2] 1 <|
   .cst .f32 0 <|
   .cst .f32 0 <|
   .cst .f32 0 <|
   .cst .f32 0 <|
   .cst .f32 0 <|
   .cst .f32 0 <|
   .cst .f32 0 <|
   .cst .f32 0 <|
   .call 12 [.v 10, .v 11, .v 12, .v 17] 1 <|
   .br 26
    (.ret [.v 10, .v 11, .v 12, .v 17, .i .i64 0])
    (.cst .f32 0 <|
    .cst .f32 0 <|
    .cst .f32 0 <|
    .cst .f32 0 <|
    .ret [.v 27, .v 28, .v 29, .v 30, .i .i64 4]))
   (.cst .f32 0 <|
   .cst .f32 0 <|
   .cst .f32 0 <|
   .cst .f32 0 <|
   .cst .f32 0 <|
   .cst .f32 0 <|
   .cst .f32 0 <|
   .ret [.v 17, .v 18, .v 19, .v 20, .i .i64 4])
def s13 : Sum := ⟨13, [.agg [.f .f32, .f .f32, .f .f32], .agg [.f .f32, .f .f32, .f .f32]], [.agg [.f .f32, .f .f32, .f .f32, .f .f32], .val (.i .i64 [0, 4])]⟩
/-- loop.example/g01249/spec.PlaneThrough -/
def t14 : T :=
  .cst .f32 0 <|
  .cst .f32 0 <|
  .cst .f32 0 <|
  .cst .f32 0 <|
  .call 2 [.v 0, .v 1, .v 2] 1 <|
  .br 13
   (.call 2 [.v 3, .v 4, .v 5] 1 <|
   .br 14
    (.call 2 [.v 6, .v 7, .v 8] 1 <|
    .br 15
     (.call 3 [.v 3, .v 4, .v 5, .v 0, .v 1, .v 2] 3 <|
     .call 3 [.v 6, .v 7, .v 8, .v 0, .v 1, .v 2] 3 <|
     .call 4 [.v 16, .v 17, .v 18, .v 19, .v 20, .v 21] 3 <|
     .call 13 [.v 0, .v 1, .v 2, .v 22, .v 23, .v 24] 5 <|
     .sw 29 0
      (.ret [.v 25, .v 26, .v 27, .v 28, .i .i64 0])
      (.sw 29 4
       (.ret [.v 25, .v 26, .v 27, .v 28, .i .i64 4])
       (.bad "sw")))
     (.cst .f32 0 <|
     .cst .f32 0 <|
     .cst .f32 0 <|
     .cst .f32 0 <|
     .ret [.v 16, .v 17, .v 18, .v 19, .i .i64 1]))
    (.cst .f32 0 <|
    .cst .f32 0 <|
    .cst .f32 0 <|
    .cst .f32 0 <|
    .ret [.v 15, .v 16, .v 17, .v 18, .i .i64 1]))
   (.cst .f32 0 <|
   .cst .f32 0 <|
   .cst .f32 0 <|
   .cst .f32 0 <|
   .ret [.v 14, .v 15, .v 16, .v 17, .i .i64 1])
def s14 : Sum := ⟨14, [.agg [.f .f32, .f .f32, .f .f32], .agg [.f .f32, .f .f32, .f .f32], .agg [.f .f32, .f .f32, .f .f32]], [.agg [.f .f32, .f .f32, .f .f32, .f .f32], .val (.i .i64 [0, 4, 1])]⟩
/-- loop.example/g01249/impl.IsPlain -/
def t15 : T :=
  .cst .f32 3379831808 <|
  .tst 1 .f32 1 0
   (.cst .f32 1232348160 <|
   .tst 1 .f32 0 2
    (.ret [.b true])
    (.ret [.b false]))
   (.ret [.b false])
def s15 : Sum := ⟨15, [.val (.f .f32)], [.val (.b)]⟩
/-- loop.example/g01249/impl.arePlain$1 -/
def t16 : T :=
  .call 15 [.v 0] 1 <|
  .br 1
   (.ret [.b false])
   (.ret [.b true])
def s16 : Sum := ⟨16, [.val (.f .f32)], [.val (.b)]⟩
/-- loop.example/g01249/impl.ValidPoint -/
def t17 : T :=
  .call 16 [.v 0] 1 <|
  .br 3
   (.ret [.b false])
   (.call 16 [.v 1] 1 <|
   .br 4
    (.ret [.b false])
    (.call 16 [.v 2] 1 <|
    .br 5
     (.ret [.b false])
     (.ret [.b true])))
def s17 : Sum := ⟨17, [.agg [.f .f32, .f .f32, .f .f32]], [.val (.b)]⟩
/-- loop.example/g01249/impl.arePoints$1 -/
def t18 : T :=
  .call 17 [.v 0, .v 1, .v 2] 1 <|
  .br 3
   (.ret [.b false])
   (.ret [.b true])
def s18 : Sum := ⟨18, [.agg [.f .f32, .f .f32, .f .f32]], [.val (.b)]⟩
/-- loop.example/g01249/impl.SubPoints -/
def t19 : T :=
  .cst .f32 0 <|
  .cst .f32 0 <|
  .cst .f32 0 <|
  .bin .sub .f32 0 3 <|
  .bin .sub .f32 1 4 <|
  .bin .sub .f32 2 5 <|
  .cst .f32 0 <|
  .cst .f32 0 <|
  .cst .f32 0 <|
  .ret [.v 9, .v 10, .v 11]
def s19 : Sum := ⟨19, [.agg [.f .f32, .f .f32, .f .f32], .agg [.f .f32, .f .f32, .f .f32]], [.agg [.f .f32, .f .f32, .f .f32]]⟩
/-- loop.example/g01249/impl.CrossOf -/
def t20 : T :=
  .cst .f32 0 <|
  .cst .f32 0 <|
  .cst .f32 0 <|
  .bin .mul .f32 1 5 <|
  .bin .mul .f32 2 4 <|
  .bin .sub .f32 9 10 <|
  .bin .mul .f32 2 3 <|
  .bin .mul .f32 0 5 <|
  .bin .sub .f32 12 13 <|
  .bin .mul .f32 0 4 <|
  .bin .mul .f32 1 3 <|
  .bin .sub .f32 15 16 <|
  .cst .f32 0 <|
  .cst .f32 0 <|
  .cst .f32 0 <|
  .ret [.v 11, .v 14, .v 17]
def s20 : Sum := ⟨20, [.agg [.f .f32, .f .f32, .f .f32], .agg [.f .f32, .f .f32, .f .f32]], [.agg [.f .f32, .f .f32, .f .f32]]⟩
/-- loop.example/g01249/impl.DotOf -/
def t21 : T :=
  .cst .f32 0 <|
  .bin .mul .f32 0 3 <|
  .bin .mul .f32 1 4 <|
  .bin .add .f32 7 8 <|
  .bin .mul .f32 2 5 <|
  .bin .add .f32 9 10 <|
  .ret [.v 11]
def s21 : Sum := ⟨21, [.agg [.f .f32, .f .f32, .f .f32], .agg [.f .f32, .f .f32, .f .f32]], [.val (.f .f32)]⟩
/-- loop.example/g01249/impl.root -/
def t22 : T :=
  .cst .f32 0 <|
  .un .widen .f32 0 <|
  .call 6 [.v 2] 1 <|
  .un .narrow .f64 3 <|
  .ret [.v 4]
def s22 : Sum := ⟨22, [.val (.f .f32)], [.val (.f .f32)]⟩
/-- loop.example/g01249/impl.LengthOf -/
def t23 : T :=
  .cst .f32 0 <|
  .call 21 [.v 0, .v 1, .v 2, .v 0, .v 1, .v 2] 1 <|
  .call 22 [.v 4] 1 <|
  .ret [.v 5]
def s23 : Sum := ⟨23, [.agg [.f .f32, .f .f32, .f .f32]], [.val (.f .f32)]⟩
/-- loop.example/g01249/impl.isFinite -/
def t24 : T :=
  .bin .sub .f32 0 0 <|
  .cst .f32 0 <|
  .tst 2 .f32 1 2
   (.ret [.b true])
   (.ret [.b false])
def s24 : Sum := ⟨24, [.val (.f .f32)], [.val (.b)]⟩
/-- loop.example/g01249/impl.quotients -/
def t25 : T :=
  .cst .f32 0 <|
  .cst .f32 0 <|
  .cst .f32 0 <|
  .bin .div .f32 0 3 <|
  .bin .div .f32 1 3 <|
  .bin .div .f32 2 3 <|
  .cst .f32 0 <|
  .cst .f32 0 <|
  .cst .f32 0 <|
  .ret [.v 7, .v 8, .v 9]
def s25 : Sum := ⟨25, [.agg [.f .f32, .f .f32, .f .f32], .val (.f .f32)], [.agg [.f .f32, .f .f32, .f .f32]]⟩
/-- loop.example/g01249/impl.areFinite$1 -/
def t26 : T :=
  .call 24 [.v 0] 1 <|
  .br 1
   (.ret [.b false])
   (.ret [.b true])
def s26 : Sum := ⟨26, [.val (.f .f32)], [.val (.b)]⟩
/-- loop.example/g01249/impl.unit -/
def t27 : T :=
  .cst .f32 0 <|
  .cst .f32 0 <|
  .cst .f32 0 <|
  .call 23 [.v 0, .v 1, .v 2] 1 <|
  .call 24 [.v 6] 1 <|
  .br 7
   (.cst .f32 897581056 <|
   .tst 0 .f32 6 8
    (.cst .f32 0 <|
    .cst .f32 0 <|
    .cst .f32 0 <|
    .ret [.v 9, .v 10, .v 11, .b false])
    (.call 25 [.v 0, .v 1, .v 2, .v 6] 3 <|
    .cst .f32 0 <|
    .cst .f32 0 <|
    .cst .f32 0 <|
    .call 26 [.v 9] 1 <|
    .br 15
     (.ret [.v 9, .v 10, .v 11, .b false])
     (.call 26 [.v 10] 1 <|
     .br 16
      (.ret [.v 9, .v 10, .v 11, .b false])
      (.call 26 [.v 11] 1 <|
      .br 17
       (.ret [.v 9, .v 10, .v 11, .b false])
       (.ret [.v 9, .v 10, .v 11, .b true])))))
   (.cst .f32 0 <|
   .cst .f32 0 <|
   .cst .f32 0 <|
   .ret [.v 8, .v 9, .v 10, .b false])
def s27 : Sum := ⟨27, [.agg [.f .f32, .f .f32, .f .f32]], [.agg [.f .f32, .f .f32, .f .f32], .val (.b)]⟩
/-- loop.example/g01249/impl.ValidPlane -/
def t28 : T :=
  .call 23 [.v 0, .v 1, .v 2] 1 <|
  .call 15 [.v 3] 1 <|
  .br 5
   (.call 17 [.v 0, .v 1, .v 2] 1 <|
   .br 6
    (.cst .f32 1065336439 <|
    .tst 1 .f32 7 4
     (.cst .f32 1065361605 <|
     .tst 1 .f32 4 8
      (.ret [.b true])
      (.ret [.b false]))
     (.ret [.b false]))
    (.ret [.b false]))
   (.ret [.b false])
def s28 : Sum := ⟨28, [.agg [.f .f32, .f .f32, .f .f32, .f .f32]], [.val (.b)]⟩
/-- loop.example/g01249/impl.planeAt -/
def t29 : T :=
  .cst .f32 0 <|
  .cst .f32 0 <|
  .cst .f32 0 <|
  .cst .f32 0 <|
  .call 27 [.v 3, .v 4, .v 5] 4 <|
  .br 13
   (.cst .f32 0 <|
   .cst .f32 0 <|
   .cst .f32 0 <|
   .call 21 [.v 10, .v 11, .v 12, .v 0, .v 1, .v 2] 1 <|
   .cst .f32 0 <|
   .cst .f32 0 <|
   .cst .f32 0 <|
   .cst .f32 0 <|
   .cst .f32 0 <|
   .cst .f32 0 <|
   .cst .f32 0 <|
   .cst .f32 0 <|
   .call 28 [.v 10, .v 11, .v 12, .v 17] 1 <|
   .br 26
    (.ret [.v 10, .v 11, .v 12, .v 17, .i .i64 0])
    (.cst .f32 0 <|
    .cst .f32 0 <|
    .cst .f32 0 <|
    .cst .f32 0 <|
    .ret [.v 27, .v 28, .v 29, .v 30, .i .i64 4]))
   (.cst .f32 0 <|
   .cst .f32 0 <|
   .cst .f32 0 <|
   .call 21 [.v 10, .v 11, .v 12, .v 0, .v 1, .v 2] 1 <|
   .cst .f32 0 <|
   .cst .f32 0 <|
   .cst .f32 0 <|
   .cst .f32 0 <|
   .cst .f32 0 <|
   .cst .f32 0 <|
   .cst .f32 0 <|
   .cst .f32 0 <|
   .cst .f32 0 <|
   .cst .f32 0 <|
   .cst .f32 0 <|
   .cst .f32 0 <|
   .ret [.v 26, .v 27, .v 28, .v 29, .i .i64 4])
def s29 : Sum := ⟨29, [.agg [.f .f32, .f .f32, .f .f32], .agg [.f .f32, .f .f32, .f .f32]], [.agg [.f .f32, .f .f32, .f .f32, .f .f32], .val (.i .i64 [0, 4])]⟩
/-- loop.example/g01249/impl.PlaneThrough -/
def t30 : T :=
  .cst .f32 0 <|
  .cst .f32 0 <|
  .cst .f32 0 <|
  .cst .f32 0 <|
  .cst .f32 0 <|
  .cst .f32 0 <|
  .cst .f32 0 <|
  .call 18 [.v 0, .v 1, .v 2] 1 <|
  .br 16
   (.cst .f32 0 <|
   .cst .f32 0 <|
   .cst .f32 0 <|
   .cst .f32 0 <|
   .ret [.v 17, .v 18, .v 19, .v 20, .i .i64 1])
   (.call 18 [.v 3, .v 4, .v 5] 1 <|
   .br 17
    (.cst .f32 0 <|
    .cst .f32 0 <|
    .cst .f32 0 <|
    .cst .f32 0 <|
    .ret [.v 18, .v 19, .v 20, .v 21, .i .i64 1])
    (.call 18 [.v 6, .v 7, .v 8] 1 <|
    .br 18
     (.cst .f32 0 <|
     .cst .f32 0 <|
     .cst .f32 0 <|
     .cst .f32 0 <|
     .ret [.v 19, .v 20, .v 21, .v 22, .i .i64 1])
     (.call 19 [.v 3, .v 4, .v 5, .v 0, .v 1, .v 2] 3 <|
     .call 19 [.v 6, .v 7, .v 8, .v 0, .v 1, .v 2] 3 <|
     .call 20 [.v 19, .v 20, .v 21, .v 22, .v 23, .v 24] 3 <|
     .call 29 [.v 0, .v 1, .v 2, .v 25, .v 26, .v 27] 5 <|
     .sw 32 0
      (.ret [.v 28, .v 29, .v 30, .v 31, .i .i64 0])
      (.sw 32 4
       (.ret [.v 28, .v 29, .v 30, .v 31, .i .i64 4])
       (.bad "sw")))))
def s30 : Sum := ⟨30, [.agg [.f .f32, .f .f32, .f .f32], .agg [.f .f32, .f .f32, .f .f32], .agg [.f .f32, .f .f32, .f .f32]], [.agg [.f .f32, .f .f32, .f .f32, .f .f32], .val (.i .i64 [1, 0, 4])]⟩
/-- loop.example/g01249/laws.sameFloat -/
def t31 : T :=
  .tst 2 .f64 0 0
   (.tst 2 .f64 1 1
    (.cst .f64 0 <|
    .tst 2 .f64 0 2
     (.cst .f64 0 <|
     .tst 2 .f64 1 3
      (.cst .f64 4607182418800017408 <|
      .bin .div .f64 4 0 <|
      .cst .f64 0 <|
      .tst 0 .f64 6 5
       (.cst .f64 4607182418800017408 <|
       .bin .div .f64 7 1 <|
       .cst .f64 0 <|
       .tst 0 .f64 9 8
        (.ret [.b true])
        (.ret [.b false]))
       (.cst .f64 4607182418800017408 <|
       .bin .div .f64 7 1 <|
       .cst .f64 0 <|
       .tst 0 .f64 9 8
        (.ret [.b false])
        (.ret [.b true])))
      (.tst 2 .f64 0 1
       (.ret [.b true])
       (.ret [.b false])))
     (.tst 2 .f64 0 1
      (.ret [.b true])
      (.ret [.b false])))
    (.tst 2 .f64 0 0
     (.ret [.b false])
     (.tst 2 .f64 1 1
      (.ret [.b false])
      (.ret [.b true]))))
   (.tst 2 .f64 0 0
    (.ret [.b false])
    (.tst 2 .f64 1 1
     (.ret [.b false])
     (.ret [.b true])))
def s31 : Sum := ⟨31, [.val (.f .f64), .val (.f .f64)], [.val (.b)]⟩
/-- loop.example/g01249/laws.eqPoint -/
def t32 : T :=
  .un .widen .f32 0 <|
  .un .widen .f32 3 <|
  .call 31 [.v 6, .v 7] 1 <|
  .br 8
   (.un .widen .f32 1 <|
   .un .widen .f32 4 <|
   .call 31 [.v 9, .v 10] 1 <|
   .br 11
    (.un .widen .f32 2 <|
    .un .widen .f32 5 <|
    .call 31 [.v 12, .v 13] 1 <|
    .br 14
     (.ret [.b true])
     (.ret [.b false]))
    (.ret [.b false]))
   (.ret [.b false])
def s32 : Sum := ⟨32, [.agg [.f .f32, .f .f32, .f .f32], .agg [.f .f32, .f .f32, .f .f32]], [.val (.b)]⟩
/-- loop.example/g01249/laws.eqPlane -/
def t33 : T :=
  .call 32 [.v 0, .v 1, .v 2, .v 4, .v 5, .v 6] 1 <|
  .br 8
   (.un .widen .f32 3 <|
   .un .widen .f32 7 <|
   .call 31 [.v 9, .v 10] 1 <|
   .br 11
    (.ret [.b true])
    (.ret [.b false]))
   (.ret [.b false])
def s33 : Sum := ⟨33, [.agg [.f .f32, .f .f32, .f .f32, .f .f32], .agg [.f .f32, .f .f32, .f .f32, .f .f32]], [.val (.b)]⟩
/-- loop.example/g01249/laws.FnExactPlaneThrough -/
def t34 : T :=
  .call 0 [.v 0, .v 1, .v 2] 3 <|
  .call 0 [.v 3, .v 4, .v 5] 3 <|
  .call 0 [.v 6, .v 7, .v 8] 3 <|
  .call 14 [.v 9, .v 10, .v 11, .v 12, .v 13, .v 14, .v 15, .v 16, .v 17] 5 <|
  .sw 22 0
   (.cst .f32 0 <|
   .cst .f32 0 <|
   .cst .f32 0 <|
   .cst .f32 0 <|
   .call 0 [.v 0, .v 1, .v 2] 3 <|
   .call 0 [.v 3, .v 4, .v 5] 3 <|
   .call 0 [.v 6, .v 7, .v 8] 3 <|
   .call 30 [.v 27, .v 28, .v 29, .v 30, .v 31, .v 32, .v 33, .v 34, .v 35] 5 <|
   .sw 40 1
    (.cst .f32 0 <|
    .cst .f32 0 <|
    .cst .f32 0 <|
    .cst .f32 0 <|
    .call 33 [.v 36, .v 37, .v 38, .v 39, .v 18, .v 19, .v 20, .v 21] 1 <|
    .br 45
     (.ret [.b false])
     (.ret [.b false]))
    (.sw 40 0
     (.cst .f32 0 <|
     .cst .f32 0 <|
     .cst .f32 0 <|
     .cst .f32 0 <|
     .call 33 [.v 36, .v 37, .v 38, .v 39, .v 18, .v 19, .v 20, .v 21] 1 <|
     .br 45
      (.ret [.b true])
      (.ret [.b false]))
     (.sw 40 4
      (.cst .f32 0 <|
      .cst .f32 0 <|
      .cst .f32 0 <|
      .cst .f32 0 <|
      .call 33 [.v 36, .v 37, .v 38, .v 39, .v 18, .v 19, .v 20, .v 21] 1 <|
      .br 45
       (.ret [.b false])
       (.ret [.b false]))
      (.bad "sw"))))
   (.sw 22 4
    (.cst .f32 0 <|
    .cst .f32 0 <|
    .cst .f32 0 <|
    .cst .f32 0 <|
    .call 0 [.v 0, .v 1, .v 2] 3 <|
    .call 0 [.v 3, .v 4, .v 5] 3 <|
    .call 0 [.v 6, .v 7, .v 8] 3 <|
    .call 30 [.v 27, .v 28, .v 29, .v 30, .v 31, .v 32, .v 33, .v 34, .v 35] 5 <|
    .sw 40 1
     (.cst .f32 0 <|
     .cst .f32 0 <|
     .cst .f32 0 <|
     .cst .f32 0 <|
     .call 33 [.v 36, .v 37, .v 38, .v 39, .v 18, .v 19, .v 20, .v 21] 1 <|
     .br 45
      (.ret [.b false])
      (.ret [.b false]))
     (.sw 40 0
      (.cst .f32 0 <|
      .cst .f32 0 <|
      .cst .f32 0 <|
      .cst .f32 0 <|
      .call 33 [.v 36, .v 37, .v 38, .v 39, .v 18, .v 19, .v 20, .v 21] 1 <|
      .br 45
       (.ret [.b false])
       (.ret [.b false]))
      (.sw 40 4
       (.cst .f32 0 <|
       .cst .f32 0 <|
       .cst .f32 0 <|
       .cst .f32 0 <|
       .call 33 [.v 36, .v 37, .v 38, .v 39, .v 18, .v 19, .v 20, .v 21] 1 <|
       .br 45
        (.ret [.b true])
        (.ret [.b false]))
       (.bad "sw"))))
    (.sw 22 1
     (.cst .f32 0 <|
     .cst .f32 0 <|
     .cst .f32 0 <|
     .cst .f32 0 <|
     .call 0 [.v 0, .v 1, .v 2] 3 <|
     .call 0 [.v 3, .v 4, .v 5] 3 <|
     .call 0 [.v 6, .v 7, .v 8] 3 <|
     .call 30 [.v 27, .v 28, .v 29, .v 30, .v 31, .v 32, .v 33, .v 34, .v 35] 5 <|
     .sw 40 1
      (.cst .f32 0 <|
      .cst .f32 0 <|
      .cst .f32 0 <|
      .cst .f32 0 <|
      .call 33 [.v 36, .v 37, .v 38, .v 39, .v 18, .v 19, .v 20, .v 21] 1 <|
      .br 45
       (.ret [.b true])
       (.ret [.b false]))
      (.sw 40 0
       (.cst .f32 0 <|
       .cst .f32 0 <|
       .cst .f32 0 <|
       .cst .f32 0 <|
       .call 33 [.v 36, .v 37, .v 38, .v 39, .v 18, .v 19, .v 20, .v 21] 1 <|
       .br 45
        (.ret [.b false])
        (.ret [.b false]))
       (.sw 40 4
        (.cst .f32 0 <|
        .cst .f32 0 <|
        .cst .f32 0 <|
        .cst .f32 0 <|
        .call 33 [.v 36, .v 37, .v 38, .v 39, .v 18, .v 19, .v 20, .v 21] 1 <|
        .br 45
         (.ret [.b false])
         (.ret [.b false]))
        (.bad "sw"))))
     (.bad "sw")))
def s34 : Sum := ⟨34, [.agg [.f .f32, .f .f32, .f .f32], .agg [.f .f32, .f .f32, .f .f32], .agg [.f .f32, .f .f32, .f .f32]], [.val (.b)]⟩
/-- loop.example/g01249/laws.toPlane -/
def t35 : T :=
  .cst .f32 0 <|
  .cst .f32 0 <|
  .cst .f32 0 <|
  .cst .f32 0 <|
  .cst .f32 0 <|
  .cst .f32 0 <|
  .cst .f32 0 <|
  .cst .f32 0 <|
  .call 0 [.v 0, .v 1, .v 2] 3 <|
  .ret [.v 12, .v 13, .v 14, .v 3]
def s35 : Sum := ⟨35, [.agg [.f .f32, .f .f32, .f .f32, .f .f32]], [.agg [.f .f32, .f .f32, .f .f32, .f .f32]]⟩
/-- loop.example/g01249/spec.l01Small -/
def t36 : T :=
  .cst .f32 897581056 <|
  .tst 1 .f32 1 0
   (.ret [.b false])
   (.cst .f32 3045064704 <|
   .tst 1 .f32 0 2
    (.ret [.b false])
    (.ret [.b true]))
def s36 : Sum := ⟨36, [.val (.f .f32)], [.val (.b)]⟩
/-- loop.example/g01249/spec.BetweenPoints -/
def t37 : T :=
  .cst .f32 0 <|
  .cst .f32 0 <|
  .cst .f32 0 <|
  .cst .f32 0 <|
  .cst .f32 0 <|
  .cst .f32 0 <|
  .cst .f32 0 <|
  .cst .f32 0 <|
  .cst .f32 0 <|
  .bin .sub .f32 3 0 <|
  .bin .mul .f32 6 16 <|
  .bin .add .f32 0 17 <|
  .bin .sub .f32 4 1 <|
  .bin .mul .f32 6 19 <|
  .bin .add .f32 1 20 <|
  .bin .sub .f32 5 2 <|
  .bin .mul .f32 6 22 <|
  .bin .add .f32 2 23 <|
  .ret [.v 18, .v 21, .v 24]
def s37 : Sum := ⟨37, [.agg [.f .f32, .f .f32, .f .f32], .agg [.f .f32, .f .f32, .f .f32], .val (.f .f32)], [.agg [.f .f32, .f .f32, .f .f32]]⟩
/-- loop.example/g01249/spec.MeetLine -/
def t38 : T :=
  .cst .f32 0 <|
  .cst .f32 0 <|
  .cst .f32 0 <|
  .cst .f32 0 <|
  .call 12 [.v 0, .v 1, .v 2, .v 3] 1 <|
  .br 14
   (.call 2 [.v 4, .v 5, .v 6] 1 <|
   .br 15
    (.call 2 [.v 7, .v 8, .v 9] 1 <|
    .br 16
     (.call 3 [.v 7, .v 8, .v 9, .v 4, .v 5, .v 6] 3 <|
     .call 5 [.v 0, .v 1, .v 2, .v 17, .v 18, .v 19] 1 <|
     .call 36 [.v 20] 1 <|
     .br 21
      (.cst .f32 0 <|
      .cst .f32 0 <|
      .cst .f32 0 <|
      .cst .f32 0 <|
      .ret [.v 22, .v 23, .v 24, .v 25, .i .i64 4])
      (.call 5 [.v 0, .v 1, .v 2, .v 4, .v 5, .v 6] 1 <|
      .bin .sub .f32 3 22 <|
      .bin .div .f32 23 20 <|
      .call 37 [.v 4, .v 5, .v 6, .v 7, .v 8, .v 9, .v 24] 3 <|
      .cst .f32 0 <|
      .cst .f32 0 <|
      .cst .f32 0 <|
      .call 9 [.v 24] 1 <|
      .br 31
       (.call 10 [.v 25, .v 26, .v 27] 1 <|
       .br 32
        (.ret [.v 25, .v 26, .v 27, .v 24, .i .i64 0])
        (.cst .f32 0 <|
        .cst .f32 0 <|
        .cst .f32 0 <|
        .cst .f32 0 <|
        .ret [.v 33, .v 34, .v 35, .v 36, .i .i64 4]))
       (.cst .f32 0 <|
       .cst .f32 0 <|
       .cst .f32 0 <|
       .cst .f32 0 <|
       .ret [.v 32, .v 33, .v 34, .v 35, .i .i64 4])))
     (.cst .f32 0 <|
     .cst .f32 0 <|
     .cst .f32 0 <|
     .cst .f32 0 <|
     .ret [.v 17, .v 18, .v 19, .v 20, .i .i64 1]))
    (.cst .f32 0 <|
    .cst .f32 0 <|
    .cst .f32 0 <|
    .cst .f32 0 <|
    .ret [.v 16, .v 17, .v 18, .v 19, .i .i64 1]))
   (.cst .f32 0 <|
   .cst .f32 0 <|
   .cst .f32 0 <|
   .cst .f32 0 <|
   .ret [.v 15, .v 16, .v 17, .v 18, .i .i64 1])
def s38 : Sum := ⟨38, [.agg [.f .f32, .f .f32, .f .f32, .f .f32], .agg [.f .f32, .f .f32, .f .f32], .agg [.f .f32, .f .f32, .f .f32]], [.agg [.f .f32, .f .f32, .f .f32], .val (.f .f32), .val (.i .i64 [4, 0, 1])]⟩
/-- math.Abs -/
def t39 : T :=
  .cst .f64 0 <|
  .un .abs .f64 0 <|
  .ret [.v 2]
def s39 : Sum := ⟨39, [.val (.f .f64)], [.val (.f .f64)]⟩
/-- loop.example/g01249/impl.size -/
def t40 : T :=
  .cst .f32 0 <|
  .un .widen .f32 0 <|
  .call 39 [.v 2] 1 <|
  .un .narrow .f64 3 <|
  .ret [.v 4]
def s40 : Sum := ⟨40, [.val (.f .f32)], [.val (.f .f32)]⟩
/-- loop.example/g01249/impl.BetweenPoints -/
def t41 : T :=
  .cst .f32 0 <|
  .cst .f32 0 <|
  .cst .f32 0 <|
  .cst .f32 0 <|
  .cst .f32 0 <|
  .cst .f32 0 <|
  .cst .f32 0 <|
  .cst .f32 0 <|
  .cst .f32 0 <|
  .bin .sub .f32 3 0 <|
  .bin .mul .f32 6 16 <|
  .bin .add .f32 0 17 <|
  .bin .sub .f32 4 1 <|
  .bin .mul .f32 6 19 <|
  .bin .add .f32 1 20 <|
  .bin .sub .f32 5 2 <|
  .bin .mul .f32 6 22 <|
  .bin .add .f32 2 23 <|
  .ret [.v 18, .v 21, .v 24]
def s41 : Sum := ⟨41, [.agg [.f .f32, .f .f32, .f .f32], .agg [.f .f32, .f .f32, .f .f32], .val (.f .f32)], [.agg [.f .f32, .f .f32, .f .f32]]⟩
/-- loop.example/g01249/impl.finite -/
def t42 : T :=
  .cst .f32 0 <|
  .cst .f32 0 <|
  .cst .f32 0 <|
  .call 26 [.v 0] 1 <|
  .br 6
   (.cst .f32 0 <|
   .cst .f32 0 <|
   .cst .f32 0 <|
   .ret [.v 7, .v 8, .v 9, .i .i64 4])
   (.call 26 [.v 1] 1 <|
   .br 7
    (.cst .f32 0 <|
    .cst .f32 0 <|
    .cst .f32 0 <|
    .ret [.v 8, .v 9, .v 10, .i .i64 4])
    (.call 26 [.v 2] 1 <|
    .br 8
     (.cst .f32 0 <|
     .cst .f32 0 <|
     .cst .f32 0 <|
     .ret [.v 9, .v 10, .v 11, .i .i64 4])
     (.ret [.v 0, .v 1, .v 2, .i .i64 0])))
def s42 : Sum := ⟨42, [.agg [.f .f32, .f .f32, .f .f32]], [.agg [.f .f32, .f .f32, .f .f32], .val (.i .i64 [4, 0])]⟩
/-- (loop.example/g01249/impl.Plane).meet -/
def t43 : T :=
  .cst .f32 0 <|
  .cst .f32 0 <|
  .cst .f32 0 <|
  .cst .f32 0 <|
  .call 19 [.v 7, .v 8, .v 9, .v 4, .v 5, .v 6] 3 <|
  .call 21 [.v 0, .v 1, .v 2, .v 14, .v 15, .v 16] 1 <|
  .call 40 [.v 17] 1 <|
  .cst .f32 897581056 <|
  .tst 0 .f32 18 19
   (.cst .f32 0 <|
   .cst .f32 0 <|
   .cst .f32 0 <|
   .cst .f32 0 <|
   .ret [.v 20, .v 21, .v 22, .v 23, .i .i64 4])
   (.call 21 [.v 0, .v 1, .v 2, .v 4, .v 5, .v 6] 1 <|
   .bin .sub .f32 3 20 <|
   .bin .div .f32 21 17 <|
   .call 41 [.v 4, .v 5, .v 6, .v 7, .v 8, .v 9, .v 22] 3 <|
   .call 42 [.v 23, .v 24, .v 25] 4 <|
   .sw 29 4
    (.cst .f32 0 <|
    .cst .f32 0 <|
    .cst .f32 0 <|
    .cst .f32 0 <|
    .cst .f32 0 <|
    .cst .f32 0 <|
    .cst .f32 0 <|
    .ret [.v 33, .v 34, .v 35, .v 36, .i .i64 4])
    (.sw 29 0
     (.cst .f32 0 <|
     .cst .f32 0 <|
     .cst .f32 0 <|
     .call 24 [.v 22] 1 <|
     .br 33
      (.ret [.v 26, .v 27, .v 28, .v 22, .i .i64 0])
      (.cst .f32 0 <|
      .cst .f32 0 <|
      .cst .f32 0 <|
      .cst .f32 0 <|
      .ret [.v 34, .v 35, .v 36, .v 37, .i .i64 4]))
     (.bad "sw")))
def s43 : Sum := ⟨43, [.agg [.f .f32, .f .f32, .f .f32, .f .f32], .agg [.f .f32, .f .f32, .f .f32], .agg [.f .f32, .f .f32, .f .f32]], [.agg [.f .f32, .f .f32, .f .f32], .val (.f .f32), .val (.i .i64 [4, 0])]⟩
/-- loop.example/g01249/impl.MeetLine -/
def t44 : T :=
  .cst .f32 0 <|
  .cst .f32 0 <|
  .cst .f32 0 <|
  .cst .f32 0 <|
  .cst .f32 0 <|
  .cst .f32 0 <|
  .cst .f32 0 <|
  .call 28 [.v 0, .v 1, .v 2, .v 3] 1 <|
  .br 17
   (.call 18 [.v 4, .v 5, .v 6] 1 <|
   .br 18
    (.cst .f32 0 <|
    .cst .f32 0 <|
    .cst .f32 0 <|
    .cst .f32 0 <|
    .ret [.v 19, .v 20, .v 21, .v 22, .i .i64 1])
    (.call 18 [.v 7, .v 8, .v 9] 1 <|
    .br 19
     (.cst .f32 0 <|
     .cst .f32 0 <|
     .cst .f32 0 <|
     .cst .f32 0 <|
     .ret [.v 20, .v 21, .v 22, .v 23, .i .i64 1])
     (.call 43 [.v 0, .v 1, .v 2, .v 3, .v 4, .v 5, .v 6, .v 7, .v 8, .v 9] 5 <|
     .sw 24 4
      (.ret [.v 20, .v 21, .v 22, .v 23, .i .i64 4])
      (.sw 24 0
       (.ret [.v 20, .v 21, .v 22, .v 23, .i .i64 0])
       (.bad "sw")))))
   (.cst .f32 0 <|
   .cst .f32 0 <|
   .cst .f32 0 <|
   .cst .f32 0 <|
   .ret [.v 18, .v 19, .v 20, .v 21, .i .i64 1])
def s44 : Sum := ⟨44, [.agg [.f .f32, .f .f32, .f .f32, .f .f32], .agg [.f .f32, .f .f32, .f .f32], .agg [.f .f32, .f .f32, .f .f32]], [.agg [.f .f32, .f .f32, .f .f32], .val (.f .f32), .val (.i .i64 [1, 4, 0])]⟩
/-- loop.example/g01249/laws.FnExactMeetLine -/
def t45 : T :=
  .call 35 [.v 0, .v 1, .v 2, .v 3] 4 <|
  .call 0 [.v 4, .v 5, .v 6] 3 <|
  .call 0 [.v 7, .v 8, .v 9] 3 <|
  .call 38 [.v 10, .v 11, .v 12, .v 13, .v 14, .v 15, .v 16, .v 17, .v 18, .v 19] 5 <|
  .sw 24 4
   (.cst .f32 0 <|
   .cst .f32 0 <|
   .cst .f32 0 <|
   .call 35 [.v 0, .v 1, .v 2, .v 3] 4 <|
   .call 0 [.v 4, .v 5, .v 6] 3 <|
   .call 0 [.v 7, .v 8, .v 9] 3 <|
   .call 44 [.v 28, .v 29, .v 30, .v 31, .v 32, .v 33, .v 34, .v 35, .v 36, .v 37] 5 <|
   .sw 42 1
    (.cst .f32 0 <|
    .cst .f32 0 <|
    .cst .f32 0 <|
    .call 32 [.v 38, .v 39, .v 40, .v 20, .v 21, .v 22] 1 <|
    .br 46
     (.un .widen .f32 41 <|
     .un .widen .f32 23 <|
     .call 31 [.v 47, .v 48] 1 <|
     .br 49
      (.ret [.b false])
      (.ret [.b false]))
     (.ret [.b false]))
    (.sw 42 4
     (.cst .f32 0 <|
     .cst .f32 0 <|
     .cst .f32 0 <|
     .call 32 [.v 38, .v 39, .v 40, .v 20, .v 21, .v 22] 1 <|
     .br 46
      (.un .widen .f32 41 <|
      .un .widen .f32 23 <|
      .call 31 [.v 47, .v 48] 1 <|
      .br 49
       (.ret [.b true])
       (.ret [.b false]))
      (.ret [.b false]))
     (.sw 42 0
      (.cst .f32 0 <|
      .cst .f32 0 <|
      .cst .f32 0 <|
      .call 32 [.v 38, .v 39, .v 40, .v 20, .v 21, .v 22] 1 <|
      .br 46
       (.un .widen .f32 41 <|
       .un .widen .f32 23 <|
       .call 31 [.v 47, .v 48] 1 <|
       .br 49
        (.ret [.b false])
        (.ret [.b false]))
       (.ret [.b false]))
      (.bad "sw"))))
   (.sw 24 0
    (.cst .f32 0 <|
    .cst .f32 0 <|
    .cst .f32 0 <|
    .call 35 [.v 0, .v 1, .v 2, .v 3] 4 <|
    .call 0 [.v 4, .v 5, .v 6] 3 <|
    .call 0 [.v 7, .v 8, .v 9] 3 <|
    .call 44 [.v 28, .v 29, .v 30, .v 31, .v 32, .v 33, .v 34, .v 35, .v 36, .v 37] 5 <|
    .sw 42 1
     (.cst .f32 0 <|
     .cst .f32 0 <|
     .cst .f32 0 <|
     .call 32 [.v 38, .v 39, .v 40, .v 20, .v 21, .v 22] 1 <|
     .br 46
      (.un .widen .f32 41 <|
      .un .widen .f32 23 <|
      .call 31 [.v 47, .v 48] 1 <|
      .br 49
       (.ret [.b false])
       (.ret [.b false]))
      (.ret [.b false]))
     (.sw 42 4
      (.cst .f32 0 <|
      .cst .f32 0 <|
      .cst .f32 0 <|
      .call 32 [.v 38, .v 39, .v 40, .v 20, .v 21, .v 22] 1 <|
      .br 46
       (.un .widen .f32 41 <|
       .un .widen .f32 23 <|
       .call 31 [.v 47, .v 48] 1 <|
       .br 49
        (.ret [.b false])
        (.ret [.b false]))
       (.ret [.b false]))
      (.sw 42 0
       (.cst .f32 0 <|
       .cst .f32 0 <|
       .cst .f32 0 <|
       .call 32 [.v 38, .v 39, .v 40, .v 20, .v 21, .v 22] 1 <|
       .br 46
        (.un .widen .f32 41 <|
        .un .widen .f32 23 <|
        .call 31 [.v 47, .v 48] 1 <|
        .br 49
         (.ret [.b true])
         (.ret [.b false]))
        (.ret [.b false]))
       (.bad "sw"))))
    (.sw 24 1
     (.cst .f32 0 <|
     .cst .f32 0 <|
     .cst .f32 0 <|
     .call 35 [.v 0, .v 1, .v 2, .v 3] 4 <|
     .call 0 [.v 4, .v 5, .v 6] 3 <|
     .call 0 [.v 7, .v 8, .v 9] 3 <|
     .call 44 [.v 28, .v 29, .v 30, .v 31, .v 32, .v 33, .v 34, .v 35, .v 36, .v 37] 5 <|
     .sw 42 1
      (.cst .f32 0 <|
      .cst .f32 0 <|
      .cst .f32 0 <|
      .call 32 [.v 38, .v 39, .v 40, .v 20, .v 21, .v 22] 1 <|
      .br 46
       (.un .widen .f32 41 <|
       .un .widen .f32 23 <|
       .call 31 [.v 47, .v 48] 1 <|
       .br 49
        (.ret [.b true])
        (.ret [.b false]))
       (.ret [.b false]))
      (.sw 42 4
       (.cst .f32 0 <|
       .cst .f32 0 <|
       .cst .f32 0 <|
       .call 32 [.v 38, .v 39, .v 40, .v 20, .v 21, .v 22] 1 <|
       .br 46
        (.un .widen .f32 41 <|
        .un .widen .f32 23 <|
        .call 31 [.v 47, .v 48] 1 <|
        .br 49
         (.ret [.b false])
         (.ret [.b false]))
        (.ret [.b false]))
       (.sw 42 0
        (.cst .f32 0 <|
        .cst .f32 0 <|
        .cst .f32 0 <|
        .call 32 [.v 38, .v 39, .v 40, .v 20, .v 21, .v 22] 1 <|
        .br 46
         (.un .widen .f32 41 <|
         .un .widen .f32 23 <|
         .call 31 [.v 47, .v 48] 1 <|
         .br 49
          (.ret [.b false])
          (.ret [.b false]))
         (.ret [.b false]))
        (.bad "sw"))))
     (.bad "sw")))
def s45 : Sum := ⟨45, [.agg [.f .f32, .f .f32, .f .f32, .f .f32], .agg [.f .f32, .f .f32, .f .f32], .agg [.f .f32, .f .f32, .f .f32]], [.val (.b)]⟩
/-- loop.example/g01249/spec.ScalePoint -/
def t46 : T :=
  .cst .f32 0 <|
  .cst .f32 0 <|
  .cst .f32 0 <|
  .bin .mul .f32 0 3 <|
  .bin .mul .f32 1 3 <|
  .bin .mul .f32 2 3 <|
  .cst .f32 0 <|
  .cst .f32 0 <|
  .cst .f32 0 <|
  .ret [.v 7, .v 8, .v 9]
def s46 : Sum := ⟨46, [.agg [.f .f32, .f .f32, .f .f32], .val (.f .f32)], [.agg [.f .f32, .f .f32, .f .f32]]⟩
/-- loop.example/g01249/impl.ScalePoint -/
def t47 : T :=
  .cst .f32 0 <|
  .cst .f32 0 <|
  .cst .f32 0 <|
  .bin .mul .f32 0 3 <|
  .bin .mul .f32 1 3 <|
  .bin .mul .f32 2 3 <|
  .cst .f32 0 <|
  .cst .f32 0 <|
  .cst .f32 0 <|
  .ret [.v 7, .v 8, .v 9]
def s47 : Sum := ⟨47, [.agg [.f .f32, .f .f32, .f .f32], .val (.f .f32)], [.agg [.f .f32, .f .f32, .f .f32]]⟩
/-- loop.example/g01249/laws.toCamera -/
def t48 : T :=
  .cst .f32 0 <|
  .cst .f32 0 <|
  .cst .f32 0 <|
  .cst .f32 0 <|
  .cst .f32 0 <|
  .cst .f32 0 <|
  .cst .f32 0 <|
  .cst .f32 0 <|
  .cst .f32 0 <|
  .cst .f32 0 <|
  .cst .f32 0 <|
  .cst .f32 0 <|
  .cst .f32 0 <|
  .cst .f32 0 <|
  .cst .f32 0 <|
  .cst .f32 0 <|
  .cst .f32 0 <|
  .cst .f32 0 <|
  .cst .f32 0 <|
  .cst .f32 0 <|
  .cst .f32 0 <|
  .cst .f32 0 <|
  .call 0 [.v 0, .v 1, .v 2] 3 <|
  .call 0 [.v 3, .v 4, .v 5] 3 <|
  .call 0 [.v 6, .v 7, .v 8] 3 <|
  .ret [.v 33, .v 34, .v 35, .v 36, .v 37, .v 38, .v 39, .v 40, .v 41, .v 9, .v 10]
def s48 : Sum := ⟨48, [.agg [.f .f32, .f .f32, .f .f32, .f .f32, .f .f32, .f .f32, .f .f32, .f .f32, .f .f32, .f .f32, .f .f32]], [.agg [.f .f32, .f .f32, .f .f32, .f .f32, .f .f32, .f .f32, .f .f32, .f .f32, .f .f32, .f .f32, .f .f32]]⟩
/-- loop.example/g01249/spec.l02Frame -/
def t49 : T :=
  .cst .f32 0 <|
  .cst .f32 0 <|
  .cst .f32 0 <|
  .cst .f32 0 <|
  .cst .f32 0 <|
  .cst .f32 0 <|
  .cst .f32 0 <|
  .cst .f32 0 <|
  .cst .f32 0 <|
  .call 3 [.v 3, .v 4, .v 5, .v 0, .v 1, .v 2] 3 <|
  .call 11 [.v 20, .v 21, .v 22] 4 <|
  .br 26
   (.cst .f32 0 <|
   .cst .f32 0 <|
   .cst .f32 0 <|
   .call 4 [.v 23, .v 24, .v 25, .v 6, .v 7, .v 8] 3 <|
   .call 11 [.v 30, .v 31, .v 32] 4 <|
   .br 36
    (.cst .f32 0 <|
    .cst .f32 0 <|
    .cst .f32 0 <|
    .call 4 [.v 33, .v 34, .v 35, .v 23, .v 24, .v 25] 3 <|
    .cst .f32 0 <|
    .cst .f32 0 <|
    .cst .f32 0 <|
    .cst .f32 0 <|
    .cst .f32 0 <|
    .cst .f32 0 <|
    .cst .f32 0 <|
    .cst .f32 0 <|
    .cst .f32 0 <|
    .ret [.v 33, .v 34, .v 35, .v 40, .v 41, .v 42, .v 23, .v 24, .v 25, .b true])
    (.cst .f32 0 <|
    .cst .f32 0 <|
    .cst .f32 0 <|
    .call 4 [.v 33, .v 34, .v 35, .v 23, .v 24, .v 25] 3 <|
    .cst .f32 0 <|
    .cst .f32 0 <|
    .cst .f32 0 <|
    .cst .f32 0 <|
    .cst .f32 0 <|
    .cst .f32 0 <|
    .cst .f32 0 <|
    .cst .f32 0 <|
    .cst .f32 0 <|
    .ret [.v 33, .v 34, .v 35, .v 40, .v 41, .v 42, .v 23, .v 24, .v 25, .b false]))
   (.cst .f32 0 <|
   .cst .f32 0 <|
   .cst .f32 0 <|
   .call 4 [.v 23, .v 24, .v 25, .v 6, .v 7, .v 8] 3 <|
   .call 11 [.v 30, .v 31, .v 32] 4 <|
   .br 36
    (.cst .f32 0 <|
    .cst .f32 0 <|
    .cst .f32 0 <|
    .call 4 [.v 33, .v 34, .v 35, .v 23, .v 24, .v 25] 3 <|
    .cst .f32 0 <|
    .cst .f32 0 <|
    .cst .f32 0 <|
    .cst .f32 0 <|
    .cst .f32 0 <|
    .cst .f32 0 <|
    .cst .f32 0 <|
    .cst .f32 0 <|
    .cst .f32 0 <|
    .ret [.v 33, .v 34, .v 35, .v 40, .v 41, .v 42, .v 23, .v 24, .v 25, .b false])
    (.cst .f32 0 <|
    .cst .f32 0 <|
    .cst .f32 0 <|
    .call 4 [.v 33, .v 34, .v 35, .v 23, .v 24, .v 25] 3 <|
    .cst .f32 0 <|
    .cst .f32 0 <|
    .cst .f32 0 <|
    .cst .f32 0 <|
    .cst .f32 0 <|
    .cst .f32 0 <|
    .cst .f32 0 <|
    .cst .f32 0 <|
    .cst .f32 0 <|
    .ret [.v 33, .v 34, .v 35, .v 40, .v 41, .v 42, .v 23, .v 24, .v 25, .b false]))
def s49 : Sum := ⟨49, [.ptr [.f .f32, .f .f32, .f .f32, .f .f32, .f .f32, .f .f32, .f .f32, .f .f32, .f .f32, .f .f32, .f .f32]], [.agg [.f .f32, .f .f32, .f .f32, .f .f32, .f .f32, .f .f32, .f .f32, .f .f32, .f .f32], .val (.b)]⟩
/-- loop.example/g01249/spec.l02Ok -/
def t50 : T :=
  .call 2 [.v 0, .v 1, .v 2] 1 <|
  .br 11
   (.call 2 [.v 3, .v 4, .v 5] 1 <|
   .br 12
    (.call 2 [.v 6, .v 7, .v 8] 1 <|
    .br 13
     (.call 1 [.v 9] 1 <|
     .br 14
      (.call 1 [.v 10] 1 <|
      .br 15
       (.cst .f32 1015021568 <|
       .tst 0 .f32 9 16
        (.ret [.b false])
        (.cst .f32 1015021568 <|
        .tst 0 .f32 10 17
         (.ret [.b false])
         (.call 49 [.v 0, .v 1, .v 2, .v 3, .v 4, .v 5, .v 6, .v 7, .v 8, .v 9, .v 10] 10 <|
         .br 27
          (.cst .f32 0 <|
          .cst .f32 0 <|
          .cst .f32 0 <|
          .cst .f32 0 <|
          .cst .f32 0 <|
          .cst .f32 0 <|
          .cst .f32 0 <|
          .cst .f32 0 <|
          .cst .f32 0 <|
          .ret [.b true])
          (.cst .f32 0 <|
          .cst .f32 0 <|
          .cst .f32 0 <|
          .cst .f32 0 <|
          .cst .f32 0 <|
          .cst .f32 0 <|
          .cst .f32 0 <|
          .cst .f32 0 <|
          .cst .f32 0 <|
          .ret [.b false]))))
       (.ret [.b false]))
      (.ret [.b false]))
     (.ret [.b false]))
    (.ret [.b false]))
   (.ret [.b false])
def s50 : Sum := ⟨50, [.ptr [.f .f32, .f .f32, .f .f32, .f .f32, .f .f32, .f .f32, .f .f32, .f .f32, .f .f32, .f .f32, .f .f32]], [.val (.b)]⟩
/-- loop.example/g01249/spec.l02Depth -/
def t51 : T :=
  .cst .f32 0 <|
  .call 3 [.v 20, .v 21, .v 22, .v 0, .v 1, .v 2] 3 <|
  .call 5 [.v 24, .v 25, .v 26, .v 17, .v 18, .v 19] 1 <|
  .ret [.v 27]
def s51 : Sum := ⟨51, [.ptr [.f .f32, .f .f32, .f .f32, .f .f32, .f .f32, .f .f32, .f .f32, .f .f32, .f .f32, .f .f32, .f .f32], .ptr [.f .f32, .f .f32, .f .f32, .f .f32, .f .f32, .f .f32, .f .f32, .f .f32, .f .f32], .agg [.f .f32, .f .f32, .f .f32]], [.val (.f .f32)]⟩
/-- loop.example/g01249/spec.DepthOf -/
def t52 : T :=
  .cst .f32 0 <|
  .call 50 [.v 0, .v 1, .v 2, .v 3, .v 4, .v 5, .v 6, .v 7, .v 8, .v 9, .v 10] 1 <|
  .br 15
   (.call 2 [.v 11, .v 12, .v 13] 1 <|
   .br 16
    (.call 49 [.v 0, .v 1, .v 2, .v 3, .v 4, .v 5, .v 6, .v 7, .v 8, .v 9, .v 10] 10 <|
    .br 26
     (.cst .f32 0 <|
     .cst .f32 0 <|
     .cst .f32 0 <|
     .cst .f32 0 <|
     .cst .f32 0 <|
     .cst .f32 0 <|
     .cst .f32 0 <|
     .cst .f32 0 <|
     .cst .f32 0 <|
     .call 51 [.v 0, .v 1, .v 2, .v 3, .v 4, .v 5, .v 6, .v 7, .v 8, .v 9, .v 10, .v 17, .v 18, .v 19, .v 20, .v 21, .v 22, .v 23, .v 24, .v 25, .v 11, .v 12, .v 13] 1 <|
     .call 9 [.v 36] 1 <|
     .br 37
      (.ret [.v 36, .i .i64 0])
      (.cst .f32 0 <|
      .ret [.v 38, .i .i64 4]))
     (.cst .f32 0 <|
     .cst .f32 0 <|
     .cst .f32 0 <|
     .cst .f32 0 <|
     .cst .f32 0 <|
     .cst .f32 0 <|
     .cst .f32 0 <|
     .cst .f32 0 <|
     .cst .f32 0 <|
     .call 51 [.v 0, .v 1, .v 2, .v 3, .v 4, .v 5, .v 6, .v 7, .v 8, .v 9, .v 10, .v 17, .v 18, .v 19, .v 20, .v 21, .v 22, .v 23, .v 24, .v 25, .v 11, .v 12, .v 13] 1 <|
     .call 9 [.v 36] 1 <|
     .br 37
      (.ret [.v 36, .i .i64 0])
      (.cst .f32 0 <|
      .ret [.v 38, .i .i64 4])))
    (.cst .f32 0 <|
    .ret [.v 17, .i .i64 1]))
   (.cst .f32 0 <|
   .ret [.v 16, .i .i64 1])
def s52 : Sum := ⟨52, [.agg [.f .f32, .f .f32, .f .f32, .f .f32, .f .f32, .f .f32, .f .f32, .f .f32, .f .f32, .f .f32, .f .f32], .agg [.f .f32, .f .f32, .f .f32]], [.val (.f .f32), .val (.i .i64 [0, 4, 1])]⟩
/-- (*loop.example/g01249/impl.Camera).frame -/
def t53 : T :=
  .cst .f32 0 <|
  .cst .f32 0 <|
  .cst .f32 0 <|
  .cst .f32 0 <|
  .cst .f32 0 <|
  .cst .f32 0 <|
  .cst .f32 0 <|
  .cst .f32 0 <|
  .cst .f32 0 <|
  .call 19 [.v 3, .v 4, .v 5, .v 0, .v 1, .v 2] 3 <|
  .call 27 [.v 20, .v 21, .v 22] 4 <|
  .br 26
   (.cst .f32 0 <|
   .cst .f32 0 <|
   .cst .f32 0 <|
   .call 20 [.v 23, .v 24, .v 25, .v 6, .v 7, .v 8] 3 <|
   .call 27 [.v 30, .v 31, .v 32] 4 <|
   .br 36
    (.cst .f32 0 <|
    .cst .f32 0 <|
    .cst .f32 0 <|
    .call 20 [.v 33, .v 34, .v 35, .v 23, .v 24, .v 25] 3 <|
    .cst .f32 0 <|
    .cst .f32 0 <|
    .cst .f32 0 <|
    .cst .f32 0 <|
    .cst .f32 0 <|
    .cst .f32 0 <|
    .cst .f32 0 <|
    .cst .f32 0 <|
    .cst .f32 0 <|
    .ret [.v 33, .v 34, .v 35, .v 40, .v 41, .v 42, .v 23, .v 24, .v 25, .b true])
    (.cst .f32 0 <|
    .cst .f32 0 <|
    .cst .f32 0 <|
    .call 20 [.v 33, .v 34, .v 35, .v 23, .v 24, .v 25] 3 <|
    .cst .f32 0 <|
    .cst .f32 0 <|
    .cst .f32 0 <|
    .cst .f32 0 <|
    .cst .f32 0 <|
    .cst .f32 0 <|
    .cst .f32 0 <|
    .cst .f32 0 <|
    .cst .f32 0 <|
    .ret [.v 33, .v 34, .v 35, .v 40, .v 41, .v 42, .v 23, .v 24, .v 25, .b false]))
   (.cst .f32 0 <|
   .cst .f32 0 <|
   .cst .f32 0 <|
   .call 20 [.v 23, .v 24, .v 25, .v 6, .v 7, .v 8] 3 <|
   .call 27 [.v 30, .v 31, .v 32] 4 <|
   .br 36
    (.cst .f32 0 <|
    .cst .f32 0 <|
    .cst .f32 0 <|
    .call 20 [.v 33, .v 34, .v 35, .v 23, .v 24, .v 25] 3 <|
    .cst .f32 0 <|
    .cst .f32 0 <|
    .cst .f32 0 <|
    .cst .f32 0 <|
    .cst .f32 0 <|
    .cst .f32 0 <|
    .cst .f32 0 <|
    .cst .f32 0 <|
    .cst .f32 0 <|
    .ret [.v 33, .v 34, .v 35, .v 40, .v 41, .v 42, .v 23, .v 24, .v 25, .b false])
    (.cst .f32 0 <|
    .cst .f32 0 <|
    .cst .f32 0 <|
    .call 20 [.v 33, .v 34, .v 35, .v 23, .v 24, .v 25] 3 <|
    .cst .f32 0 <|
    .cst .f32 0 <|
    .cst .f32 0 <|
    .cst .f32 0 <|
    .cst .f32 0 <|
    .cst .f32 0 <|
    .cst .f32 0 <|
    .cst .f32 0 <|
    .cst .f32 0 <|
    .ret [.v 33, .v 34, .v 35, .v 40, .v 41, .v 42, .v 23, .v 24, .v 25, .b false]))
def s53 : Sum := ⟨53, [.ptr [.f .f32, .f .f32, .f .f32, .f .f32, .f .f32, .f .f32, .f .f32, .f .f32, .f .f32, .f .f32, .f .f32]], [.agg [.f .f32, .f .f32, .f .f32, .f .f32, .f .f32, .f .f32, .f .f32, .f .f32, .f .f32], .val (.b)]⟩
/-- loop.example/g01249/impl.ValidCamera -/
def t54 : T :=
  .cst .f32 0 <|
  .cst .f32 0 <|
  .cst .f32 0 <|
  .call 18 [.v 0, .v 1, .v 2] 1 <|
  .br 14
   (.ret [.b false])
   (.call 18 [.v 3, .v 4, .v 5] 1 <|
   .br 15
    (.ret [.b false])
    (.call 18 [.v 6, .v 7, .v 8] 1 <|
    .br 16
     (.ret [.b false])
     (.cst .f32 0 <|
     .call 16 [.v 9] 1 <|
     .br 18
      (.ret [.b false])
      (.call 16 [.v 10] 1 <|
      .br 19
       (.ret [.b false])
       (.cst .f32 1015021568 <|
       .tst 1 .f32 20 9
        (.cst .f32 1015021568 <|
        .tst 1 .f32 21 10
         (.call 53 [.v 0, .v 1, .v 2, .v 3, .v 4, .v 5, .v 6, .v 7, .v 8, .v 9, .v 10] 10 <|
         .br 31
          (.cst .f32 0 <|
          .cst .f32 0 <|
          .cst .f32 0 <|
          .cst .f32 0 <|
          .cst .f32 0 <|
          .cst .f32 0 <|
          .cst .f32 0 <|
          .cst .f32 0 <|
          .cst .f32 0 <|
          .ret [.b true])
          (.cst .f32 0 <|
          .cst .f32 0 <|
          .cst .f32 0 <|
          .cst .f32 0 <|
          .cst .f32 0 <|
          .cst .f32 0 <|
          .cst .f32 0 <|
          .cst .f32 0 <|
          .cst .f32 0 <|
          .ret [.b false]))
         (.ret [.b false]))
        (.ret [.b false]))))))
def s54 : Sum := ⟨54, [.agg [.f .f32, .f .f32, .f .f32, .f .f32, .f .f32, .f .f32, .f .f32, .f .f32, .f .f32, .f .f32, .f .f32]], [.val (.b)]⟩
/-- loop.example/g01249/impl.viewOf -/
def t55 : T :=
  .cst .f32 0 <|
  .cst .f32 0 <|
  .cst .f32 0 <|
  .cst .f32 0 <|
  .cst .f32 0 <|
  .cst .f32 0 <|
  .cst .f32 0 <|
  .cst .f32 0 <|
  .cst .f32 0 <|
  .cst .f32 0 <|
  .cst .f32 0 <|
  .cst .f32 0 <|
  .cst .f32 0 <|
  .cst .f32 0 <|
  .cst .f32 0 <|
  .cst .f32 0 <|
  .cst .f32 0 <|
  .cst .f32 0 <|
  .cst .f32 0 <|
  .cst .f32 0 <|
  .call 53 [.v 0, .v 1, .v 2, .v 3, .v 4, .v 5, .v 6, .v 7, .v 8, .v 9, .v 10] 10 <|
  .br 40
   (.cst .f32 0 <|
   .cst .f32 0 <|
   .cst .f32 0 <|
   .cst .f32 0 <|
   .cst .f32 0 <|
   .cst .f32 0 <|
   .cst .f32 0 <|
   .cst .f32 0 <|
   .cst .f32 0 <|
   .cst .f32 0 <|
   .cst .f32 0 <|
   .cst .f32 0 <|
   .cst .f32 0 <|
   .cst .f32 0 <|
   .cst .f32 0 <|
   .cst .f32 0 <|
   .cst .f32 0 <|
   .cst .f32 0 <|
   .cst .f32 0 <|
   .cst .f32 0 <|
   .cst .f32 0 <|
   .cst .f32 0 <|
   .cst .f32 0 <|
   .cst .f32 0 <|
   .cst .f32 0 <|
   .cst .f32 0 <|
   .cst .f32 0 <|
   .cst .f32 0 <|
   .cst .f32 0 <|
   .ret [.v 0, .v 1, .v 2, .v 3, .v 4, .v 5, .v 6, .v 7, .v 8, .v 9, .v 10, .v 31, .v 32, .v 33, .v 34, .v 35, .v 36, .v 37, .v 38, .v 39])
   (.cst .f32 0 <|
   .cst .f32 0 <|
   .cst .f32 0 <|
   .cst .f32 0 <|
   .cst .f32 0 <|
   .cst .f32 0 <|
   .cst .f32 0 <|
   .cst .f32 0 <|
   .cst .f32 0 <|
   .cst .f32 0 <|
   .cst .f32 0 <|
   .cst .f32 0 <|
   .cst .f32 0 <|
   .cst .f32 0 <|
   .cst .f32 0 <|
   .cst .f32 0 <|
   .cst .f32 0 <|
   .cst .f32 0 <|
   .cst .f32 0 <|
   .cst .f32 0 <|
   .cst .f32 0 <|
   .cst .f32 0 <|
   .cst .f32 0 <|
   .cst .f32 0 <|
   .cst .f32 0 <|
   .cst .f32 0 <|
   .cst .f32 0 <|
   .cst .f32 0 <|
   .cst .f32 0 <|
   .ret [.v 0, .v 1, .v 2, .v 3, .v 4, .v 5, .v 6, .v 7, .v 8, .v 9, .v 10, .v 31, .v 32, .v 33, .v 34, .v 35, .v 36, .v 37, .v 38, .v 39])
def s55 : Sum := ⟨55, [.agg [.f .f32, .f .f32, .f .f32, .f .f32, .f .f32, .f .f32, .f .f32, .f .f32, .f .f32, .f .f32, .f .f32]], [.agg [.f .f32, .f .f32, .f .f32, .f .f32, .f .f32, .f .f32, .f .f32, .f .f32, .f .f32, .f .f32, .f .f32, .f .f32, .f .f32, .f .f32, .f .f32, .f .f32, .f .f32, .f .f32, .f .f32, .f .f32]]⟩
/-- (*loop.example/g01249/impl.view).depth -/
def t56 : T :=
  .cst .f32 0 <|
  .call 19 [.v 20, .v 21, .v 22, .v 0, .v 1, .v 2] 3 <|
  .call 21 [.v 24, .v 25, .v 26, .v 17, .v 18, .v 19] 1 <|
  .ret [.v 27]
def s56 : Sum := ⟨56, [.ptr [.f .f32, .f .f32, .f .f32, .f .f32, .f .f32, .f .f32, .f .f32, .f .f32, .f .f32, .f .f32, .f .f32, .f .f32, .f .f32, .f .f32, .f .f32, .f .f32, .f .f32, .f .f32, .f .f32, .f .f32], .agg [.f .f32, .f .f32, .f .f32]], [.val (.f .f32)]⟩
/-- loop.example/g01249/impl.DepthOf -/
def t57 : T :=
  .cst .f32 0 <|
  .cst .f32 0 <|
  .cst .f32 0 <|
  .cst .f32 0 <|
  .call 54 [.v 0, .v 1, .v 2, .v 3, .v 4, .v 5, .v 6, .v 7, .v 8, .v 9, .v 10] 1 <|
  .br 18
   (.call 18 [.v 11, .v 12, .v 13] 1 <|
   .br 19
    (.cst .f32 0 <|
    .ret [.v 20, .i .i64 1])
    (.call 55 [.v 0, .v 1, .v 2, .v 3, .v 4, .v 5, .v 6, .v 7, .v 8, .v 9, .v 10] 20 <|
    .cst .f32 0 <|
    .cst .f32 0 <|
    .cst .f32 0 <|
    .cst .f32 0 <|
    .cst .f32 0 <|
    .cst .f32 0 <|
    .cst .f32 0 <|
    .cst .f32 0 <|
    .cst .f32 0 <|
    .cst .f32 0 <|
    .cst .f32 0 <|
    .cst .f32 0 <|
    .cst .f32 0 <|
    .cst .f32 0 <|
    .cst .f32 0 <|
    .cst .f32 0 <|
    .cst .f32 0 <|
    .cst .f32 0 <|
    .cst .f32 0 <|
    .cst .f32 0 <|
    .call 56 [.v 20, .v 21, .v 22, .v 23, .v 24, .v 25, .v 26, .v 27, .v 28, .v 29, .v 30, .v 31, .v 32, .v 33, .v 34, .v 35, .v 36, .v 37, .v 38, .v 39, .v 11, .v 12, .v 13] 1 <|
    .call 24 [.v 60] 1 <|
    .br 61
     (.ret [.v 60, .i .i64 0])
     (.cst .f32 0 <|
     .ret [.v 62, .i .i64 4])))
   (.cst .f32 0 <|
   .ret [.v 19, .i .i64 1])
def s57 : Sum := ⟨57, [.agg [.f .f32, .f .f32, .f .f32, .f .f32, .f .f32, .f .f32, .f .f32, .f .f32, .f .f32, .f .f32, .f .f32], .agg [.f .f32, .f .f32, .f .f32]], [.val (.f .f32), .val (.i .i64 [1, 0, 4])]⟩
/-- loop.example/g01249/laws.FnExactDepthOf -/
def t58 : T :=
  .call 48 [.v 0, .v 1, .v 2, .v 3, .v 4, .v 5, .v 6, .v 7, .v 8, .v 9, .v 10] 11 <|
  .call 0 [.v 11, .v 12, .v 13] 3 <|
  .call 52 [.v 14, .v 15, .v 16, .v 17, .v 18, .v 19, .v 20, .v 21, .v 22, .v 23, .v 24, .v 25, .v 26, .v 27] 2 <|
  .sw 29 0
   (.call 48 [.v 0, .v 1, .v 2, .v 3, .v 4, .v 5, .v 6, .v 7, .v 8, .v 9, .v 10] 11 <|
   .call 0 [.v 11, .v 12, .v 13] 3 <|
   .call 57 [.v 30, .v 31, .v 32, .v 33, .v 34, .v 35, .v 36, .v 37, .v 38, .v 39, .v 40, .v 41, .v 42, .v 43] 2 <|
   .sw 45 1
    (.un .widen .f32 44 <|
    .un .widen .f32 28 <|
    .call 31 [.v 46, .v 47] 1 <|
    .br 48
     (.ret [.b false])
     (.ret [.b false]))
    (.sw 45 0
     (.un .widen .f32 44 <|
     .un .widen .f32 28 <|
     .call 31 [.v 46, .v 47] 1 <|
     .br 48
      (.ret [.b true])
      (.ret [.b false]))
     (.sw 45 4
      (.un .widen .f32 44 <|
      .un .widen .f32 28 <|
      .call 31 [.v 46, .v 47] 1 <|
      .br 48
       (.ret [.b false])
       (.ret [.b false]))
      (.bad "sw"))))
   (.sw 29 4
    (.call 48 [.v 0, .v 1, .v 2, .v 3, .v 4, .v 5, .v 6, .v 7, .v 8, .v 9, .v 10] 11 <|
    .call 0 [.v 11, .v 12, .v 13] 3 <|
    .call 57 [.v 30, .v 31, .v 32, .v 33, .v 34, .v 35, .v 36, .v 37, .v 38, .v 39, .v 40, .v 41, .v 42, .v 43] 2 <|
    .sw 45 1
     (.un .widen .f32 44 <|
     .un .widen .f32 28 <|
     .call 31 [.v 46, .v 47] 1 <|
     .br 48
      (.ret [.b false])
      (.ret [.b false]))
     (.sw 45 0
      (.un .widen .f32 44 <|
      .un .widen .f32 28 <|
      .call 31 [.v 46, .v 47] 1 <|
      .br 48
       (.ret [.b false])
       (.ret [.b false]))
      (.sw 45 4
       (.un .widen .f32 44 <|
       .un .widen .f32 28 <|
       .call 31 [.v 46, .v 47] 1 <|
       .br 48
        (.ret [.b true])
        (.ret [.b false]))
       (.bad "sw"))))
    (.sw 29 1
     (.call 48 [.v 0, .v 1, .v 2, .v 3, .v 4, .v 5, .v 6, .v 7, .v 8, .v 9, .v 10] 11 <|
     .call 0 [.v 11, .v 12, .v 13] 3 <|
     .call 57 [.v 30, .v 31, .v 32, .v 33, .v 34, .v 35, .v 36, .v 37, .v 38, .v 39, .v 40, .v 41, .v 42, .v 43] 2 <|
     .sw 45 1
      (.un .widen .f32 44 <|
      .un .widen .f32 28 <|
      .call 31 [.v 46, .v 47] 1 <|
      .br 48
       (.ret [.b true])
       (.ret [.b false]))
      (.sw 45 0
       (.un .widen .f32 44 <|
       .un .widen .f32 28 <|
       .call 31 [.v 46, .v 47] 1 <|
       .br 48
        (.ret [.b false])
        (.ret [.b false]))
       (.sw 45 4
        (.un .widen .f32 44 <|
        .un .widen .f32 28 <|
        .call 31 [.v 46, .v 47] 1 <|
        .br 48
         (.ret [.b false])
         (.ret [.b false]))
        (.bad "sw"))))
     (.bad "sw")))
def s58 : Sum := ⟨58, [.agg [.f .f32, .f .f32, .f .f32, .f .f32, .f .f32, .f .f32, .f .f32, .f .f32, .f .f32, .f .f32, .f .f32], .agg [.f .f32, .f .f32, .f .f32]], [.val (.b)]⟩
/-- loop.example/g01249/spec.FrameOf -/
def t59 : T :=
  .cst .f32 0 <|
  .cst .f32 0 <|
  .cst .f32 0 <|
  .cst .f32 0 <|
  .cst .f32 0 <|
  .cst .f32 0 <|
  .cst .f32 0 <|
  .cst .f32 0 <|
  .cst .f32 0 <|
  .call 50 [.v 0, .v 1, .v 2, .v 3, .v 4, .v 5, .v 6, .v 7, .v 8, .v 9, .v 10] 1 <|
  .br 20
   (.call 49 [.v 0, .v 1, .v 2, .v 3, .v 4, .v 5, .v 6, .v 7, .v 8, .v 9, .v 10] 10 <|
   .br 30
    (.cst .f32 0 <|
    .cst .f32 0 <|
    .cst .f32 0 <|
    .cst .f32 0 <|
    .cst .f32 0 <|
    .cst .f32 0 <|
    .cst .f32 0 <|
    .cst .f32 0 <|
    .cst .f32 0 <|
    .call 10 [.v 24, .v 25, .v 26] 1 <|
    .br 40
     (.ret [.v 21, .v 22, .v 23, .v 24, .v 25, .v 26, .v 27, .v 28, .v 29, .i .i64 0])
     (.cst .f32 0 <|
     .cst .f32 0 <|
     .cst .f32 0 <|
     .cst .f32 0 <|
     .cst .f32 0 <|
     .cst .f32 0 <|
     .cst .f32 0 <|
     .cst .f32 0 <|
     .cst .f32 0 <|
     .ret [.v 41, .v 42, .v 43, .v 44, .v 45, .v 46, .v 47, .v 48, .v 49, .i .i64 4]))
    (.cst .f32 0 <|
    .cst .f32 0 <|
    .cst .f32 0 <|
    .cst .f32 0 <|
    .cst .f32 0 <|
    .cst .f32 0 <|
    .cst .f32 0 <|
    .cst .f32 0 <|
    .cst .f32 0 <|
    .call 10 [.v 24, .v 25, .v 26] 1 <|
    .br 40
     (.ret [.v 21, .v 22, .v 23, .v 24, .v 25, .v 26, .v 27, .v 28, .v 29, .i .i64 0])
     (.cst .f32 0 <|
     .cst .f32 0 <|
     .cst .f32 0 <|
     .cst .f32 0 <|
     .cst .f32 0 <|
     .cst .f32 0 <|
     .cst .f32 0 <|
     .cst .f32 0 <|
     .cst .f32 0 <|
     .ret [.v 41, .v 42, .v 43, .v 44, .v 45, .v 46, .v 47, .v 48, .v 49, .i .i64 4])))
   (.cst .f32 0 <|
   .cst .f32 0 <|
   .cst .f32 0 <|
   .cst .f32 0 <|
   .cst .f32 0 <|
   .cst .f32 0 <|
   .cst .f32 0 <|
   .cst .f32 0 <|
   .cst .f32 0 <|
   .ret [.v 21, .v 22, .v 23, .v 24, .v 25, .v 26, .v 27, .v 28, .v 29, .i .i64 1])
def s59 : Sum := ⟨59, [.agg [.f .f32, .f .f32, .f .f32, .f .f32, .f .f32, .f .f32, .f .f32, .f .f32, .f .f32, .f .f32, .f .f32]], [.agg [.f .f32, .f .f32, .f .f32, .f .f32, .f .f32, .f .f32, .f .f32, .f .f32, .f .f32], .val (.i .i64 [0, 4, 1])]⟩
/-- loop.example/g01249/impl.FrameOf -/
def t60 : T :=
  .cst .f32 0 <|
  .cst .f32 0 <|
  .cst .f32 0 <|
  .cst .f32 0 <|
  .cst .f32 0 <|
  .cst .f32 0 <|
  .cst .f32 0 <|
  .cst .f32 0 <|
  .cst .f32 0 <|
  .call 54 [.v 0, .v 1, .v 2, .v 3, .v 4, .v 5, .v 6, .v 7, .v 8, .v 9, .v 10] 1 <|
  .br 20
   (.call 55 [.v 0, .v 1, .v 2, .v 3, .v 4, .v 5, .v 6, .v 7, .v 8, .v 9, .v 10] 20 <|
   .cst .f32 0 <|
   .cst .f32 0 <|
   .cst .f32 0 <|
   .cst .f32 0 <|
   .cst .f32 0 <|
   .cst .f32 0 <|
   .cst .f32 0 <|
   .cst .f32 0 <|
   .cst .f32 0 <|
   .cst .f32 0 <|
   .cst .f32 0 <|
   .cst .f32 0 <|
   .cst .f32 0 <|
   .cst .f32 0 <|
   .cst .f32 0 <|
   .cst .f32 0 <|
   .cst .f32 0 <|
   .cst .f32 0 <|
   .cst .f32 0 <|
   .cst .f32 0 <|
   .cst .f32 0 <|
   .call 42 [.v 32, .v 33, .v 34] 4 <|
   .sw 65 4
    (.cst .f32 0 <|
    .cst .f32 0 <|
    .cst .f32 0 <|
    .cst .f32 0 <|
    .cst .f32 0 <|
    .cst .f32 0 <|
    .cst .f32 0 <|
    .cst .f32 0 <|
    .cst .f32 0 <|
    .cst .f32 0 <|
    .cst .f32 0 <|
    .cst .f32 0 <|
    .ret [.v 69, .v 70, .v 71, .v 72, .v 73, .v 74, .v 75, .v 76, .v 77, .i .i64 4])
    (.sw 65 0
     (.cst .f32 0 <|
     .cst .f32 0 <|
     .cst .f32 0 <|
     .cst .f32 0 <|
     .cst .f32 0 <|
     .cst .f32 0 <|
     .call 42 [.v 35, .v 36, .v 37] 4 <|
     .sw 75 4
      (.cst .f32 0 <|
      .cst .f32 0 <|
      .cst .f32 0 <|
      .cst .f32 0 <|
      .cst .f32 0 <|
      .cst .f32 0 <|
      .cst .f32 0 <|
      .cst .f32 0 <|
      .cst .f32 0 <|
      .cst .f32 0 <|
      .cst .f32 0 <|
      .cst .f32 0 <|
      .ret [.v 79, .v 80, .v 81, .v 82, .v 83, .v 84, .v 85, .v 86, .v 87, .i .i64 4])
      (.sw 75 0
       (.cst .f32 0 <|
       .cst .f32 0 <|
       .cst .f32 0 <|
       .cst .f32 0 <|
       .cst .f32 0 <|
       .cst .f32 0 <|
       .call 42 [.v 38, .v 39, .v 40] 4 <|
       .sw 85 4
        (.cst .f32 0 <|
        .cst .f32 0 <|
        .cst .f32 0 <|
        .cst .f32 0 <|
        .cst .f32 0 <|
        .cst .f32 0 <|
        .cst .f32 0 <|
        .cst .f32 0 <|
        .cst .f32 0 <|
        .cst .f32 0 <|
        .cst .f32 0 <|
        .cst .f32 0 <|
        .ret [.v 89, .v 90, .v 91, .v 92, .v 93, .v 94, .v 95, .v 96, .v 97, .i .i64 4])
        (.sw 85 0
         (.cst .f32 0 <|
         .cst .f32 0 <|
         .cst .f32 0 <|
         .ret [.v 32, .v 33, .v 34, .v 35, .v 36, .v 37, .v 38, .v 39, .v 40, .i .i64 0])
         (.bad "sw")))
       (.bad "sw")))
     (.bad "sw")))
   (.cst .f32 0 <|
   .cst .f32 0 <|
   .cst .f32 0 <|
   .cst .f32 0 <|
   .cst .f32 0 <|
   .cst .f32 0 <|
   .cst .f32 0 <|
   .cst .f32 0 <|
   .cst .f32 0 <|
   .ret [.v 21, .v 22, .v 23, .v 24, .v 25, .v 26, .v 27, .v 28, .v 29, .i .i64 1])
def s60 : Sum := ⟨60, [.agg [.f .f32, .f .f32, .f .f32, .f .f32, .f .f32, .f .f32, .f .f32, .f .f32, .f .f32, .f .f32, .f .f32]], [.agg [.f .f32, .f .f32, .f .f32, .f .f32, .f .f32, .f .f32, .f .f32, .f .f32, .f .f32], .val (.i .i64 [4, 0, 1])]⟩
/-- loop.example/g01249/laws.eqFrame -/
def t61 : T :=
  .call 32 [.v 0, .v 1, .v 2, .v 9, .v 10, .v 11] 1 <|
  .br 18
   (.call 32 [.v 3, .v 4, .v 5, .v 12, .v 13, .v 14] 1 <|
   .br 19
    (.call 32 [.v 6, .v 7, .v 8, .v 15, .v 16, .v 17] 1 <|
    .br 20
     (.ret [.b true])
     (.ret [.b false]))
    (.ret [.b false]))
   (.ret [.b false])
def s61 : Sum := ⟨61, [.agg [.f .f32, .f .f32, .f .f32, .f .f32, .f .f32, .f .f32, .f .f32, .f .f32, .f .f32], .agg [.f .f32, .f .f32, .f .f32, .f .f32, .f .f32, .f .f32, .f .f32, .f .f32, .f .f32]], [.val (.b)]⟩
/-- loop.example/g01249/laws.FnExactFrameOf -/
def t62 : T :=
  .call 48 [.v 0, .v 1, .v 2, .v 3, .v 4, .v 5, .v 6, .v 7, .v 8, .v 9, .v 10] 11 <|
  .call 59 [.v 11, .v 12, .v 13, .v 14, .v 15, .v 16, .v 17, .v 18, .v 19, .v 20, .v 21] 10 <|
  .sw 31 0
   (.cst .f32 0 <|
   .cst .f32 0 <|
   .cst .f32 0 <|
   .cst .f32 0 <|
   .cst .f32 0 <|
   .cst .f32 0 <|
   .cst .f32 0 <|
   .cst .f32 0 <|
   .cst .f32 0 <|
   .call 48 [.v 0, .v 1, .v 2, .v 3, .v 4, .v 5, .v 6, .v 7, .v 8, .v 9, .v 10] 11 <|
   .call 60 [.v 41, .v 42, .v 43, .v 44, .v 45, .v 46, .v 47, .v 48, .v 49, .v 50, .v 51] 10 <|
   .sw 61 4
    (.cst .f32 0 <|
    .cst .f32 0 <|
    .cst .f32 0 <|
    .cst .f32 0 <|
    .cst .f32 0 <|
    .cst .f32 0 <|
    .cst .f32 0 <|
    .cst .f32 0 <|
    .cst .f32 0 <|
    .call 61 [.v 52, .v 53, .v 54, .v 55, .v 56, .v 57, .v 58, .v 59, .v 60, .v 22, .v 23, .v 24, .v 25, .v 26, .v 27, .v 28, .v 29, .v 30] 1 <|
    .br 71
     (.ret [.b false])
     (.ret [.b false]))
    (.sw 61 0
     (.cst .f32 0 <|
     .cst .f32 0 <|
     .cst .f32 0 <|
     .cst .f32 0 <|
     .cst .f32 0 <|
     .cst .f32 0 <|
     .cst .f32 0 <|
     .cst .f32 0 <|
     .cst .f32 0 <|
     .call 61 [.v 52, .v 53, .v 54, .v 55, .v 56, .v 57, .v 58, .v 59, .v 60, .v 22, .v 23, .v 24, .v 25, .v 26, .v 27, .v 28, .v 29, .v 30] 1 <|
     .br 71
      (.ret [.b true])
      (.ret [.b false]))
     (.sw 61 1
      (.cst .f32 0 <|
      .cst .f32 0 <|
      .cst .f32 0 <|
      .cst .f32 0 <|
      .cst .f32 0 <|
      .cst .f32 0 <|
      .cst .f32 0 <|
      .cst .f32 0 <|
      .cst .f32 0 <|
      .call 61 [.v 52, .v 53, .v 54, .v 55, .v 56, .v 57, .v 58, .v 59, .v 60, .v 22, .v 23, .v 24, .v 25, .v 26, .v 27, .v 28, .v 29, .v 30] 1 <|
      .br 71
       (.ret [.b false])
       (.ret [.b false]))
      (.bad "sw"))))
   (.sw 31 4
    (.cst .f32 0 <|
    .cst .f32 0 <|
    .cst .f32 0 <|
    .cst .f32 0 <|
    .cst .f32 0 <|
    .cst .f32 0 <|
    .cst .f32 0 <|
    .cst .f32 0 <|
    .cst .f32 0 <|
    .call 48 [.v 0, .v 1, .v 2, .v 3, .v 4, .v 5, .v 6, .v 7, .v 8, .v 9, .v 10] 11 <|
    .call 60 [.v 41, .v 42, .v 43, .v 44, .v 45, .v 46, .v 47, .v 48, .v 49, .v 50, .v 51] 10 <|
    .sw 61 4
     (.cst .f32 0 <|
     .cst .f32 0 <|
     .cst .f32 0 <|
     .cst .f32 0 <|
     .cst .f32 0 <|
     .cst .f32 0 <|
     .cst .f32 0 <|
     .cst .f32 0 <|
     .cst .f32 0 <|
     .call 61 [.v 52, .v 53, .v 54, .v 55, .v 56, .v 57, .v 58, .v 59, .v 60, .v 22, .v 23, .v 24, .v 25, .v 26, .v 27, .v 28, .v 29, .v 30] 1 <|
     .br 71
      (.ret [.b true])
      (.ret [.b false]))
     (.sw 61 0
      (.cst .f32 0 <|
      .cst .f32 0 <|
      .cst .f32 0 <|
      .cst .f32 0 <|
      .cst .f32 0 <|
      .cst .f32 0 <|
      .cst .f32 0 <|
      .cst .f32 0 <|
      .cst .f32 0 <|
      .call 61 [.v 52, .v 53, .v 54, .v 55, .v 56, .v 57, .v 58, .v 59, .v 60, .v 22, .v 23, .v 24, .v 25, .v 26, .v 27, .v 28, .v 29, .v 30] 1 <|
      .br 71
       (.ret [.b false])
       (.ret [.b false]))
      (.sw 61 1
       (.cst .f32 0 <|
       .cst .f32 0 <|
       .cst .f32 0 <|
       .cst .f32 0 <|
       .cst .f32 0 <|
       .cst .f32 0 <|
       .cst .f32 0 <|
       .cst .f32 0 <|
       .cst .f32 0 <|
       .call 61 [.v 52, .v 53, .v 54, .v 55, .v 56, .v 57, .v 58, .v 59, .v 60, .v 22, .v 23, .v 24, .v 25, .v 26, .v 27, .v 28, .v 29, .v 30] 1 <|
       .br 71
        (.ret [.b false])
        (.ret [.b false]))
       (.bad "sw"))))
    (.sw 31 1
     (.cst .f32 0 <|
     .cst .f32 0 <|
     .cst .f32 0 <|
     .cst .f32 0 <|
     .cst .f32 0 <|
     .cst .f32 0 <|
     .cst .f32 0 <|
     .cst .f32 0 <|
     .cst .f32 0 <|
     .call 48 [.v 0, .v 1, .v 2, .v 3, .v 4, .v 5, .v 6, .v 7, .v 8, .v 9, .v 10] 11 <|
     .call 60 [.v 41, .v 42, .v 43, .v 44, .v 45, .v 46, .v 47, .v 48, .v 49, .v 50, .v 51] 10 <|
     .sw 61 4
      (.cst .f32 0 <|
      .cst .f32 0 <|
      .cst .f32 0 <|
      .cst .f32 0 <|
      .cst .f32 0 <|
      .cst .f32 0 <|
      .cst .f32 0 <|
      .cst .f32 0 <|
      .cst .f32 0 <|
      .call 61 [.v 52, .v 53, .v 54, .v 55, .v 56, .v 57, .v 58, .v 59, .v 60, .v 22, .v 23, .v 24, .v 25, .v 26, .v 27, .v 28, .v 29, .v 30] 1 <|
      .br 71
       (.ret [.b false])
       (.ret [.b false]))
      (.sw 61 0
       (.cst .f32 0 <|
       .cst .f32 0 <|
       .cst .f32 0 <|
       .cst .f32 0 <|
       .cst .f32 0 <|
       .cst .f32 0 <|
       .cst .f32 0 <|
       .cst .f32 0 <|
       .cst .f32 0 <|
       .call 61 [.v 52, .v 53, .v 54, .v 55, .v 56, .v 57, .v 58, .v 59, .v 60, .v 22, .v 23, .v 24, .v 25, .v 26, .v 27, .v 28, .v 29, .v 30] 1 <|
       .br 71
        (.ret [.b false])
        (.ret [.b false]))
       (.sw 61 1
        (.cst .f32 0 <|
        .cst .f32 0 <|
        .cst .f32 0 <|
        .cst .f32 0 <|
        .cst .f32 0 <|
        .cst .f32 0 <|
        .cst .f32 0 <|
        .cst .f32 0 <|
        .cst .f32 0 <|
        .call 61 [.v 52, .v 53, .v 54, .v 55, .v 56, .v 57, .v 58, .v 59, .v 60, .v 22, .v 23, .v 24, .v 25, .v 26, .v 27, .v 28, .v 29, .v 30] 1 <|
        .br 71
         (.ret [.b true])
         (.ret [.b false]))
        (.bad "sw"))))
     (.bad "sw")))
def s62 : Sum := ⟨62, [.agg [.f .f32, .f .f32, .f .f32, .f .f32, .f .f32, .f .f32, .f .f32, .f .f32, .f .f32, .f .f32, .f .f32]], [.val (.b)]⟩
/-- loop.example/g01249/laws.toSpot -/
def t63 : T :=
  .cst .f32 0 <|
  .cst .f32 0 <|
  .cst .f32 0 <|
  .cst .f32 0 <|
  .ret [.v 0, .v 1]
def s63 : Sum := ⟨63, [.agg [.f .f32, .f .f32]], [.agg [.f .f32, .f .f32]]⟩
/-- loop.example/g01249/spec.l02Spot -/
def t64 : T :=
  .call 1 [.v 0] 1 <|
  .br 2
   (.call 1 [.v 1] 1 <|
   .br 3
    (.ret [.b true])
    (.ret [.b false]))
   (.ret [.b false])
def s64 : Sum := ⟨64, [.agg [.f .f32, .f .f32]], [.val (.b)]⟩
/-- loop.example/g01249/spec.DepthFromTwo -/
def t65 : T :=
  .cst .f32 0 <|
  .call 50 [.v 0, .v 1, .v 2, .v 3, .v 4, .v 5, .v 6, .v 7, .v 8, .v 9, .v 10] 1 <|
  .br 17
   (.call 64 [.v 12, .v 13] 1 <|
   .br 18
    (.call 64 [.v 14, .v 15] 1 <|
    .br 19
     (.call 1 [.v 11] 1 <|
     .br 20
      (.bin .sub .f32 12 14 <|
      .cst .f32 0 <|
      .tst 0 .f32 22 21
       (.bin .mul .f32 11 9 <|
       .bin .div .f32 23 21 <|
       .call 9 [.v 24] 1 <|
       .br 25
        (.ret [.v 24, .i .i64 0])
        (.cst .f32 0 <|
        .ret [.v 26, .i .i64 4]))
       (.cst .f32 0 <|
       .ret [.v 23, .i .i64 4]))
      (.cst .f32 0 <|
      .ret [.v 21, .i .i64 2]))
     (.cst .f32 0 <|
     .ret [.v 20, .i .i64 1]))
    (.cst .f32 0 <|
    .ret [.v 19, .i .i64 1]))
   (.cst .f32 0 <|
   .ret [.v 18, .i .i64 1])
def s65 : Sum := ⟨65, [.agg [.f .f32, .f .f32, .f .f32, .f .f32, .f .f32, .f .f32, .f .f32, .f .f32, .f .f32, .f .f32, .f .f32], .val (.f .f32), .agg [.f .f32, .f .f32], .agg [.f .f32, .f .f32]], [.val (.f .f32), .val (.i .i64 [0, 4, 2, 1])]⟩
/-- loop.example/g01249/impl.spotCode$1 -/
def t66 : T :=
  .call 16 [.v 0] 1 <|
  .br 2
   (.ret [.b true])
   (.call 16 [.v 1] 1 <|
   .br 3
    (.ret [.b true])
    (.ret [.b false]))
def s66 : Sum := ⟨66, [.agg [.f .f32, .f .f32]], [.val (.b)]⟩
/-- loop.example/g01249/impl.DepthFromTwo -/
def t67 : T :=
  .cst .f32 0 <|
  .bin .sub .f32 12 14 <|
  .cst .f32 0 <|
  .cst .f32 0 <|
  .call 66 [.v 12, .v 13] 1 <|
  .br 20
   (.call 54 [.v 0, .v 1, .v 2, .v 3, .v 4, .v 5, .v 6, .v 7, .v 8, .v 9, .v 10] 1 <|
   .br 21
    (.call 15 [.v 11] 1 <|
    .br 22
     (.cst .f32 0 <|
     .tst 0 .f32 23 17
      (.cst .f32 0 <|
      .ret [.v 24, .i .i64 1])
      (.cst .f32 0 <|
      .ret [.v 24, .i .i64 1]))
     (.cst .f32 0 <|
     .tst 0 .f32 23 17
      (.cst .f32 0 <|
      .ret [.v 24, .i .i64 1])
      (.cst .f32 0 <|
      .ret [.v 24, .i .i64 1])))
    (.call 15 [.v 11] 1 <|
    .br 22
     (.cst .f32 0 <|
     .tst 0 .f32 23 17
      (.cst .f32 0 <|
      .ret [.v 24, .i .i64 1])
      (.cst .f32 0 <|
      .ret [.v 24, .i .i64 1]))
     (.cst .f32 0 <|
     .tst 0 .f32 23 17
      (.cst .f32 0 <|
      .ret [.v 24, .i .i64 1])
      (.cst .f32 0 <|
      .ret [.v 24, .i .i64 1]))))
   (.call 66 [.v 14, .v 15] 1 <|
   .br 21
    (.call 54 [.v 0, .v 1, .v 2, .v 3, .v 4, .v 5, .v 6, .v 7, .v 8, .v 9, .v 10] 1 <|
    .br 22
     (.call 15 [.v 11] 1 <|
     .br 23
      (.cst .f32 0 <|
      .tst 0 .f32 24 17
       (.cst .f32 0 <|
       .ret [.v 25, .i .i64 1])
       (.cst .f32 0 <|
       .ret [.v 25, .i .i64 1]))
      (.cst .f32 0 <|
      .tst 0 .f32 24 17
       (.cst .f32 0 <|
       .ret [.v 25, .i .i64 1])
       (.cst .f32 0 <|
       .ret [.v 25, .i .i64 1])))
     (.call 15 [.v 11] 1 <|
     .br 23
      (.cst .f32 0 <|
      .tst 0 .f32 24 17
       (.cst .f32 0 <|
       .ret [.v 25, .i .i64 1])
       (.cst .f32 0 <|
       .ret [.v 25, .i .i64 1]))
      (.cst .f32 0 <|
      .tst 0 .f32 24 17
       (.cst .f32 0 <|
       .ret [.v 25, .i .i64 1])
       (.cst .f32 0 <|
       .ret [.v 25, .i .i64 1]))))
    (.call 54 [.v 0, .v 1, .v 2, .v 3, .v 4, .v 5, .v 6, .v 7, .v 8, .v 9, .v 10] 1 <|
    .br 22
     (.call 15 [.v 11] 1 <|
     .br 23
      (.cst .f32 0 <|
      .tst 0 .f32 24 17
       (.bin .mul .f32 11 9 <|
       .bin .div .f32 25 17 <|
       .call 24 [.v 26] 1 <|
       .br 27
        (.ret [.v 26, .i .i64 0])
        (.cst .f32 0 <|
        .ret [.v 28, .i .i64 4]))
       (.cst .f32 0 <|
       .ret [.v 25, .i .i64 4]))
      (.cst .f32 0 <|
      .tst 0 .f32 24 17
       (.cst .f32 0 <|
       .ret [.v 25, .i .i64 2])
       (.cst .f32 0 <|
       .ret [.v 25, .i .i64 2])))
     (.call 15 [.v 11] 1 <|
     .br 23
      (.cst .f32 0 <|
      .tst 0 .f32 24 17
       (.cst .f32 0 <|
       .ret [.v 25, .i .i64 1])
       (.cst .f32 0 <|
       .ret [.v 25, .i .i64 1]))
      (.cst .f32 0 <|
      .tst 0 .f32 24 17
       (.cst .f32 0 <|
       .ret [.v 25, .i .i64 1])
       (.cst .f32 0 <|
       .ret [.v 25, .i .i64 1])))))
def s67 : Sum := ⟨67, [.agg [.f .f32, .f .f32, .f .f32, .f .f32, .f .f32, .f .f32, .f .f32, .f .f32, .f .f32, .f .f32, .f .f32], .val (.f .f32), .agg [.f .f32, .f .f32], .agg [.f .f32, .f .f32]], [.val (.f .f32), .val (.i .i64 [1, 0, 4, 2])]⟩
/-- loop.example/g01249/laws.FnExactDepthFromTwo -/
def t68 : T :=
  .call 48 [.v 0, .v 1, .v 2, .v 3, .v 4, .v 5, .v 6, .v 7, .v 8, .v 9, .v 10] 11 <|
  .call 63 [.v 12, .v 13] 2 <|
  .call 63 [.v 14, .v 15] 2 <|
  .call 65 [.v 16, .v 17, .v 18, .v 19, .v 20, .v 21, .v 22, .v 23, .v 24, .v 25, .v 26, .v 11, .v 27, .v 28, .v 29, .v 30] 2 <|
  .sw 32 0
   (.call 48 [.v 0, .v 1, .v 2, .v 3, .v 4, .v 5, .v 6, .v 7, .v 8, .v 9, .v 10] 11 <|
   .call 63 [.v 12, .v 13] 2 <|
   .call 63 [.v 14, .v 15] 2 <|
   .call 67 [.v 33, .v 34, .v 35, .v 36, .v 37, .v 38, .v 39, .v 40, .v 41, .v 42, .v 43, .v 11, .v 44, .v 45, .v 46, .v 47] 2 <|
   .sw 49 1
    (.un .widen .f32 48 <|
    .un .widen .f32 31 <|
    .call 31 [.v 50, .v 51] 1 <|
    .br 52
     (.ret [.b false])
     (.ret [.b false]))
    (.sw 49 0
     (.un .widen .f32 48 <|
     .un .widen .f32 31 <|
     .call 31 [.v 50, .v 51] 1 <|
     .br 52
      (.ret [.b true])
      (.ret [.b false]))
     (.sw 49 4
      (.un .widen .f32 48 <|
      .un .widen .f32 31 <|
      .call 31 [.v 50, .v 51] 1 <|
      .br 52
       (.ret [.b false])
       (.ret [.b false]))
      (.sw 49 2
       (.un .widen .f32 48 <|
       .un .widen .f32 31 <|
       .call 31 [.v 50, .v 51] 1 <|
       .br 52
        (.ret [.b false])
        (.ret [.b false]))
       (.bad "sw")))))
   (.sw 32 4
    (.call 48 [.v 0, .v 1, .v 2, .v 3, .v 4, .v 5, .v 6, .v 7, .v 8, .v 9, .v 10] 11 <|
    .call 63 [.v 12, .v 13] 2 <|
    .call 63 [.v 14, .v 15] 2 <|
    .call 67 [.v 33, .v 34, .v 35, .v 36, .v 37, .v 38, .v 39, .v 40, .v 41, .v 42, .v 43, .v 11, .v 44, .v 45, .v 46, .v 47] 2 <|
    .sw 49 1
     (.un .widen .f32 48 <|
     .un .widen .f32 31 <|
     .call 31 [.v 50, .v 51] 1 <|
     .br 52
      (.ret [.b false])
      (.ret [.b false]))
     (.sw 49 0
      (.un .widen .f32 48 <|
      .un .widen .f32 31 <|
      .call 31 [.v 50, .v 51] 1 <|
      .br 52
       (.ret [.b false])
       (.ret [.b false]))
      (.sw 49 4
       (.un .widen .f32 48 <|
       .un .widen .f32 31 <|
       .call 31 [.v 50, .v 51] 1 <|
       .br 52
        (.ret [.b true])
        (.ret [.b false]))
       (.sw 49 2
        (.un .widen .f32 48 <|
        .un .widen .f32 31 <|
        .call 31 [.v 50, .v 51] 1 <|
        .br 52
         (.ret [.b false])
         (.ret [.b false]))
        (.bad "sw")))))
    (.sw 32 2
     (.call 48 [.v 0, .v 1, .v 2, .v 3, .v 4, .v 5, .v 6, .v 7, .v 8, .v 9, .v 10] 11 <|
     .call 63 [.v 12, .v 13] 2 <|
     .call 63 [.v 14, .v 15] 2 <|
     .call 67 [.v 33, .v 34, .v 35, .v 36, .v 37, .v 38, .v 39, .v 40, .v 41, .v 42, .v 43, .v 11, .v 44, .v 45, .v 46, .v 47] 2 <|
     .sw 49 1
      (.un .widen .f32 48 <|
      .un .widen .f32 31 <|
      .call 31 [.v 50, .v 51] 1 <|
      .br 52
       (.ret [.b false])
       (.ret [.b false]))
      (.sw 49 0
       (.un .widen .f32 48 <|
       .un .widen .f32 31 <|
       .call 31 [.v 50, .v 51] 1 <|
       .br 52
        (.ret [.b false])
        (.ret [.b false]))
       (.sw 49 4
        (.un .widen .f32 48 <|
        .un .widen .f32 31 <|
        .call 31 [.v 50, .v 51] 1 <|
        .br 52
         (.ret [.b false])
         (.ret [.b false]))
        (.sw 49 2
         (.un .widen .f32 48 <|
         .un .widen .f32 31 <|
         .call 31 [.v 50, .v 51] 1 <|
         .br 52
          (.ret [.b true])
          (.ret [.b false]))
         (.bad "sw")))))
     (.sw 32 1
      (.call 48 [.v 0, .v 1, .v 2, .v 3, .v 4, .v 5, .v 6, .v 7, .v 8, .v 9, .v 10] 11 <|
      .call 63 [.v 12, .v 13] 2 <|
      .call 63 [.v 14, .v 15] 2 <|
      .call 67 [.v 33, .v 34, .v 35, .v 36, .v 37, .v 38, .v 39, .v 40, .v 41, .v 42, .v 43, .v 11, .v 44, .v 45, .v 46, .v 47] 2 <|
      .sw 49 1
       (.un .widen .f32 48 <|
       .un .widen .f32 31 <|
       .call 31 [.v 50, .v 51] 1 <|
       .br 52
        (.ret [.b true])
        (.ret [.b false]))
       (.sw 49 0
        (.un .widen .f32 48 <|
        .un .widen .f32 31 <|
        .call 31 [.v 50, .v 51] 1 <|
        .br 52
         (.ret [.b false])
         (.ret [.b false]))
        (.sw 49 4
         (.un .widen .f32 48 <|
         .un .widen .f32 31 <|
         .call 31 [.v 50, .v 51] 1 <|
         .br 52
          (.ret [.b false])
          (.ret [.b false]))
         (.sw 49 2
          (.un .widen .f32 48 <|
          .un .widen .f32 31 <|
          .call 31 [.v 50, .v 51] 1 <|
          .br 52
           (.ret [.b false])
           (.ret [.b false]))
          (.bad "sw")))))
      (.bad "sw"))))
def s68 : Sum := ⟨68, [.agg [.f .f32, .f .f32, .f .f32, .f .f32, .f .f32, .f .f32, .f .f32, .f .f32, .f .f32, .f .f32, .f .f32], .val (.f .f32), .agg [.f .f32, .f .f32], .agg [.f .f32, .f .f32]], [.val (.b)]⟩
/-- loop.example/g01249/spec.VanishingSpot -/
def t69 : T :=
  .cst .f32 0 <|
  .cst .f32 0 <|
  .call 50 [.v 0, .v 1, .v 2, .v 3, .v 4, .v 5, .v 6, .v 7, .v 8, .v 9, .v 10] 1 <|
  .br 16
   (.call 2 [.v 11, .v 12, .v 13] 1 <|
   .br 17
    (.call 49 [.v 0, .v 1, .v 2, .v 3, .v 4, .v 5, .v 6, .v 7, .v 8, .v 9, .v 10] 10 <|
    .br 27
     (.cst .f32 0 <|
     .cst .f32 0 <|
     .cst .f32 0 <|
     .cst .f32 0 <|
     .cst .f32 0 <|
     .cst .f32 0 <|
     .cst .f32 0 <|
     .cst .f32 0 <|
     .cst .f32 0 <|
     .call 5 [.v 11, .v 12, .v 13, .v 24, .v 25, .v 26] 1 <|
     .call 36 [.v 37] 1 <|
     .br 38
      (.cst .f32 0 <|
      .cst .f32 0 <|
      .ret [.v 39, .v 40, .i .i64 6])
      (.call 5 [.v 11, .v 12, .v 13, .v 18, .v 19, .v 20] 1 <|
      .bin .div .f32 39 37 <|
      .bin .mul .f32 40 9 <|
      .call 5 [.v 11, .v 12, .v 13, .v 21, .v 22, .v 23] 1 <|
      .bin .div .f32 42 37 <|
      .bin .mul .f32 43 9 <|
      .cst .f32 0 <|
      .cst .f32 0 <|
      .cst .f32 0 <|
      .cst .f32 0 <|
      .call 9 [.v 41] 1 <|
      .br 49
       (.call 9 [.v 44] 1 <|
       .br 50
        (.ret [.v 41, .v 44, .i .i64 0])
        (.cst .f32 0 <|
        .cst .f32 0 <|
        .ret [.v 51, .v 52, .i .i64 4]))
       (.cst .f32 0 <|
       .cst .f32 0 <|
       .ret [.v 50, .v 51, .i .i64 4])))
     (.cst .f32 0 <|
     .cst .f32 0 <|
     .cst .f32 0 <|
     .cst .f32 0 <|
     .cst .f32 0 <|
     .cst .f32 0 <|
     .cst .f32 0 <|
     .cst .f32 0 <|
     .cst .f32 0 <|
     .call 5 [.v 11, .v 12, .v 13, .v 24, .v 25, .v 26] 1 <|
     .call 36 [.v 37] 1 <|
     .br 38
      (.cst .f32 0 <|
      .cst .f32 0 <|
      .ret [.v 39, .v 40, .i .i64 6])
      (.call 5 [.v 11, .v 12, .v 13, .v 18, .v 19, .v 20] 1 <|
      .bin .div .f32 39 37 <|
      .bin .mul .f32 40 9 <|
      .call 5 [.v 11, .v 12, .v 13, .v 21, .v 22, .v 23] 1 <|
      .bin .div .f32 42 37 <|
      .bin .mul .f32 43 9 <|
      .cst .f32 0 <|
      .cst .f32 0 <|
      .cst .f32 0 <|
      .cst .f32 0 <|
      .call 9 [.v 41] 1 <|
      .br 49
       (.call 9 [.v 44] 1 <|
       .br 50
        (.ret [.v 41, .v 44, .i .i64 0])
        (.cst .f32 0 <|
        .cst .f32 0 <|
        .ret [.v 51, .v 52, .i .i64 4]))
       (.cst .f32 0 <|
       .cst .f32 0 <|
       .ret [.v 50, .v 51, .i .i64 4]))))
    (.cst .f32 0 <|
    .cst .f32 0 <|
    .ret [.v 18, .v 19, .i .i64 1]))
   (.cst .f32 0 <|
   .cst .f32 0 <|
   .ret [.v 17, .v 18, .i .i64 1])
def s69 : Sum := ⟨69, [.agg [.f .f32, .f .f32, .f .f32, .f .f32, .f .f32, .f .f32, .f .f32, .f .f32, .f .f32, .f .f32, .f .f32], .agg [.f .f32, .f .f32, .f .f32]], [.agg [.f .f32, .f .f32], .val (.i .i64 [6, 0, 4, 1])]⟩
/-- (*loop.example/g01249/impl.view).along -/
def t70 : T :=
  .cst .f32 0 <|
  .cst .f32 0 <|
  .call 21 [.v 20, .v 21, .v 22, .v 11, .v 12, .v 13] 1 <|
  .bin .div .f32 26 23 <|
  .bin .mul .f32 27 9 <|
  .call 21 [.v 20, .v 21, .v 22, .v 14, .v 15, .v 16] 1 <|
  .bin .div .f32 29 23 <|
  .bin .mul .f32 30 9 <|
  .cst .f32 0 <|
  .cst .f32 0 <|
  .ret [.v 28, .v 31]
def s70 : Sum := ⟨70, [.ptr [.f .f32, .f .f32, .f .f32, .f .f32, .f .f32, .f .f32, .f .f32, .f .f32, .f .f32, .f .f32, .f .f32, .f .f32, .f .f32, .f .f32, .f .f32, .f .f32, .f .f32, .f .f32, .f .f32, .f .f32], .agg [.f .f32, .f .f32, .f .f32], .val (.f .f32)], [.agg [.f .f32, .f .f32]]⟩
/-- loop.example/g01249/impl.finiteSpot -/
def t71 : T :=
  .cst .f32 0 <|
  .cst .f32 0 <|
  .call 26 [.v 0] 1 <|
  .br 4
   (.cst .f32 0 <|
   .cst .f32 0 <|
   .ret [.v 5, .v 6, .i .i64 4])
   (.call 26 [.v 1] 1 <|
   .br 5
    (.cst .f32 0 <|
    .cst .f32 0 <|
    .ret [.v 6, .v 7, .i .i64 4])
    (.ret [.v 0, .v 1, .i .i64 0]))
def s71 : Sum := ⟨71, [.agg [.f .f32, .f .f32]], [.agg [.f .f32, .f .f32], .val (.i .i64 [4, 0])]⟩
/-- loop.example/g01249/impl.VanishingSpot -/
def t72 : T :=
  .cst .f32 0 <|
  .cst .f32 0 <|
  .cst .f32 0 <|
  .cst .f32 0 <|
  .cst .f32 0 <|
  .call 54 [.v 0, .v 1, .v 2, .v 3, .v 4, .v 5, .v 6, .v 7, .v 8, .v 9, .v 10] 1 <|
  .br 19
   (.call 18 [.v 11, .v 12, .v 13] 1 <|
   .br 20
    (.cst .f32 0 <|
    .cst .f32 0 <|
    .ret [.v 21, .v 22, .i .i64 1])
    (.call 55 [.v 0, .v 1, .v 2, .v 3, .v 4, .v 5, .v 6, .v 7, .v 8, .v 9, .v 10] 20 <|
    .cst .f32 0 <|
    .cst .f32 0 <|
    .cst .f32 0 <|
    .cst .f32 0 <|
    .cst .f32 0 <|
    .cst .f32 0 <|
    .cst .f32 0 <|
    .cst .f32 0 <|
    .cst .f32 0 <|
    .cst .f32 0 <|
    .cst .f32 0 <|
    .cst .f32 0 <|
    .cst .f32 0 <|
    .cst .f32 0 <|
    .cst .f32 0 <|
    .cst .f32 0 <|
    .cst .f32 0 <|
    .cst .f32 0 <|
    .cst .f32 0 <|
    .cst .f32 0 <|
    .call 21 [.v 11, .v 12, .v 13, .v 38, .v 39, .v 40] 1 <|
    .call 40 [.v 61] 1 <|
    .cst .f32 897581056 <|
    .tst 0 .f32 62 63
     (.cst .f32 0 <|
     .cst .f32 0 <|
     .ret [.v 64, .v 65, .i .i64 6])
     (.call 70 [.v 21, .v 22, .v 23, .v 24, .v 25, .v 26, .v 27, .v 28, .v 29, .v 30, .v 31, .v 32, .v 33, .v 34, .v 35, .v 36, .v 37, .v 38, .v 39, .v 40, .v 11, .v 12, .v 13, .v 61] 2 <|
     .call 71 [.v 64, .v 65] 3 <|
     .sw 68 4
      (.ret [.v 66, .v 67, .i .i64 4])
      (.sw 68 0
       (.ret [.v 66, .v 67, .i .i64 0])
       (.bad "sw")))))
   (.cst .f32 0 <|
   .cst .f32 0 <|
   .ret [.v 20, .v 21, .i .i64 1])
def s72 : Sum := ⟨72, [.agg [.f .f32, .f .f32, .f .f32, .f .f32, .f .f32, .f .f32, .f .f32, .f .f32, .f .f32, .f .f32, .f .f32], .agg [.f .f32, .f .f32, .f .f32]], [.agg [.f .f32, .f .f32], .val (.i .i64 [1, 6, 4, 0])]⟩
/-- loop.example/g01249/laws.eqSpot -/
def t73 : T :=
  .un .widen .f32 0 <|
  .un .widen .f32 2 <|
  .call 31 [.v 4, .v 5] 1 <|
  .br 6
   (.un .widen .f32 1 <|
   .un .widen .f32 3 <|
   .call 31 [.v 7, .v 8] 1 <|
   .br 9
    (.ret [.b true])
    (.ret [.b false]))
   (.ret [.b false])
def s73 : Sum := ⟨73, [.agg [.f .f32, .f .f32], .agg [.f .f32, .f .f32]], [.val (.b)]⟩
/-- loop.example/g01249/laws.FnExactVanishingSpot -/
def t74 : T :=
  .call 48 [.v 0, .v 1, .v 2, .v 3, .v 4, .v 5, .v 6, .v 7, .v 8, .v 9, .v 10] 11 <|
  .call 0 [.v 11, .v 12, .v 13] 3 <|
  .call 69 [.v 14, .v 15, .v 16, .v 17, .v 18, .v 19, .v 20, .v 21, .v 22, .v 23, .v 24, .v 25, .v 26, .v 27] 3 <|
  .sw 30 6
   (.cst .f32 0 <|
   .cst .f32 0 <|
   .call 48 [.v 0, .v 1, .v 2, .v 3, .v 4, .v 5, .v 6, .v 7, .v 8, .v 9, .v 10] 11 <|
   .call 0 [.v 11, .v 12, .v 13] 3 <|
   .call 72 [.v 33, .v 34, .v 35, .v 36, .v 37, .v 38, .v 39, .v 40, .v 41, .v 42, .v 43, .v 44, .v 45, .v 46] 3 <|
   .sw 49 1
    (.cst .f32 0 <|
    .cst .f32 0 <|
    .call 73 [.v 47, .v 48, .v 28, .v 29] 1 <|
    .br 52
     (.ret [.b false])
     (.ret [.b false]))
    (.sw 49 6
     (.cst .f32 0 <|
     .cst .f32 0 <|
     .call 73 [.v 47, .v 48, .v 28, .v 29] 1 <|
     .br 52
      (.ret [.b true])
      (.ret [.b false]))
     (.sw 49 4
      (.cst .f32 0 <|
      .cst .f32 0 <|
      .call 73 [.v 47, .v 48, .v 28, .v 29] 1 <|
      .br 52
       (.ret [.b false])
       (.ret [.b false]))
      (.sw 49 0
       (.cst .f32 0 <|
       .cst .f32 0 <|
       .call 73 [.v 47, .v 48, .v 28, .v 29] 1 <|
       .br 52
        (.ret [.b false])
        (.ret [.b false]))
       (.bad "sw")))))
   (.sw 30 0
    (.cst .f32 0 <|
    .cst .f32 0 <|
    .call 48 [.v 0, .v 1, .v 2, .v 3, .v 4, .v 5, .v 6, .v 7, .v 8, .v 9, .v 10] 11 <|
    .call 0 [.v 11, .v 12, .v 13] 3 <|
    .call 72 [.v 33, .v 34, .v 35, .v 36, .v 37, .v 38, .v 39, .v 40, .v 41, .v 42, .v 43, .v 44, .v 45, .v 46] 3 <|
    .sw 49 1
     (.cst .f32 0 <|
     .cst .f32 0 <|
     .call 73 [.v 47, .v 48, .v 28, .v 29] 1 <|
     .br 52
      (.ret [.b false])
      (.ret [.b false]))
     (.sw 49 6
      (.cst .f32 0 <|
      .cst .f32 0 <|
      .call 73 [.v 47, .v 48, .v 28, .v 29] 1 <|
      .br 52
       (.ret [.b false])
       (.ret [.b false]))
      (.sw 49 4
       (.cst .f32 0 <|
       .cst .f32 0 <|
       .call 73 [.v 47, .v 48, .v 28, .v 29] 1 <|
       .br 52
        (.ret [.b false])
        (.ret [.b false]))
       (.sw 49 0
        (.cst .f32 0 <|
        .cst .f32 0 <|
        .call 73 [.v 47, .v 48, .v 28, .v 29] 1 <|
        .br 52
         (.ret [.b true])
         (.ret [.b false]))
        (.bad "sw")))))
    (.sw 30 4
     (.cst .f32 0 <|
     .cst .f32 0 <|
     .call 48 [.v 0, .v 1, .v 2, .v 3, .v 4, .v 5, .v 6, .v 7, .v 8, .v 9, .v 10] 11 <|
     .call 0 [.v 11, .v 12, .v 13] 3 <|
     .call 72 [.v 33, .v 34, .v 35, .v 36, .v 37, .v 38, .v 39, .v 40, .v 41, .v 42, .v 43, .v 44, .v 45, .v 46] 3 <|
     .sw 49 1
      (.cst .f32 0 <|
      .cst .f32 0 <|
      .call 73 [.v 47, .v 48, .v 28, .v 29] 1 <|
      .br 52
       (.ret [.b false])
       (.ret [.b false]))
      (.sw 49 6
       (.cst .f32 0 <|
       .cst .f32 0 <|
       .call 73 [.v 47, .v 48, .v 28, .v 29] 1 <|
       .br 52
        (.ret [.b false])
        (.ret [.b false]))
       (.sw 49 4
        (.cst .f32 0 <|
        .cst .f32 0 <|
        .call 73 [.v 47, .v 48, .v 28, .v 29] 1 <|
        .br 52
         (.ret [.b true])
         (.ret [.b false]))
        (.sw 49 0
         (.cst .f32 0 <|
         .cst .f32 0 <|
         .call 73 [.v 47, .v 48, .v 28, .v 29] 1 <|
         .br 52
          (.ret [.b false])
          (.ret [.b false]))
         (.bad "sw")))))
     (.sw 30 1
      (.cst .f32 0 <|
      .cst .f32 0 <|
      .call 48 [.v 0, .v 1, .v 2, .v 3, .v 4, .v 5, .v 6, .v 7, .v 8, .v 9, .v 10] 11 <|
      .call 0 [.v 11, .v 12, .v 13] 3 <|
      .call 72 [.v 33, .v 34, .v 35, .v 36, .v 37, .v 38, .v 39, .v 40, .v 41, .v 42, .v 43, .v 44, .v 45, .v 46] 3 <|
      .sw 49 1
       (.cst .f32 0 <|
       .cst .f32 0 <|
       .call 73 [.v 47, .v 48, .v 28, .v 29] 1 <|
       .br 52
        (.ret [.b true])
        (.ret [.b false]))
       (.sw 49 6
        (.cst .f32 0 <|
        .cst .f32 0 <|
        .call 73 [.v 47, .v 48, .v 28, .v 29] 1 <|
        .br 52
         (.ret [.b false])
         (.ret [.b false]))
        (.sw 49 4
         (.cst .f32 0 <|
         .cst .f32 0 <|
         .call 73 [.v 47, .v 48, .v 28, .v 29] 1 <|
         .br 52
          (.ret [.b false])
          (.ret [.b false]))
         (.sw 49 0
          (.cst .f32 0 <|
          .cst .f32 0 <|
          .call 73 [.v 47, .v 48, .v 28, .v 29] 1 <|
          .br 52
           (.ret [.b false])
           (.ret [.b false]))
          (.bad "sw")))))
      (.bad "sw"))))
def s74 : Sum := ⟨74, [.agg [.f .f32, .f .f32, .f .f32, .f .f32, .f .f32, .f .f32, .f .f32, .f .f32, .f .f32, .f .f32, .f .f32], .agg [.f .f32, .f .f32, .f .f32]], [.val (.b)]⟩
/-- loop.example/g01249/spec.l02Way -/
def t75 : T :=
  .cst .f32 0 <|
  .cst .f32 0 <|
  .cst .f32 0 <|
  .cst .f32 0 <|
  .cst .f32 0 <|
  .cst .f32 0 <|
  .cst .f32 0 <|
  .cst .f32 0 <|
  .cst .f32 0 <|
  .bin .mul .f32 17 9 <|
  .bin .mul .f32 11 20 <|
  .bin .add .f32 31 32 <|
  .bin .mul .f32 14 21 <|
  .bin .add .f32 33 34 <|
  .bin .mul .f32 18 9 <|
  .bin .mul .f32 12 20 <|
  .bin .add .f32 36 37 <|
  .bin .mul .f32 15 21 <|
  .bin .add .f32 38 39 <|
  .bin .mul .f32 19 9 <|
  .bin .mul .f32 13 20 <|
  .bin .add .f32 41 42 <|
  .bin .mul .f32 16 21 <|
  .bin .add .f32 43 44 <|
  .ret [.v 35, .v 40, .v 45]
def s75 : Sum := ⟨75, [.ptr [.f .f32, .f .f32, .f .f32, .f .f32, .f .f32, .f .f32, .f .f32, .f .f32, .f .f32, .f .f32, .f .f32], .ptr [.f .f32, .f .f32, .f .f32, .f .f32, .f .f32, .f .f32, .f .f32, .f .f32, .f .f32], .agg [.f .f32, .f .f32]], [.agg [.f .f32, .f .f32, .f .f32]]⟩
/-- loop.example/g01249/spec.RayThrough -/
def t76 : T :=
  .cst .f32 0 <|
  .cst .f32 0 <|
  .cst .f32 0 <|
  .call 50 [.v 0, .v 1, .v 2, .v 3, .v 4, .v 5, .v 6, .v 7, .v 8, .v 9, .v 10] 1 <|
  .br 16
   (.call 64 [.v 11, .v 12] 1 <|
   .br 17
    (.call 49 [.v 0, .v 1, .v 2, .v 3, .v 4, .v 5, .v 6, .v 7, .v 8, .v 9, .v 10] 10 <|
    .br 27
     (.cst .f32 0 <|
     .cst .f32 0 <|
     .cst .f32 0 <|
     .cst .f32 0 <|
     .cst .f32 0 <|
     .cst .f32 0 <|
     .cst .f32 0 <|
     .cst .f32 0 <|
     .cst .f32 0 <|
     .call 75 [.v 0, .v 1, .v 2, .v 3, .v 4, .v 5, .v 6, .v 7, .v 8, .v 9, .v 10, .v 18, .v 19, .v 20, .v 21, .v 22, .v 23, .v 24, .v 25, .v 26, .v 11, .v 12] 3 <|
     .call 11 [.v 37, .v 38, .v 39] 4 <|
     .br 43
      (.cst .f32 0 <|
      .cst .f32 0 <|
      .cst .f32 0 <|
      .ret [.v 40, .v 41, .v 42, .i .i64 0])
      (.cst .f32 0 <|
      .cst .f32 0 <|
      .cst .f32 0 <|
      .cst .f32 0 <|
      .cst .f32 0 <|
      .cst .f32 0 <|
      .ret [.v 47, .v 48, .v 49, .i .i64 4]))
     (.cst .f32 0 <|
     .cst .f32 0 <|
     .cst .f32 0 <|
     .cst .f32 0 <|
     .cst .f32 0 <|
     .cst .f32 0 <|
     .cst .f32 0 <|
     .cst .f32 0 <|
     .cst .f32 0 <|
     .call 75 [.v 0, .v 1, .v 2, .v 3, .v 4, .v 5, .v 6, .v 7, .v 8, .v 9, .v 10, .v 18, .v 19, .v 20, .v 21, .v 22, .v 23, .v 24, .v 25, .v 26, .v 11, .v 12] 3 <|
     .call 11 [.v 37, .v 38, .v 39] 4 <|
     .br 43
      (.cst .f32 0 <|
      .cst .f32 0 <|
      .cst .f32 0 <|
      .ret [.v 40, .v 41, .v 42, .i .i64 0])
      (.cst .f32 0 <|
      .cst .f32 0 <|
      .cst .f32 0 <|
      .cst .f32 0 <|
      .cst .f32 0 <|
      .cst .f32 0 <|
      .ret [.v 47, .v 48, .v 49, .i .i64 4])))
    (.cst .f32 0 <|
    .cst .f32 0 <|
    .cst .f32 0 <|
    .ret [.v 18, .v 19, .v 20, .i .i64 1]))
   (.cst .f32 0 <|
   .cst .f32 0 <|
   .cst .f32 0 <|
   .ret [.v 17, .v 18, .v 19, .i .i64 1])
def s76 : Sum := ⟨76, [.agg [.f .f32, .f .f32, .f .f32, .f .f32, .f .f32, .f .f32, .f .f32, .f .f32, .f .f32, .f .f32, .f .f32], .agg [.f .f32, .f .f32]], [.agg [.f .f32, .f .f32, .f .f32], .val (.i .i64 [0, 4, 1])]⟩
/-- loop.example/g01249/impl.AddPoints -/
def t77 : T :=
  .cst .f32 0 <|
  .cst .f32 0 <|
  .cst .f32 0 <|
  .bin .add .f32 0 3 <|
  .bin .add .f32 1 4 <|
  .bin .add .f32 2 5 <|
  .cst .f32 0 <|
  .cst .f32 0 <|
  .cst .f32 0 <|
  .ret [.v 9, .v 10, .v 11]
def s77 : Sum := ⟨77, [.agg [.f .f32, .f .f32, .f .f32], .agg [.f .f32, .f .f32, .f .f32]], [.agg [.f .f32, .f .f32, .f .f32]]⟩
/-- (*loop.example/g01249/impl.view).through -/
def t78 : T :=
  .cst .f32 0 <|
  .cst .f32 0 <|
  .cst .f32 0 <|
  .call 47 [.v 17, .v 18, .v 19, .v 9] 3 <|
  .call 47 [.v 11, .v 12, .v 13, .v 20] 3 <|
  .call 77 [.v 25, .v 26, .v 27, .v 28, .v 29, .v 30] 3 <|
  .call 47 [.v 14, .v 15, .v 16, .v 21] 3 <|
  .call 77 [.v 31, .v 32, .v 33, .v 34, .v 35, .v 36] 3 <|
  .ret [.v 37, .v 38, .v 39]
def s78 : Sum := ⟨78, [.ptr [.f .f32, .f .f32, .f .f32, .f .f32, .f .f32, .f .f32, .f .f32, .f .f32, .f .f32, .f .f32, .f .f32, .f .f32, .f .f32, .f .f32, .f .f32, .f .f32, .f .f32, .f .f32, .f .f32, .f .f32], .agg [.f .f32, .f .f32]], [.agg [.f .f32, .f .f32, .f .f32]]⟩
/-- loop.example/g01249/impl.RayThrough -/
def t79 : T :=
  .cst .f32 0 <|
  .cst .f32 0 <|
  .cst .f32 0 <|
  .cst .f32 0 <|
  .cst .f32 0 <|
  .call 66 [.v 11, .v 12] 1 <|
  .br 18
   (.call 54 [.v 0, .v 1, .v 2, .v 3, .v 4, .v 5, .v 6, .v 7, .v 8, .v 9, .v 10] 1 <|
   .br 19
    (.cst .f32 0 <|
    .cst .f32 0 <|
    .cst .f32 0 <|
    .ret [.v 20, .v 21, .v 22, .i .i64 1])
    (.cst .f32 0 <|
    .cst .f32 0 <|
    .cst .f32 0 <|
    .ret [.v 20, .v 21, .v 22, .i .i64 1]))
   (.call 54 [.v 0, .v 1, .v 2, .v 3, .v 4, .v 5, .v 6, .v 7, .v 8, .v 9, .v 10] 1 <|
   .br 19
    (.call 55 [.v 0, .v 1, .v 2, .v 3, .v 4, .v 5, .v 6, .v 7, .v 8, .v 9, .v 10] 20 <|
    .cst .f32 0 <|
    .cst .f32 0 <|
    .cst .f32 0 <|
    .cst .f32 0 <|
    .cst .f32 0 <|
    .cst .f32 0 <|
    .cst .f32 0 <|
    .cst .f32 0 <|
    .cst .f32 0 <|
    .cst .f32 0 <|
    .cst .f32 0 <|
    .cst .f32 0 <|
    .cst .f32 0 <|
    .cst .f32 0 <|
    .cst .f32 0 <|
    .cst .f32 0 <|
    .cst .f32 0 <|
    .cst .f32 0 <|
    .cst .f32 0 <|
    .cst .f32 0 <|
    .call 78 [.v 20, .v 21, .v 22, .v 23, .v 24, .v 25, .v 26, .v 27, .v 28, .v 29, .v 30, .v 31, .v 32, .v 33, .v 34, .v 35, .v 36, .v 37, .v 38, .v 39, .v 11, .v 12] 3 <|
    .call 27 [.v 60, .v 61, .v 62] 4 <|
    .br 66
     (.cst .f32 0 <|
     .cst .f32 0 <|
     .cst .f32 0 <|
     .ret [.v 63, .v 64, .v 65, .i .i64 0])
     (.cst .f32 0 <|
     .cst .f32 0 <|
     .cst .f32 0 <|
     .cst .f32 0 <|
     .cst .f32 0 <|
     .cst .f32 0 <|
     .ret [.v 70, .v 71, .v 72, .i .i64 4]))
    (.cst .f32 0 <|
    .cst .f32 0 <|
    .cst .f32 0 <|
    .ret [.v 20, .v 21, .v 22, .i .i64 1]))
def s79 : Sum := ⟨79, [.agg [.f .f32, .f .f32, .f .f32, .f .f32, .f .f32, .f .f32, .f .f32, .f .f32, .f .f32, .f .f32, .f .f32], .agg [.f .f32, .f .f32]], [.agg [.f .f32, .f .f32, .f .f32], .val (.i .i64 [1, 0, 4])]⟩
/-- loop.example/g01249/laws.FnExactRayThrough -/
def t80 : T :=
  .call 48 [.v 0, .v 1, .v 2, .v 3, .v 4, .v 5, .v 6, .v 7, .v 8, .v 9, .v 10] 11 <|
  .call 63 [.v 11, .v 12] 2 <|
  .call 76 [.v 13, .v 14, .v 15, .v 16, .v 17, .v 18, .v 19, .v 20, .v 21, .v 22, .v 23, .v 24, .v 25] 4 <|
  .sw 29 0
   (.cst .f32 0 <|
   .cst .f32 0 <|
   .cst .f32 0 <|
   .call 48 [.v 0, .v 1, .v 2, .v 3, .v 4, .v 5, .v 6, .v 7, .v 8, .v 9, .v 10] 11 <|
   .call 63 [.v 11, .v 12] 2 <|
   .call 79 [.v 33, .v 34, .v 35, .v 36, .v 37, .v 38, .v 39, .v 40, .v 41, .v 42, .v 43, .v 44, .v 45] 4 <|
   .sw 49 1
    (.cst .f32 0 <|
    .cst .f32 0 <|
    .cst .f32 0 <|
    .call 32 [.v 46, .v 47, .v 48, .v 26, .v 27, .v 28] 1 <|
    .br 53
     (.ret [.b false])
     (.ret [.b false]))
    (.sw 49 0
     (.cst .f32 0 <|
     .cst .f32 0 <|
     .cst .f32 0 <|
     .call 32 [.v 46, .v 47, .v 48, .v 26, .v 27, .v 28] 1 <|
     .br 53
      (.ret [.b true])
      (.ret [.b false]))
     (.sw 49 4
      (.cst .f32 0 <|
      .cst .f32 0 <|
      .cst .f32 0 <|
      .call 32 [.v 46, .v 47, .v 48, .v 26, .v 27, .v 28] 1 <|
      .br 53
       (.ret [.b false])
       (.ret [.b false]))
      (.bad "sw"))))
   (.sw 29 4
    (.cst .f32 0 <|
    .cst .f32 0 <|
    .cst .f32 0 <|
    .call 48 [.v 0, .v 1, .v 2, .v 3, .v 4, .v 5, .v 6, .v 7, .v 8, .v 9, .v 10] 11 <|
    .call 63 [.v 11, .v 12] 2 <|
    .call 79 [.v 33, .v 34, .v 35, .v 36, .v 37, .v 38, .v 39, .v 40, .v 41, .v 42, .v 43, .v 44, .v 45] 4 <|
    .sw 49 1
     (.cst .f32 0 <|
     .cst .f32 0 <|
     .cst .f32 0 <|
     .call 32 [.v 46, .v 47, .v 48, .v 26, .v 27, .v 28] 1 <|
     .br 53
      (.ret [.b false])
      (.ret [.b false]))
     (.sw 49 0
      (.cst .f32 0 <|
      .cst .f32 0 <|
      .cst .f32 0 <|
      .call 32 [.v 46, .v 47, .v 48, .v 26, .v 27, .v 28] 1 <|
      .br 53
       (.ret [.b false])
       (.ret [.b false]))
      (.sw 49 4
       (.cst .f32 0 <|
       .cst .f32 0 <|
       .cst .f32 0 <|
       .call 32 [.v 46, .v 47, .v 48, .v 26, .v 27, .v 28] 1 <|
       .br 53
        (.ret [.b true])
        (.ret [.b false]))
       (.bad "sw"))))
    (.sw 29 1
     (.cst .f32 0 <|
     .cst .f32 0 <|
     .cst .f32 0 <|
     .call 48 [.v 0, .v 1, .v 2, .v 3, .v 4, .v 5, .v 6, .v 7, .v 8, .v 9, .v 10] 11 <|
     .call 63 [.v 11, .v 12] 2 <|
     .call 79 [.v 33, .v 34, .v 35, .v 36, .v 37, .v 38, .v 39, .v 40, .v 41, .v 42, .v 43, .v 44, .v 45] 4 <|
     .sw 49 1
      (.cst .f32 0 <|
      .cst .f32 0 <|
      .cst .f32 0 <|
      .call 32 [.v 46, .v 47, .v 48, .v 26, .v 27, .v 28] 1 <|
      .br 53
       (.ret [.b true])
       (.ret [.b false]))
      (.sw 49 0
       (.cst .f32 0 <|
       .cst .f32 0 <|
       .cst .f32 0 <|
       .call 32 [.v 46, .v 47, .v 48, .v 26, .v 27, .v 28] 1 <|
       .br 53
        (.ret [.b false])
        (.ret [.b false]))
       (.sw 49 4
        (.cst .f32 0 <|
        .cst .f32 0 <|
        .cst .f32 0 <|
        .call 32 [.v 46, .v 47, .v 48, .v 26, .v 27, .v 28] 1 <|
        .br 53
         (.ret [.b false])
         (.ret [.b false]))
        (.bad "sw"))))
     (.bad "sw")))
def s80 : Sum := ⟨80, [.agg [.f .f32, .f .f32, .f .f32, .f .f32, .f .f32, .f .f32, .f .f32, .f .f32, .f .f32, .f .f32, .f .f32], .agg [.f .f32, .f .f32]], [.val (.b)]⟩
/-- loop.example/g01249/spec.l01Done -/
def t81 : T :=
  .cst .f32 0 <|
  .cst .f32 0 <|
  .cst .f32 0 <|
  .call 10 [.v 0, .v 1, .v 2] 1 <|
  .br 6
   (.ret [.v 0, .v 1, .v 2, .i .i64 0])
   (.cst .f32 0 <|
   .cst .f32 0 <|
   .cst .f32 0 <|
   .ret [.v 7, .v 8, .v 9, .i .i64 4])
def s81 : Sum := ⟨81, [.agg [.f .f32, .f .f32, .f .f32]], [.agg [.f .f32, .f .f32, .f .f32], .val (.i .i64 [0, 4])]⟩
/-- loop.example/g01249/spec.HorizonOf -/
def t82 : T :=
  .cst .f32 0 <|
  .cst .f32 0 <|
  .cst .f32 0 <|
  .call 50 [.v 0, .v 1, .v 2, .v 3, .v 4, .v 5, .v 6, .v 7, .v 8, .v 9, .v 10] 1 <|
  .br 18
   (.call 12 [.v 11, .v 12, .v 13, .v 14] 1 <|
   .br 19
    (.call 49 [.v 0, .v 1, .v 2, .v 3, .v 4, .v 5, .v 6, .v 7, .v 8, .v 9, .v 10] 10 <|
    .br 29
     (.cst .f32 0 <|
     .cst .f32 0 <|
     .cst .f32 0 <|
     .cst .f32 0 <|
     .cst .f32 0 <|
     .cst .f32 0 <|
     .cst .f32 0 <|
     .cst .f32 0 <|
     .cst .f32 0 <|
     .call 5 [.v 11, .v 12, .v 13, .v 20, .v 21, .v 22] 1 <|
     .call 5 [.v 11, .v 12, .v 13, .v 23, .v 24, .v 25] 1 <|
     .call 5 [.v 11, .v 12, .v 13, .v 26, .v 27, .v 28] 1 <|
     .bin .mul .f32 41 9 <|
     .un .neg .f32 42 <|
     .cst .f32 0 <|
     .cst .f32 0 <|
     .cst .f32 0 <|
     .call 81 [.v 39, .v 40, .v 43] 4 <|
     .sw 50 0
      (.ret [.v 47, .v 48, .v 49, .i .i64 0])
      (.sw 50 4
       (.ret [.v 47, .v 48, .v 49, .i .i64 4])
       (.bad "sw")))
     (.cst .f32 0 <|
     .cst .f32 0 <|
     .cst .f32 0 <|
     .cst .f32 0 <|
     .cst .f32 0 <|
     .cst .f32 0 <|
     .cst .f32 0 <|
     .cst .f32 0 <|
     .cst .f32 0 <|
     .call 5 [.v 11, .v 12, .v 13, .v 20, .v 21, .v 22] 1 <|
     .call 5 [.v 11, .v 12, .v 13, .v 23, .v 24, .v 25] 1 <|
     .call 5 [.v 11, .v 12, .v 13, .v 26, .v 27, .v 28] 1 <|
     .bin .mul .f32 41 9 <|
     .un .neg .f32 42 <|
     .cst .f32 0 <|
     .cst .f32 0 <|
     .cst .f32 0 <|
     .call 81 [.v 39, .v 40, .v 43] 4 <|
     .sw 50 0
      (.ret [.v 47, .v 48, .v 49, .i .i64 0])
      (.sw 50 4
       (.ret [.v 47, .v 48, .v 49, .i .i64 4])
       (.bad "sw"))))
    (.cst .f32 0 <|
    .cst .f32 0 <|
    .cst .f32 0 <|
    .ret [.v 20, .v 21, .v 22, .i .i64 1]))
   (.cst .f32 0 <|
   .cst .f32 0 <|
   .cst .f32 0 <|
   .ret [.v 19, .v 20, .v 21, .i .i64 1])
def s82 : Sum := ⟨82, [.agg [.f .f32, .f .f32, .f .f32, .f .f32, .f .f32, .f .f32, .f .f32, .f .f32, .f .f32, .f .f32, .f .f32], .agg [.f .f32, .f .f32, .f .f32, .f .f32]], [.agg [.f .f32, .f .f32, .f .f32], .val (.i .i64 [0, 4, 1])]⟩
/-- loop.example/g01249/spec.l02Project -/
def t83 : T :=
  .cst .f32 0 <|
  .cst .f32 0 <|
  .call 3 [.v 20, .v 21, .v 22, .v 0, .v 1, .v 2] 3 <|
  .cst .f32 0 <|
  .cst .f32 0 <|
  .cst .f32 0 <|
  .call 5 [.v 26, .v 27, .v 28, .v 11, .v 12, .v 13] 1 <|
  .bin .div .f32 32 23 <|
  .bin .mul .f32 33 9 <|
  .call 5 [.v 26, .v 27, .v 28, .v 14, .v 15, .v 16] 1 <|
  .bin .div .f32 35 23 <|
  .bin .mul .f32 36 9 <|
  .cst .f32 0 <|
  .cst .f32 0 <|
  .cst .f32 0 <|
  .cst .f32 0 <|
  .call 9 [.v 34] 1 <|
  .br 42
   (.call 9 [.v 37] 1 <|
   .br 43
    (.ret [.v 34, .v 37, .i .i64 0])
    (.cst .f32 0 <|
    .cst .f32 0 <|
    .ret [.v 44, .v 45, .i .i64 4]))
   (.cst .f32 0 <|
   .cst .f32 0 <|
   .ret [.v 43, .v 44, .i .i64 4])
def s83 : Sum := ⟨83, [.ptr [.f .f32, .f .f32, .f .f32, .f .f32, .f .f32, .f .f32, .f .f32, .f .f32, .f .f32, .f .f32, .f .f32], .ptr [.f .f32, .f .f32, .f .f32, .f .f32, .f .f32, .f .f32, .f .f32, .f .f32, .f .f32], .agg [.f .f32, .f .f32, .f .f32], .val (.f .f32)], [.agg [.f .f32, .f .f32], .val (.i .i64 [0, 4])]⟩
/-- loop.example/g01249/spec.ProjectPoint -/
def t84 : T :=
  .cst .f32 0 <|
  .cst .f32 0 <|
  .cst .f32 0 <|
  .call 50 [.v 0, .v 1, .v 2, .v 3, .v 4, .v 5, .v 6, .v 7, .v 8, .v 9, .v 10] 1 <|
  .br 17
   (.call 2 [.v 11, .v 12, .v 13] 1 <|
   .br 18
    (.call 49 [.v 0, .v 1, .v 2, .v 3, .v 4, .v 5, .v 6, .v 7, .v 8, .v 9, .v 10] 10 <|
    .br 28
     (.cst .f32 0 <|
     .cst .f32 0 <|
     .cst .f32 0 <|
     .cst .f32 0 <|
     .cst .f32 0 <|
     .cst .f32 0 <|
     .cst .f32 0 <|
     .cst .f32 0 <|
     .cst .f32 0 <|
     .call 51 [.v 0, .v 1, .v 2, .v 3, .v 4, .v 5, .v 6, .v 7, .v 8, .v 9, .v 10, .v 19, .v 20, .v 21, .v 22, .v 23, .v 24, .v 25, .v 26, .v 27, .v 11, .v 12, .v 13] 1 <|
     .tst 0 .f32 38 10
      (.cst .f32 0 <|
      .cst .f32 0 <|
      .cst .f32 0 <|
      .ret [.v 39, .v 40, .v 41, .i .i64 6])
      (.call 83 [.v 0, .v 1, .v 2, .v 3, .v 4, .v 5, .v 6, .v 7, .v 8, .v 9, .v 10, .v 19, .v 20, .v 21, .v 22, .v 23, .v 24, .v 25, .v 26, .v 27, .v 11, .v 12, .v 13, .v 38] 3 <|
      .sw 41 0
       (.cst .f32 0 <|
       .cst .f32 0 <|
       .call 9 [.v 38] 1 <|
       .br 44
        (.ret [.v 39, .v 40, .v 38, .i .i64 0])
        (.cst .f32 0 <|
        .cst .f32 0 <|
        .cst .f32 0 <|
        .ret [.v 45, .v 46, .v 47, .i .i64 4]))
       (.sw 41 4
        (.cst .f32 0 <|
        .cst .f32 0 <|
        .cst .f32 0 <|
        .cst .f32 0 <|
        .cst .f32 0 <|
        .ret [.v 44, .v 45, .v 46, .i .i64 4])
        (.bad "sw"))))
     (.cst .f32 0 <|
     .cst .f32 0 <|
     .cst .f32 0 <|
     .cst .f32 0 <|
     .cst .f32 0 <|
     .cst .f32 0 <|
     .cst .f32 0 <|
     .cst .f32 0 <|
     .cst .f32 0 <|
     .call 51 [.v 0, .v 1, .v 2, .v 3, .v 4, .v 5, .v 6, .v 7, .v 8, .v 9, .v 10, .v 19, .v 20, .v 21, .v 22, .v 23, .v 24, .v 25, .v 26, .v 27, .v 11, .v 12, .v 13] 1 <|
     .tst 0 .f32 38 10
      (.cst .f32 0 <|
      .cst .f32 0 <|
      .cst .f32 0 <|
      .ret [.v 39, .v 40, .v 41, .i .i64 6])
      (.call 83 [.v 0, .v 1, .v 2, .v 3, .v 4, .v 5, .v 6, .v 7, .v 8, .v 9, .v 10, .v 19, .v 20, .v 21, .v 22, .v 23, .v 24, .v 25, .v 26, .v 27, .v 11, .v 12, .v 13, .v 38] 3 <|
      .sw 41 0
       (.cst .f32 0 <|
       .cst .f32 0 <|
       .call 9 [.v 38] 1 <|
       .br 44
        (.ret [.v 39, .v 40, .v 38, .i .i64 0])
        (.cst .f32 0 <|
        .cst .f32 0 <|
        .cst .f32 0 <|
        .ret [.v 45, .v 46, .v 47, .i .i64 4]))
       (.sw 41 4
        (.cst .f32 0 <|
        .cst .f32 0 <|
        .cst .f32 0 <|
        .cst .f32 0 <|
        .cst .f32 0 <|
        .ret [.v 44, .v 45, .v 46, .i .i64 4])
        (.bad "sw")))))
    (.cst .f32 0 <|
    .cst .f32 0 <|
    .cst .f32 0 <|
    .ret [.v 19, .v 20, .v 21, .i .i64 1]))
   (.cst .f32 0 <|
   .cst .f32 0 <|
   .cst .f32 0 <|
   .ret [.v 18, .v 19, .v 20, .i .i64 1])
def s84 : Sum := ⟨84, [.agg [.f .f32, .f .f32, .f .f32, .f .f32, .f .f32, .f .f32, .f .f32, .f .f32, .f .f32, .f .f32, .f .f32], .agg [.f .f32, .f .f32, .f .f32]], [.agg [.f .f32, .f .f32], .val (.f .f32), .val (.i .i64 [6, 0, 4, 1])]⟩
/-- (*loop.example/g01249/impl.view).project -/
def t85 : T :=
  .cst .f32 0 <|
  .cst .f32 0 <|
  .cst .f32 0 <|
  .call 56 [.v 0, .v 1, .v 2, .v 3, .v 4, .v 5, .v 6, .v 7, .v 8, .v 9, .v 10, .v 11, .v 12, .v 13, .v 14, .v 15, .v 16, .v 17, .v 18, .v 19, .v 20, .v 21, .v 22] 1 <|
  .tst 0 .f32 26 10
   (.cst .f32 0 <|
   .cst .f32 0 <|
   .cst .f32 0 <|
   .ret [.v 27, .v 28, .v 29, .i .i64 6])
   (.call 19 [.v 20, .v 21, .v 22, .v 0, .v 1, .v 2] 3 <|
   .call 70 [.v 0, .v 1, .v 2, .v 3, .v 4, .v 5, .v 6, .v 7, .v 8, .v 9, .v 10, .v 11, .v 12, .v 13, .v 14, .v 15, .v 16, .v 17, .v 18, .v 19, .v 27, .v 28, .v 29, .v 26] 2 <|
   .call 71 [.v 30, .v 31] 3 <|
   .sw 34 4
    (.cst .f32 0 <|
    .cst .f32 0 <|
    .cst .f32 0 <|
    .cst .f32 0 <|
    .cst .f32 0 <|
    .ret [.v 37, .v 38, .v 39, .i .i64 4])
    (.sw 34 0
     (.cst .f32 0 <|
     .cst .f32 0 <|
     .call 24 [.v 26] 1 <|
     .br 37
      (.ret [.v 32, .v 33, .v 26, .i .i64 0])
      (.cst .f32 0 <|
      .cst .f32 0 <|
      .cst .f32 0 <|
      .ret [.v 38, .v 39, .v 40, .i .i64 4]))
     (.bad "sw")))
def s85 : Sum := ⟨85, [.ptr [.f .f32, .f .f32, .f .f32, .f .f32, .f .f32, .f .f32, .f .f32, .f .f32, .f .f32, .f .f32, .f .f32, .f .f32, .f .f32, .f .f32, .f .f32, .f .f32, .f .f32, .f .f32, .f .f32, .f .f32], .agg [.f .f32, .f .f32, .f .f32]], [.agg [.f .f32, .f .f32], .val (.f .f32), .val (.i .i64 [6, 4, 0])]⟩
/-- loop.example/g01249/impl.ProjectPoint -/
def t86 : T :=
  .cst .f32 0 <|
  .cst .f32 0 <|
  .cst .f32 0 <|
  .cst .f32 0 <|
  .cst .f32 0 <|
  .cst .f32 0 <|
  .call 54 [.v 0, .v 1, .v 2, .v 3, .v 4, .v 5, .v 6, .v 7, .v 8, .v 9, .v 10] 1 <|
  .br 20
   (.call 18 [.v 11, .v 12, .v 13] 1 <|
   .br 21
    (.cst .f32 0 <|
    .cst .f32 0 <|
    .cst .f32 0 <|
    .ret [.v 22, .v 23, .v 24, .i .i64 1])
    (.call 55 [.v 0, .v 1, .v 2, .v 3, .v 4, .v 5, .v 6, .v 7, .v 8, .v 9, .v 10] 20 <|
    .cst .f32 0 <|
    .cst .f32 0 <|
    .cst .f32 0 <|
    .cst .f32 0 <|
    .cst .f32 0 <|
    .cst .f32 0 <|
    .cst .f32 0 <|
    .cst .f32 0 <|
    .cst .f32 0 <|
    .cst .f32 0 <|
    .cst .f32 0 <|
    .cst .f32 0 <|
    .cst .f32 0 <|
    .cst .f32 0 <|
    .cst .f32 0 <|
    .cst .f32 0 <|
    .cst .f32 0 <|
    .cst .f32 0 <|
    .cst .f32 0 <|
    .cst .f32 0 <|
    .call 85 [.v 22, .v 23, .v 24, .v 25, .v 26, .v 27, .v 28, .v 29, .v 30, .v 31, .v 32, .v 33, .v 34, .v 35, .v 36, .v 37, .v 38, .v 39, .v 40, .v 41, .v 11, .v 12, .v 13] 4 <|
    .sw 65 6
     (.ret [.v 62, .v 63, .v 64, .i .i64 6])
     (.sw 65 4
      (.ret [.v 62, .v 63, .v 64, .i .i64 4])
      (.sw 65 0
       (.ret [.v 62, .v 63, .v 64, .i .i64 0])
       (.bad "sw")))))
   (.cst .f32 0 <|
   .cst .f32 0 <|
   .cst .f32 0 <|
   .ret [.v 21, .v 22, .v 23, .i .i64 1])
def s86 : Sum := ⟨86, [.agg [.f .f32, .f .f32, .f .f32, .f .f32, .f .f32, .f .f32, .f .f32, .f .f32, .f .f32, .f .f32, .f .f32], .agg [.f .f32, .f .f32, .f .f32]], [.agg [.f .f32, .f .f32], .val (.f .f32), .val (.i .i64 [1, 6, 4, 0])]⟩
/-- loop.example/g01249/laws.FnExactProjectPoint -/
def t87 : T :=
  .call 48 [.v 0, .v 1, .v 2, .v 3, .v 4, .v 5, .v 6, .v 7, .v 8, .v 9, .v 10] 11 <|
  .call 0 [.v 11, .v 12, .v 13] 3 <|
  .call 84 [.v 14, .v 15, .v 16, .v 17, .v 18, .v 19, .v 20, .v 21, .v 22, .v 23, .v 24, .v 25, .v 26, .v 27] 4 <|
  .sw 31 6
   (.cst .f32 0 <|
   .cst .f32 0 <|
   .call 48 [.v 0, .v 1, .v 2, .v 3, .v 4, .v 5, .v 6, .v 7, .v 8, .v 9, .v 10] 11 <|
   .call 0 [.v 11, .v 12, .v 13] 3 <|
   .call 86 [.v 34, .v 35, .v 36, .v 37, .v 38, .v 39, .v 40, .v 41, .v 42, .v 43, .v 44, .v 45, .v 46, .v 47] 4 <|
   .sw 51 1
    (.cst .f32 0 <|
    .cst .f32 0 <|
    .call 73 [.v 48, .v 49, .v 28, .v 29] 1 <|
    .br 54
     (.un .widen .f32 50 <|
     .un .widen .f32 30 <|
     .call 31 [.v 55, .v 56] 1 <|
     .br 57
      (.ret [.b false])
      (.ret [.b false]))
     (.ret [.b false]))
    (.sw 51 6
     (.cst .f32 0 <|
     .cst .f32 0 <|
     .call 73 [.v 48, .v 49, .v 28, .v 29] 1 <|
     .br 54
      (.un .widen .f32 50 <|
      .un .widen .f32 30 <|
      .call 31 [.v 55, .v 56] 1 <|
      .br 57
       (.ret [.b true])
       (.ret [.b false]))
      (.ret [.b false]))
     (.sw 51 4
      (.cst .f32 0 <|
      .cst .f32 0 <|
      .call 73 [.v 48, .v 49, .v 28, .v 29] 1 <|
      .br 54
       (.un .widen .f32 50 <|
       .un .widen .f32 30 <|
       .call 31 [.v 55, .v 56] 1 <|
       .br 57
        (.ret [.b false])
        (.ret [.b false]))
       (.ret [.b false]))
      (.sw 51 0
       (.cst .f32 0 <|
       .cst .f32 0 <|
       .call 73 [.v 48, .v 49, .v 28, .v 29] 1 <|
       .br 54
        (.un .widen .f32 50 <|
        .un .widen .f32 30 <|
        .call 31 [.v 55, .v 56] 1 <|
        .br 57
         (.ret [.b false])
         (.ret [.b false]))
        (.ret [.b false]))
       (.bad "sw")))))
   (.sw 31 0
    (.cst .f32 0 <|
    .cst .f32 0 <|
    .call 48 [.v 0, .v 1, .v 2, .v 3, .v 4, .v 5, .v 6, .v 7, .v 8, .v 9, .v 10] 11 <|
    .call 0 [.v 11, .v 12, .v 13] 3 <|
    .call 86 [.v 34, .v 35, .v 36, .v 37, .v 38, .v 39, .v 40, .v 41, .v 42, .v 43, .v 44, .v 45, .v 46, .v 47] 4 <|
    .sw 51 1
     (.cst .f32 0 <|
     .cst .f32 0 <|
     .call 73 [.v 48, .v 49, .v 28, .v 29] 1 <|
     .br 54
      (.un .widen .f32 50 <|
      .un .widen .f32 30 <|
      .call 31 [.v 55, .v 56] 1 <|
      .br 57
       (.ret [.b false])
       (.ret [.b false]))
      (.ret [.b false]))
     (.sw 51 6
      (.cst .f32 0 <|
      .cst .f32 0 <|
      .call 73 [.v 48, .v 49, .v 28, .v 29] 1 <|
      .br 54
       (.un .widen .f32 50 <|
       .un .widen .f32 30 <|
       .call 31 [.v 55, .v 56] 1 <|
       .br 57
        (.ret [.b false])
        (.ret [.b false]))
       (.ret [.b false]))
      (.sw 51 4
       (.cst .f32 0 <|
       .cst .f32 0 <|
       .call 73 [.v 48, .v 49, .v 28, .v 29] 1 <|
       .br 54
        (.un .widen .f32 50 <|
        .un .widen .f32 30 <|
        .call 31 [.v 55, .v 56] 1 <|
        .br 57
         (.ret [.b false])
         (.ret [.b false]))
        (.ret [.b false]))
       (.sw 51 0
        (.cst .f32 0 <|
        .cst .f32 0 <|
        .call 73 [.v 48, .v 49, .v 28, .v 29] 1 <|
        .br 54
         (.un .widen .f32 50 <|
         .un .widen .f32 30 <|
         .call 31 [.v 55, .v 56] 1 <|
         .br 57
          (.ret [.b true])
          (.ret [.b false]))
         (.ret [.b false]))
        (.bad "sw")))))
    (.sw 31 4
     (.cst .f32 0 <|
     .cst .f32 0 <|
     .call 48 [.v 0, .v 1, .v 2, .v 3, .v 4, .v 5, .v 6, .v 7, .v 8, .v 9, .v 10] 11 <|
     .call 0 [.v 11, .v 12, .v 13] 3 <|
     .call 86 [.v 34, .v 35, .v 36, .v 37, .v 38, .v 39, .v 40, .v 41, .v 42, .v 43, .v 44, .v 45, .v 46, .v 47] 4 <|
     .sw 51 1
      (.cst .f32 0 <|
      .cst .f32 0 <|
      .call 73 [.v 48, .v 49, .v 28, .v 29] 1 <|
      .br 54
       (.un .widen .f32 50 <|
       .un .widen .f32 30 <|
       .call 31 [.v 55, .v 56] 1 <|
       .br 57
        (.ret [.b false])
        (.ret [.b false]))
       (.ret [.b false]))
      (.sw 51 6
       (.cst .f32 0 <|
       .cst .f32 0 <|
       .call 73 [.v 48, .v 49, .v 28, .v 29] 1 <|
       .br 54
        (.un .widen .f32 50 <|
        .un .widen .f32 30 <|
        .call 31 [.v 55, .v 56] 1 <|
        .br 57
         (.ret [.b false])
         (.ret [.b false]))
        (.ret [.b false]))
       (.sw 51 4
        (.cst .f32 0 <|
        .cst .f32 0 <|
        .call 73 [.v 48, .v 49, .v 28, .v 29] 1 <|
        .br 54
         (.un .widen .f32 50 <|
         .un .widen .f32 30 <|
         .call 31 [.v 55, .v 56] 1 <|
         .br 57
          (.ret [.b true])
          (.ret [.b false]))
         (.ret [.b false]))
        (.sw 51 0
         (.cst .f32 0 <|
         .cst .f32 0 <|
         .call 73 [.v 48, .v 49, .v 28, .v 29] 1 <|
         .br 54
          (.un .widen .f32 50 <|
          .un .widen .f32 30 <|
          .call 31 [.v 55, .v 56] 1 <|
          .br 57
           (.ret [.b false])
           (.ret [.b false]))
          (.ret [.b false]))
         (.bad "sw")))))
     (.sw 31 1
      (.cst .f32 0 <|
      .cst .f32 0 <|
      .call 48 [.v 0, .v 1, .v 2, .v 3, .v 4, .v 5, .v 6, .v 7, .v 8, .v 9, .v 10] 11 <|
      .call 0 [.v 11, .v 12, .v 13] 3 <|
      .call 86 [.v 34, .v 35, .v 36, .v 37, .v 38, .v 39, .v 40, .v 41, .v 42, .v 43, .v 44, .v 45, .v 46, .v 47] 4 <|
      .sw 51 1
       (.cst .f32 0 <|
       .cst .f32 0 <|
       .call 73 [.v 48, .v 49, .v 28, .v 29] 1 <|
       .br 54
        (.un .widen .f32 50 <|
        .un .widen .f32 30 <|
        .call 31 [.v 55, .v 56] 1 <|
        .br 57
         (.ret [.b true])
         (.ret [.b false]))
        (.ret [.b false]))
       (.sw 51 6
        (.cst .f32 0 <|
        .cst .f32 0 <|
        .call 73 [.v 48, .v 49, .v 28, .v 29] 1 <|
        .br 54
         (.un .widen .f32 50 <|
         .un .widen .f32 30 <|
         .call 31 [.v 55, .v 56] 1 <|
         .br 57
          (.ret [.b false])
          (.ret [.b false]))
         (.ret [.b false]))
        (.sw 51 4
         (.cst .f32 0 <|
         .cst .f32 0 <|
         .call 73 [.v 48, .v 49, .v 28, .v 29] 1 <|
         .br 54
          (.un .widen .f32 50 <|
          .un .widen .f32 30 <|
          .call 31 [.v 55, .v 56] 1 <|
          .br 57
           (.ret [.b false])
           (.ret [.b false]))
          (.ret [.b false]))
         (.sw 51 0
          (.cst .f32 0 <|
          .cst .f32 0 <|
          .call 73 [.v 48, .v 49, .v 28, .v 29] 1 <|
          .br 54
           (.un .widen .f32 50 <|
           .un .widen .f32 30 <|
           .call 31 [.v 55, .v 56] 1 <|
           .br 57
            (.ret [.b false])
            (.ret [.b false]))
           (.ret [.b false]))
          (.bad "sw")))))
      (.bad "sw"))))
def s87 : Sum := ⟨87, [.agg [.f .f32, .f .f32, .f .f32, .f .f32, .f .f32, .f .f32, .f .f32, .f .f32, .f .f32, .f .f32, .f .f32], .agg [.f .f32, .f .f32, .f .f32]], [.val (.b)]⟩
/-- loop.example/g01249/spec.AddPoints -/
def t88 : T :=
  .cst .f32 0 <|
  .cst .f32 0 <|
  .cst .f32 0 <|
  .bin .add .f32 0 3 <|
  .bin .add .f32 1 4 <|
  .bin .add .f32 2 5 <|
  .cst .f32 0 <|
  .cst .f32 0 <|
  .cst .f32 0 <|
  .ret [.v 9, .v 10, .v 11]
def s88 : Sum := ⟨88, [.agg [.f .f32, .f .f32, .f .f32], .agg [.f .f32, .f .f32, .f .f32]], [.agg [.f .f32, .f .f32, .f .f32]]⟩
/-- loop.example/g01249/spec.PointAt -/
def t89 : T :=
  .cst .f32 0 <|
  .cst .f32 0 <|
  .cst .f32 0 <|
  .call 50 [.v 0, .v 1, .v 2, .v 3, .v 4, .v 5, .v 6, .v 7, .v 8, .v 9, .v 10] 1 <|
  .br 17
   (.call 64 [.v 11, .v 12] 1 <|
   .br 18
    (.call 1 [.v 13] 1 <|
    .br 19
     (.tst 0 .f32 13 10
      (.cst .f32 0 <|
      .cst .f32 0 <|
      .cst .f32 0 <|
      .ret [.v 20, .v 21, .v 22, .i .i64 2])
      (.call 49 [.v 0, .v 1, .v 2, .v 3, .v 4, .v 5, .v 6, .v 7, .v 8, .v 9, .v 10] 10 <|
      .br 29
       (.cst .f32 0 <|
       .cst .f32 0 <|
       .cst .f32 0 <|
       .cst .f32 0 <|
       .cst .f32 0 <|
       .cst .f32 0 <|
       .cst .f32 0 <|
       .cst .f32 0 <|
       .cst .f32 0 <|
       .call 75 [.v 0, .v 1, .v 2, .v 3, .v 4, .v 5, .v 6, .v 7, .v 8, .v 9, .v 10, .v 20, .v 21, .v 22, .v 23, .v 24, .v 25, .v 26, .v 27, .v 28, .v 11, .v 12] 3 <|
       .bin .div .f32 13 9 <|
       .call 46 [.v 39, .v 40, .v 41, .v 42] 3 <|
       .call 88 [.v 0, .v 1, .v 2, .v 43, .v 44, .v 45] 3 <|
       .call 81 [.v 46, .v 47, .v 48] 4 <|
       .sw 52 0
        (.ret [.v 49, .v 50, .v 51, .i .i64 0])
        (.sw 52 4
         (.ret [.v 49, .v 50, .v 51, .i .i64 4])
         (.bad "sw")))
       (.cst .f32 0 <|
       .cst .f32 0 <|
       .cst .f32 0 <|
       .cst .f32 0 <|
       .cst .f32 0 <|
       .cst .f32 0 <|
       .cst .f32 0 <|
       .cst .f32 0 <|
       .cst .f32 0 <|
       .call 75 [.v 0, .v 1, .v 2, .v 3, .v 4, .v 5, .v 6, .v 7, .v 8, .v 9, .v 10, .v 20, .v 21, .v 22, .v 23, .v 24, .v 25, .v 26, .v 27, .v 28, .v 11, .v 12] 3 <|
       .bin .div .f32 13 9 <|
       .call 46 [.v 39, .v 40, .v 41, .v 42] 3 <|
       .call 88 [.v 0, .v 1, .v 2, .v 43, .v 44, .v 45] 3 <|
       .call 81 [.v 46, .v 47, .v 48] 4 <|
       .sw 52 0
        (.ret [.v 49, .v 50, .v 51, .i .i64 0])
        (.sw 52 4
         (.ret [.v 49, .v 50, .v 51, .i .i64 4])
         (.bad "sw")))))
     (.cst .f32 0 <|
     .cst .f32 0 <|
     .cst .f32 0 <|
     .ret [.v 20, .v 21, .v 22, .i .i64 2]))
    (.cst .f32 0 <|
    .cst .f32 0 <|
    .cst .f32 0 <|
    .ret [.v 19, .v 20, .v 21, .i .i64 1]))
   (.cst .f32 0 <|
   .cst .f32 0 <|
   .cst .f32 0 <|
   .ret [.v 18, .v 19, .v 20, .i .i64 1])
def s89 : Sum := ⟨89, [.agg [.f .f32, .f .f32, .f .f32, .f .f32, .f .f32, .f .f32, .f .f32, .f .f32, .f .f32, .f .f32, .f .f32], .agg [.f .f32, .f .f32], .val (.f .f32)], [.agg [.f .f32, .f .f32, .f .f32], .val (.i .i64 [2, 0, 4, 1])]⟩
/-- loop.example/g01249/impl.PointAt -/
def t90 : T :=
  .cst .f32 0 <|
  .cst .f32 0 <|
  .cst .f32 0 <|
  .cst .f32 0 <|
  .cst .f32 0 <|
  .call 66 [.v 11, .v 12] 1 <|
  .br 19
   (.call 54 [.v 0, .v 1, .v 2, .v 3, .v 4, .v 5, .v 6, .v 7, .v 8, .v 9, .v 10] 1 <|
   .br 20
    (.call 15 [.v 13] 1 <|
    .br 21
     (.tst 0 .f32 13 10
      (.cst .f32 0 <|
      .cst .f32 0 <|
      .cst .f32 0 <|
      .ret [.v 22, .v 23, .v 24, .i .i64 1])
      (.cst .f32 0 <|
      .cst .f32 0 <|
      .cst .f32 0 <|
      .ret [.v 22, .v 23, .v 24, .i .i64 1]))
     (.cst .f32 0 <|
     .cst .f32 0 <|
     .cst .f32 0 <|
     .ret [.v 22, .v 23, .v 24, .i .i64 1]))
    (.call 15 [.v 13] 1 <|
    .br 21
     (.tst 0 .f32 13 10
      (.cst .f32 0 <|
      .cst .f32 0 <|
      .cst .f32 0 <|
      .ret [.v 22, .v 23, .v 24, .i .i64 1])
      (.cst .f32 0 <|
      .cst .f32 0 <|
      .cst .f32 0 <|
      .ret [.v 22, .v 23, .v 24, .i .i64 1]))
     (.cst .f32 0 <|
     .cst .f32 0 <|
     .cst .f32 0 <|
     .ret [.v 22, .v 23, .v 24, .i .i64 1])))
   (.call 54 [.v 0, .v 1, .v 2, .v 3, .v 4, .v 5, .v 6, .v 7, .v 8, .v 9, .v 10] 1 <|
   .br 20
    (.call 15 [.v 13] 1 <|
    .br 21
     (.tst 0 .f32 13 10
      (.cst .f32 0 <|
      .cst .f32 0 <|
      .cst .f32 0 <|
      .ret [.v 22, .v 23, .v 24, .i .i64 2])
      (.call 55 [.v 0, .v 1, .v 2, .v 3, .v 4, .v 5, .v 6, .v 7, .v 8, .v 9, .v 10] 20 <|
      .cst .f32 0 <|
      .cst .f32 0 <|
      .cst .f32 0 <|
      .cst .f32 0 <|
      .cst .f32 0 <|
      .cst .f32 0 <|
      .cst .f32 0 <|
      .cst .f32 0 <|
      .cst .f32 0 <|
      .cst .f32 0 <|
      .cst .f32 0 <|
      .cst .f32 0 <|
      .cst .f32 0 <|
      .cst .f32 0 <|
      .cst .f32 0 <|
      .cst .f32 0 <|
      .cst .f32 0 <|
      .cst .f32 0 <|
      .cst .f32 0 <|
      .cst .f32 0 <|
      .call 78 [.v 22, .v 23, .v 24, .v 25, .v 26, .v 27, .v 28, .v 29, .v 30, .v 31, .v 32, .v 33, .v 34, .v 35, .v 36, .v 37, .v 38, .v 39, .v 40, .v 41, .v 11, .v 12] 3 <|
      .bin .div .f32 13 9 <|
      .call 47 [.v 62, .v 63, .v 64, .v 65] 3 <|
      .call 77 [.v 0, .v 1, .v 2, .v 66, .v 67, .v 68] 3 <|
      .call 42 [.v 69, .v 70, .v 71] 4 <|
      .sw 75 4
       (.ret [.v 72, .v 73, .v 74, .i .i64 4])
       (.sw 75 0
        (.ret [.v 72, .v 73, .v 74, .i .i64 0])
        (.bad "sw"))))
     (.cst .f32 0 <|
     .cst .f32 0 <|
     .cst .f32 0 <|
     .ret [.v 22, .v 23, .v 24, .i .i64 2]))
    (.call 15 [.v 13] 1 <|
    .br 21
     (.tst 0 .f32 13 10
      (.cst .f32 0 <|
      .cst .f32 0 <|
      .cst .f32 0 <|
      .ret [.v 22, .v 23, .v 24, .i .i64 1])
      (.cst .f32 0 <|
      .cst .f32 0 <|
      .cst .f32 0 <|
      .ret [.v 22, .v 23, .v 24, .i .i64 1]))
     (.cst .f32 0 <|
     .cst .f32 0 <|
     .cst .f32 0 <|
     .ret [.v 22, .v 23, .v 24, .i .i64 1])))
def s90 : Sum := ⟨90, [.agg [.f .f32, .f .f32, .f .f32, .f .f32, .f .f32, .f .f32, .f .f32, .f .f32, .f .f32, .f .f32, .f .f32], .agg [.f .f32, .f .f32], .val (.f .f32)], [.agg [.f .f32, .f .f32, .f .f32], .val (.i .i64 [1, 2, 4, 0])]⟩
/-- loop.example/g01249/laws.FnExactPointAt -/
def t91 : T :=
  .call 48 [.v 0, .v 1, .v 2, .v 3, .v 4, .v 5, .v 6, .v 7, .v 8, .v 9, .v 10] 11 <|
  .call 63 [.v 11, .v 12] 2 <|
  .call 89 [.v 14, .v 15, .v 16, .v 17, .v 18, .v 19, .v 20, .v 21, .v 22, .v 23, .v 24, .v 25, .v 26, .v 13] 4 <|
  .sw 30 2
   (.cst .f32 0 <|
   .cst .f32 0 <|
   .cst .f32 0 <|
   .call 48 [.v 0, .v 1, .v 2, .v 3, .v 4, .v 5, .v 6, .v 7, .v 8, .v 9, .v 10] 11 <|
   .call 63 [.v 11, .v 12] 2 <|
   .call 90 [.v 34, .v 35, .v 36, .v 37, .v 38, .v 39, .v 40, .v 41, .v 42, .v 43, .v 44, .v 45, .v 46, .v 13] 4 <|
   .sw 50 1
    (.cst .f32 0 <|
    .cst .f32 0 <|
    .cst .f32 0 <|
    .call 32 [.v 47, .v 48, .v 49, .v 27, .v 28, .v 29] 1 <|
    .br 54
     (.ret [.b false])
     (.ret [.b false]))
    (.sw 50 2
     (.cst .f32 0 <|
     .cst .f32 0 <|
     .cst .f32 0 <|
     .call 32 [.v 47, .v 48, .v 49, .v 27, .v 28, .v 29] 1 <|
     .br 54
      (.ret [.b true])
      (.ret [.b false]))
     (.sw 50 4
      (.cst .f32 0 <|
      .cst .f32 0 <|
      .cst .f32 0 <|
      .call 32 [.v 47, .v 48, .v 49, .v 27, .v 28, .v 29] 1 <|
      .br 54
       (.ret [.b false])
       (.ret [.b false]))
      (.sw 50 0
       (.cst .f32 0 <|
       .cst .f32 0 <|
       .cst .f32 0 <|
       .call 32 [.v 47, .v 48, .v 49, .v 27, .v 28, .v 29] 1 <|
       .br 54
        (.ret [.b false])
        (.ret [.b false]))
       (.bad "sw")))))
   (.sw 30 0
    (.cst .f32 0 <|
    .cst .f32 0 <|
    .cst .f32 0 <|
    .call 48 [.v 0, .v 1, .v 2, .v 3, .v 4, .v 5, .v 6, .v 7, .v 8, .v 9, .v 10] 11 <|
    .call 63 [.v 11, .v 12] 2 <|
    .call 90 [.v 34, .v 35, .v 36, .v 37, .v 38, .v 39, .v 40, .v 41, .v 42, .v 43, .v 44, .v 45, .v 46, .v 13] 4 <|
    .sw 50 1
     (.cst .f32 0 <|
     .cst .f32 0 <|
     .cst .f32 0 <|
     .call 32 [.v 47, .v 48, .v 49, .v 27, .v 28, .v 29] 1 <|
     .br 54
      (.ret [.b false])
      (.ret [.b false]))
     (.sw 50 2
      (.cst .f32 0 <|
      .cst .f32 0 <|
      .cst .f32 0 <|
      .call 32 [.v 47, .v 48, .v 49, .v 27, .v 28, .v 29] 1 <|
      .br 54
       (.ret [.b false])
       (.ret [.b false]))
      (.sw 50 4
       (.cst .f32 0 <|
       .cst .f32 0 <|
       .cst .f32 0 <|
       .call 32 [.v 47, .v 48, .v 49, .v 27, .v 28, .v 29] 1 <|
       .br 54
        (.ret [.b false])
        (.ret [.b false]))
       (.sw 50 0
        (.cst .f32 0 <|
        .cst .f32 0 <|
        .cst .f32 0 <|
        .call 32 [.v 47, .v 48, .v 49, .v 27, .v 28, .v 29] 1 <|
        .br 54
         (.ret [.b true])
         (.ret [.b false]))
        (.bad "sw")))))
    (.sw 30 4
     (.cst .f32 0 <|
     .cst .f32 0 <|
     .cst .f32 0 <|
     .call 48 [.v 0, .v 1, .v 2, .v 3, .v 4, .v 5, .v 6, .v 7, .v 8, .v 9, .v 10] 11 <|
     .call 63 [.v 11, .v 12] 2 <|
     .call 90 [.v 34, .v 35, .v 36, .v 37, .v 38, .v 39, .v 40, .v 41, .v 42, .v 43, .v 44, .v 45, .v 46, .v 13] 4 <|
     .sw 50 1
      (.cst .f32 0 <|
      .cst .f32 0 <|
      .cst .f32 0 <|
      .call 32 [.v 47, .v 48, .v 49, .v 27, .v 28, .v 29] 1 <|
      .br 54
       (.ret [.b false])
       (.ret [.b false]))
      (.sw 50 2
       (.cst .f32 0 <|
       .cst .f32 0 <|
       .cst .f32 0 <|
       .call 32 [.v 47, .v 48, .v 49, .v 27, .v 28, .v 29] 1 <|
       .br 54
        (.ret [.b false])
        (.ret [.b false]))
       (.sw 50 4
        (.cst .f32 0 <|
        .cst .f32 0 <|
        .cst .f32 0 <|
        .call 32 [.v 47, .v 48, .v 49, .v 27, .v 28, .v 29] 1 <|
        .br 54
         (.ret [.b true])
         (.ret [.b false]))
        (.sw 50 0
         (.cst .f32 0 <|
         .cst .f32 0 <|
         .cst .f32 0 <|
         .call 32 [.v 47, .v 48, .v 49, .v 27, .v 28, .v 29] 1 <|
         .br 54
          (.ret [.b false])
          (.ret [.b false]))
         (.bad "sw")))))
     (.sw 30 1
      (.cst .f32 0 <|
      .cst .f32 0 <|
      .cst .f32 0 <|
      .call 48 [.v 0, .v 1, .v 2, .v 3, .v 4, .v 5, .v 6, .v 7, .v 8, .v 9, .v 10] 11 <|
      .call 63 [.v 11, .v 12] 2 <|
      .call 90 [.v 34, .v 35, .v 36, .v 37, .v 38, .v 39, .v 40, .v 41, .v 42, .v 43, .v 44, .v 45, .v 46, .v 13] 4 <|
      .sw 50 1
       (.cst .f32 0 <|
       .cst .f32 0 <|
       .cst .f32 0 <|
       .call 32 [.v 47, .v 48, .v 49, .v 27, .v 28, .v 29] 1 <|
       .br 54
        (.ret [.b true])
        (.ret [.b false]))
       (.sw 50 2
        (.cst .f32 0 <|
        .cst .f32 0 <|
        .cst .f32 0 <|
        .call 32 [.v 47, .v 48, .v 49, .v 27, .v 28, .v 29] 1 <|
        .br 54
         (.ret [.b false])
         (.ret [.b false]))
        (.sw 50 4
         (.cst .f32 0 <|
         .cst .f32 0 <|
         .cst .f32 0 <|
         .call 32 [.v 47, .v 48, .v 49, .v 27, .v 28, .v 29] 1 <|
         .br 54
          (.ret [.b false])
          (.ret [.b false]))
         (.sw 50 0
          (.cst .f32 0 <|
          .cst .f32 0 <|
          .cst .f32 0 <|
          .call 32 [.v 47, .v 48, .v 49, .v 27, .v 28, .v 29] 1 <|
          .br 54
           (.ret [.b false])
           (.ret [.b false]))
          (.bad "sw")))))
      (.bad "sw"))))
def s91 : Sum := ⟨91, [.agg [.f .f32, .f .f32, .f .f32, .f .f32, .f .f32, .f .f32, .f .f32, .f .f32, .f .f32, .f .f32, .f .f32], .agg [.f .f32, .f .f32], .val (.f .f32)], [.val (.b)]⟩
/-- loop.example/g01249/spec.l02Moved -/
def t92 : T :=
  .cst .f32 0 <|
  .cst .f32 0 <|
  .cst .f32 0 <|
  .cst .f32 0 <|
  .cst .f32 0 <|
  .cst .f32 0 <|
  .cst .f32 0 <|
  .cst .f32 0 <|
  .cst .f32 0 <|
  .cst .f32 0 <|
  .cst .f32 0 <|
  .call 50 [.v 0, .v 1, .v 2, .v 3, .v 4, .v 5, .v 6, .v 7, .v 8, .v 9, .v 10] 1 <|
  .br 22
   (.ret [.v 0, .v 1, .v 2, .v 3, .v 4, .v 5, .v 6, .v 7, .v 8, .v 9, .v 10, .i .i64 0])
   (.cst .f32 0 <|
   .cst .f32 0 <|
   .cst .f32 0 <|
   .cst .f32 0 <|
   .cst .f32 0 <|
   .cst .f32 0 <|
   .cst .f32 0 <|
   .cst .f32 0 <|
   .cst .f32 0 <|
   .cst .f32 0 <|
   .cst .f32 0 <|
   .ret [.v 23, .v 24, .v 25, .v 26, .v 27, .v 28, .v 29, .v 30, .v 31, .v 32, .v 33, .i .i64 4])
def s92 : Sum := ⟨92, [.agg [.f .f32, .f .f32, .f .f32, .f .f32, .f .f32, .f .f32, .f .f32, .f .f32, .f .f32, .f .f32, .f .f32]], [.agg [.f .f32, .f .f32, .f .f32, .f .f32, .f .f32, .f .f32, .f .f32, .f .f32, .f .f32, .f .f32, .f .f32], .val (.i .i64 [0, 4])]⟩
/-- loop.example/g01249/spec.MoveCamera -/
def t93 : T :=
  .cst .f32 0 <|
  .cst .f32 0 <|
  .cst .f32 0 <|
  .cst .f32 0 <|
  .cst .f32 0 <|
  .cst .f32 0 <|
  .cst .f32 0 <|
  .cst .f32 0 <|
  .cst .f32 0 <|
  .cst .f32 0 <|
  .cst .f32 0 <|
  .call 50 [.v 0, .v 1, .v 2, .v 3, .v 4, .v 5, .v 6, .v 7, .v 8, .v 9, .v 10] 1 <|
  .br 25
   (.call 1 [.v 11] 1 <|
   .br 26
    (.call 1 [.v 12] 1 <|
    .br 27
     (.call 1 [.v 13] 1 <|
     .br 28
      (.call 49 [.v 0, .v 1, .v 2, .v 3, .v 4, .v 5, .v 6, .v 7, .v 8, .v 9, .v 10] 10 <|
      .br 38
       (.cst .f32 0 <|
       .cst .f32 0 <|
       .cst .f32 0 <|
       .cst .f32 0 <|
       .cst .f32 0 <|
       .cst .f32 0 <|
       .cst .f32 0 <|
       .cst .f32 0 <|
       .cst .f32 0 <|
       .call 46 [.v 29, .v 30, .v 31, .v 11] 3 <|
       .call 46 [.v 32, .v 33, .v 34, .v 12] 3 <|
       .call 88 [.v 48, .v 49, .v 50, .v 51, .v 52, .v 53] 3 <|
       .call 46 [.v 35, .v 36, .v 37, .v 13] 3 <|
       .call 88 [.v 54, .v 55, .v 56, .v 57, .v 58, .v 59] 3 <|
       .cst .f32 0 <|
       .cst .f32 0 <|
       .cst .f32 0 <|
       .call 88 [.v 0, .v 1, .v 2, .v 60, .v 61, .v 62] 3 <|
       .call 88 [.v 3, .v 4, .v 5, .v 60, .v 61, .v 62] 3 <|
       .call 92 [.v 66, .v 67, .v 68, .v 69, .v 70, .v 71, .v 6, .v 7, .v 8, .v 9, .v 10] 12 <|
       .sw 83 0
        (.ret [.v 72, .v 73, .v 74, .v 75, .v 76, .v 77, .v 78, .v 79, .v 80, .v 81, .v 82, .i .i64 0])
        (.sw 83 4
         (.ret [.v 72, .v 73, .v 74, .v 75, .v 76, .v 77, .v 78, .v 79, .v 80, .v 81, .v 82, .i .i64 4])
         (.bad "sw")))
       (.cst .f32 0 <|
       .cst .f32 0 <|
       .cst .f32 0 <|
       .cst .f32 0 <|
       .cst .f32 0 <|
       .cst .f32 0 <|
       .cst .f32 0 <|
       .cst .f32 0 <|
       .cst .f32 0 <|
       .call 46 [.v 29, .v 30, .v 31, .v 11] 3 <|
       .call 46 [.v 32, .v 33, .v 34, .v 12] 3 <|
       .call 88 [.v 48, .v 49, .v 50, .v 51, .v 52, .v 53] 3 <|
       .call 46 [.v 35, .v 36, .v 37, .v 13] 3 <|
       .call 88 [.v 54, .v 55, .v 56, .v 57, .v 58, .v 59] 3 <|
       .cst .f32 0 <|
       .cst .f32 0 <|
       .cst .f32 0 <|
       .call 88 [.v 0, .v 1, .v 2, .v 60, .v 61, .v 62] 3 <|
       .call 88 [.v 3, .v 4, .v 5, .v 60, .v 61, .v 62] 3 <|
       .call 92 [.v 66, .v 67, .v 68, .v 69, .v 70, .v 71, .v 6, .v 7, .v 8, .v 9, .v 10] 12 <|
       .sw 83 0
        (.ret [.v 72, .v 73, .v 74, .v 75, .v 76, .v 77, .v 78, .v 79, .v 80, .v 81, .v 82, .i .i64 0])
        (.sw 83 4
         (.ret [.v 72, .v 73, .v 74, .v 75, .v 76, .v 77, .v 78, .v 79, .v 80, .v 81, .v 82, .i .i64 4])
         (.bad "sw"))))
      (.cst .f32 0 <|
      .cst .f32 0 <|
      .cst .f32 0 <|
      .cst .f32 0 <|
      .cst .f32 0 <|
      .cst .f32 0 <|
      .cst .f32 0 <|
      .cst .f32 0 <|
      .cst .f32 0 <|
      .cst .f32 0 <|
      .cst .f32 0 <|
      .ret [.v 29, .v 30, .v 31, .v 32, .v 33, .v 34, .v 35, .v 36, .v 37, .v 38, .v 39, .i .i64 2]))
     (.cst .f32 0 <|
     .cst .f32 0 <|
     .cst .f32 0 <|
     .cst .f32 0 <|
     .cst .f32 0 <|
     .cst .f32 0 <|
     .cst .f32 0 <|
     .cst .f32 0 <|
     .cst .f32 0 <|
     .cst .f32 0 <|
     .cst .f32 0 <|
     .ret [.v 28, .v 29, .v 30, .v 31, .v 32, .v 33, .v 34, .v 35, .v 36, .v 37, .v 38, .i .i64 2]))
    (.cst .f32 0 <|
    .cst .f32 0 <|
    .cst .f32 0 <|
    .cst .f32 0 <|
    .cst .f32 0 <|
    .cst .f32 0 <|
    .cst .f32 0 <|
    .cst .f32 0 <|
    .cst .f32 0 <|
    .cst .f32 0 <|
    .cst .f32 0 <|
    .ret [.v 27, .v 28, .v 29, .v 30, .v 31, .v 32, .v 33, .v 34, .v 35, .v 36, .v 37, .i .i64 2]))
   (.cst .f32 0 <|
   .cst .f32 0 <|
   .cst .f32 0 <|
   .cst .f32 0 <|
   .cst .f32 0 <|
   .cst .f32 0 <|
   .cst .f32 0 <|
   .cst .f32 0 <|
   .cst .f32 0 <|
   .cst .f32 0 <|
   .cst .f32 0 <|
   .ret [.v 26, .v 27, .v 28, .v 29, .v 30, .v 31, .v 32, .v 33, .v 34, .v 35, .v 36, .i .i64 1])
def s93 : Sum := ⟨93, [.agg [.f .f32, .f .f32, .f .f32, .f .f32, .f .f32, .f .f32, .f .f32, .f .f32, .f .f32, .f .f32, .f .f32], .val (.f .f32), .val (.f .f32), .val (.f .f32)], [.agg [.f .f32, .f .f32, .f .f32, .f .f32, .f .f32, .f .f32, .f .f32, .f .f32, .f .f32, .f .f32, .f .f32], .val (.i .i64 [0, 4, 2, 1])]⟩
/-- loop.example/g01249/impl.validCamera -/
def t94 : T :=
  .cst .f32 0 <|
  .cst .f32 0 <|
  .cst .f32 0 <|
  .cst .f32 0 <|
  .cst .f32 0 <|
  .cst .f32 0 <|
  .cst .f32 0 <|
  .cst .f32 0 <|
  .cst .f32 0 <|
  .cst .f32 0 <|
  .cst .f32 0 <|
  .call 54 [.v 0, .v 1, .v 2, .v 3, .v 4, .v 5, .v 6, .v 7, .v 8, .v 9, .v 10] 1 <|
  .br 22
   (.ret [.v 0, .v 1, .v 2, .v 3, .v 4, .v 5, .v 6, .v 7, .v 8, .v 9, .v 10, .i .i64 0])
   (.cst .f32 0 <|
   .cst .f32 0 <|
   .cst .f32 0 <|
   .cst .f32 0 <|
   .cst .f32 0 <|
   .cst .f32 0 <|
   .cst .f32 0 <|
   .cst .f32 0 <|
   .cst .f32 0 <|
   .cst .f32 0 <|
   .cst .f32 0 <|
   .ret [.v 23, .v 24, .v 25, .v 26, .v 27, .v 28, .v 29, .v 30, .v 31, .v 32, .v 33, .i .i64 4])
def s94 : Sum := ⟨94, [.agg [.f .f32, .f .f32, .f .f32, .f .f32, .f .f32, .f .f32, .f .f32, .f .f32, .f .f32, .f .f32, .f .f32]], [.agg [.f .f32, .f .f32, .f .f32, .f .f32, .f .f32, .f .f32, .f .f32, .f .f32, .f .f32, .f .f32, .f .f32], .val (.i .i64 [0, 4])]⟩
/-- loop.example/g01249/laws.eqCamera -/
def t95 : T :=
  .call 32 [.v 0, .v 1, .v 2, .v 11, .v 12, .v 13] 1 <|
  .br 22
   (.call 32 [.v 3, .v 4, .v 5, .v 14, .v 15, .v 16] 1 <|
   .br 23
    (.call 32 [.v 6, .v 7, .v 8, .v 17, .v 18, .v 19] 1 <|
    .br 24
     (.un .widen .f32 9 <|
     .un .widen .f32 20 <|
     .call 31 [.v 25, .v 26] 1 <|
     .br 27
      (.un .widen .f32 10 <|
      .un .widen .f32 21 <|
      .call 31 [.v 28, .v 29] 1 <|
      .br 30
       (.ret [.b true])
       (.ret [.b false]))
      (.ret [.b false]))
     (.ret [.b false]))
    (.ret [.b false]))
   (.ret [.b false])
def s95 : Sum := ⟨95, [.agg [.f .f32, .f .f32, .f .f32, .f .f32, .f .f32, .f .f32, .f .f32, .f .f32, .f .f32, .f .f32, .f .f32], .agg [.f .f32, .f .f32, .f .f32, .f .f32, .f .f32, .f .f32, .f .f32, .f .f32, .f .f32, .f .f32, .f .f32]], [.val (.b)]⟩
def ts : List T := [t0, t1, t2, t3, t4, t5, t6, t7, t8, t9, t10, t11, t12, t13, t14, t15, t16, t17, t18, t19, t20, t21, t22, t23, t24, t25, t26, t27, t28, t29, t30, t31, t32, t33, t34, t35, t36, t37, t38, t39, t40, t41, t42, t43, t44, t45, t46, t47, t48, t49, t50, t51, t52, t53, t54, t55, t56, t57, t58, t59, t60, t61, t62, t63, t64, t65, t66, t67, t68, t69, t70, t71, t72, t73, t74, t75, t76, t77, t78, t79, t80, t81, t82, t83, t84, t85, t86, t87, t88, t89, t90, t91, t92, t93, t94, t95]
def sm : List (FuncId × Sum) := [(16, s0), (82, s1), (49, s2), (52, s3), (51, s4), (58, s5), (121, s6), (114, s7), (103, s8), (61, s9), (62, s10), (65, s11), (57, s12), (50, s13), (15, s14), (86, s15), (112, s16), (102, s17), (101, s18), (56, s19), (55, s20), (68, s21), (115, s22), (105, s23), (79, s24), (71, s25), (116, s26), (69, s27), (67, s28), (54, s29), (17, s30), (23, s31), (22, s32), (18, s33), (3, s34), (20, s35), (59, s36), (60, s37), (19, s38), (110, s39), (87, s40), (104, s41), (70, s42), (64, s43), (21, s44), (4, s45), (66, s46), (72, s47), (27, s48), (74, s49), (73, s50), (75, s51), (26, s52), (107, s53), (80, s54), (77, s55), (78, s56), (28, s57), (6, s58), (29, s59), (30, s60), (31, s61), (7, s62), (33, s63), (81, s64), (32, s65), (109, s66), (34, s67), (8, s68), (35, s69), (89, s70), (88, s71), (36, s72), (37, s73), (9, s74), (90, s75), (38, s76), (96, s77), (91, s78), (39, s79), (10, s80), (92, s81), (40, s82), (93, s83), (42, s84), (94, s85), (43, s86), (12, s87), (95, s88), (44, s89), (45, s90), (13, s91), (97, s92), (46, s93), (99, s94), (48, s95)]
def ex : List (FuncId × Ext) := [(118, .frombits64), (119, .bits64), (122, .sqrt)]
end Go.Proofs.Ytgdannnnbfkajaa
