/- Trees of the reference's functions, each the compiler's own (printed). -/
import Derived.Test.YtphejmchkmciaaaGreatDoorDp
set_option maxRecDepth 100000
set_option linter.unusedVariables false
namespace Go.Proofs
open Go.WF

/-- 3 replica/replicalaw12.ConfParses -/
def d3 (a0 : ByteArray) : T :=
 T.call 4 [.string a0] [.agg K23, .b (.int .i64), .b (.int .i64)] fun (r0 : Ty23 × Int × Int × Unit) =>
 T.new Z23 23 fun (p1 : Addr) =>
 T.store p1 (bencs K23 r0.1) <|
 T.call 5 [.string a0] [.agg K23, .b (.int .i64), .b (.int .i64)] fun (r2 : Ty23 × Int × Int × Unit) =>
 T.new Z23 23 fun (p3 : Addr) =>
 T.store p3 (bencs K23 r2.1) <|
 T.blk [.b .bool] (fun (j4 : Lab) =>
  T.load (.agg K23) p1 fun (v6 : Ty23) =>
  T.load (.agg K23) p3 fun (v7 : Ty23) =>
  T.op (eqS .eql 23 (.tmp 21) (.tmp 22) (.agg (bencs K23 v6).toArray) (.agg (bencs K23 v7).toArray)) [.b .bool] fun (x8 : Bool × Unit) =>
  cond (x8.1)
  (cond (r0.2.1 == r2.2.1)
   (T.jump j4 [.bool (r0.2.2.1 == r2.2.2.1)])
   (T.jump j4 [.bool false]))
  (T.jump j4 [.bool false]))
 fun (y5 : Bool × Unit) =>
 T.ret [.bool y5.1]

theorem d3_ok (a0 : ByteArray) : compF Tryz.prog Tryz.f3 [.string a0] = d3 a0 := by kernel_rfl

/-- 5 replica/replicaref12.Parse -/
def d5 (a0 : ByteArray) : T :=
 T.new Z23 23 fun (p0 : Addr) =>
 cond (decide ((a0.size : Int) > 4096))
 (T.store p0 [.string (bs []), .int .i64 0, .int .i64 0, .int .i64 0, .int .i64 0, .int .i64 0, .int .i64 0, .int .i64 0, .int .i64 0, .int .i64 0, .int .i64 0, .string (bs []), .int .i64 0, .int .i64 0, .int .i64 0, .int .i64 0, .int .i64 0, .int .i64 0] <|
  T.load (.agg K23) p0 fun (v1 : Ty23) =>
  T.ret [.agg (bencs K23 v1).toArray, .int .i64 0, .int .i64 6])
 (T.call 9 [.string a0] [.b .slice] fun (r2 : Sl × Unit) =>
  T.new [.slice r2.1.a r2.1.len r2.1.cap, .int .i64 0, .string (bs []), .string (bs []), .int .i64 0, .int .i64 0, .int .i64 0, .int .i64 0, .int .i64 0, .int .i64 0, .int .i64 0, .int .i64 0, .int .i64 0, .int .i64 0, .int .i64 0, .int .i64 0, .int .i64 0, .int .i64 0, .int .i64 0, .int .i64 0, .bool false, .bool false, .bool false, .bool false, .bool false, .bool false, .bool false, .bool false, .bool false, .bool false, .bool false, .bool false, .bool false, .bool false, .bool false, .bool false, .bool false, .int .i64 0, .int .i64 0] 42 fun (p3 : Addr) =>
  T.call 10 [.pointer (some p3)] [.b .bool] fun (r4 : Bool × Unit) =>
  cond (!r4.1)
  (T.draw <|
   T.load (.b (.int .i64)) (p3.add 38) fun (v5 : Int) =>
   T.load (.b (.int .i64)) (p3.add 37) fun (v6 : Int) =>
   T.store p0 [.string (bs []), .int .i64 0, .int .i64 0, .int .i64 0, .int .i64 0, .int .i64 0, .int .i64 0, .int .i64 0, .int .i64 0, .int .i64 0, .int .i64 0, .string (bs []), .int .i64 0, .int .i64 0, .int .i64 0, .int .i64 0, .int .i64 0, .int .i64 0] <|
   T.hold [((p3.add 37), [.int .i64 v6]), ((p3.add 38), [.int .i64 v5])] <|
   T.load (.agg K23) p0 fun (v7 : Ty23) =>
   T.ret [.agg (bencs K23 v7).toArray, .int .i64 v5, .int .i64 v6])
  (T.load (.agg K40) (p3.add 2) fun (v8 : Ty40) =>
   T.call 11 [.agg (bencs K40 v8).toArray] [.agg K23] fun (r9 : Ty23 × Unit) =>
   T.store p0 (bencs K23 r9.1) <|
   T.load (.agg K23) p0 fun (v10 : Ty23) =>
   T.ret [.agg (bencs K23 v10).toArray, .int .i64 0, .int .i64 0]))

theorem d5_ok (a0 : ByteArray) : compF Tryz.prog Tryz.f5 [.string a0] = d5 a0 := by kernel_rfl

/-- 9 replica/replicaref12.cut -/
def d9 (a0 : ByteArray) : T :=
 T.call 22 [.string a0, .int .i64 0] [.b (.int .i64)] fun (r0 : Int × Unit) =>
 T.loop [.b (.int .i64), .b .slice] [.int .i64 r0.1, .slice none 0 0] fun (j1 : Lab) (y2 : Int × Sl × Unit) =>
 cond (decide (y2.1 < (a0.size : Int)))
 (T.new [.int .i64 0, .int .i64 0, .string (bs [])] 63 fun (p3 : Addr) =>
  T.store p3 [.int .i64 2, .int .i64 y2.1, .string (bs [])] <|
  chk (decide (0 ≤ y2.1 ∧ y2.1 < (a0.size : Int))) <|
  T.call 23 [.int .u8 (byteAt a0 y2.1)] [.b .bool] fun (r4 : Bool × Unit) =>
  T.blk [.b (.int .i64)] (fun (j5 : Lab) =>
   cond (r4.1)
   (T.loop [.b (.int .i64), .b .bool] [.int .i64 y2.1, .bool r4.1] fun (j7 : Lab) (y8 : Int × Bool × Unit) =>
    cond (y8.2.1)
    (cond (decide (IntKind.wrap .i64 (y8.1 + 1) < (a0.size : Int)))
     (chk (decide (0 ≤ (IntKind.wrap .i64 (y8.1 + 1)) ∧ (IntKind.wrap .i64 (y8.1 + 1)) < (a0.size : Int))) <|
      T.call 23 [.int .u8 (byteAt a0 (IntKind.wrap .i64 (y8.1 + 1)))] [.b .bool] fun (r9 : Bool × Unit) =>
      T.jump j7 [.int .i64 (IntKind.wrap .i64 (y8.1 + 1)), .bool r9.1])
     (T.jump j7 [.int .i64 (IntKind.wrap .i64 (y8.1 + 1)), .bool false]))
    (chk (decide (0 ≤ y2.1 ∧ y2.1 ≤ y8.1 ∧ y8.1 ≤ (a0.size : Int))) <|
     T.store (p3.add 2) [.string (a0.extract y2.1.toNat y8.1.toNat)] <|
     T.jump j5 [.int .i64 y8.1]))
   (T.blk [.b .bool] (fun (j10 : Lab) =>
     chk (decide (0 ≤ y2.1 ∧ y2.1 < (a0.size : Int))) <|
     cond ((byteAt a0 y2.1) == 123)
     (T.jump j10 [.bool true])
     (chk (decide (0 ≤ y2.1 ∧ y2.1 < (a0.size : Int))) <|
      cond ((byteAt a0 y2.1) == 125)
      (T.jump j10 [.bool true])
      (chk (decide (0 ≤ y2.1 ∧ y2.1 < (a0.size : Int))) <|
       T.jump j10 [.bool ((byteAt a0 y2.1) == 59)])))
    fun (y11 : Bool × Unit) =>
    cond (y11.1)
    (T.store p3 [.int .i64 3] <|
     chk (decide (0 ≤ y2.1 ∧ y2.1 ≤ (IntKind.wrap .i64 (y2.1 + 1)) ∧ (IntKind.wrap .i64 (y2.1 + 1)) ≤ (a0.size : Int))) <|
     T.store (p3.add 2) [.string (a0.extract y2.1.toNat (IntKind.wrap .i64 (y2.1 + 1)).toNat)] <|
     T.jump j5 [.int .i64 (IntKind.wrap .i64 (y2.1 + 1))])
    (chk (decide (0 ≤ y2.1 ∧ y2.1 < (a0.size : Int))) <|
     cond ((byteAt a0 y2.1) == 34)
     (T.call 24 [.string a0, .int .i64 y2.1] [.agg K63, .b (.int .i64)] fun (r12 : Ty63 × Int × Unit) =>
      T.store p3 (bencs K63 r12.1) <|
      T.jump j5 [.int .i64 r12.2.1])
     (T.store p3 [.int .i64 1] <|
      T.jump j5 [.int .i64 y2.1]))))
  fun (y6 : Int × Unit) =>
  T.load (.agg K63) p3 fun (v13 : Ty63) =>
  T.op (vOf (Instr.buildSlice 35 1 #[(0, .agg (bencs K63 v13).toArray)])) [.b .slice] fun (x14 : Sl × Unit) =>
  T.op (vOf (Builtin.append_ #[35, 35] 35 #[.slice y2.2.1.a y2.2.1.len y2.2.1.cap, .slice x14.1.a x14.1.len x14.1.cap])) [.b .slice] fun (x15 : Sl × Unit) =>
  T.load (.b (.int .i64)) p3 fun (v16 : Int) =>
  cond (v16 == 1)
  (T.ret [.slice x15.1.a x15.1.len x15.1.cap])
  (T.call 22 [.string a0, .int .i64 y6.1] [.b (.int .i64)] fun (r17 : Int × Unit) =>
   T.jump j1 [.int .i64 r17.1, .slice x15.1.a x15.1.len x15.1.cap]))
 (T.op (vOf (Instr.buildSlice 35 1 #[(0, .agg #[.int .i64 0, .int .i64 (a0.size : Int), .string (bs [])])])) [.b .slice] fun (x18 : Sl × Unit) =>
  T.op (vOf (Builtin.append_ #[35, 35] 35 #[.slice y2.2.1.a y2.2.1.len y2.2.1.cap, .slice x18.1.a x18.1.len x18.1.cap])) [.b .slice] fun (x19 : Sl × Unit) =>
  T.ret [.slice x19.1.a x19.1.len x19.1.cap])

theorem d9_ok (a0 : ByteArray) : compF Tryz.prog Tryz.f9 [.string a0] = d9 a0 := by kernel_rfl

/-- 10 (*replica/replicaref12.File).file -/
def d10 (a0 : Addr) : T :=
 T.call 25 [.pointer (some a0)] [.agg K63, .b .bool] fun (r0 : Ty63 × Bool × Unit) =>
 T.new [.int .i64 0, .int .i64 0, .string (bs [])] 63 fun (p1 : Addr) =>
 T.store p1 (bencs K63 r0.1) <|
 cond (!r0.2.1)
 (T.ret [.bool false])
 (T.blk [.b .bool] (fun (j2 : Lab) =>
   T.load (.b (.int .i64)) p1 fun (v4 : Int) =>
   cond (v4 != 2)
   (T.jump j2 [.bool true])
   (T.load (.b .string) (p1.add 2) fun (v5 : ByteArray) =>
    T.jump j2 [.bool (!(v5.toList == (bs [114, 101, 115, 111, 117, 114, 99, 101]).toList))]))
  fun (y3 : Bool × Unit) =>
  cond (y3.1)
  (T.load (.b (.int .i64)) (p1.add 1) fun (v6 : Int) =>
   T.call 26 [.pointer (some a0), .int .i64 121, .int .i64 v6] [.b .bool] fun (r7 : Bool × Unit) =>
   T.ret [.bool r7.1])
  (T.call 25 [.pointer (some a0)] [.agg K63, .b .bool] fun (r8 : Ty63 × Bool × Unit) =>
   T.store p1 (bencs K63 r8.1) <|
   cond (!r8.2.1)
   (T.ret [.bool false])
   (T.load (.b (.int .i64)) p1 fun (v9 : Int) =>
    cond (v9 != 2)
    (T.load (.b (.int .i64)) (p1.add 1) fun (v10 : Int) =>
     T.call 26 [.pointer (some a0), .int .i64 121, .int .i64 v10] [.b .bool] fun (r11 : Bool × Unit) =>
     T.ret [.bool r11.1])
    (T.load (.b .string) (p1.add 2) fun (v12 : ByteArray) =>
     T.call 27 [.string v12] [.b .bool] fun (r13 : Bool × Unit) =>
     cond (!r13.1)
     (T.load (.b (.int .i64)) (p1.add 1) fun (v14 : Int) =>
      T.call 26 [.pointer (some a0), .int .i64 124, .int .i64 v14] [.b .bool] fun (r15 : Bool × Unit) =>
      T.ret [.bool r15.1])
     (T.load (.b .string) (p1.add 2) fun (v16 : ByteArray) =>
      T.store (a0.add 2) [.string v16] <|
      T.call 28 [.pointer (some a0), .string (bs [123])] [.b .bool] fun (r17 : Bool × Unit) =>
      cond (!r17.1)
      (T.ret [.bool false])
      (T.call 29 [.pointer (some a0)] [.b (.int .i64), .b .bool] fun (r18 : Int × Bool × Unit) =>
       cond (!r18.2.1)
       (T.ret [.bool false])
       (T.blk [.b .bool] (fun (j19 : Lab) =>
         chk (decide (0 ≤ (1 : Int) ∧ (1 : Int) < (16 : Int))) <|
         T.load (.b .bool) (((a0.add 2).add 18).add ((1 : Int).toNat * 1)) fun (v21 : Bool) =>
         cond (!v21)
         (T.jump j19 [.bool true])
         (chk (decide (0 ≤ (2 : Int) ∧ (2 : Int) < (16 : Int))) <|
          T.load (.b .bool) (((a0.add 2).add 18).add ((2 : Int).toNat * 1)) fun (v22 : Bool) =>
          T.jump j19 [.bool !v22]))
        fun (y20 : Bool × Unit) =>
        cond (y20.1)
        (T.call 26 [.pointer (some a0), .int .i64 125, .int .i64 r18.1] [.b .bool] fun (r23 : Bool × Unit) =>
         T.ret [.bool r23.1])
        (T.load (.agg K40) (a0.add 2) fun (v24 : Ty40) =>
         T.call 11 [.agg (bencs K40 v24).toArray] [.agg K23] fun (r25 : Ty23 × Unit) =>
         T.new Z23 23 fun (p26 : Addr) =>
         T.store p26 (bencs K23 r25.1) <|
         T.load (.agg K23) p26 fun (v27 : Ty23) =>
         T.call 30 [.agg (bencs K23 v27).toArray] [.b .bool] fun (r28 : Bool × Unit) =>
         cond (!r28.1)
         (T.call 26 [.pointer (some a0), .int .i64 124, .int .i64 r18.1] [.b .bool] fun (r29 : Bool × Unit) =>
          T.ret [.bool r29.1])
         (T.draw <|
          T.load (.b .slice) a0 fun (v30 : Sl) =>
          T.load (.b (.int .i64)) (a0.add 1) fun (v31 : Int) =>
          chk ((v30.a.isSome && decide (0 ≤ v31 ∧ v31 < (v30.len : Int)))) <|
          T.load (.agg K63) ((v30.a.getD default).add (v31.toNat * 3)) fun (v32 : Ty63) =>
          T.new [.int .i64 0, .int .i64 0, .string (bs [])] 63 fun (p33 : Addr) =>
          T.hold [(((v30.a.getD default).add (v31.toNat * 3)), (bencs K63 v32)), ((a0.add 1), [.int .i64 v31]), (a0, [.slice v30.a v30.len v30.cap])] <|
          T.store p33 (bencs K63 v32) <|
          T.load (.b (.int .i64)) p33 fun (v34 : Int) =>
          cond (v34 != 0)
          (T.load (.b (.int .i64)) (p33.add 1) fun (v35 : Int) =>
           T.call 26 [.pointer (some a0), .int .i64 121, .int .i64 v35] [.b .bool] fun (r36 : Bool × Unit) =>
           T.ret [.bool r36.1])
          (T.ret [.bool true]))))))))))

theorem d10_ok (a0 : Addr) : compF Tryz.prog Tryz.f10 [.pointer (some a0)] = d10 a0 := by kernel_rfl

/-- 11 replica/replicaref12.config -/
def d11 (a0 : Ty40) : T :=
 T.new (bencs K40 a0) 40 fun (p0 : Addr) =>
 T.new Z23 23 fun (p1 : Addr) =>
 T.call 31 [] [.agg K74] fun (r2 : Ty74 × Unit) =>
 T.new Z74 74 fun (p3 : Addr) =>
 T.store p3 (bencs K74 r2.1) <|
 T.loop [.b (.int .i64)] [.int .i64 0] fun (j4 : Lab) (y5 : Int × Unit) =>
 cond (decide (y5.1 < 16))
 (T.blk [] (fun (j6 : Lab) =>
   chk (decide (0 ≤ y5.1 ∧ y5.1 < (16 : Int))) <|
   T.load (.b .bool) ((p0.add 18).add (y5.1.toNat * 1)) fun (v8 : Bool) =>
   cond (!v8)
   (chk (decide (0 ≤ y5.1 ∧ y5.1 < (16 : Int))) <|
    T.load (.b (.int .i64)) ((p3.add (y5.1.toNat * 5)).add 4) fun (v9 : Int) =>
    chk (decide (0 ≤ y5.1 ∧ y5.1 < (16 : Int))) <|
    T.store ((p0.add 2).add (y5.1.toNat * 1)) [.int .i64 v9] <|
    T.jump j6 [])
   (T.jump j6 []))
  fun (_ : Unit) =>
  T.jump j4 [.int .i64 (IntKind.wrap .i64 (y5.1 + 1))])
 (T.load (.agg K37) (p0.add 2) fun (v10 : Ty37) =>
  T.new Z37 37 fun (p11 : Addr) =>
  T.store p11 (bencs K37 v10) <|
  T.load (.b .string) p0 fun (v12 : ByteArray) =>
  T.load (.b .string) (p0.add 1) fun (v13 : ByteArray) =>
  chk (decide (0 ≤ (0 : Int) ∧ (0 : Int) < (16 : Int))) <|
  T.load (.b (.int .i64)) (p11.add ((0 : Int).toNat * 1)) fun (v14 : Int) =>
  chk (decide (0 ≤ (1 : Int) ∧ (1 : Int) < (16 : Int))) <|
  T.load (.b (.int .i64)) (p11.add ((1 : Int).toNat * 1)) fun (v15 : Int) =>
  chk (decide (0 ≤ (2 : Int) ∧ (2 : Int) < (16 : Int))) <|
  T.load (.b (.int .i64)) (p11.add ((2 : Int).toNat * 1)) fun (v16 : Int) =>
  chk (decide (0 ≤ (3 : Int) ∧ (3 : Int) < (16 : Int))) <|
  T.load (.b (.int .i64)) (p11.add ((3 : Int).toNat * 1)) fun (v17 : Int) =>
  chk (decide (0 ≤ (4 : Int) ∧ (4 : Int) < (16 : Int))) <|
  T.load (.b (.int .i64)) (p11.add ((4 : Int).toNat * 1)) fun (v18 : Int) =>
  chk (decide (0 ≤ (5 : Int) ∧ (5 : Int) < (16 : Int))) <|
  T.load (.b (.int .i64)) (p11.add ((5 : Int).toNat * 1)) fun (v19 : Int) =>
  chk (decide (0 ≤ (6 : Int) ∧ (6 : Int) < (16 : Int))) <|
  T.load (.b (.int .i64)) (p11.add ((6 : Int).toNat * 1)) fun (v20 : Int) =>
  chk (decide (0 ≤ (7 : Int) ∧ (7 : Int) < (16 : Int))) <|
  T.load (.b (.int .i64)) (p11.add ((7 : Int).toNat * 1)) fun (v21 : Int) =>
  chk (decide (0 ≤ (8 : Int) ∧ (8 : Int) < (16 : Int))) <|
  T.load (.b (.int .i64)) (p11.add ((8 : Int).toNat * 1)) fun (v22 : Int) =>
  chk (decide (0 ≤ (9 : Int) ∧ (9 : Int) < (16 : Int))) <|
  T.load (.b (.int .i64)) (p11.add ((9 : Int).toNat * 1)) fun (v23 : Int) =>
  chk (decide (0 ≤ (10 : Int) ∧ (10 : Int) < (16 : Int))) <|
  T.load (.b (.int .i64)) (p11.add ((10 : Int).toNat * 1)) fun (v24 : Int) =>
  chk (decide (0 ≤ (11 : Int) ∧ (11 : Int) < (16 : Int))) <|
  T.load (.b (.int .i64)) (p11.add ((11 : Int).toNat * 1)) fun (v25 : Int) =>
  chk (decide (0 ≤ (12 : Int) ∧ (12 : Int) < (16 : Int))) <|
  T.load (.b (.int .i64)) (p11.add ((12 : Int).toNat * 1)) fun (v26 : Int) =>
  chk (decide (0 ≤ (13 : Int) ∧ (13 : Int) < (16 : Int))) <|
  T.load (.b (.int .i64)) (p11.add ((13 : Int).toNat * 1)) fun (v27 : Int) =>
  chk (decide (0 ≤ (14 : Int) ∧ (14 : Int) < (16 : Int))) <|
  T.load (.b (.int .i64)) (p11.add ((14 : Int).toNat * 1)) fun (v28 : Int) =>
  chk (decide (0 ≤ (15 : Int) ∧ (15 : Int) < (16 : Int))) <|
  T.load (.b (.int .i64)) (p11.add ((15 : Int).toNat * 1)) fun (v29 : Int) =>
  T.store p1 [.string v12, .int .i64 v15, .int .i64 v16, .int .i64 v17, .int .i64 v14, .int .i64 v18, .int .i64 v19, .int .i64 v20, .int .i64 v21, .int .i64 v22, .int .i64 v23, .string v13, .int .i64 v24, .int .i64 v25, .int .i64 v26, .int .i64 v27, .int .i64 v28, .int .i64 v29] <|
  T.load (.agg K23) p1 fun (v30 : Ty23) =>
  T.ret [.agg (bencs K23 v30).toArray])

theorem d11_ok (a0 : Ty40) : compF Tryz.prog Tryz.f11 [.agg (bencs K40 a0).toArray] = d11 a0 := by kernel_rfl

/-- 22 replica/replicaref12.blank -/
def d22 (a0 : ByteArray) (a1 : Int) : T :=
 T.loop [.b (.int .i64)] [.int .i64 a1] fun (j0 : Lab) (y1 : Int × Unit) =>
 cond (decide (y1.1 < (a0.size : Int)))
 (chk (decide (0 ≤ y1.1 ∧ y1.1 < (a0.size : Int))) <|
  T.blk [.b .bool] (fun (j2 : Lab) =>
   cond ((byteAt a0 y1.1) == 32)
   (T.jump j2 [.bool ((byteAt a0 y1.1) == 32)])
   (cond ((byteAt a0 y1.1) == 9)
    (T.jump j2 [.bool ((byteAt a0 y1.1) == 9)])
    (cond ((byteAt a0 y1.1) == 10)
     (T.jump j2 [.bool ((byteAt a0 y1.1) == 10)])
     (T.jump j2 [.bool ((byteAt a0 y1.1) == 13)]))))
  fun (y3 : Bool × Unit) =>
  cond (y3.1)
  (T.jump j0 [.int .i64 (IntKind.wrap .i64 (y1.1 + 1))])
  (cond ((byteAt a0 y1.1) == 35)
   (T.loop [.b (.int .i64)] [.int .i64 y1.1] fun (j4 : Lab) (y5 : Int × Unit) =>
    T.blk [.b .bool] (fun (j6 : Lab) =>
     cond (decide (y5.1 < (a0.size : Int)))
     (chk (decide (0 ≤ y5.1 ∧ y5.1 < (a0.size : Int))) <|
      T.jump j6 [.bool ((byteAt a0 y5.1) != 10)])
     (T.jump j6 [.bool false]))
    fun (y7 : Bool × Unit) =>
    cond (y7.1)
    (T.jump j4 [.int .i64 (IntKind.wrap .i64 (y5.1 + 1))])
    (T.jump j0 [.int .i64 y5.1]))
   (T.ret [.int .i64 y1.1])))
 (T.ret [.int .i64 y1.1])

theorem d22_ok (a0 : ByteArray) (a1 : Int) : compF Tryz.prog Tryz.f22 [.string a0, .int .i64 a1] = d22 a0 a1 := by kernel_rfl

/-- 23 replica/replicaref12.wordy -/
def d23 (a0 : Int) : T :=
 T.blk [.b .bool] (fun (j0 : Lab) =>
  cond (decide (a0 ≥ 97))
  (cond (decide (a0 ≤ 122))
   (T.jump j0 [.bool true])
   (cond (decide (a0 ≥ 65))
    (cond (decide (a0 ≤ 90))
     (T.jump j0 [.bool true])
     (cond (decide (a0 ≥ 48))
      (cond (decide (a0 ≤ 57))
       (T.jump j0 [.bool true])
       (cond (a0 == 45)
        (T.jump j0 [.bool true])
        (cond (a0 == 95)
         (T.jump j0 [.bool true])
         (T.jump j0 [.bool (a0 == 46)]))))
      (cond (a0 == 45)
       (T.jump j0 [.bool true])
       (cond (a0 == 95)
        (T.jump j0 [.bool true])
        (T.jump j0 [.bool (a0 == 46)])))))
    (cond (decide (a0 ≥ 48))
     (cond (decide (a0 ≤ 57))
      (T.jump j0 [.bool true])
      (cond (a0 == 45)
       (T.jump j0 [.bool true])
       (cond (a0 == 95)
        (T.jump j0 [.bool true])
        (T.jump j0 [.bool (a0 == 46)]))))
     (cond (a0 == 45)
      (T.jump j0 [.bool true])
      (cond (a0 == 95)
       (T.jump j0 [.bool true])
       (T.jump j0 [.bool (a0 == 46)]))))))
  (cond (decide (a0 ≥ 65))
   (cond (decide (a0 ≤ 90))
    (T.jump j0 [.bool true])
    (cond (decide (a0 ≥ 48))
     (cond (decide (a0 ≤ 57))
      (T.jump j0 [.bool true])
      (cond (a0 == 45)
       (T.jump j0 [.bool true])
       (cond (a0 == 95)
        (T.jump j0 [.bool true])
        (T.jump j0 [.bool (a0 == 46)]))))
     (cond (a0 == 45)
      (T.jump j0 [.bool true])
      (cond (a0 == 95)
       (T.jump j0 [.bool true])
       (T.jump j0 [.bool (a0 == 46)])))))
   (cond (decide (a0 ≥ 48))
    (cond (decide (a0 ≤ 57))
     (T.jump j0 [.bool true])
     (cond (a0 == 45)
      (T.jump j0 [.bool true])
      (cond (a0 == 95)
       (T.jump j0 [.bool true])
       (T.jump j0 [.bool (a0 == 46)]))))
    (cond (a0 == 45)
     (T.jump j0 [.bool true])
     (cond (a0 == 95)
      (T.jump j0 [.bool true])
      (T.jump j0 [.bool (a0 == 46)]))))))
 fun (y1 : Bool × Unit) =>
 T.ret [.bool y1.1]

theorem d23_ok (a0 : Int) : compF Tryz.prog Tryz.f23 [.int .u8 a0] = d23 a0 := by kernel_rfl

/-- 24 replica/replicaref12.quoted -/
def d24 (a0 : ByteArray) (a1 : Int) : T :=
 T.new [.int .i64 0, .int .i64 0, .string (bs [])] 63 fun (p0 : Addr) =>
 T.new [.int .i64 0, .int .i64 0, .string (bs [])] 63 fun (p1 : Addr) =>
 T.store p1 [.int .i64 4, .int .i64 a1, .string (bs [])] <|
 T.loop [.b .slice, .b (.int .i64)] [.slice none 0 0, .int .i64 (IntKind.wrap .i64 (a1 + 1))] fun (j2 : Lab) (y3 : Sl × Int × Unit) =>
 cond (decide (y3.2.1 < (a0.size : Int)))
 (chk (decide (0 ≤ y3.2.1 ∧ y3.2.1 < (a0.size : Int))) <|
  cond ((byteAt a0 y3.2.1) == 34)
  (T.op (vOf (convert 86 9 (.slice y3.1.a y3.1.len y3.1.cap))) [.b .string] fun (x4 : ByteArray × Unit) =>
   T.store (p1.add 2) [.string x4.1] <|
   T.load (.agg K63) p1 fun (v5 : Ty63) =>
   T.store p0 (bencs K63 v5) <|
   T.load (.agg K63) p0 fun (v6 : Ty63) =>
   T.ret [.agg (bencs K63 v6).toArray, .int .i64 (IntKind.wrap .i64 (y3.2.1 + 1))])
  (T.blk [.b (.int .i64), .b (.int .i64)] (fun (j7 : Lab) =>
    chk (decide (0 ≤ y3.2.1 ∧ y3.2.1 < (a0.size : Int))) <|
    cond ((byteAt a0 y3.2.1) == 92)
    (T.call 39 [.string a0, .int .i64 y3.2.1] [.b (.int .i64), .b (.int .i64)] fun (r9 : Int × Int × Unit) =>
     T.jump j7 [.int .i64 r9.1, .int .i64 r9.2.1])
    (T.call 40 [.string a0, .int .i64 y3.2.1] [.b (.int .i64), .b (.int .i64)] fun (r10 : Int × Int × Unit) =>
     T.blk [.b .bool] (fun (j11 : Lab) =>
      cond (decide (r10.2.1 < 32))
      (T.jump j11 [.bool true])
      (T.jump j11 [.bool (r10.2.1 == 127)]))
     fun (y12 : Bool × Unit) =>
     cond (y12.1)
     (T.jump j7 [.int .i64 0, .int .i64 r10.2.1])
     (T.jump j7 [.int .i64 r10.1, .int .i64 r10.2.1])))
   fun (y8 : Int × Int × Unit) =>
   cond (y8.1 == 0)
   (T.store p0 [.int .i64 1, .int .i64 y3.2.1, .string (bs [])] <|
    T.load (.agg K63) p0 fun (v13 : Ty63) =>
    T.ret [.agg (bencs K63 v13).toArray, .int .i64 y3.2.1])
   (T.call 41 [.int .i64 y8.2.1] [.b .slice] fun (r14 : Sl × Unit) =>
    T.op (vOf (Builtin.append_ #[86, 86] 86 #[.slice y3.1.a y3.1.len y3.1.cap, .slice r14.1.a r14.1.len r14.1.cap])) [.b .slice] fun (x15 : Sl × Unit) =>
    T.jump j2 [.slice x15.1.a x15.1.len x15.1.cap, .int .i64 (IntKind.wrap .i64 (y3.2.1 + y8.1))])))
 (T.store p0 [.int .i64 1, .int .i64 (a0.size : Int), .string (bs [])] <|
  T.load (.agg K63) p0 fun (v16 : Ty63) =>
  T.ret [.agg (bencs K63 v16).toArray, .int .i64 y3.2.1])

theorem d24_ok (a0 : ByteArray) (a1 : Int) : compF Tryz.prog Tryz.f24 [.string a0, .int .i64 a1] = d24 a0 a1 := by kernel_rfl

/-- 25 (*replica/replicaref12.File).next -/
def d25 (a0 : Addr) : T :=
 T.new [.int .i64 0, .int .i64 0, .string (bs [])] 63 fun (p0 : Addr) =>
 T.draw <|
 T.load (.b .slice) a0 fun (v1 : Sl) =>
 T.load (.b (.int .i64)) (a0.add 1) fun (v2 : Int) =>
 chk ((v1.a.isSome && decide (0 ≤ v2 ∧ v2 < (v1.len : Int)))) <|
 T.load (.agg K63) ((v1.a.getD default).add (v2.toNat * 3)) fun (v3 : Ty63) =>
 T.new [.int .i64 0, .int .i64 0, .string (bs [])] 63 fun (p4 : Addr) =>
 T.hold [(((v1.a.getD default).add (v2.toNat * 3)), (bencs K63 v3)), ((a0.add 1), [.int .i64 v2]), (a0, [.slice v1.a v1.len v1.cap])] <|
 T.store p4 (bencs K63 v3) <|
 T.blk [.b .bool] (fun (j5 : Lab) =>
  T.load (.b (.int .i64)) p4 fun (v7 : Int) =>
  cond (v7 == 0)
  (T.jump j5 [.bool true])
  (T.load (.b (.int .i64)) p4 fun (v8 : Int) =>
   T.jump j5 [.bool (v8 == 1)]))
 fun (y6 : Bool × Unit) =>
 cond (y6.1)
 (T.draw <|
  T.load (.agg K63) p4 fun (v9 : Ty63) =>
  T.load (.b (.int .i64)) (p4.add 1) fun (v10 : Int) =>
  T.call 26 [.pointer (some a0), .int .i64 121, .int .i64 v10] [.b .bool] fun (r11 : Bool × Unit) =>
  T.hold [(p4, (bencs K63 v9))] <|
  T.store p0 (bencs K63 v9) <|
  T.load (.agg K63) p0 fun (v12 : Ty63) =>
  T.ret [.agg (bencs K63 v12).toArray, .bool r11.1])
 (T.load (.b (.int .i64)) (a0.add 1) fun (v13 : Int) =>
  T.store (a0.add 1) [.int .i64 (IntKind.wrap .i64 (v13 + 1))] <|
  T.load (.agg K63) p4 fun (v14 : Ty63) =>
  T.store p0 (bencs K63 v14) <|
  T.load (.agg K63) p0 fun (v15 : Ty63) =>
  T.ret [.agg (bencs K63 v15).toArray, .bool true])

theorem d25_ok (a0 : Addr) : compF Tryz.prog Tryz.f25 [.pointer (some a0)] = d25 a0 := by kernel_rfl

/-- 26 (*replica/replicaref12.File).fail -/
def d26 (a0 : Addr) (a1 : Int) (a2 : Int) : T :=
 T.store (a0.add 37) [.int .i64 a1] <|
 T.store (a0.add 38) [.int .i64 a2] <|
 T.ret [.bool false]

theorem d26_ok (a0 : Addr) (a1 : Int) (a2 : Int) : compF Tryz.prog Tryz.f26 [.pointer (some a0), .int .i64 a1, .int .i64 a2] = d26 a0 a1 a2 := by kernel_rfl

/-- 27 replica/replicaref12.name -/
def d27 (a0 : ByteArray) : T :=
 T.blk [.b .bool] (fun (j0 : Lab) =>
  cond (decide ((a0.size : Int) < 1))
  (T.jump j0 [.bool true])
  (T.jump j0 [.bool (decide ((a0.size : Int) > 31))]))
 fun (y1 : Bool × Unit) =>
 cond (y1.1)
 (T.ret [.bool false])
 (T.loop [.b (.int .i64)] [.int .i64 0] fun (j2 : Lab) (y3 : Int × Unit) =>
  cond (decide (y3.1 < (a0.size : Int)))
  (chk (decide (0 ≤ y3.1 ∧ y3.1 < (a0.size : Int))) <|
   T.blk [.b .bool] (fun (j4 : Lab) =>
    cond (decide (byteAt a0 y3.1 ≥ 97))
    (cond (decide (byteAt a0 y3.1 ≤ 122))
     (T.jump j4 [.bool true])
     (cond (decide (byteAt a0 y3.1 ≥ 65))
      (T.jump j4 [.bool (decide (byteAt a0 y3.1 ≤ 90))])
      (T.jump j4 [.bool false])))
    (cond (decide (byteAt a0 y3.1 ≥ 65))
     (T.jump j4 [.bool (decide (byteAt a0 y3.1 ≤ 90))])
     (T.jump j4 [.bool false])))
   fun (y5 : Bool × Unit) =>
   T.blk [.b .bool] (fun (j6 : Lab) =>
    cond (decide (byteAt a0 y3.1 ≥ 48))
    (cond (decide (byteAt a0 y3.1 ≤ 57))
     (T.jump j6 [.bool true])
     (cond ((byteAt a0 y3.1) == 45)
      (T.jump j6 [.bool true])
      (T.jump j6 [.bool ((byteAt a0 y3.1) == 95)])))
    (cond ((byteAt a0 y3.1) == 45)
     (T.jump j6 [.bool true])
     (T.jump j6 [.bool ((byteAt a0 y3.1) == 95)])))
   fun (y7 : Bool × Unit) =>
   T.blk [.b .bool] (fun (j8 : Lab) =>
    cond (!y5.1)
    (cond (y3.1 == 0)
     (T.jump j8 [.bool true])
     (T.jump j8 [.bool !y7.1]))
    (T.jump j8 [.bool false]))
   fun (y9 : Bool × Unit) =>
   cond (y9.1)
   (T.ret [.bool false])
   (T.jump j2 [.int .i64 (IntKind.wrap .i64 (y3.1 + 1))]))
  (T.ret [.bool true]))

theorem d27_ok (a0 : ByteArray) : compF Tryz.prog Tryz.f27 [.string a0] = d27 a0 := by kernel_rfl

/-- 28 (*replica/replicaref12.File).mark -/
def d28 (a0 : Addr) (a1 : ByteArray) : T :=
 T.call 25 [.pointer (some a0)] [.agg K63, .b .bool] fun (r0 : Ty63 × Bool × Unit) =>
 T.new [.int .i64 0, .int .i64 0, .string (bs [])] 63 fun (p1 : Addr) =>
 T.store p1 (bencs K63 r0.1) <|
 cond (!r0.2.1)
 (T.ret [.bool false])
 (T.blk [.b .bool] (fun (j2 : Lab) =>
   T.load (.b (.int .i64)) p1 fun (v4 : Int) =>
   cond (v4 != 3)
   (T.jump j2 [.bool true])
   (T.load (.b .string) (p1.add 2) fun (v5 : ByteArray) =>
    T.jump j2 [.bool (!(v5.toList == a1.toList))]))
  fun (y3 : Bool × Unit) =>
  cond (y3.1)
  (T.load (.b (.int .i64)) (p1.add 1) fun (v6 : Int) =>
   T.call 26 [.pointer (some a0), .int .i64 121, .int .i64 v6] [.b .bool] fun (r7 : Bool × Unit) =>
   T.ret [.bool r7.1])
  (T.ret [.bool true]))

theorem d28_ok (a0 : Addr) (a1 : ByteArray) : compF Tryz.prog Tryz.f28 [.pointer (some a0), .string a1] = d28 a0 a1 := by kernel_rfl

/-- 29 (*replica/replicaref12.File).resource -/
def d29 (a0 : Addr) : T :=
 T.call 31 [] [.agg K74] fun (r0 : Ty74 × Unit) =>
 T.new Z74 74 fun (p1 : Addr) =>
 T.store p1 (bencs K74 r0.1) <|
 T.loop [.b .slice] [.slice none 0 0] fun (j2 : Lab) (y3 : Sl × Unit) =>
 T.call 42 [.pointer (some a0)] [.agg K63, .b .bool, .b .bool] fun (r4 : Ty63 × Bool × Bool × Unit) =>
 T.new [.int .i64 0, .int .i64 0, .string (bs [])] 63 fun (p5 : Addr) =>
 T.store p5 (bencs K63 r4.1) <|
 T.blk [.b .bool] (fun (j6 : Lab) =>
  cond (!r4.2.2.1)
  (T.jump j6 [.bool true])
  (T.jump j6 [.bool r4.2.1]))
 fun (y7 : Bool × Unit) =>
 cond (y7.1)
 (T.load (.b (.int .i64)) (p5.add 1) fun (v8 : Int) =>
  T.ret [.int .i64 v8, .bool r4.2.2.1])
 (T.load (.b .string) (p5.add 2) fun (v9 : ByteArray) =>
  T.blk [.b .bool] (fun (j10 : Lab) =>
   cond (!(v9.toList == (bs [112, 114, 111, 116, 111, 99, 111, 108]).toList))
   (cond (!(v9.toList == (bs [100, 101, 118, 105, 99, 101]).toList))
    (cond (!(v9.toList == (bs [110, 101, 116]).toList))
     (T.jump j10 [.bool (!(v9.toList == (bs [115, 121, 110, 99, 101, 114]).toList))])
     (T.jump j10 [.bool false]))
    (T.jump j10 [.bool false]))
   (T.jump j10 [.bool false]))
  fun (y11 : Bool × Unit) =>
  cond (y11.1)
  (T.load (.b (.int .i64)) (p5.add 1) fun (v12 : Int) =>
   T.call 26 [.pointer (some a0), .int .i64 122, .int .i64 v12] [.b .bool] fun (r13 : Bool × Unit) =>
   T.ret [.int .i64 0, .bool r13.1])
  (T.loop [.b (.int .i64)] [.int .i64 0] fun (j14 : Lab) (y15 : Int × Unit) =>
   cond (decide (y15.1 < (y3.1.len : Int)))
   (chk ((y3.1.a.isSome && decide (0 ≤ y15.1 ∧ y15.1 < (y3.1.len : Int)))) <|
    T.load (.b .string) ((y3.1.a.getD default).add (y15.1.toNat * 1)) fun (v16 : ByteArray) =>
    cond (v16.toList == v9.toList)
    (T.load (.b (.int .i64)) (p5.add 1) fun (v17 : Int) =>
     T.call 26 [.pointer (some a0), .int .i64 123, .int .i64 v17] [.b .bool] fun (r18 : Bool × Unit) =>
     T.ret [.int .i64 0, .bool r18.1])
    (T.jump j14 [.int .i64 (IntKind.wrap .i64 (y15.1 + 1))]))
   (T.op (vOf (Instr.buildSlice 79 1 #[(0, .string v9)])) [.b .slice] fun (x19 : Sl × Unit) =>
    T.op (vOf (Builtin.append_ #[79, 79] 79 #[.slice y3.1.a y3.1.len y3.1.cap, .slice x19.1.a x19.1.len x19.1.cap])) [.b .slice] fun (x20 : Sl × Unit) =>
    T.blk [.b .bool] (fun (j21 : Lab) =>
     cond (v9.toList == (bs [112, 114, 111, 116, 111, 99, 111, 108]).toList)
     (chk (decide (0 ≤ (0 : Int) ∧ (0 : Int) < (16 : Int))) <|
      T.load (.agg K73) (p1.add ((0 : Int).toNat * 5)) fun (v23 : Ty73) =>
      T.call 43 [.pointer (some a0), .agg (bencs K73 v23).toArray, .int .i64 0] [.b .bool] fun (r24 : Bool × Unit) =>
      T.jump j21 [.bool r24.1])
     (T.call 28 [.pointer (some a0), .string (bs [123])] [.b .bool] fun (r25 : Bool × Unit) =>
      cond (r25.1)
      (T.call 44 [.pointer (some a0), .string v9] [.b .bool] fun (r26 : Bool × Unit) =>
       T.jump j21 [.bool r26.1])
      (T.jump j21 [.bool r25.1])))
    fun (y22 : Bool × Unit) =>
    cond (!y22.1)
    (T.ret [.int .i64 0, .bool false])
    (T.jump j2 [.slice x20.1.a x20.1.len x20.1.cap]))))

theorem d29_ok (a0 : Addr) : compF Tryz.prog Tryz.f29 [.pointer (some a0)] = d29 a0 := by kernel_rfl

/-- 30 replica/replicaref12.together -/
def d30 (a0 : Ty23) : T :=
 T.new (bencs K23 a0) 23 fun (p0 : Addr) =>
 T.blk [.b .bool] (fun (j1 : Lab) =>
  T.load (.b (.int .i64)) (p0.add 8) fun (v3 : Int) =>
  T.load (.b (.int .i64)) (p0.add 7) fun (v4 : Int) =>
  cond (decide (v3 > v4))
  (T.load (.b (.int .i64)) (p0.add 6) fun (v5 : Int) =>
   T.load (.b (.int .i64)) (p0.add 17) fun (v6 : Int) =>
   T.load (.b (.int .i64)) (p0.add 10) fun (v7 : Int) =>
   T.load (.b (.int .i64)) (p0.add 9) fun (v8 : Int) =>
   T.jump j1 [.bool (decide (v5 ≥ IntKind.wrap .i64 (IntKind.wrap .i64 (IntKind.wrap .i64 ((16 : Int) + IntKind.wrap .i64 ((2 : Int) * v6)) + IntKind.wrap .i64 ((2 : Int) * v7)) + IntKind.wrap .i64 ((8 : Int) * v8))))])
  (T.jump j1 [.bool false]))
 fun (y2 : Bool × Unit) =>
 T.ret [.bool y2.1]

theorem d30_ok (a0 : Ty23) : compF Tryz.prog Tryz.f30 [.agg (bencs K23 a0).toArray] = d30 a0 := by kernel_rfl

/-- 31 replica/replicaref12.table -/
def d31 : T :=
 T.new Z74 74 fun (p0 : Addr) =>
 T.store p0 [.string (bs [112, 114, 111, 116, 111, 99, 111, 108]), .string (bs []), .int .i64 0, .int .i64 0, .int .i64 3, .string (bs [98, 108, 111, 99, 107, 115]), .string (bs [100, 101, 118, 105, 99, 101]), .int .i64 1, .int .i64 4096, .int .i64 (-1), .string (bs [98, 108, 111, 99, 107, 45, 115, 105, 122, 101]), .string (bs [100, 101, 118, 105, 99, 101]), .int .i64 128, .int .i64 1024, .int .i64 (-1), .string (bs [97, 108, 45, 115, 108, 111, 116, 115]), .string (bs [100, 101, 118, 105, 99, 101]), .int .i64 1, .int .i64 16, .int .i64 4, .string (bs [119, 105, 110, 100, 111, 119]), .string (bs [110, 101, 116]), .int .i64 1, .int .i64 64, .int .i64 8, .string (bs [98, 97, 99, 107, 108, 111, 103]), .string (bs [110, 101, 116]), .int .i64 1, .int .i64 1024, .int .i64 256, .string (bs [114, 101, 115, 101, 110, 100]), .string (bs [110, 101, 116]), .int .i64 1, .int .i64 1000, .int .i64 3, .string (bs [116, 105, 109, 101, 111, 117, 116]), .string (bs [110, 101, 116]), .int .i64 1, .int .i64 1000, .int .i64 20, .string (bs [109, 97, 120, 45, 101, 112, 111, 99, 104, 45, 115, 105, 122, 101]), .string (bs [110, 101, 116]), .int .i64 1, .int .i64 64, .int .i64 16, .string (bs [109, 97, 120, 45, 113, 117, 101, 117, 101]), .string (bs [110, 101, 116]), .int .i64 1, .int .i64 256, .int .i64 32, .string (bs [97, 102, 116, 101, 114, 45, 115, 98, 45, 48, 112, 114, 105]), .string (bs [110, 101, 116]), .int .i64 0, .int .i64 0, .int .i64 0, .string (bs [97, 102, 116, 101, 114, 45, 115, 98, 45, 49, 112, 114, 105]), .string (bs [110, 101, 116]), .int .i64 0, .int .i64 0, .int .i64 0, .string (bs [97, 102, 116, 101, 114, 45, 115, 98, 45, 50, 112, 114, 105]), .string (bs [110, 101, 116]), .int .i64 0, .int .i64 0, .int .i64 0, .string (bs [114, 97, 116, 101]), .string (bs [115, 121, 110, 99, 101, 114]), .int .i64 1, .int .i64 1024, .int .i64 4, .string (bs [98, 117, 114, 115, 116]), .string (bs [115, 121, 110, 99, 101, 114]), .int .i64 1, .int .i64 1024, .int .i64 8, .string (bs [97, 104, 101, 97, 100]), .string (bs [115, 121, 110, 99, 101, 114]), .int .i64 1, .int .i64 64, .int .i64 4] <|
 T.load (.agg K74) p0 fun (v1 : Ty74) =>
 T.ret [.agg (bencs K74 v1).toArray]

theorem d31_ok : compF Tryz.prog Tryz.f31 [] = d31 := by kernel_rfl

/-- 39 replica/replicaref12.escape -/
def d39 (a0 : ByteArray) (a1 : Int) : T :=
 cond (decide (IntKind.wrap .i64 (a1 + 1) ≥ (a0.size : Int)))
 (T.ret [.int .i64 0, .int .i64 0])
 (chk (decide (0 ≤ (IntKind.wrap .i64 (a1 + 1)) ∧ (IntKind.wrap .i64 (a1 + 1)) < (a0.size : Int))) <|
  T.blk [.b .bool] (fun (j0 : Lab) =>
   cond ((byteAt a0 (IntKind.wrap .i64 (a1 + 1))) == 34)
   (T.jump j0 [.bool ((byteAt a0 (IntKind.wrap .i64 (a1 + 1))) == 34)])
   (T.jump j0 [.bool ((byteAt a0 (IntKind.wrap .i64 (a1 + 1))) == 92)]))
  fun (y1 : Bool × Unit) =>
  cond (y1.1)
  (T.draw <|
   chk (decide (0 ≤ (IntKind.wrap .i64 (a1 + 1)) ∧ (IntKind.wrap .i64 (a1 + 1)) < (a0.size : Int))) <|
   T.ret [.int .i64 2, .int .i64 (IntKind.wrap .i64 (byteAt a0 (IntKind.wrap .i64 (a1 + 1))))])
  (cond ((byteAt a0 (IntKind.wrap .i64 (a1 + 1))) == 110)
   (T.ret [.int .i64 2, .int .i64 10])
   (cond ((byteAt a0 (IntKind.wrap .i64 (a1 + 1))) == 116)
    (T.ret [.int .i64 2, .int .i64 9])
    (cond ((byteAt a0 (IntKind.wrap .i64 (a1 + 1))) == 117)
     (T.blk [.b .bool] (fun (j2 : Lab) =>
       cond (decide (IntKind.wrap .i64 (a1 + 2) ≥ (a0.size : Int)))
       (T.jump j2 [.bool true])
       (chk (decide (0 ≤ (IntKind.wrap .i64 (a1 + 2)) ∧ (IntKind.wrap .i64 (a1 + 2)) < (a0.size : Int))) <|
        T.jump j2 [.bool ((byteAt a0 (IntKind.wrap .i64 (a1 + 2))) != 123)]))
      fun (y3 : Bool × Unit) =>
      cond (y3.1)
      (T.ret [.int .i64 0, .int .i64 0])
      (T.loop [.b (.int .i64), .b (.int .i64)] [.int .i64 0, .int .i64 0] fun (j4 : Lab) (y5 : Int × Int × Unit) =>
       T.blk [.b .bool] (fun (j6 : Lab) =>
        cond (decide (IntKind.wrap .i64 (IntKind.wrap .i64 (a1 + 3) + y5.2.1) < (a0.size : Int)))
        (T.jump j6 [.bool (decide (y5.2.1 ≤ 6))])
        (T.jump j6 [.bool false]))
       fun (y7 : Bool × Unit) =>
       cond (y7.1)
       (chk (decide (0 ≤ (IntKind.wrap .i64 (IntKind.wrap .i64 (a1 + 3) + y5.2.1)) ∧ (IntKind.wrap .i64 (IntKind.wrap .i64 (a1 + 3) + y5.2.1)) < (a0.size : Int))) <|
        T.call 67 [.int .i64 y5.1] [.b .bool] fun (r8 : Bool × Unit) =>
        T.blk [.b .bool] (fun (j9 : Lab) =>
         cond ((byteAt a0 (IntKind.wrap .i64 (IntKind.wrap .i64 (a1 + 3) + y5.2.1))) == 125)
         (cond (decide (y5.2.1 > 0))
          (T.jump j9 [.bool r8.1])
          (T.jump j9 [.bool false]))
         (T.jump j9 [.bool false]))
        fun (y10 : Bool × Unit) =>
        cond (y10.1)
        (T.ret [.int .i64 (IntKind.wrap .i64 (y5.2.1 + 4)), .int .i64 y5.1])
        (T.call 68 [.int .u8 (byteAt a0 (IntKind.wrap .i64 (IntKind.wrap .i64 (a1 + 3) + y5.2.1)))] [.b (.int .i64)] fun (r11 : Int × Unit) =>
         T.blk [.b .bool] (fun (j12 : Lab) =>
          cond (decide (r11.1 < 0))
          (T.jump j12 [.bool true])
          (T.jump j12 [.bool (y5.2.1 == 6)]))
         fun (y13 : Bool × Unit) =>
         cond (y13.1)
         (T.ret [.int .i64 0, .int .i64 0])
         (T.jump j4 [.int .i64 (IntKind.wrap .i64 (IntKind.wrap .i64 ((16 : Int) * y5.1) + r11.1)), .int .i64 (IntKind.wrap .i64 (y5.2.1 + 1))])))
       (T.ret [.int .i64 0, .int .i64 0])))
     (T.ret [.int .i64 0, .int .i64 0])))))

theorem d39_ok (a0 : ByteArray) (a1 : Int) : compF Tryz.prog Tryz.f39 [.string a0, .int .i64 a1] = d39 a0 a1 := by kernel_rfl

/-- 40 replica/replicaref12.wide -/
def d40 (a0 : ByteArray) (a1 : Int) : T :=
 T.loop [.b (.int .i64)] [.int .i64 1] fun (j0 : Lab) (y1 : Int × Unit) =>
 T.blk [.b .bool] (fun (j2 : Lab) =>
  cond (decide (y1.1 ≤ 4))
  (T.jump j2 [.bool (decide (IntKind.wrap .i64 (a1 + y1.1) ≤ (a0.size : Int)))])
  (T.jump j2 [.bool false]))
 fun (y3 : Bool × Unit) =>
 cond (y3.1)
 (chk (decide (0 ≤ a1 ∧ a1 < (a0.size : Int))) <|
  T.blk [.b (.int .i64)] (fun (j4 : Lab) =>
   cond (decide (y1.1 > 1))
   (chk (decide (0 ≤ a1 ∧ a1 < (a0.size : Int))) <|
    chk (decide (0 ≤ IntKind.wrap .u64 (IntKind.wrap .i64 ((7 : Int) - y1.1)))) <|
    T.jump j4 [.int .i64 (ibits .and .i64 (IntKind.wrap .i64 (byteAt a0 a1)) (IntKind.wrap .i64 (shlI .i64 1 (IntKind.wrap .u64 (IntKind.wrap .i64 ((7 : Int) - y1.1))) - 1)))])
   (T.jump j4 [.int .i64 (IntKind.wrap .i64 (byteAt a0 a1))]))
  fun (y5 : Int × Unit) =>
  T.loop [.b (.int .i64), .b (.int .i64)] [.int .i64 y5.1, .int .i64 1] fun (j6 : Lab) (y7 : Int × Int × Unit) =>
  cond (decide (y7.2.1 < y1.1))
  (chk (decide (0 ≤ (IntKind.wrap .i64 (a1 + y7.2.1)) ∧ (IntKind.wrap .i64 (a1 + y7.2.1)) < (a0.size : Int))) <|
   T.jump j6 [.int .i64 (IntKind.wrap .i64 (shlI .i64 y7.1 6 + ibits .and .i64 (IntKind.wrap .i64 (byteAt a0 (IntKind.wrap .i64 (a1 + y7.2.1)))) 63)), .int .i64 (IntKind.wrap .i64 (y7.2.1 + 1))])
  (T.call 67 [.int .i64 y7.1] [.b .bool] fun (r8 : Bool × Unit) =>
   T.blk [.b .bool] (fun (j9 : Lab) =>
    T.draw <|
    cond (r8.1)
    (chk (decide (0 ≤ a1 ∧ a1 ≤ (IntKind.wrap .i64 (a1 + y1.1)) ∧ (IntKind.wrap .i64 (a1 + y1.1)) ≤ (a0.size : Int))) <|
     T.call 41 [.int .i64 y7.1] [.b .slice] fun (r11 : Sl × Unit) =>
     T.op (vOf (convert 86 9 (.slice r11.1.a r11.1.len r11.1.cap))) [.b .string] fun (x12 : ByteArray × Unit) =>
     T.jump j9 [.bool (x12.1.toList == (a0.extract a1.toNat (IntKind.wrap .i64 (a1 + y1.1)).toNat).toList)])
    (T.jump j9 [.bool false]))
   fun (y10 : Bool × Unit) =>
   cond (y10.1)
   (T.ret [.int .i64 y1.1, .int .i64 y7.1])
   (T.jump j0 [.int .i64 (IntKind.wrap .i64 (y1.1 + 1))])))
 (T.ret [.int .i64 0, .int .i64 0])

theorem d40_ok (a0 : ByteArray) (a1 : Int) : compF Tryz.prog Tryz.f40 [.string a0, .int .i64 a1] = d40 a0 a1 := by kernel_rfl

/-- 41 replica/replicaref12.utf -/
def d41 (a0 : Int) : T :=
 cond (decide (a0 < 128))
 (T.op (vOf (Instr.buildSlice 86 1 #[(0, .int .u8 (IntKind.wrap .u8 a0))])) [.b .slice] fun (x0 : Sl × Unit) =>
  T.ret [.slice x0.1.a x0.1.len x0.1.cap])
 (cond (decide (a0 < 2048))
  (T.op (vOf (Instr.buildSlice 86 2 #[(0, .int .u8 (IntKind.wrap .u8 (IntKind.wrap .i64 ((192 : Int) + shrI .i64 a0 6)))), (1, .int .u8 (IntKind.wrap .u8 (IntKind.wrap .i64 ((128 : Int) + ibits .and .i64 a0 63))))])) [.b .slice] fun (x1 : Sl × Unit) =>
   T.ret [.slice x1.1.a x1.1.len x1.1.cap])
  (cond (decide (a0 < 65536))
   (T.op (vOf (Instr.buildSlice 86 3 #[(0, .int .u8 (IntKind.wrap .u8 (IntKind.wrap .i64 ((224 : Int) + shrI .i64 a0 12)))), (1, .int .u8 (IntKind.wrap .u8 (IntKind.wrap .i64 ((128 : Int) + ibits .and .i64 (shrI .i64 a0 6) 63)))), (2, .int .u8 (IntKind.wrap .u8 (IntKind.wrap .i64 ((128 : Int) + ibits .and .i64 a0 63))))])) [.b .slice] fun (x2 : Sl × Unit) =>
    T.ret [.slice x2.1.a x2.1.len x2.1.cap])
   (T.op (vOf (Instr.buildSlice 86 4 #[(0, .int .u8 (IntKind.wrap .u8 (IntKind.wrap .i64 ((240 : Int) + shrI .i64 a0 18)))), (1, .int .u8 (IntKind.wrap .u8 (IntKind.wrap .i64 ((128 : Int) + ibits .and .i64 (shrI .i64 a0 12) 63)))), (2, .int .u8 (IntKind.wrap .u8 (IntKind.wrap .i64 ((128 : Int) + ibits .and .i64 (shrI .i64 a0 6) 63)))), (3, .int .u8 (IntKind.wrap .u8 (IntKind.wrap .i64 ((128 : Int) + ibits .and .i64 a0 63))))])) [.b .slice] fun (x3 : Sl × Unit) =>
    T.ret [.slice x3.1.a x3.1.len x3.1.cap])))

theorem d41_ok (a0 : Int) : compF Tryz.prog Tryz.f41 [.int .i64 a0] = d41 a0 := by kernel_rfl

/-- 42 (*replica/replicaref12.File).part -/
def d42 (a0 : Addr) : T :=
 T.new [.int .i64 0, .int .i64 0, .string (bs [])] 63 fun (p0 : Addr) =>
 T.call 25 [.pointer (some a0)] [.agg K63, .b .bool] fun (r1 : Ty63 × Bool × Unit) =>
 T.new [.int .i64 0, .int .i64 0, .string (bs [])] 63 fun (p2 : Addr) =>
 T.store p2 (bencs K63 r1.1) <|
 cond (!r1.2.1)
 (T.load (.agg K63) p2 fun (v3 : Ty63) =>
  T.store p0 (bencs K63 v3) <|
  T.load (.agg K63) p0 fun (v4 : Ty63) =>
  T.ret [.agg (bencs K63 v4).toArray, .bool false, .bool false])
 (T.blk [.b .bool] (fun (j5 : Lab) =>
   T.load (.b (.int .i64)) p2 fun (v7 : Int) =>
   cond (v7 == 3)
   (T.load (.b .string) (p2.add 2) fun (v8 : ByteArray) =>
    T.jump j5 [.bool (v8.toList == (bs [125]).toList)])
   (T.jump j5 [.bool false]))
  fun (y6 : Bool × Unit) =>
  cond (y6.1)
  (T.load (.agg K63) p2 fun (v9 : Ty63) =>
   T.store p0 (bencs K63 v9) <|
   T.load (.agg K63) p0 fun (v10 : Ty63) =>
   T.ret [.agg (bencs K63 v10).toArray, .bool true, .bool true])
  (T.load (.b (.int .i64)) p2 fun (v11 : Int) =>
   cond (v11 != 2)
   (T.draw <|
    T.load (.agg K63) p2 fun (v12 : Ty63) =>
    T.load (.b (.int .i64)) (p2.add 1) fun (v13 : Int) =>
    T.call 26 [.pointer (some a0), .int .i64 121, .int .i64 v13] [.b .bool] fun (r14 : Bool × Unit) =>
    T.hold [(p2, (bencs K63 v12))] <|
    T.store p0 (bencs K63 v12) <|
    T.load (.agg K63) p0 fun (v15 : Ty63) =>
    T.ret [.agg (bencs K63 v15).toArray, .bool false, .bool r14.1])
   (T.load (.agg K63) p2 fun (v16 : Ty63) =>
    T.store p0 (bencs K63 v16) <|
    T.load (.agg K63) p0 fun (v17 : Ty63) =>
    T.ret [.agg (bencs K63 v17).toArray, .bool false, .bool true])))

theorem d42_ok (a0 : Addr) : compF Tryz.prog Tryz.f42 [.pointer (some a0)] = d42 a0 := by kernel_rfl

/-- 43 (*replica/replicaref12.File).given -/
def d43 (a0 : Addr) (a1 : Ty73) (a2 : Int) : T :=
 T.new (bencs K73 a1) 73 fun (p0 : Addr) =>
 T.call 25 [.pointer (some a0)] [.agg K63, .b .bool] fun (r1 : Ty63 × Bool × Unit) =>
 T.new [.int .i64 0, .int .i64 0, .string (bs [])] 63 fun (p2 : Addr) =>
 T.store p2 (bencs K63 r1.1) <|
 cond (!r1.2.1)
 (T.ret [.bool false])
 (T.load (.b (.int .i64)) p2 fun (v3 : Int) =>
  cond (v3 == 3)
  (T.load (.b (.int .i64)) (p2.add 1) fun (v4 : Int) =>
   T.call 26 [.pointer (some a0), .int .i64 121, .int .i64 v4] [.b .bool] fun (r5 : Bool × Unit) =>
   T.ret [.bool r5.1])
  (T.blk [] (fun (j6 : Lab) =>
    cond (decide (a2 < 0))
    (T.load (.b .string) (p2.add 2) fun (v8 : ByteArray) =>
     cond (decide ((v8.size : Int) > 64))
     (T.load (.b (.int .i64)) (p2.add 1) fun (v9 : Int) =>
      T.call 26 [.pointer (some a0), .int .i64 124, .int .i64 v9] [.b .bool] fun (r10 : Bool × Unit) =>
      T.ret [.bool r10.1])
     (T.load (.b .string) (p2.add 2) fun (v11 : ByteArray) =>
      T.store ((a0.add 2).add 1) [.string v11] <|
      T.store ((a0.add 2).add 34) [.bool true] <|
      T.jump j6 []))
    (T.load (.agg K73) p0 fun (v12 : Ty73) =>
     T.load (.agg K63) p2 fun (v13 : Ty63) =>
     T.call 69 [.agg (bencs K73 v12).toArray, .agg (bencs K63 v13).toArray] [.b (.int .i64), .b .bool] fun (r14 : Int × Bool × Unit) =>
     cond (!r14.2.1)
     (T.load (.b (.int .i64)) (p2.add 1) fun (v15 : Int) =>
      T.call 26 [.pointer (some a0), .int .i64 124, .int .i64 v15] [.b .bool] fun (r16 : Bool × Unit) =>
      T.ret [.bool r16.1])
     (chk (decide (0 ≤ a2 ∧ a2 < (16 : Int))) <|
      T.store (((a0.add 2).add 2).add (a2.toNat * 1)) [.int .i64 r14.1] <|
      chk (decide (0 ≤ a2 ∧ a2 < (16 : Int))) <|
      T.store (((a0.add 2).add 18).add (a2.toNat * 1)) [.bool true] <|
      T.jump j6 [])))
   fun (_ : Unit) =>
   T.call 28 [.pointer (some a0), .string (bs [59])] [.b .bool] fun (r17 : Bool × Unit) =>
   T.ret [.bool r17.1]))

theorem d43_ok (a0 : Addr) (a1 : Ty73) (a2 : Int) : compF Tryz.prog Tryz.f43 [.pointer (some a0), .agg (bencs K73 a1).toArray, .int .i64 a2] = d43 a0 a1 a2 := by kernel_rfl

/-- 44 (*replica/replicaref12.File).section -/
def d44 (a0 : Addr) (a1 : ByteArray) : T :=
 T.call 31 [] [.agg K74] fun (r0 : Ty74 × Unit) =>
 T.new Z74 74 fun (p1 : Addr) =>
 T.store p1 (bencs K74 r0.1) <|
 T.loop [] [] fun (j2 : Lab) (_ : Unit) =>
 T.call 42 [.pointer (some a0)] [.agg K63, .b .bool, .b .bool] fun (r4 : Ty63 × Bool × Bool × Unit) =>
 T.new [.int .i64 0, .int .i64 0, .string (bs [])] 63 fun (p5 : Addr) =>
 T.store p5 (bencs K63 r4.1) <|
 T.blk [.b .bool] (fun (j6 : Lab) =>
  cond (!r4.2.2.1)
  (T.jump j6 [.bool true])
  (T.jump j6 [.bool r4.2.1]))
 fun (y7 : Bool × Unit) =>
 cond (y7.1)
 (T.ret [.bool r4.2.2.1])
 (T.load (.b .string) (p5.add 2) fun (v8 : ByteArray) =>
  T.call 70 [.string a1, .string v8] [.b (.int .i64)] fun (r9 : Int × Unit) =>
  cond (r9.1 == (-2))
  (T.load (.b (.int .i64)) (p5.add 1) fun (v10 : Int) =>
   T.call 26 [.pointer (some a0), .int .i64 122, .int .i64 v10] [.b .bool] fun (r11 : Bool × Unit) =>
   T.ret [.bool r11.1])
  (T.blk [.b .bool] (fun (j12 : Lab) =>
    cond (decide (r9.1 ≥ 0))
    (chk (decide (0 ≤ r9.1 ∧ r9.1 < (16 : Int))) <|
     T.load (.b .bool) (((a0.add 2).add 18).add (r9.1.toNat * 1)) fun (v14 : Bool) =>
     cond (v14)
     (T.jump j12 [.bool true])
     (cond (decide (r9.1 < 0))
      (T.load (.b .bool) ((a0.add 2).add 34) fun (v15 : Bool) =>
       T.jump j12 [.bool v15])
      (T.jump j12 [.bool false])))
    (cond (decide (r9.1 < 0))
     (T.load (.b .bool) ((a0.add 2).add 34) fun (v16 : Bool) =>
      T.jump j12 [.bool v16])
     (T.jump j12 [.bool false])))
   fun (y13 : Bool × Unit) =>
   cond (y13.1)
   (T.load (.b (.int .i64)) (p5.add 1) fun (v17 : Int) =>
    T.call 26 [.pointer (some a0), .int .i64 123, .int .i64 v17] [.b .bool] fun (r18 : Bool × Unit) =>
    T.ret [.bool r18.1])
   (T.new [.string (bs []), .string (bs []), .int .i64 0, .int .i64 0, .int .i64 0] 73 fun (p19 : Addr) =>
    T.store p19 [.string (bs []), .string (bs []), .int .i64 0, .int .i64 0, .int .i64 0] <|
    T.blk [] (fun (j20 : Lab) =>
     cond (decide (r9.1 ≥ 0))
     (chk (decide (0 ≤ r9.1 ∧ r9.1 < (16 : Int))) <|
      T.load (.agg K73) (p1.add (r9.1.toNat * 5)) fun (v22 : Ty73) =>
      T.store p19 (bencs K73 v22) <|
      T.jump j20 [])
     (T.jump j20 []))
    fun (_ : Unit) =>
    T.load (.agg K73) p19 fun (v23 : Ty73) =>
    T.call 43 [.pointer (some a0), .agg (bencs K73 v23).toArray, .int .i64 r9.1] [.b .bool] fun (r24 : Bool × Unit) =>
    cond (!r24.1)
    (T.ret [.bool false])
    (T.jump j2 []))))

theorem d44_ok (a0 : Addr) (a1 : ByteArray) : compF Tryz.prog Tryz.f44 [.pointer (some a0), .string a1] = d44 a0 a1 := by kernel_rfl

/-- 67 replica/replicaref12.scalar -/
def d67 (a0 : Int) : T :=
 T.blk [.b .bool] (fun (j0 : Lab) =>
  cond (decide (a0 ≥ 0))
  (cond (decide (a0 ≤ 1114111))
   (cond (decide (a0 < 55296))
    (T.jump j0 [.bool true])
    (T.jump j0 [.bool (decide (a0 > 57343))]))
   (T.jump j0 [.bool false]))
  (T.jump j0 [.bool false]))
 fun (y1 : Bool × Unit) =>
 T.ret [.bool y1.1]

theorem d67_ok (a0 : Int) : compF Tryz.prog Tryz.f67 [.int .i64 a0] = d67 a0 := by kernel_rfl

/-- 68 replica/replicaref12.hexed -/
def d68 (a0 : Int) : T :=
 T.blk [.b .bool] (fun (j0 : Lab) =>
  cond (decide (a0 ≥ 48))
  (T.jump j0 [.bool (decide (a0 ≤ 57))])
  (T.jump j0 [.bool false]))
 fun (y1 : Bool × Unit) =>
 cond (y1.1)
 (T.ret [.int .i64 (IntKind.wrap .i64 (IntKind.wrap .u8 (a0 - 48)))])
 (T.blk [.b .bool] (fun (j2 : Lab) =>
   cond (decide (a0 ≥ 97))
   (T.jump j2 [.bool (decide (a0 ≤ 102))])
   (T.jump j2 [.bool false]))
  fun (y3 : Bool × Unit) =>
  cond (y3.1)
  (T.ret [.int .i64 (IntKind.wrap .i64 (IntKind.wrap .i64 (IntKind.wrap .u8 (a0 - 97)) + 10))])
  (T.blk [.b .bool] (fun (j4 : Lab) =>
    cond (decide (a0 ≥ 65))
    (T.jump j4 [.bool (decide (a0 ≤ 70))])
    (T.jump j4 [.bool false]))
   fun (y5 : Bool × Unit) =>
   cond (y5.1)
   (T.ret [.int .i64 (IntKind.wrap .i64 (IntKind.wrap .i64 (IntKind.wrap .u8 (a0 - 65)) + 10))])
   (T.ret [.int .i64 (-1)])))

theorem d68_ok (a0 : Int) : compF Tryz.prog Tryz.f68 [.int .u8 a0] = d68 a0 := by kernel_rfl

/-- 69 replica/replicaref12.value -/
def d69 (a0 : Ty73) (a1 : Ty63) : T :=
 T.new (bencs K73 a0) 73 fun (p0 : Addr) =>
 T.new (bencs K63 a1) 63 fun (p1 : Addr) =>
 T.load (.b (.int .i64)) p1 fun (v2 : Int) =>
 cond (v2 != 2)
 (T.ret [.int .i64 0, .bool false])
 (T.load (.b (.int .i64)) (p0.add 3) fun (v3 : Int) =>
  cond (decide (v3 > 0))
  (T.load (.b .string) (p1.add 2) fun (v4 : ByteArray) =>
   T.call 76 [.string v4] [.b (.int .i64)] fun (r5 : Int × Unit) =>
   T.load (.agg K73) p0 fun (v6 : Ty73) =>
   T.call 77 [.agg (bencs K73 v6).toArray, .int .i64 r5.1] [.b .bool] fun (r7 : Bool × Unit) =>
   T.ret [.int .i64 r5.1, .bool r7.1])
  (T.load (.b .string) p0 fun (v8 : ByteArray) =>
   T.call 78 [.string v8] [.b .slice, .b .slice] fun (r9 : Sl × Sl × Unit) =>
   T.loop [.b (.int .i64)] [.int .i64 0] fun (j10 : Lab) (y11 : Int × Unit) =>
   cond (decide (y11.1 < (r9.1.len : Int)))
   (T.draw <|
    chk ((r9.1.a.isSome && decide (0 ≤ y11.1 ∧ y11.1 < (r9.1.len : Int)))) <|
    T.load (.b .string) ((r9.1.a.getD default).add (y11.1.toNat * 1)) fun (v12 : ByteArray) =>
    T.load (.b .string) (p1.add 2) fun (v13 : ByteArray) =>
    cond (v12.toList == v13.toList)
    (chk ((r9.2.1.a.isSome && decide (0 ≤ y11.1 ∧ y11.1 < (r9.2.1.len : Int)))) <|
     T.load (.b (.int .i64)) ((r9.2.1.a.getD default).add (y11.1.toNat * 1)) fun (v14 : Int) =>
     T.ret [.int .i64 v14, .bool true])
    (T.jump j10 [.int .i64 (IntKind.wrap .i64 (y11.1 + 1))]))
   (T.ret [.int .i64 0, .bool false])))

theorem d69_ok (a0 : Ty73) (a1 : Ty63) : compF Tryz.prog Tryz.f69 [.agg (bencs K73 a0).toArray, .agg (bencs K63 a1).toArray] = d69 a0 a1 := by kernel_rfl

/-- 70 replica/replicaref12.find -/
def d70 (a0 : ByteArray) (a1 : ByteArray) : T :=
 T.blk [.b .bool] (fun (j0 : Lab) =>
  cond (a0.toList == (bs [110, 101, 116]).toList)
  (T.jump j0 [.bool (a1.toList == (bs [115, 104, 97, 114, 101, 100, 45, 115, 101, 99, 114, 101, 116]).toList)])
  (T.jump j0 [.bool false]))
 fun (y1 : Bool × Unit) =>
 cond (y1.1)
 (T.ret [.int .i64 (-1)])
 (T.call 31 [] [.agg K74] fun (r2 : Ty74 × Unit) =>
  T.new Z74 74 fun (p3 : Addr) =>
  T.store p3 (bencs K74 r2.1) <|
  T.loop [.b (.int .i64)] [.int .i64 0] fun (j4 : Lab) (y5 : Int × Unit) =>
  cond (decide (y5.1 < 16))
  (T.blk [.b .bool] (fun (j6 : Lab) =>
    chk (decide (0 ≤ y5.1 ∧ y5.1 < (16 : Int))) <|
    T.load (.b .string) ((p3.add (y5.1.toNat * 5)).add 1) fun (v8 : ByteArray) =>
    cond (v8.toList == a0.toList)
    (chk (decide (0 ≤ y5.1 ∧ y5.1 < (16 : Int))) <|
     T.load (.b .string) (p3.add (y5.1.toNat * 5)) fun (v9 : ByteArray) =>
     T.jump j6 [.bool (v9.toList == a1.toList)])
    (T.jump j6 [.bool false]))
   fun (y7 : Bool × Unit) =>
   cond (y7.1)
   (T.ret [.int .i64 y5.1])
   (T.jump j4 [.int .i64 (IntKind.wrap .i64 (y5.1 + 1))]))
  (T.ret [.int .i64 (-2)]))

theorem d70_ok (a0 : ByteArray) (a1 : ByteArray) : compF Tryz.prog Tryz.f70 [.string a0, .string a1] = d70 a0 a1 := by kernel_rfl

/-- 76 replica/replicaref12.read -/
def d76 (a0 : ByteArray) : T :=
 T.blk [.b (.int .i64), .b .string] (fun (j0 : Lab) =>
  T.blk [.b .bool] (fun (j2 : Lab) =>
   cond (decide ((a0.size : Int) > 0))
   (chk (decide (0 ≤ (IntKind.wrap .i64 ((a0.size : Int) - 1)) ∧ (IntKind.wrap .i64 ((a0.size : Int) - 1)) < (a0.size : Int))) <|
    cond ((byteAt a0 (IntKind.wrap .i64 ((a0.size : Int) - 1))) == 75)
    (T.jump j2 [.bool true])
    (chk (decide (0 ≤ (IntKind.wrap .i64 ((a0.size : Int) - 1)) ∧ (IntKind.wrap .i64 ((a0.size : Int) - 1)) < (a0.size : Int))) <|
     T.jump j2 [.bool ((byteAt a0 (IntKind.wrap .i64 ((a0.size : Int) - 1))) == 107)]))
   (T.jump j2 [.bool false]))
  fun (y3 : Bool × Unit) =>
  cond (y3.1)
  (chk (decide (0 ≤ (0 : Int) ∧ (0 : Int) ≤ (IntKind.wrap .i64 ((a0.size : Int) - 1)) ∧ (IntKind.wrap .i64 ((a0.size : Int) - 1)) ≤ (a0.size : Int))) <|
   T.jump j0 [.int .i64 1024, .string (a0.extract (0 : Int).toNat (IntKind.wrap .i64 ((a0.size : Int) - 1)).toNat)])
  (T.jump j0 [.int .i64 1, .string a0]))
 fun (y1 : Int × ByteArray × Unit) =>
 T.blk [.b .bool] (fun (j4 : Lab) =>
  cond (decide ((y1.2.1.size : Int) < 1))
  (T.jump j4 [.bool true])
  (T.jump j4 [.bool (decide ((y1.2.1.size : Int) > 9))]))
 fun (y5 : Bool × Unit) =>
 cond (y5.1)
 (T.ret [.int .i64 (-1)])
 (T.loop [.b (.int .i64), .b (.int .i64)] [.int .i64 0, .int .i64 0] fun (j6 : Lab) (y7 : Int × Int × Unit) =>
  cond (decide (y7.2.1 < (y1.2.1.size : Int)))
  (T.blk [.b .bool] (fun (j8 : Lab) =>
    chk (decide (0 ≤ y7.2.1 ∧ y7.2.1 < (y1.2.1.size : Int))) <|
    cond (decide (byteAt y1.2.1 y7.2.1 < 48))
    (T.jump j8 [.bool true])
    (chk (decide (0 ≤ y7.2.1 ∧ y7.2.1 < (y1.2.1.size : Int))) <|
     T.jump j8 [.bool (decide (byteAt y1.2.1 y7.2.1 > 57))]))
   fun (y9 : Bool × Unit) =>
   cond (y9.1)
   (T.ret [.int .i64 (-1)])
   (chk (decide (0 ≤ y7.2.1 ∧ y7.2.1 < (y1.2.1.size : Int))) <|
    T.jump j6 [.int .i64 (IntKind.wrap .i64 (IntKind.wrap .i64 ((10 : Int) * y7.1) + IntKind.wrap .i64 (IntKind.wrap .u8 (byteAt y1.2.1 y7.2.1 - 48)))), .int .i64 (IntKind.wrap .i64 (y7.2.1 + 1))]))
  (T.ret [.int .i64 (IntKind.wrap .i64 (y7.1 * y1.1))]))

theorem d76_ok (a0 : ByteArray) : compF Tryz.prog Tryz.f76 [.string a0] = d76 a0 := by kernel_rfl

/-- 77 replica/replicaref12.fits -/
def d77 (a0 : Ty73) (a1 : Int) : T :=
 T.new (bencs K73 a0) 73 fun (p0 : Addr) =>
 T.load (.b (.int .i64)) (p0.add 3) fun (v1 : Int) =>
 cond (decide (v1 > 0))
 (T.load (.b .string) p0 fun (v2 : ByteArray) =>
  cond (v2.toList == (bs [98, 108, 111, 99, 107, 45, 115, 105, 122, 101]).toList)
  (T.blk [.b .bool] (fun (j3 : Lab) =>
    cond (a1 == 128)
    (T.jump j3 [.bool true])
    (cond (a1 == 256)
     (T.jump j3 [.bool true])
     (cond (a1 == 512)
      (T.jump j3 [.bool true])
      (T.jump j3 [.bool (a1 == 1024)]))))
   fun (y4 : Bool × Unit) =>
   T.ret [.bool y4.1])
  (T.blk [.b .bool] (fun (j5 : Lab) =>
    T.load (.b (.int .i64)) (p0.add 2) fun (v7 : Int) =>
    cond (decide (a1 ≥ v7))
    (T.load (.b (.int .i64)) (p0.add 3) fun (v8 : Int) =>
     T.jump j5 [.bool (decide (a1 ≤ v8))])
    (T.jump j5 [.bool false]))
   fun (y6 : Bool × Unit) =>
   T.ret [.bool y6.1]))
 (T.load (.b .string) p0 fun (v9 : ByteArray) =>
  T.call 78 [.string v9] [.b .slice, .b .slice] fun (r10 : Sl × Sl × Unit) =>
  T.loop [.b (.int .i64)] [.int .i64 0] fun (j11 : Lab) (y12 : Int × Unit) =>
  cond (decide (y12.1 < (r10.2.1.len : Int)))
  (chk ((r10.2.1.a.isSome && decide (0 ≤ y12.1 ∧ y12.1 < (r10.2.1.len : Int)))) <|
   T.load (.b (.int .i64)) ((r10.2.1.a.getD default).add (y12.1.toNat * 1)) fun (v13 : Int) =>
   cond (v13 == a1)
   (T.ret [.bool true])
   (T.jump j11 [.int .i64 (IntKind.wrap .i64 (y12.1 + 1))]))
  (T.ret [.bool false]))

theorem d77_ok (a0 : Ty73) (a1 : Int) : compF Tryz.prog Tryz.f77 [.agg (bencs K73 a0).toArray, .int .i64 a1] = d77 a0 a1 := by kernel_rfl

/-- 78 replica/replicaref12.words -/
def d78 (a0 : ByteArray) : T :=
 cond (a0.toList == (bs [112, 114, 111, 116, 111, 99, 111, 108]).toList)
 (T.op (vOf (Instr.buildSlice 79 3 #[(0, .string (bs [65])), (1, .string (bs [66])), (2, .string (bs [67]))])) [.b .slice] fun (x0 : Sl × Unit) =>
  T.op (vOf (Instr.buildSlice 80 3 #[(0, .int .i64 1), (1, .int .i64 2), (2, .int .i64 3)])) [.b .slice] fun (x1 : Sl × Unit) =>
  T.ret [.slice x0.1.a x0.1.len x0.1.cap, .slice x1.1.a x1.1.len x1.1.cap])
 (cond (a0.toList == (bs [97, 102, 116, 101, 114, 45, 115, 98, 45, 48, 112, 114, 105]).toList)
  (T.op (vOf (Instr.buildSlice 79 5 #[(0, .string (bs [100, 105, 115, 99, 111, 110, 110, 101, 99, 116])), (1, .string (bs [100, 105, 115, 99, 97, 114, 100, 45, 122, 101, 114, 111, 45, 99, 104, 97, 110, 103, 101, 115])), (2, .string (bs [100, 105, 115, 99, 97, 114, 100, 45, 108, 101, 97, 115, 116, 45, 99, 104, 97, 110, 103, 101, 115])), (3, .string (bs [100, 105, 115, 99, 97, 114, 100, 45, 110, 111, 100, 101, 45, 48])), (4, .string (bs [100, 105, 115, 99, 97, 114, 100, 45, 110, 111, 100, 101, 45, 49]))])) [.b .slice] fun (x2 : Sl × Unit) =>
   T.op (vOf (Instr.buildSlice 80 5 #[(0, .int .i64 0), (1, .int .i64 1), (2, .int .i64 2), (3, .int .i64 3), (4, .int .i64 4)])) [.b .slice] fun (x3 : Sl × Unit) =>
   T.ret [.slice x2.1.a x2.1.len x2.1.cap, .slice x3.1.a x3.1.len x3.1.cap])
  (cond (a0.toList == (bs [97, 102, 116, 101, 114, 45, 115, 98, 45, 49, 112, 114, 105]).toList)
   (T.op (vOf (Instr.buildSlice 79 3 #[(0, .string (bs [100, 105, 115, 99, 111, 110, 110, 101, 99, 116])), (1, .string (bs [100, 105, 115, 99, 97, 114, 100, 45, 115, 101, 99, 111, 110, 100, 97, 114, 121])), (2, .string (bs [99, 111, 110, 115, 101, 110, 115, 117, 115]))])) [.b .slice] fun (x4 : Sl × Unit) =>
    T.op (vOf (Instr.buildSlice 80 3 #[(0, .int .i64 0), (1, .int .i64 5), (2, .int .i64 6)])) [.b .slice] fun (x5 : Sl × Unit) =>
    T.ret [.slice x4.1.a x4.1.len x4.1.cap, .slice x5.1.a x5.1.len x5.1.cap])
   (cond (a0.toList == (bs [97, 102, 116, 101, 114, 45, 115, 98, 45, 50, 112, 114, 105]).toList)
    (T.op (vOf (Instr.buildSlice 79 1 #[(0, .string (bs [100, 105, 115, 99, 111, 110, 110, 101, 99, 116]))])) [.b .slice] fun (x6 : Sl × Unit) =>
     T.op (vOf (Instr.buildSlice 80 1 #[(0, .int .i64 0)])) [.b .slice] fun (x7 : Sl × Unit) =>
     T.ret [.slice x6.1.a x6.1.len x6.1.cap, .slice x7.1.a x7.1.len x7.1.cap])
    (T.ret [.slice none 0 0, .slice none 0 0]))))

theorem d78_ok (a0 : ByteArray) : compF Tryz.prog Tryz.f78 [.string a0] = d78 a0 := by kernel_rfl


end Go.Proofs
