/- Trees of the program's functions, each the compiler's own (printed). -/
import Derived.Test.YtphejmchkmciaaaGreatDoorDp
set_option maxRecDepth 100000
set_option linter.unusedVariables false
namespace Go.Proofs
open Go.WF

/-- 7 replica/conf.landed -/
def d7 (a0 : Option (TypeId × Value)) : T :=
 T.op (vOf (Instr.typeAssert (B.iface.enc a0) 20 46 true)) [.agg K46, .b .bool] fun (x0 : Ty46 × Bool × Unit) =>
 T.new [.int .i64 0, .int .i64 0] 46 fun (p1 : Addr) =>
 T.store p1 (bencs K46 x0.1) <|
 T.blk [] (fun (j2 : Lab) =>
  cond (!x0.2.1)
  (T.panic (B.iface.enc a0))
  (T.jump j2 []))
 fun (_ : Unit) =>
 T.draw <|
 T.load (.b (.int .i64)) p1 fun (v4 : Int) =>
 T.load (.b (.int .i64)) (p1.add 1) fun (v5 : Int) =>
 T.ret [.int .i64 v4, .int .i64 v5]

theorem d7_ok (a0 : Option (TypeId × Value)) : compF Tryz.prog Tryz.f7 [B.iface.enc a0] = d7 a0 := by kernel_rfl

/-- 8 (*replica/conf.reader).resource -/
def d8 (a0 : Addr) : T :=
 T.new Z23 23 fun (p0 : Addr) =>
 T.call 12 [] [.agg K23] fun (r1 : Ty23 × Unit) =>
 T.new Z23 23 fun (p2 : Addr) =>
 T.store p2 (bencs K23 r1.1) <|
 T.call 13 [.pointer (some a0), .int .i64 0, .string (bs [114, 101, 115, 111, 117, 114, 99, 101])] [.agg K49] fun (r3 : Ty49 × Unit) =>
 T.call 14 [.pointer (some a0)] [.agg K49] fun (r4 : Ty49 × Unit) =>
 T.new [.int .i64 0, .int .i64 0, .string (bs [])] 49 fun (p5 : Addr) =>
 T.store p5 (bencs K49 r4.1) <|
 T.blk [] (fun (j6 : Lab) =>
  T.load (.b (.int .i64)) p5 fun (v8 : Int) =>
  cond (v8 != 0)
  (T.load (.b (.int .i64)) (p5.add 1) fun (v9 : Int) =>
   T.call 15 [.int .i64 v9, .int .i64 121] [] fun (_ : Unit) =>
   T.jump j6 [])
  (T.jump j6 []))
 fun (_ : Unit) =>
 T.blk [] (fun (j11 : Lab) =>
  T.load (.b .string) (p5.add 2) fun (v13 : ByteArray) =>
  T.call 16 [.string v13] [.b .bool] fun (r14 : Bool × Unit) =>
  cond (!r14.1)
  (T.load (.b (.int .i64)) (p5.add 1) fun (v15 : Int) =>
   T.call 15 [.int .i64 v15, .int .i64 124] [] fun (_ : Unit) =>
   T.jump j11 [])
  (T.jump j11 []))
 fun (_ : Unit) =>
 T.load (.b .string) (p5.add 2) fun (v17 : ByteArray) =>
 T.store p2 [.string v17] <|
 T.call 13 [.pointer (some a0), .int .i64 1, .string (bs [123])] [.agg K49] fun (r18 : Ty49 × Unit) =>
 T.op (vOf (Instr.makeMap 53 none)) [.b .map] fun (x19 : (Option Nat) × Unit) =>
 T.op (vOf (Instr.makeMap 53 none)) [.b .map] fun (x20 : (Option Nat) × Unit) =>
 T.loop [.b .map] [.map x20.1] fun (j21 : Lab) (y22 : (Option Nat) × Unit) =>
 T.call 14 [.pointer (some a0)] [.agg K49] fun (r23 : Ty49 × Unit) =>
 T.store p5 (bencs K49 r23.1) <|
 T.blk [] (fun (j24 : Lab) =>
  T.blk [.b .bool] (fun (j26 : Lab) =>
   T.load (.b (.int .i64)) p5 fun (v28 : Int) =>
   cond (v28 == 1)
   (T.load (.b .string) (p5.add 2) fun (v29 : ByteArray) =>
    T.jump j26 [.bool (v29.toList == (bs [125]).toList)])
   (T.jump j26 [.bool false]))
  fun (y27 : Bool × Unit) =>
  cond (y27.1)
  (T.blk [] (fun (j30 : Lab) =>
    T.blk [.b .bool] (fun (j32 : Lab) =>
     T.op (vOf (Instr.lookup 53 (.map y22.1) (.string (bs [98, 108, 111, 99, 107, 115])) false)) [.b (.int .i64)] fun (x34 : Int × Unit) =>
     cond (x34.1 == 0)
     (T.jump j32 [.bool true])
     (T.op (vOf (Instr.lookup 53 (.map y22.1) (.string (bs [98, 108, 111, 99, 107, 45, 115, 105, 122, 101])) false)) [.b (.int .i64)] fun (x35 : Int × Unit) =>
      T.jump j32 [.bool (x35.1 == 0)]))
    fun (y33 : Bool × Unit) =>
    cond (y33.1)
    (T.load (.b (.int .i64)) (p5.add 1) fun (v36 : Int) =>
     T.call 15 [.int .i64 v36, .int .i64 125] [] fun (_ : Unit) =>
     T.jump j30 [])
    (T.load (.agg K23) p2 fun (v38 : Ty23) =>
     T.call 20 [.agg (bencs K23 v38).toArray] [.b .bool] fun (r39 : Bool × Unit) =>
     cond (!r39.1)
     (T.load (.b (.int .i64)) (p5.add 1) fun (v40 : Int) =>
      T.call 15 [.int .i64 v40, .int .i64 124] [] fun (_ : Unit) =>
      T.jump j30 [])
     (T.jump j30 [])))
   fun (_ : Unit) =>
   T.blk [] (fun (j42 : Lab) =>
    T.call 21 [.pointer (some a0)] [.b .bool] fun (r44 : Bool × Unit) =>
    cond (r44.1)
    (T.call 14 [.pointer (some a0)] [.agg K49] fun (r45 : Ty49 × Unit) =>
     T.call 15 [.int .i64 r45.1.2.1, .int .i64 121] [] fun (_ : Unit) =>
     T.jump j42 [])
    (T.jump j42 []))
   fun (_ : Unit) =>
   T.load (.agg K23) p2 fun (v47 : Ty23) =>
   T.store p0 (bencs K23 v47) <|
   T.load (.agg K23) p0 fun (v48 : Ty23) =>
   T.ret [.agg (bencs K23 v48).toArray])
  (T.load (.b (.int .i64)) p5 fun (v49 : Int) =>
   cond (v49 != 0)
   (T.load (.b (.int .i64)) (p5.add 1) fun (v50 : Int) =>
    T.call 15 [.int .i64 v50, .int .i64 121] [] fun (_ : Unit) =>
    T.jump j24 [])
   (T.blk [.b .bool] (fun (j52 : Lab) =>
     T.load (.b .string) (p5.add 2) fun (v54 : ByteArray) =>
     cond (!(v54.toList == (bs [112, 114, 111, 116, 111, 99, 111, 108]).toList))
     (T.load (.b .string) (p5.add 2) fun (v55 : ByteArray) =>
      cond (!(v55.toList == (bs [100, 101, 118, 105, 99, 101]).toList))
      (T.load (.b .string) (p5.add 2) fun (v56 : ByteArray) =>
       cond (!(v56.toList == (bs [110, 101, 116]).toList))
       (T.load (.b .string) (p5.add 2) fun (v57 : ByteArray) =>
        T.jump j52 [.bool (!(v57.toList == (bs [115, 121, 110, 99, 101, 114]).toList))])
       (T.jump j52 [.bool false]))
      (T.jump j52 [.bool false]))
     (T.jump j52 [.bool false]))
    fun (y53 : Bool × Unit) =>
    cond (y53.1)
    (T.load (.b (.int .i64)) (p5.add 1) fun (v58 : Int) =>
     T.call 15 [.int .i64 v58, .int .i64 122] [] fun (_ : Unit) =>
     T.jump j24 [])
    (T.load (.b .string) (p5.add 2) fun (v60 : ByteArray) =>
     T.op (vOf (Instr.lookup 53 (.map x19.1) (.string v60) false)) [.b (.int .i64)] fun (x61 : Int × Unit) =>
     cond (decide (x61.1 > 0))
     (T.load (.b (.int .i64)) (p5.add 1) fun (v62 : Int) =>
      T.call 15 [.int .i64 v62, .int .i64 123] [] fun (_ : Unit) =>
      T.jump j24 [])
     (T.jump j24 [])))))
 fun (_ : Unit) =>
 T.load (.b .string) (p5.add 2) fun (v64 : ByteArray) =>
 T.op (vOf (Instr.lookup 53 (.map x19.1) (.string v64) false)) [.b (.int .i64)] fun (x65 : Int × Unit) =>
 T.op0 (uOf (Instr.mapUpdate 53 (.map x19.1) (.string v64) (.int .i64 (IntKind.wrap .i64 (x65.1 + 1))))) <|
 T.load (.b .string) (p5.add 2) fun (v66 : ByteArray) =>
 T.call 17 [.string (bs []), .string v66] [.b .ptr, .b .bool] fun (r67 : (Option Addr) × Bool × Unit) =>
 cond (r67.2.1)
 (T.call 18 [.pointer (some a0), .pointer r67.1, .pointer (some p2)] [] fun (_ : Unit) =>
  T.jump j21 [.map y22.1])
 (T.call 13 [.pointer (some a0), .int .i64 1, .string (bs [123])] [.agg K49] fun (r69 : Ty49 × Unit) =>
  T.load (.b .string) (p5.add 2) fun (v70 : ByteArray) =>
  T.call 19 [.pointer (some a0), .string v70, .pointer (some p2)] [.b .map] fun (r71 : (Option Nat) × Unit) =>
  T.load (.b .string) (p5.add 2) fun (v72 : ByteArray) =>
  cond (v72.toList == (bs [100, 101, 118, 105, 99, 101]).toList)
  (T.jump j21 [.map r71.1])
  (T.jump j21 [.map y22.1]))

theorem d8_ok (a0 : Addr) : compF Tryz.prog Tryz.f8 [.pointer (some a0)] = d8 a0 := by kernel_rfl

/-- 12 replica/conf.usual -/
def d12 : T :=
 T.new Z23 23 fun (p0 : Addr) =>
 T.store p0 [.string (bs []), .int .i64 0, .int .i64 0, .int .i64 4, .int .i64 3, .int .i64 8, .int .i64 256, .int .i64 3, .int .i64 20, .int .i64 16, .int .i64 32, .string (bs []), .int .i64 0, .int .i64 0, .int .i64 0, .int .i64 4, .int .i64 8, .int .i64 4] <|
 T.load (.agg K23) p0 fun (v1 : Ty23) =>
 T.ret [.agg (bencs K23 v1).toArray]

theorem d12_ok : compF Tryz.prog Tryz.f12 [] = d12 := by kernel_rfl

/-- 13 (*replica/conf.reader).want -/
def d13 (a0 : Addr) (a1 : Int) (a2 : ByteArray) : T :=
 T.new [.int .i64 0, .int .i64 0, .string (bs [])] 49 fun (p0 : Addr) =>
 T.call 14 [.pointer (some a0)] [.agg K49] fun (r1 : Ty49 × Unit) =>
 T.new [.int .i64 0, .int .i64 0, .string (bs [])] 49 fun (p2 : Addr) =>
 T.store p2 (bencs K49 r1.1) <|
 T.blk [] (fun (j3 : Lab) =>
  T.blk [.b .bool] (fun (j5 : Lab) =>
   T.load (.b (.int .i64)) p2 fun (v7 : Int) =>
   cond (v7 != a1)
   (T.jump j5 [.bool true])
   (T.load (.b .string) (p2.add 2) fun (v8 : ByteArray) =>
    T.jump j5 [.bool (!(v8.toList == a2.toList))]))
  fun (y6 : Bool × Unit) =>
  cond (y6.1)
  (T.load (.b (.int .i64)) (p2.add 1) fun (v9 : Int) =>
   T.call 15 [.int .i64 v9, .int .i64 121] [] fun (_ : Unit) =>
   T.jump j3 [])
  (T.jump j3 []))
 fun (_ : Unit) =>
 T.load (.agg K49) p2 fun (v11 : Ty49) =>
 T.store p0 (bencs K49 v11) <|
 T.load (.agg K49) p0 fun (v12 : Ty49) =>
 T.ret [.agg (bencs K49 v12).toArray]

theorem d13_ok (a0 : Addr) (a1 : Int) (a2 : ByteArray) : compF Tryz.prog Tryz.f13 [.pointer (some a0), .int .i64 a1, .string a2] = d13 a0 a1 a2 := by kernel_rfl

/-- 14 (*replica/conf.reader).next -/
def d14 (a0 : Addr) : T :=
 T.new [.int .i64 0, .int .i64 0, .string (bs [])] 49 fun (p0 : Addr) =>
 T.blk [] (fun (j1 : Lab) =>
  T.call 21 [.pointer (some a0)] [.b .bool] fun (r3 : Bool × Unit) =>
  cond (!r3.1)
  (T.load (.b .string) a0 fun (v4 : ByteArray) =>
   T.call 15 [.int .i64 (v4.size : Int), .int .i64 121] [] fun (_ : Unit) =>
   T.jump j1 [])
  (T.jump j1 []))
 fun (_ : Unit) =>
 T.load (.b (.int .i64)) (a0.add 1) fun (v6 : Int) =>
 T.load (.b .string) a0 fun (v7 : ByteArray) =>
 chk (decide (0 ≤ v6 ∧ v6 < (v7.size : Int))) <|
 T.call 32 [.int .u8 (byteAt v7 v6)] [.b .bool] fun (r8 : Bool × Unit) =>
 cond (r8.1)
 (T.loop [] [] fun (j9 : Lab) (_ : Unit) =>
  T.blk [.b .bool] (fun (j11 : Lab) =>
   T.draw <|
   T.load (.b (.int .i64)) (a0.add 1) fun (v13 : Int) =>
   T.load (.b .string) a0 fun (v14 : ByteArray) =>
   cond (decide (v13 < (v14.size : Int)))
   (T.load (.b .string) a0 fun (v15 : ByteArray) =>
    T.load (.b (.int .i64)) (a0.add 1) fun (v16 : Int) =>
    chk (decide (0 ≤ v16 ∧ v16 < (v15.size : Int))) <|
    T.call 32 [.int .u8 (byteAt v15 v16)] [.b .bool] fun (r17 : Bool × Unit) =>
    T.jump j11 [.bool r17.1])
   (T.jump j11 [.bool false]))
  fun (y12 : Bool × Unit) =>
  cond (y12.1)
  (T.load (.b (.int .i64)) (a0.add 1) fun (v18 : Int) =>
   T.store (a0.add 1) [.int .i64 (IntKind.wrap .i64 (v18 + 1))] <|
   T.jump j9 [])
  (T.draw <|
   T.load (.b .string) a0 fun (v19 : ByteArray) =>
   T.load (.b (.int .i64)) (a0.add 1) fun (v20 : Int) =>
   chk (decide (0 ≤ v6 ∧ v6 ≤ v20 ∧ v20 ≤ (v19.size : Int))) <|
   T.store p0 [.int .i64 0, .int .i64 v6, .string (v19.extract v6.toNat v20.toNat)] <|
   T.load (.agg K49) p0 fun (v21 : Ty49) =>
   T.ret [.agg (bencs K49 v21).toArray]))
 (T.blk [.b .bool] (fun (j22 : Lab) =>
   cond ((byteAt v7 v6) == 123)
   (T.jump j22 [.bool true])
   (cond ((byteAt v7 v6) == 125)
    (T.jump j22 [.bool true])
    (T.jump j22 [.bool ((byteAt v7 v6) == 59)])))
  fun (y23 : Bool × Unit) =>
  cond (y23.1)
  (T.load (.b (.int .i64)) (a0.add 1) fun (v24 : Int) =>
   T.store (a0.add 1) [.int .i64 (IntKind.wrap .i64 (v24 + 1))] <|
   T.draw <|
   T.load (.b .string) a0 fun (v25 : ByteArray) =>
   T.load (.b (.int .i64)) (a0.add 1) fun (v26 : Int) =>
   chk (decide (0 ≤ v6 ∧ v6 ≤ v26 ∧ v26 ≤ (v25.size : Int))) <|
   T.store p0 [.int .i64 1, .int .i64 v6, .string (v25.extract v6.toNat v26.toNat)] <|
   T.load (.agg K49) p0 fun (v27 : Ty49) =>
   T.ret [.agg (bencs K49 v27).toArray])
  (cond ((byteAt v7 v6) == 34)
   (T.call 33 [.pointer (some a0)] [.b .string] fun (r28 : ByteArray × Unit) =>
    T.store p0 [.int .i64 2, .int .i64 v6, .string r28.1] <|
    T.load (.agg K49) p0 fun (v29 : Ty49) =>
    T.ret [.agg (bencs K49 v29).toArray])
   (T.call 15 [.int .i64 v6, .int .i64 121] [] fun (_ : Unit) =>
    T.store p0 [.int .i64 0, .int .i64 0, .string (bs [])] <|
    T.load (.agg K49) p0 fun (v31 : Ty49) =>
    T.ret [.agg (bencs K49 v31).toArray])))

theorem d14_ok (a0 : Addr) : compF Tryz.prog Tryz.f14 [.pointer (some a0)] = d14 a0 := by kernel_rfl

/-- 15 replica/conf.give -/
def d15 (a0 : Int) (a1 : Int) : T :=
 T.panic (.iface 46 (.agg #[.int .i64 a0, .int .i64 a1]))

theorem d15_ok (a0 : Int) (a1 : Int) : compF Tryz.prog Tryz.f15 [.int .i64 a0, .int .i64 a1] = d15 a0 a1 := by kernel_rfl

/-- 16 replica/conf.isName -/
def d16 (a0 : ByteArray) : T :=
 T.blk [.b .bool] (fun (j0 : Lab) =>
  cond (decide ((a0.size : Int) < 1))
  (T.jump j0 [.bool true])
  (cond (decide ((a0.size : Int) > 31))
   (T.jump j0 [.bool true])
   (chk (decide (0 ≤ (0 : Int) ∧ (0 : Int) < (a0.size : Int))) <|
    T.call 34 [.int .u8 (byteAt a0 0)] [.b .bool] fun (r2 : Bool × Unit) =>
    T.jump j0 [.bool !r2.1])))
 fun (y1 : Bool × Unit) =>
 cond (y1.1)
 (T.ret [.bool false])
 (T.loop [.b (.int .i64)] [.int .i64 1] fun (j3 : Lab) (y4 : Int × Unit) =>
  cond (decide (y4.1 < (a0.size : Int)))
  (T.blk [.b .bool] (fun (j5 : Lab) =>
    chk (decide (0 ≤ y4.1 ∧ y4.1 < (a0.size : Int))) <|
    T.call 34 [.int .u8 (byteAt a0 y4.1)] [.b .bool] fun (r7 : Bool × Unit) =>
    cond (!r7.1)
    (chk (decide (0 ≤ y4.1 ∧ y4.1 < (a0.size : Int))) <|
     T.call 35 [.int .u8 (byteAt a0 y4.1)] [.b .bool] fun (r8 : Bool × Unit) =>
     cond (!r8.1)
     (chk (decide (0 ≤ y4.1 ∧ y4.1 < (a0.size : Int))) <|
      cond ((byteAt a0 y4.1) != 45)
      (chk (decide (0 ≤ y4.1 ∧ y4.1 < (a0.size : Int))) <|
       T.jump j5 [.bool ((byteAt a0 y4.1) != 95)])
      (T.jump j5 [.bool false]))
     (T.jump j5 [.bool false]))
    (T.jump j5 [.bool false]))
   fun (y6 : Bool × Unit) =>
   cond (y6.1)
   (T.ret [.bool false])
   (T.jump j3 [.int .i64 (IntKind.wrap .i64 (y4.1 + 1))]))
  (T.ret [.bool true]))

theorem d16_ok (a0 : ByteArray) : compF Tryz.prog Tryz.f16 [.string a0] = d16 a0 := by kernel_rfl

/-- 17 replica/conf.find -/
def d17 (a0 : ByteArray) (a1 : ByteArray) : T :=
 T.blk [.b .bool] (fun (j0 : Lab) =>
  cond (a0.toList == (bs [110, 101, 116]).toList)
  (T.jump j0 [.bool (a1.toList == (bs [115, 104, 97, 114, 101, 100, 45, 115, 101, 99, 114, 101, 116]).toList)])
  (T.jump j0 [.bool false]))
 fun (y1 : Bool × Unit) =>
 cond (y1.1)
 (T.ret [.pointer none, .bool true])
 (T.call 36 [] [.b .slice] fun (r2 : Sl × Unit) =>
  T.loop [.b (.int .i64)] [.int .i64 0] fun (j3 : Lab) (y4 : Int × Unit) =>
  cond (decide (y4.1 < (r2.1.len : Int)))
  (T.blk [.b .bool] (fun (j5 : Lab) =>
    chk ((r2.1.a.isSome && decide (0 ≤ y4.1 ∧ y4.1 < (r2.1.len : Int)))) <|
    T.load (.b .string) ((r2.1.a.getD default).add (y4.1.toNat * 8)) fun (v7 : ByteArray) =>
    cond (v7.toList == a0.toList)
    (chk ((r2.1.a.isSome && decide (0 ≤ y4.1 ∧ y4.1 < (r2.1.len : Int)))) <|
     T.load (.b .string) (((r2.1.a.getD default).add (y4.1.toNat * 8)).add 1) fun (v8 : ByteArray) =>
     T.jump j5 [.bool (v8.toList == a1.toList)])
    (T.jump j5 [.bool false]))
   fun (y6 : Bool × Unit) =>
   cond (y6.1)
   (chk ((r2.1.a.isSome && decide (0 ≤ y4.1 ∧ y4.1 < (r2.1.len : Int)))) <|
    T.ret [.pointer (some ((r2.1.a.getD default).add (y4.1.toNat * 8))), .bool true])
   (T.jump j3 [.int .i64 (IntKind.wrap .i64 (y4.1 + 1))]))
  (T.ret [.pointer none, .bool false]))

theorem d17_ok (a0 : ByteArray) (a1 : ByteArray) : compF Tryz.prog Tryz.f17 [.string a0, .string a1] = d17 a0 a1 := by kernel_rfl

/-- 18 (*replica/conf.reader).value -/
def d18 (a0 : Option Addr) (a1 : Option Addr) (a2 : Option Addr) : T :=
 T.call 14 [.pointer a0] [.agg K49] fun (r0 : Ty49 × Unit) =>
 T.new [.int .i64 0, .int .i64 0, .string (bs [])] 49 fun (p1 : Addr) =>
 T.store p1 (bencs K49 r0.1) <|
 T.blk [] (fun (j2 : Lab) =>
  T.load (.b (.int .i64)) p1 fun (v4 : Int) =>
  cond (v4 == 1)
  (T.load (.b (.int .i64)) (p1.add 1) fun (v5 : Int) =>
   T.call 15 [.int .i64 v5, .int .i64 121] [] fun (_ : Unit) =>
   T.jump j2 [])
  (T.jump j2 []))
 fun (_ : Unit) =>
 T.blk [] (fun (j7 : Lab) =>
  cond (a1.isNone)
  (T.blk [] (fun (j9 : Lab) =>
    T.load (.b .string) (p1.add 2) fun (v11 : ByteArray) =>
    cond (decide ((v11.size : Int) > 64))
    (T.load (.b (.int .i64)) (p1.add 1) fun (v12 : Int) =>
     T.call 15 [.int .i64 v12, .int .i64 124] [] fun (_ : Unit) =>
     T.jump j9 [])
    (T.jump j9 []))
   fun (_ : Unit) =>
   T.load (.b .string) (p1.add 2) fun (v14 : ByteArray) =>
   chk (a2.isSome) <|
   T.store ((a2.getD default).add 11) [.string v14] <|
   T.jump j7 [])
  (T.load (.agg K49) p1 fun (v15 : Ty49) =>
   T.call 37 [.pointer a1, .agg (bencs K49 v15).toArray] [.b (.int .i64), .b .bool] fun (r16 : Int × Bool × Unit) =>
   T.blk [] (fun (j17 : Lab) =>
    cond (!r16.2.1)
    (T.load (.b (.int .i64)) (p1.add 1) fun (v19 : Int) =>
     T.call 15 [.int .i64 v19, .int .i64 124] [] fun (_ : Unit) =>
     T.jump j17 [])
    (T.jump j17 []))
   fun (_ : Unit) =>
   chk (a1.isSome) <|
   T.load (.b .any) ((a1.getD default).add 7) fun (v21 : Value) =>
   T.callV (v21) [.pointer a2] [.b .ptr] fun (r22 : (Option Addr) × Unit) =>
   chk (r22.1.isSome) <|
   T.store (r22.1.getD default) [.int .i64 r16.1] <|
   T.jump j7 []))
 fun (_ : Unit) =>
 T.call 13 [.pointer a0, .int .i64 1, .string (bs [59])] [.agg K49] fun (r23 : Ty49 × Unit) =>
 T.ret []

theorem d18_ok (a0 : Option Addr) (a1 : Option Addr) (a2 : Option Addr) : compF Tryz.prog Tryz.f18 [.pointer a0, .pointer a1, .pointer a2] = d18 a0 a1 a2 := by kernel_rfl

/-- 19 (*replica/conf.reader).section -/
def d19 (a0 : Addr) (a1 : ByteArray) (a2 : Addr) : T :=
 T.op (vOf (Instr.makeMap 53 none)) [.b .map] fun (x0 : (Option Nat) × Unit) =>
 T.loop [] [] fun (j1 : Lab) (_ : Unit) =>
 T.call 14 [.pointer (some a0)] [.agg K49] fun (r3 : Ty49 × Unit) =>
 T.new [.int .i64 0, .int .i64 0, .string (bs [])] 49 fun (p4 : Addr) =>
 T.store p4 (bencs K49 r3.1) <|
 T.blk [] (fun (j5 : Lab) =>
  T.blk [.b .bool] (fun (j7 : Lab) =>
   T.load (.b (.int .i64)) p4 fun (v9 : Int) =>
   cond (v9 == 1)
   (T.load (.b .string) (p4.add 2) fun (v10 : ByteArray) =>
    T.jump j7 [.bool (v10.toList == (bs [125]).toList)])
   (T.jump j7 [.bool false]))
  fun (y8 : Bool × Unit) =>
  cond (y8.1)
  (T.ret [.map x0.1])
  (T.load (.b (.int .i64)) p4 fun (v11 : Int) =>
   cond (v11 != 0)
   (T.load (.b (.int .i64)) (p4.add 1) fun (v12 : Int) =>
    T.call 15 [.int .i64 v12, .int .i64 121] [] fun (_ : Unit) =>
    T.jump j5 [])
   (T.jump j5 [])))
 fun (_ : Unit) =>
 T.load (.b .string) (p4.add 2) fun (v14 : ByteArray) =>
 T.call 17 [.string a1, .string v14] [.b .ptr, .b .bool] fun (r15 : (Option Addr) × Bool × Unit) =>
 T.blk [] (fun (j16 : Lab) =>
  cond (!r15.2.1)
  (T.load (.b (.int .i64)) (p4.add 1) fun (v18 : Int) =>
   T.call 15 [.int .i64 v18, .int .i64 122] [] fun (_ : Unit) =>
   T.jump j16 [])
  (T.jump j16 []))
 fun (_ : Unit) =>
 T.blk [] (fun (j20 : Lab) =>
  T.load (.b .string) (p4.add 2) fun (v22 : ByteArray) =>
  T.op (vOf (Instr.lookup 53 (.map x0.1) (.string v22) false)) [.b (.int .i64)] fun (x23 : Int × Unit) =>
  cond (decide (x23.1 > 0))
  (T.load (.b (.int .i64)) (p4.add 1) fun (v24 : Int) =>
   T.call 15 [.int .i64 v24, .int .i64 123] [] fun (_ : Unit) =>
   T.jump j20 [])
  (T.jump j20 []))
 fun (_ : Unit) =>
 T.load (.b .string) (p4.add 2) fun (v26 : ByteArray) =>
 T.op (vOf (Instr.lookup 53 (.map x0.1) (.string v26) false)) [.b (.int .i64)] fun (x27 : Int × Unit) =>
 T.op0 (uOf (Instr.mapUpdate 53 (.map x0.1) (.string v26) (.int .i64 (IntKind.wrap .i64 (x27.1 + 1))))) <|
 T.call 18 [.pointer (some a0), .pointer r15.1, .pointer (some a2)] [] fun (_ : Unit) =>
 T.jump j1 []

theorem d19_ok (a0 : Addr) (a1 : ByteArray) (a2 : Addr) : compF Tryz.prog Tryz.f19 [.pointer (some a0), .string a1, .pointer (some a2)] = d19 a0 a1 a2 := by kernel_rfl

/-- 20 replica/conf.together -/
def d20 (a0 : Ty23) : T :=
 T.new (bencs K23 a0) 23 fun (p0 : Addr) =>
 T.blk [.b .bool] (fun (j1 : Lab) =>
  T.load (.b (.int .i64)) (p0.add 8) fun (v3 : Int) =>
  T.load (.b (.int .i64)) (p0.add 7) fun (v4 : Int) =>
  cond (decide (v3 > v4))
  (T.load (.b (.int .i64)) (p0.add 6) fun (v5 : Int) =>
   T.load (.b (.int .i64)) (p0.add 17) fun (v6 : Int) =>
   T.load (.b (.int .i64)) (p0.add 10) fun (v7 : Int) =>
   T.load (.b (.int .i64)) (p0.add 9) fun (v8 : Int) =>
   T.jump j1 [.bool (decide (v5 ≥ IntKind.wrap .i64 (IntKind.wrap .i64 (IntKind.wrap .i64 ((16 : Int) + IntKind.wrap .i64 ((2 : Int) * v6)) + IntKind.wrap .i64 ((2 : Int) * v7)) + IntKind.wrap .i64 ((8 : Int) * v8))))])
  (T.jump j1 [.bool false]))
 fun (y2 : Bool × Unit) =>
 T.ret [.bool y2.1]

theorem d20_ok (a0 : Ty23) : compF Tryz.prog Tryz.f20 [.agg (bencs K23 a0).toArray] = d20 a0 := by kernel_rfl

/-- 21 (*replica/conf.reader).more -/
def d21 (a0 : Addr) : T :=
 T.call 38 [.pointer (some a0)] [] fun (_ : Unit) =>
 T.draw <|
 T.load (.b (.int .i64)) (a0.add 1) fun (v1 : Int) =>
 T.load (.b .string) a0 fun (v2 : ByteArray) =>
 T.ret [.bool (decide (v1 < (v2.size : Int)))]

theorem d21_ok (a0 : Addr) : compF Tryz.prog Tryz.f21 [.pointer (some a0)] = d21 a0 := by kernel_rfl

/-- 32 replica/conf.inWord -/
def d32 (a0 : Int) : T :=
 T.blk [.b .bool] (fun (j0 : Lab) =>
  T.call 34 [.int .u8 a0] [.b .bool] fun (r2 : Bool × Unit) =>
  cond (r2.1)
  (T.jump j0 [.bool true])
  (T.call 35 [.int .u8 a0] [.b .bool] fun (r3 : Bool × Unit) =>
   cond (r3.1)
   (T.jump j0 [.bool true])
   (cond (a0 == 45)
    (T.jump j0 [.bool true])
    (cond (a0 == 95)
     (T.jump j0 [.bool true])
     (T.jump j0 [.bool (a0 == 46)])))))
 fun (y1 : Bool × Unit) =>
 T.ret [.bool y1.1]

theorem d32_ok (a0 : Int) : compF Tryz.prog Tryz.f32 [.int .u8 a0] = d32 a0 := by kernel_rfl

/-- 33 (*replica/conf.reader).quoted -/
def d33 (a0 : Addr) : T :=
 T.draw <|
 T.load (.b .string) a0 fun (v0 : ByteArray) =>
 T.load (.b (.int .i64)) (a0.add 1) fun (v1 : Int) =>
 chk (decide (0 ≤ (IntKind.wrap .i64 (v1 + 1)) ∧ (IntKind.wrap .i64 (v1 + 1)) ≤ (v0.size : Int) ∧ (v0.size : Int) ≤ (v0.size : Int))) <|
 T.load (.b (.int .i64)) (a0.add 1) fun (v2 : Int) =>
 T.op (vOf (Instr.buildSlice 86 0 #[])) [.b .slice] fun (x3 : Sl × Unit) =>
 T.op (vOf (Instr.range 9 (.string (v0.extract (IntKind.wrap .i64 (v1 + 1)).toNat (v0.size : Int).toNat)))) [.b .ptr] fun (x4 : (Option Addr) × Unit) =>
 T.loop [.b .slice, .b (.int .i64)] [.slice x3.1.a x3.1.len x3.1.cap, .int .i64 0] fun (j5 : Lab) (y6 : Sl × Int × Unit) =>
 T.nextS (vOf (Instr.next (.pointer x4.1) true 0)) (fun (i7 : Int) (c8 : Int) =>
  cond (decide (i7 < y6.2.1))
  (T.jump j5 [.slice y6.1.a y6.1.len y6.1.cap, .int .i64 y6.2.1])
  (cond (c8 == 34)
   (T.store (a0.add 1) [.int .i64 (IntKind.wrap .i64 (IntKind.wrap .i64 (IntKind.wrap .i64 (v2 + 1) + i7) + 1))] <|
    T.op (vOf (convert 86 9 (.slice y6.1.a y6.1.len y6.1.cap))) [.b .string] fun (x9 : ByteArray × Unit) =>
    T.ret [.string x9.1])
   (cond (c8 == 92)
    (chk (decide (0 ≤ i7 ∧ i7 ≤ ((v0.extract (IntKind.wrap .i64 (v1 + 1)).toNat (v0.size : Int).toNat).size : Int) ∧ ((v0.extract (IntKind.wrap .i64 (v1 + 1)).toNat (v0.size : Int).toNat).size : Int) ≤ ((v0.extract (IntKind.wrap .i64 (v1 + 1)).toNat (v0.size : Int).toNat).size : Int))) <|
     T.call 45 [.string ((v0.extract (IntKind.wrap .i64 (v1 + 1)).toNat (v0.size : Int).toNat).extract i7.toNat ((v0.extract (IntKind.wrap .i64 (v1 + 1)).toNat (v0.size : Int).toNat).size : Int).toNat)] [.b (.int .i32), .b (.int .i64)] fun (r10 : Int × Int × Unit) =>
     T.blk [] (fun (j11 : Lab) =>
      cond (r10.2.1 == 0)
      (T.call 15 [.int .i64 (IntKind.wrap .i64 (IntKind.wrap .i64 (v2 + 1) + i7)), .int .i64 121] [] fun (_ : Unit) =>
       T.jump j11 [])
      (T.jump j11 []))
     fun (_ : Unit) =>
     T.call 46 [.slice y6.1.a y6.1.len y6.1.cap, .int .i32 r10.1] [.b .slice] fun (r14 : Sl × Unit) =>
     T.jump j5 [.slice r14.1.a r14.1.len r14.1.cap, .int .i64 (IntKind.wrap .i64 (i7 + r10.2.1))])
    (T.blk [.b .bool] (fun (j15 : Lab) =>
      cond (decide (c8 < 32))
      (T.jump j15 [.bool true])
      (cond (c8 == 127)
       (T.jump j15 [.bool true])
       (cond (c8 == 65533)
        (chk (decide (0 ≤ i7 ∧ i7 ≤ ((v0.extract (IntKind.wrap .i64 (v1 + 1)).toNat (v0.size : Int).toNat).size : Int) ∧ ((v0.extract (IntKind.wrap .i64 (v1 + 1)).toNat (v0.size : Int).toNat).size : Int) ≤ ((v0.extract (IntKind.wrap .i64 (v1 + 1)).toNat (v0.size : Int).toNat).size : Int))) <|
         T.call 47 [.string ((v0.extract (IntKind.wrap .i64 (v1 + 1)).toNat (v0.size : Int).toNat).extract i7.toNat ((v0.extract (IntKind.wrap .i64 (v1 + 1)).toNat (v0.size : Int).toNat).size : Int).toNat), .string (bs [239, 191, 189])] [.b .bool] fun (r17 : Bool × Unit) =>
         T.jump j15 [.bool !r17.1])
        (T.jump j15 [.bool false]))))
     fun (y16 : Bool × Unit) =>
     cond (y16.1)
     (T.call 15 [.int .i64 (IntKind.wrap .i64 (IntKind.wrap .i64 (v2 + 1) + i7)), .int .i64 121] [] fun (_ : Unit) =>
      T.jump j5 [.slice y6.1.a y6.1.len y6.1.cap, .int .i64 y6.2.1])
     (T.call 46 [.slice y6.1.a y6.1.len y6.1.cap, .int .i32 c8] [.b .slice] fun (r19 : Sl × Unit) =>
      T.jump j5 [.slice r19.1.a r19.1.len r19.1.cap, .int .i64 y6.2.1])))))
 (T.load (.b .string) a0 fun (v20 : ByteArray) =>
  T.call 15 [.int .i64 (v20.size : Int), .int .i64 121] [] fun (_ : Unit) =>
  T.ret [.string (bs [])])

theorem d33_ok (a0 : Addr) : compF Tryz.prog Tryz.f33 [.pointer (some a0)] = d33 a0 := by kernel_rfl

/-- 34 replica/conf.letter -/
def d34 (a0 : Int) : T :=
 T.blk [.b .bool] (fun (j0 : Lab) =>
  cond (decide (a0 ≥ 65))
  (cond (decide (a0 ≤ 90))
   (T.jump j0 [.bool true])
   (cond (decide (a0 ≥ 97))
    (T.jump j0 [.bool (decide (a0 ≤ 122))])
    (T.jump j0 [.bool false])))
  (cond (decide (a0 ≥ 97))
   (T.jump j0 [.bool (decide (a0 ≤ 122))])
   (T.jump j0 [.bool false])))
 fun (y1 : Bool × Unit) =>
 T.ret [.bool y1.1]

theorem d34_ok (a0 : Int) : compF Tryz.prog Tryz.f34 [.int .u8 a0] = d34 a0 := by kernel_rfl

/-- 35 replica/conf.digit -/
def d35 (a0 : Int) : T :=
 T.blk [.b .bool] (fun (j0 : Lab) =>
  cond (decide (a0 ≥ 48))
  (T.jump j0 [.bool (decide (a0 ≤ 57))])
  (T.jump j0 [.bool false]))
 fun (y1 : Bool × Unit) =>
 T.ret [.bool y1.1]

theorem d35_ok (a0 : Int) : compF Tryz.prog Tryz.f35 [.int .u8 a0] = d35 a0 := by kernel_rfl

/-- 36 replica/conf.allKeys -/
def d36 : T :=
 T.op (vOf (Instr.buildSlice 79 5 #[(0, .string (bs [100, 105, 115, 99, 111, 110, 110, 101, 99, 116])), (1, .string (bs [100, 105, 115, 99, 97, 114, 100, 45, 122, 101, 114, 111, 45, 99, 104, 97, 110, 103, 101, 115])), (2, .string (bs [100, 105, 115, 99, 97, 114, 100, 45, 108, 101, 97, 115, 116, 45, 99, 104, 97, 110, 103, 101, 115])), (3, .string (bs [100, 105, 115, 99, 97, 114, 100, 45, 110, 111, 100, 101, 45, 48])), (4, .string (bs [100, 105, 115, 99, 97, 114, 100, 45, 110, 111, 100, 101, 45, 49]))])) [.b .slice] fun (x0 : Sl × Unit) =>
 T.op (vOf (Instr.buildSlice 79 3 #[(0, .string (bs [65])), (1, .string (bs [66])), (2, .string (bs [67]))])) [.b .slice] fun (x1 : Sl × Unit) =>
 T.op (vOf (Instr.buildSlice 80 3 #[(0, .int .i64 1), (1, .int .i64 2), (2, .int .i64 3)])) [.b .slice] fun (x2 : Sl × Unit) =>
 T.op (vOf (Instr.buildSlice 80 5 #[(0, .int .i64 0), (1, .int .i64 1), (2, .int .i64 2), (3, .int .i64 3), (4, .int .i64 4)])) [.b .slice] fun (x3 : Sl × Unit) =>
 T.op (vOf (Instr.buildSlice 79 3 #[(0, .string (bs [100, 105, 115, 99, 111, 110, 110, 101, 99, 116])), (1, .string (bs [100, 105, 115, 99, 97, 114, 100, 45, 115, 101, 99, 111, 110, 100, 97, 114, 121])), (2, .string (bs [99, 111, 110, 115, 101, 110, 115, 117, 115]))])) [.b .slice] fun (x4 : Sl × Unit) =>
 T.op (vOf (Instr.buildSlice 80 3 #[(0, .int .i64 0), (1, .int .i64 5), (2, .int .i64 6)])) [.b .slice] fun (x5 : Sl × Unit) =>
 T.op (vOf (Instr.buildSlice 79 1 #[(0, .string (bs [100, 105, 115, 99, 111, 110, 110, 101, 99, 116]))])) [.b .slice] fun (x6 : Sl × Unit) =>
 T.op (vOf (Instr.buildSlice 80 1 #[(0, .int .i64 0)])) [.b .slice] fun (x7 : Sl × Unit) =>
 T.op (vOf (Instr.buildSlice 77 16 #[(0, .agg #[.string (bs []), .string (bs [112, 114, 111, 116, 111, 99, 111, 108]), .int .i64 0, .int .i64 0, .bool false, .slice x1.1.a x1.1.len x1.1.cap, .slice x2.1.a x2.1.len x2.1.cap, .func (.func 48) #[] #[]]), (1, .agg #[.string (bs [100, 101, 118, 105, 99, 101]), .string (bs [98, 108, 111, 99, 107, 115]), .int .i64 1, .int .i64 4096, .bool false, .slice none 0 0, .slice none 0 0, .func (.func 49) #[] #[]]), (2, .agg #[.string (bs [100, 101, 118, 105, 99, 101]), .string (bs [98, 108, 111, 99, 107, 45, 115, 105, 122, 101]), .int .i64 128, .int .i64 1024, .bool true, .slice none 0 0, .slice none 0 0, .func (.func 50) #[] #[]]), (3, .agg #[.string (bs [100, 101, 118, 105, 99, 101]), .string (bs [97, 108, 45, 115, 108, 111, 116, 115]), .int .i64 1, .int .i64 16, .bool false, .slice none 0 0, .slice none 0 0, .func (.func 51) #[] #[]]), (4, .agg #[.string (bs [110, 101, 116]), .string (bs [119, 105, 110, 100, 111, 119]), .int .i64 1, .int .i64 64, .bool false, .slice none 0 0, .slice none 0 0, .func (.func 52) #[] #[]]), (5, .agg #[.string (bs [110, 101, 116]), .string (bs [98, 97, 99, 107, 108, 111, 103]), .int .i64 1, .int .i64 1024, .bool false, .slice none 0 0, .slice none 0 0, .func (.func 53) #[] #[]]), (6, .agg #[.string (bs [110, 101, 116]), .string (bs [114, 101, 115, 101, 110, 100]), .int .i64 1, .int .i64 1000, .bool false, .slice none 0 0, .slice none 0 0, .func (.func 54) #[] #[]]), (7, .agg #[.string (bs [110, 101, 116]), .string (bs [116, 105, 109, 101, 111, 117, 116]), .int .i64 1, .int .i64 1000, .bool false, .slice none 0 0, .slice none 0 0, .func (.func 55) #[] #[]]), (8, .agg #[.string (bs [110, 101, 116]), .string (bs [109, 97, 120, 45, 101, 112, 111, 99, 104, 45, 115, 105, 122, 101]), .int .i64 1, .int .i64 64, .bool false, .slice none 0 0, .slice none 0 0, .func (.func 56) #[] #[]]), (9, .agg #[.string (bs [110, 101, 116]), .string (bs [109, 97, 120, 45, 113, 117, 101, 117, 101]), .int .i64 1, .int .i64 256, .bool false, .slice none 0 0, .slice none 0 0, .func (.func 57) #[] #[]]), (10, .agg #[.string (bs [110, 101, 116]), .string (bs [97, 102, 116, 101, 114, 45, 115, 98, 45, 48, 112, 114, 105]), .int .i64 0, .int .i64 0, .bool false, .slice x0.1.a x0.1.len x0.1.cap, .slice x3.1.a x3.1.len x3.1.cap, .func (.func 58) #[] #[]]), (11, .agg #[.string (bs [110, 101, 116]), .string (bs [97, 102, 116, 101, 114, 45, 115, 98, 45, 49, 112, 114, 105]), .int .i64 0, .int .i64 0, .bool false, .slice x4.1.a x4.1.len x4.1.cap, .slice x5.1.a x5.1.len x5.1.cap, .func (.func 59) #[] #[]]), (12, .agg #[.string (bs [110, 101, 116]), .string (bs [97, 102, 116, 101, 114, 45, 115, 98, 45, 50, 112, 114, 105]), .int .i64 0, .int .i64 0, .bool false, .slice x6.1.a x6.1.len x6.1.cap, .slice x7.1.a x7.1.len x7.1.cap, .func (.func 60) #[] #[]]), (13, .agg #[.string (bs [115, 121, 110, 99, 101, 114]), .string (bs [114, 97, 116, 101]), .int .i64 1, .int .i64 1024, .bool false, .slice none 0 0, .slice none 0 0, .func (.func 61) #[] #[]]), (14, .agg #[.string (bs [115, 121, 110, 99, 101, 114]), .string (bs [98, 117, 114, 115, 116]), .int .i64 1, .int .i64 1024, .bool false, .slice none 0 0, .slice none 0 0, .func (.func 62) #[] #[]]), (15, .agg #[.string (bs [115, 121, 110, 99, 101, 114]), .string (bs [97, 104, 101, 97, 100]), .int .i64 1, .int .i64 64, .bool false, .slice none 0 0, .slice none 0 0, .func (.func 63) #[] #[]])])) [.b .slice] fun (x8 : Sl × Unit) =>
 T.ret [.slice x8.1.a x8.1.len x8.1.cap]

theorem d36_ok : compF Tryz.prog Tryz.f36 [] = d36 := by kernel_rfl

/-- 37 (*replica/conf.key).read -/
def d37 (a0 : Addr) (a1 : Ty49) : T :=
 T.new (bencs K49 a1) 49 fun (p0 : Addr) =>
 T.load (.b (.int .i64)) p0 fun (v1 : Int) =>
 cond (v1 != 0)
 (T.ret [.int .i64 0, .bool false])
 (T.load (.b .slice) (a0.add 5) fun (v2 : Sl) =>
  cond (!(Option.isNone v2.a))
  (T.load (.b .slice) (a0.add 5) fun (v3 : Sl) =>
   T.loop [.b (.int .i64)] [.int .i64 0] fun (j4 : Lab) (y5 : Int × Unit) =>
   cond (decide (y5.1 < (v3.len : Int)))
   (chk ((v3.a.isSome && decide (0 ≤ y5.1 ∧ y5.1 < (v3.len : Int)))) <|
    T.load (.b .string) ((v3.a.getD default).add (y5.1.toNat * 1)) fun (v6 : ByteArray) =>
    T.load (.b .string) (p0.add 2) fun (v7 : ByteArray) =>
    cond (v6.toList == v7.toList)
    (T.load (.b .slice) (a0.add 6) fun (v8 : Sl) =>
     chk ((v8.a.isSome && decide (0 ≤ y5.1 ∧ y5.1 < (v8.len : Int)))) <|
     T.load (.b (.int .i64)) ((v8.a.getD default).add (y5.1.toNat * 1)) fun (v9 : Int) =>
     T.ret [.int .i64 v9, .bool true])
    (T.jump j4 [.int .i64 (IntKind.wrap .i64 (y5.1 + 1))]))
   (T.ret [.int .i64 0, .bool false]))
  (T.load (.b .string) (p0.add 2) fun (v10 : ByteArray) =>
   T.call 64 [.string v10] [.b (.int .i64), .b .bool] fun (r11 : Int × Bool × Unit) =>
   T.blk [.b (.int .i64), .b .bool] (fun (j12 : Lab) =>
    cond (r11.2.1)
    (T.call 65 [.pointer (some a0), .int .i64 r11.1] [.b .bool] fun (r14 : Bool × Unit) =>
     T.jump j12 [.int .i64 r11.1, .bool r14.1])
    (T.jump j12 [.int .i64 r11.1, .bool false]))
   fun (y13 : Int × Bool × Unit) =>
   T.ret [.int .i64 y13.1, .bool y13.2.1]))

theorem d37_ok (a0 : Addr) (a1 : Ty49) : compF Tryz.prog Tryz.f37 [.pointer (some a0), .agg (bencs K49 a1).toArray] = d37 a0 a1 := by kernel_rfl

/-- 38 (*replica/conf.reader).skip -/
def d38 (a0 : Addr) : T :=
 T.loop [] [] fun (j0 : Lab) (_ : Unit) =>
 T.draw <|
 T.load (.b (.int .i64)) (a0.add 1) fun (v2 : Int) =>
 T.load (.b .string) a0 fun (v3 : ByteArray) =>
 cond (decide (v2 < (v3.size : Int)))
 (T.draw <|
  T.load (.b .string) a0 fun (v4 : ByteArray) =>
  T.load (.b (.int .i64)) (a0.add 1) fun (v5 : Int) =>
  chk (decide (0 ≤ v5 ∧ v5 < (v4.size : Int))) <|
  T.blk [.b .bool] (fun (j6 : Lab) =>
   cond ((byteAt v4 v5) == 32)
   (T.jump j6 [.bool ((byteAt v4 v5) == 32)])
   (cond ((byteAt v4 v5) == 9)
    (T.jump j6 [.bool ((byteAt v4 v5) == 9)])
    (cond ((byteAt v4 v5) == 10)
     (T.jump j6 [.bool ((byteAt v4 v5) == 10)])
     (T.jump j6 [.bool ((byteAt v4 v5) == 13)]))))
  fun (y7 : Bool × Unit) =>
  cond (y7.1)
  (T.load (.b (.int .i64)) (a0.add 1) fun (v8 : Int) =>
   T.store (a0.add 1) [.int .i64 (IntKind.wrap .i64 (v8 + 1))] <|
   T.jump j0 [])
  (cond ((byteAt v4 v5) == 35)
   (T.draw <|
    T.load (.b .string) a0 fun (v9 : ByteArray) =>
    T.load (.b (.int .i64)) (a0.add 1) fun (v10 : Int) =>
    chk (decide (0 ≤ v10 ∧ v10 ≤ (v9.size : Int) ∧ (v9.size : Int) ≤ (v9.size : Int))) <|
    T.call 66 [.string (v9.extract v10.toNat (v9.size : Int).toNat), .int .u8 10] [.b (.int .i64)] fun (r11 : Int × Unit) =>
    cond (decide (r11.1 < 0))
    (T.load (.b .string) a0 fun (v12 : ByteArray) =>
     T.store (a0.add 1) [.int .i64 (v12.size : Int)] <|
     T.jump j0 [])
    (T.load (.b (.int .i64)) (a0.add 1) fun (v13 : Int) =>
     T.store (a0.add 1) [.int .i64 (IntKind.wrap .i64 (v13 + r11.1))] <|
     T.jump j0 []))
   (T.ret [])))
 (T.ret [])

theorem d38_ok (a0 : Addr) : compF Tryz.prog Tryz.f38 [.pointer (some a0)] = d38 a0 := by kernel_rfl

/-- 45 replica/conf.escape -/
def d45 (a0 : ByteArray) : T :=
 cond (decide ((a0.size : Int) < 2))
 (T.ret [.int .i32 0, .int .i64 0])
 (chk (decide (0 ≤ (1 : Int) ∧ (1 : Int) < (a0.size : Int))) <|
  T.blk [.b .bool] (fun (j0 : Lab) =>
   cond ((byteAt a0 1) == 34)
   (T.jump j0 [.bool ((byteAt a0 1) == 34)])
   (T.jump j0 [.bool ((byteAt a0 1) == 92)]))
  fun (y1 : Bool × Unit) =>
  cond (y1.1)
  (chk (decide (0 ≤ (1 : Int) ∧ (1 : Int) < (a0.size : Int))) <|
   T.ret [.int .i32 (IntKind.wrap .i32 (byteAt a0 1)), .int .i64 2])
  (cond ((byteAt a0 1) == 110)
   (T.ret [.int .i32 10, .int .i64 2])
   (cond ((byteAt a0 1) == 116)
    (T.ret [.int .i32 9, .int .i64 2])
    (cond ((byteAt a0 1) == 117)
     (T.call 71 [.string a0] [.b (.int .i32), .b (.int .i64)] fun (r2 : Int × Int × Unit) =>
      T.ret [.int .i32 r2.1, .int .i64 r2.2.1])
     (T.ret [.int .i32 0, .int .i64 0])))))

theorem d45_ok (a0 : ByteArray) : compF Tryz.prog Tryz.f45 [.string a0] = d45 a0 := by kernel_rfl

/-- 46 unicode/utf8.AppendRune -/
def d46 (a0 : Sl) (a1 : Int) : T :=
 cond (decide (IntKind.wrap .u32 a1 ≤ 127))
 (T.op (vOf (Instr.buildSlice 86 1 #[(0, .int .u8 (IntKind.wrap .u8 a1))])) [.b .slice] fun (x0 : Sl × Unit) =>
  T.op (vOf (Builtin.append_ #[86, 86] 86 #[.slice a0.a a0.len a0.cap, .slice x0.1.a x0.1.len x0.1.cap])) [.b .slice] fun (x1 : Sl × Unit) =>
  T.ret [.slice x1.1.a x1.1.len x1.1.cap])
 (T.call 72 [.slice a0.a a0.len a0.cap, .int .i32 a1] [.b .slice] fun (r2 : Sl × Unit) =>
  T.ret [.slice r2.1.a r2.1.len r2.1.cap])

theorem d46_ok (a0 : Sl) (a1 : Int) : compF Tryz.prog Tryz.f46 [.slice a0.a a0.len a0.cap, .int .i32 a1] = d46 a0 a1 := by kernel_rfl

/-- 47 strings.HasPrefix -/
def d47 (a0 : ByteArray) (a1 : ByteArray) : T :=
 T.call 73 [.string a0, .string a1] [.b .bool] fun (r0 : Bool × Unit) =>
 T.ret [.bool r0.1]

theorem d47_ok (a0 : ByteArray) (a1 : ByteArray) : compF Tryz.prog Tryz.f47 [.string a0, .string a1] = d47 a0 a1 := by kernel_rfl

/-- 48 replica/conf.allKeys$1 -/
def d48 (a0 : Addr) : T :=
 T.ret [.pointer (some (a0.add 4))]

theorem d48_ok (a0 : Addr) : compF Tryz.prog Tryz.f48 [.pointer (some a0)] = d48 a0 := by kernel_rfl

/-- 49 replica/conf.allKeys$2 -/
def d49 (a0 : Addr) : T :=
 T.ret [.pointer (some (a0.add 1))]

theorem d49_ok (a0 : Addr) : compF Tryz.prog Tryz.f49 [.pointer (some a0)] = d49 a0 := by kernel_rfl

/-- 50 replica/conf.allKeys$3 -/
def d50 (a0 : Addr) : T :=
 T.ret [.pointer (some (a0.add 2))]

theorem d50_ok (a0 : Addr) : compF Tryz.prog Tryz.f50 [.pointer (some a0)] = d50 a0 := by kernel_rfl

/-- 51 replica/conf.allKeys$4 -/
def d51 (a0 : Addr) : T :=
 T.ret [.pointer (some (a0.add 3))]

theorem d51_ok (a0 : Addr) : compF Tryz.prog Tryz.f51 [.pointer (some a0)] = d51 a0 := by kernel_rfl

/-- 52 replica/conf.allKeys$5 -/
def d52 (a0 : Addr) : T :=
 T.ret [.pointer (some (a0.add 5))]

theorem d52_ok (a0 : Addr) : compF Tryz.prog Tryz.f52 [.pointer (some a0)] = d52 a0 := by kernel_rfl

/-- 53 replica/conf.allKeys$6 -/
def d53 (a0 : Addr) : T :=
 T.ret [.pointer (some (a0.add 6))]

theorem d53_ok (a0 : Addr) : compF Tryz.prog Tryz.f53 [.pointer (some a0)] = d53 a0 := by kernel_rfl

/-- 54 replica/conf.allKeys$7 -/
def d54 (a0 : Addr) : T :=
 T.ret [.pointer (some (a0.add 7))]

theorem d54_ok (a0 : Addr) : compF Tryz.prog Tryz.f54 [.pointer (some a0)] = d54 a0 := by kernel_rfl

/-- 55 replica/conf.allKeys$8 -/
def d55 (a0 : Addr) : T :=
 T.ret [.pointer (some (a0.add 8))]

theorem d55_ok (a0 : Addr) : compF Tryz.prog Tryz.f55 [.pointer (some a0)] = d55 a0 := by kernel_rfl

/-- 56 replica/conf.allKeys$9 -/
def d56 (a0 : Addr) : T :=
 T.ret [.pointer (some (a0.add 9))]

theorem d56_ok (a0 : Addr) : compF Tryz.prog Tryz.f56 [.pointer (some a0)] = d56 a0 := by kernel_rfl

/-- 57 replica/conf.allKeys$10 -/
def d57 (a0 : Addr) : T :=
 T.ret [.pointer (some (a0.add 10))]

theorem d57_ok (a0 : Addr) : compF Tryz.prog Tryz.f57 [.pointer (some a0)] = d57 a0 := by kernel_rfl

/-- 58 replica/conf.allKeys$11 -/
def d58 (a0 : Addr) : T :=
 T.ret [.pointer (some (a0.add 12))]

theorem d58_ok (a0 : Addr) : compF Tryz.prog Tryz.f58 [.pointer (some a0)] = d58 a0 := by kernel_rfl

/-- 59 replica/conf.allKeys$12 -/
def d59 (a0 : Addr) : T :=
 T.ret [.pointer (some (a0.add 13))]

theorem d59_ok (a0 : Addr) : compF Tryz.prog Tryz.f59 [.pointer (some a0)] = d59 a0 := by kernel_rfl

/-- 60 replica/conf.allKeys$13 -/
def d60 (a0 : Addr) : T :=
 T.ret [.pointer (some (a0.add 14))]

theorem d60_ok (a0 : Addr) : compF Tryz.prog Tryz.f60 [.pointer (some a0)] = d60 a0 := by kernel_rfl

/-- 61 replica/conf.allKeys$14 -/
def d61 (a0 : Addr) : T :=
 T.ret [.pointer (some (a0.add 15))]

theorem d61_ok (a0 : Addr) : compF Tryz.prog Tryz.f61 [.pointer (some a0)] = d61 a0 := by kernel_rfl

/-- 62 replica/conf.allKeys$15 -/
def d62 (a0 : Addr) : T :=
 T.ret [.pointer (some (a0.add 16))]

theorem d62_ok (a0 : Addr) : compF Tryz.prog Tryz.f62 [.pointer (some a0)] = d62 a0 := by kernel_rfl

/-- 63 replica/conf.allKeys$16 -/
def d63 (a0 : Addr) : T :=
 T.ret [.pointer (some (a0.add 17))]

theorem d63_ok (a0 : Addr) : compF Tryz.prog Tryz.f63 [.pointer (some a0)] = d63 a0 := by kernel_rfl

/-- 64 replica/conf.number -/
def d64 (a0 : ByteArray) : T :=
 T.blk [.b .string, .b (.int .i64)] (fun (j0 : Lab) =>
  T.blk [.b .bool] (fun (j2 : Lab) =>
   cond (decide ((a0.size : Int) > 0))
   (chk (decide (0 ≤ (IntKind.wrap .i64 ((a0.size : Int) - 1)) ∧ (IntKind.wrap .i64 ((a0.size : Int) - 1)) < (a0.size : Int))) <|
    cond ((byteAt a0 (IntKind.wrap .i64 ((a0.size : Int) - 1))) == 75)
    (T.jump j2 [.bool true])
    (chk (decide (0 ≤ (IntKind.wrap .i64 ((a0.size : Int) - 1)) ∧ (IntKind.wrap .i64 ((a0.size : Int) - 1)) < (a0.size : Int))) <|
     T.jump j2 [.bool ((byteAt a0 (IntKind.wrap .i64 ((a0.size : Int) - 1))) == 107)]))
   (T.jump j2 [.bool false]))
  fun (y3 : Bool × Unit) =>
  cond (y3.1)
  (chk (decide (0 ≤ (0 : Int) ∧ (0 : Int) ≤ (IntKind.wrap .i64 ((a0.size : Int) - 1)) ∧ (IntKind.wrap .i64 ((a0.size : Int) - 1)) ≤ (a0.size : Int))) <|
   T.jump j0 [.string (a0.extract (0 : Int).toNat (IntKind.wrap .i64 ((a0.size : Int) - 1)).toNat), .int .i64 1024])
  (T.jump j0 [.string a0, .int .i64 1]))
 fun (y1 : ByteArray × Int × Unit) =>
 T.blk [.b .bool] (fun (j4 : Lab) =>
  cond (decide ((y1.1.size : Int) < 1))
  (T.jump j4 [.bool true])
  (T.jump j4 [.bool (decide ((y1.1.size : Int) > 9))]))
 fun (y5 : Bool × Unit) =>
 cond (y5.1)
 (T.ret [.int .i64 0, .bool false])
 (T.loop [.b (.int .i64)] [.int .i64 0] fun (j6 : Lab) (y7 : Int × Unit) =>
  cond (decide (y7.1 < (y1.1.size : Int)))
  (chk (decide (0 ≤ y7.1 ∧ y7.1 < (y1.1.size : Int))) <|
   T.call 35 [.int .u8 (byteAt y1.1 y7.1)] [.b .bool] fun (r8 : Bool × Unit) =>
   cond (!r8.1)
   (T.ret [.int .i64 0, .bool false])
   (T.jump j6 [.int .i64 (IntKind.wrap .i64 (y7.1 + 1))]))
  (T.call 74 [.string y1.1] [.b (.int .i64), .b .iface] fun (r9 : Int × (Option (TypeId × Value)) × Unit) =>
   T.ret [.int .i64 (IntKind.wrap .i64 (r9.1 * y1.2.1)), .bool true]))

theorem d64_ok (a0 : ByteArray) : compF Tryz.prog Tryz.f64 [.string a0] = d64 a0 := by kernel_rfl

/-- 65 (*replica/conf.key).takes -/
def d65 (a0 : Addr) (a1 : Int) : T :=
 T.load (.b .slice) (a0.add 5) fun (v0 : Sl) =>
 cond (!(Option.isNone v0.a))
 (T.load (.b .slice) (a0.add 6) fun (v1 : Sl) =>
  T.loop [.b (.int .i64)] [.int .i64 0] fun (j2 : Lab) (y3 : Int × Unit) =>
  cond (decide (y3.1 < (v1.len : Int)))
  (chk ((v1.a.isSome && decide (0 ≤ y3.1 ∧ y3.1 < (v1.len : Int)))) <|
   T.load (.b (.int .i64)) ((v1.a.getD default).add (y3.1.toNat * 1)) fun (v4 : Int) =>
   cond (v4 == a1)
   (T.ret [.bool true])
   (T.jump j2 [.int .i64 (IntKind.wrap .i64 (y3.1 + 1))]))
  (T.ret [.bool false]))
 (T.blk [.b .bool] (fun (j5 : Lab) =>
   T.load (.b (.int .i64)) (a0.add 2) fun (v7 : Int) =>
   cond (decide (a1 < v7))
   (T.jump j5 [.bool true])
   (T.load (.b (.int .i64)) (a0.add 3) fun (v8 : Int) =>
    T.jump j5 [.bool (decide (a1 > v8))]))
  fun (y6 : Bool × Unit) =>
  cond (y6.1)
  (T.ret [.bool false])
  (T.blk [.b .bool] (fun (j9 : Lab) =>
    T.load (.b .bool) (a0.add 4) fun (v11 : Bool) =>
    cond (!v11)
    (T.jump j9 [.bool true])
    (T.jump j9 [.bool ((ibits .and .i64 a1 (IntKind.wrap .i64 (a1 - 1))) == 0)]))
   fun (y10 : Bool × Unit) =>
   T.ret [.bool y10.1]))

theorem d65_ok (a0 : Addr) (a1 : Int) : compF Tryz.prog Tryz.f65 [.pointer (some a0), .int .i64 a1] = d65 a0 a1 := by kernel_rfl

/-- 71 replica/conf.numbered -/
def d71 (a0 : ByteArray) : T :=
 T.call 66 [.string a0, .int .u8 125] [.b (.int .i64)] fun (r0 : Int × Unit) =>
 T.blk [.b .bool] (fun (j1 : Lab) =>
  T.call 47 [.string a0, .string (bs [92, 117, 123])] [.b .bool] fun (r3 : Bool × Unit) =>
  cond (!r3.1)
  (T.jump j1 [.bool true])
  (cond (decide (r0.1 < 4))
   (T.jump j1 [.bool true])
   (T.jump j1 [.bool (decide (r0.1 > 9))])))
 fun (y2 : Bool × Unit) =>
 cond (y2.1)
 (T.ret [.int .i32 0, .int .i64 0])
 (T.loop [.b (.int .i32), .b (.int .i64)] [.int .i32 0, .int .i64 3] fun (j4 : Lab) (y5 : Int × Int × Unit) =>
  cond (decide (y5.2.1 < r0.1))
  (chk (decide (0 ≤ y5.2.1 ∧ y5.2.1 < (a0.size : Int))) <|
   T.call 79 [.int .u8 (byteAt a0 y5.2.1)] [.b (.int .i32)] fun (r6 : Int × Unit) =>
   cond (decide (r6.1 < 0))
   (T.ret [.int .i32 0, .int .i64 0])
   (T.jump j4 [.int .i32 (IntKind.wrap .i32 (IntKind.wrap .i32 ((16 : Int) * y5.1) + r6.1)), .int .i64 (IntKind.wrap .i64 (y5.2.1 + 1))]))
  (T.call 80 [.int .i32 y5.1] [.b .bool] fun (r7 : Bool × Unit) =>
   cond (!r7.1)
   (T.ret [.int .i32 0, .int .i64 0])
   (T.ret [.int .i32 y5.1, .int .i64 (IntKind.wrap .i64 (r0.1 + 1))])))

theorem d71_ok (a0 : ByteArray) : compF Tryz.prog Tryz.f71 [.string a0] = d71 a0 := by kernel_rfl

/-- 72 unicode/utf8.appendRuneNonASCII -/
def d72 (a0 : Sl) (a1 : Int) : T :=
 cond (decide (IntKind.wrap .u32 a1 ≤ 2047))
 (T.op (vOf (Instr.buildSlice 86 2 #[(0, .int .u8 (ibits .or .u8 (192 : Int) (IntKind.wrap .u8 (shrI .i32 a1 6)))), (1, .int .u8 (ibits .or .u8 (128 : Int) (ibits .and .u8 (IntKind.wrap .u8 a1) 63)))])) [.b .slice] fun (x0 : Sl × Unit) =>
  T.op (vOf (Builtin.append_ #[86, 86] 86 #[.slice a0.a a0.len a0.cap, .slice x0.1.a x0.1.len x0.1.cap])) [.b .slice] fun (x1 : Sl × Unit) =>
  T.ret [.slice x1.1.a x1.1.len x1.1.cap])
 (T.blk [.b .bool] (fun (j2 : Lab) =>
   cond (decide (IntKind.wrap .u32 a1 < 55296))
   (T.jump j2 [.bool (decide (IntKind.wrap .u32 a1 < 55296))])
   (cond (decide ((57343 : Int) < IntKind.wrap .u32 a1))
    (T.jump j2 [.bool (decide (IntKind.wrap .u32 a1 ≤ 65535))])
    (T.jump j2 [.bool false])))
  fun (y3 : Bool × Unit) =>
  cond (y3.1)
  (T.op (vOf (Instr.buildSlice 86 3 #[(0, .int .u8 (ibits .or .u8 (224 : Int) (IntKind.wrap .u8 (shrI .i32 a1 12)))), (1, .int .u8 (ibits .or .u8 (128 : Int) (ibits .and .u8 (IntKind.wrap .u8 (shrI .i32 a1 6)) 63))), (2, .int .u8 (ibits .or .u8 (128 : Int) (ibits .and .u8 (IntKind.wrap .u8 a1) 63)))])) [.b .slice] fun (x4 : Sl × Unit) =>
   T.op (vOf (Builtin.append_ #[86, 86] 86 #[.slice a0.a a0.len a0.cap, .slice x4.1.a x4.1.len x4.1.cap])) [.b .slice] fun (x5 : Sl × Unit) =>
   T.ret [.slice x5.1.a x5.1.len x5.1.cap])
  (T.blk [.b .bool] (fun (j6 : Lab) =>
    cond (decide (IntKind.wrap .u32 a1 > 65535))
    (T.jump j6 [.bool (decide (IntKind.wrap .u32 a1 ≤ 1114111))])
    (T.jump j6 [.bool false]))
   fun (y7 : Bool × Unit) =>
   cond (y7.1)
   (T.op (vOf (Instr.buildSlice 86 4 #[(0, .int .u8 (ibits .or .u8 (240 : Int) (IntKind.wrap .u8 (shrI .i32 a1 18)))), (1, .int .u8 (ibits .or .u8 (128 : Int) (ibits .and .u8 (IntKind.wrap .u8 (shrI .i32 a1 12)) 63))), (2, .int .u8 (ibits .or .u8 (128 : Int) (ibits .and .u8 (IntKind.wrap .u8 (shrI .i32 a1 6)) 63))), (3, .int .u8 (ibits .or .u8 (128 : Int) (ibits .and .u8 (IntKind.wrap .u8 a1) 63)))])) [.b .slice] fun (x8 : Sl × Unit) =>
    T.op (vOf (Builtin.append_ #[86, 86] 86 #[.slice a0.a a0.len a0.cap, .slice x8.1.a x8.1.len x8.1.cap])) [.b .slice] fun (x9 : Sl × Unit) =>
    T.ret [.slice x9.1.a x9.1.len x9.1.cap])
   (T.op (vOf (Instr.buildSlice 86 3 #[(0, .int .u8 239), (1, .int .u8 191), (2, .int .u8 189)])) [.b .slice] fun (x10 : Sl × Unit) =>
    T.op (vOf (Builtin.append_ #[86, 86] 86 #[.slice a0.a a0.len a0.cap, .slice x10.1.a x10.1.len x10.1.cap])) [.b .slice] fun (x11 : Sl × Unit) =>
    T.ret [.slice x11.1.a x11.1.len x11.1.cap])))

theorem d72_ok (a0 : Sl) (a1 : Int) : compF Tryz.prog Tryz.f72 [.slice a0.a a0.len a0.cap, .int .i32 a1] = d72 a0 a1 := by kernel_rfl

/-- 73 internal/stringslite.HasPrefix -/
def d73 (a0 : ByteArray) (a1 : ByteArray) : T :=
 T.blk [.b .bool] (fun (j0 : Lab) =>
  cond (decide ((a0.size : Int) ≥ (a1.size : Int)))
  (chk (decide (0 ≤ (0 : Int) ∧ (0 : Int) ≤ (a1.size : Int) ∧ (a1.size : Int) ≤ (a0.size : Int))) <|
   T.jump j0 [.bool ((a0.extract (0 : Int).toNat (a1.size : Int).toNat).toList == a1.toList)])
  (T.jump j0 [.bool false]))
 fun (y1 : Bool × Unit) =>
 T.ret [.bool y1.1]

theorem d73_ok (a0 : ByteArray) (a1 : ByteArray) : compF Tryz.prog Tryz.f73 [.string a0, .string a1] = d73 a0 a1 := by kernel_rfl

/-- 74 strconv.Atoi -/
def d74 (a0 : ByteArray) : T :=
 T.call 81 [.string a0] [.b (.int .i64), .b .iface] fun (r0 : Int × (Option (TypeId × Value)) × Unit) =>
 chk (isIface (B.iface.enc r0.2.1)) <|
 cond (!(isNilI (B.iface.enc r0.2.1)))
 (T.call 82 [.string (bs [65, 116, 111, 105]), .string a0, .int .i64 0, .int .i64 0, B.iface.enc r0.2.1] [.b .iface] fun (r1 : (Option (TypeId × Value)) × Unit) =>
  T.ret [.int .i64 r0.1, B.iface.enc r1.1])
 (T.ret [.int .i64 r0.1, .nilIface])

theorem d74_ok (a0 : ByteArray) : compF Tryz.prog Tryz.f74 [.string a0] = d74 a0 := by kernel_rfl

/-- 79 replica/conf.hexadecimal -/
def d79 (a0 : Int) : T :=
 T.call 35 [.int .u8 a0] [.b .bool] fun (r0 : Bool × Unit) =>
 cond (r0.1)
 (T.ret [.int .i32 (IntKind.wrap .i32 (IntKind.wrap .u8 (a0 - 48)))])
 (T.blk [.b .bool] (fun (j1 : Lab) =>
   cond (decide (a0 ≥ 97))
   (T.jump j1 [.bool (decide (a0 ≤ 102))])
   (T.jump j1 [.bool false]))
  fun (y2 : Bool × Unit) =>
  cond (y2.1)
  (T.ret [.int .i32 (IntKind.wrap .i32 (IntKind.wrap .i32 (IntKind.wrap .u8 (a0 - 97)) + 10))])
  (T.blk [.b .bool] (fun (j3 : Lab) =>
    cond (decide (a0 ≥ 65))
    (T.jump j3 [.bool (decide (a0 ≤ 70))])
    (T.jump j3 [.bool false]))
   fun (y4 : Bool × Unit) =>
   cond (y4.1)
   (T.ret [.int .i32 (IntKind.wrap .i32 (IntKind.wrap .i32 (IntKind.wrap .u8 (a0 - 65)) + 10))])
   (T.ret [.int .i32 (-1)])))

theorem d79_ok (a0 : Int) : compF Tryz.prog Tryz.f79 [.int .u8 a0] = d79 a0 := by kernel_rfl

/-- 80 unicode/utf8.ValidRune -/
def d80 (a0 : Int) : T :=
 T.blk [.b .bool] (fun (j0 : Lab) =>
  cond (decide ((0 : Int) ≤ a0))
  (T.jump j0 [.bool (decide (a0 < 55296))])
  (T.jump j0 [.bool false]))
 fun (y1 : Bool × Unit) =>
 cond (y1.1)
 (T.ret [.bool true])
 (T.blk [.b .bool] (fun (j2 : Lab) =>
   cond (decide ((57343 : Int) < a0))
   (T.jump j2 [.bool (decide (a0 ≤ 1114111))])
   (T.jump j2 [.bool false]))
  fun (y3 : Bool × Unit) =>
  cond (y3.1)
  (T.ret [.bool true])
  (T.ret [.bool false]))

theorem d80_ok (a0 : Int) : compF Tryz.prog Tryz.f80 [.int .i32 a0] = d80 a0 := by kernel_rfl

/-- 81 internal/strconv.Atoi -/
def d81 (a0 : ByteArray) : T :=
 T.blk [.b .bool] (fun (j0 : Lab) =>
  cond (decide ((0 : Int) < (a0.size : Int)))
  (T.jump j0 [.bool (decide ((a0.size : Int) < 19))])
  (T.jump j0 [.bool false]))
 fun (y1 : Bool × Unit) =>
 cond (y1.1)
 (T.blk [.b .string] (fun (j2 : Lab) =>
   T.blk [.b .bool] (fun (j4 : Lab) =>
    chk (decide (0 ≤ (0 : Int) ∧ (0 : Int) < (a0.size : Int))) <|
    cond ((byteAt a0 0) == 45)
    (T.jump j4 [.bool true])
    (chk (decide (0 ≤ (0 : Int) ∧ (0 : Int) < (a0.size : Int))) <|
     T.jump j4 [.bool ((byteAt a0 0) == 43)]))
   fun (y5 : Bool × Unit) =>
   cond (y5.1)
   (chk (decide (0 ≤ (1 : Int) ∧ (1 : Int) ≤ (a0.size : Int) ∧ (a0.size : Int) ≤ (a0.size : Int))) <|
    cond (decide (((a0.extract (1 : Int).toNat (a0.size : Int).toNat).size : Int) < 1))
    (T.ret [.int .i64 0, .iface 115 (.int .i64 2)])
    (T.jump j2 [.string (a0.extract (1 : Int).toNat (a0.size : Int).toNat)]))
   (T.jump j2 [.string a0]))
  fun (y3 : ByteArray × Unit) =>
  T.op (vOf (convert 9 86 (.string y3.1))) [.b .slice] fun (x6 : Sl × Unit) =>
  T.loop [.b (.int .i64), .b (.int .i64)] [.int .i64 0, .int .i64 0] fun (j7 : Lab) (y8 : Int × Int × Unit) =>
  cond (decide (y8.2.1 < (x6.1.len : Int)))
  (chk ((x6.1.a.isSome && decide (0 ≤ y8.2.1 ∧ y8.2.1 < (x6.1.len : Int)))) <|
   T.load (.b (.int .u8)) ((x6.1.a.getD default).add (y8.2.1.toNat * 1)) fun (v9 : Int) =>
   cond (decide (IntKind.wrap .u8 (v9 - 48) > 9))
   (T.ret [.int .i64 0, .iface 115 (.int .i64 2)])
   (T.jump j7 [.int .i64 (IntKind.wrap .i64 (IntKind.wrap .i64 (y8.1 * 10) + IntKind.wrap .i64 (IntKind.wrap .u8 (v9 - 48)))), .int .i64 (IntKind.wrap .i64 (y8.2.1 + 1))]))
  (T.blk [.b (.int .i64)] (fun (j10 : Lab) =>
    chk (decide (0 ≤ (0 : Int) ∧ (0 : Int) < (a0.size : Int))) <|
    cond ((byteAt a0 0) == 45)
    (T.jump j10 [.int .i64 (IntKind.wrap .i64 (0 - y8.1))])
    (T.jump j10 [.int .i64 y8.1]))
   fun (y11 : Int × Unit) =>
   T.ret [.int .i64 y11.1, .nilIface]))
 (T.call 84 [.string a0, .int .i64 10, .int .i64 0] [.b (.int .i64), .b .iface] fun (r12 : Int × (Option (TypeId × Value)) × Unit) =>
  T.ret [.int .i64 r12.1, B.iface.enc r12.2.1])

theorem d81_ok (a0 : ByteArray) : compF Tryz.prog Tryz.f81 [.string a0] = d81 a0 := by kernel_rfl


end Go.Proofs
