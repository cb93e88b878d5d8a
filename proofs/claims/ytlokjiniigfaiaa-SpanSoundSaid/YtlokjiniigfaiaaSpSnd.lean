/- The walk of parolelaw10.SpanSound. -/
import Derived.Test.YtlokjiniigfaiaaSpEx
import Derived.Test.YtlokjiniigfaiaaSpLeq
import Derived.Test.YtlokjiniigfaiaaNumOp
import Derived.Test.YtlokjiniigfaiaaWk
set_option linter.unusedVariables false
set_option linter.unusedSimpArgs false
namespace Go.Proofs.Ytlokjiniigfaiaa
open Go.ChangeShapes Go.WideShapes Go.ChangeAt Go.RowKit

structure sound_law_r0_1 (x0 x1 x2 x3 y0 y1 y2 y3 n0 n1 n2 n3 v1 k1 v2 k2 : Int) (a b : Ab) (zf : Int → Ab) (w : World) (m1 : Nat) (D : Nat → Bool) (s : Nat → Value) (W : World) : Prop where
  zb : Mk0 w m1 W
  zq : Bks W []
  zt : Vals D s [(3, 6, Value.bool false)]
  v0 : D 0 = true → s 3 = (Value.pointer (some ⟨pblk (s 3), 0, none⟩))
  v1 : D 1 = true → s 4 = (Value.pointer (some ⟨pblk (s 4), 0, none⟩))
  v2 : D 2 = true → s 5 = (Value.pointer (some ⟨pblk (s 5), 0, none⟩))
  k0_0 : D 0 = true → Bk W (pblk (s 3)) #[Value.int .i64 x0, Value.int .i64 x1, Value.int .i64 x2, Value.int .i64 x3] 23
  g0 : D 0 = true → m1 ≤ (pblk (s 3))
  k1_0 : D 1 = true → Bk W (pblk (s 4)) #[Value.int .i64 y0, Value.int .i64 y1, Value.int .i64 y2, Value.int .i64 y3] 23
  g1 : D 1 = true → m1 ≤ (pblk (s 4))
  k2_0 : D 2 = true → Bk W (pblk (s 5)) #[Value.int .i64 n0, Value.int .i64 n1, Value.int .i64 n2, Value.int .i64 n3] 24
  g2 : D 2 = true → m1 ≤ (pblk (s 5))
  e0_1 : D 0 = true → D 1 = true → pblk (s 3) ≠ pblk (s 4)
  e0_2 : D 0 = true → D 2 = true → pblk (s 3) ≠ pblk (s 5)
  e1_2 : D 1 = true → D 2 = true → pblk (s 4) ≠ pblk (s 5)

structure sound_law_r1_2 (x0 x1 x2 x3 y0 y1 y2 y3 n0 n1 n2 n3 v1 k1 v2 k2 : Int) (a b : Ab) (zf : Int → Ab) (n1_0 n1_1 n1_2 : Nat) (w : World) (m2 : Nat) (D : Nat → Bool) (s : Nat → Value) (W : World) : Prop where
  zb : Mk0 w m2 W
  zq : Bks W [(n1_0, #[Value.int .i64 x0, Value.int .i64 x1, Value.int .i64 x2, Value.int .i64 x3], 23), (n1_1, #[Value.int .i64 y0, Value.int .i64 y1, Value.int .i64 y2, Value.int .i64 y3], 23), (n1_2, #[Value.int .i64 n0, Value.int .i64 n1, Value.int .i64 n2, Value.int .i64 n3], 24)]
  zt : Vals D s [(0, 14, Value.bool true), (1, 7, Value.bool true)]

structure sound_law_r2_3 (x0 x1 x2 x3 y0 y1 y2 y3 n0 n1 n2 n3 v1 k1 v2 k2 : Int) (a b : Ab) (zf : Int → Ab) (n1_0 n1_1 n1_2 : Nat) (w : World) (m3 : Nat) (D : Nat → Bool) (s : Nat → Value) (W : World) : Prop where
  zb : Mk0 w m3 W
  zq : Bks W [(n1_0, #[Value.int .i64 x0, Value.int .i64 x1, Value.int .i64 x2, Value.int .i64 x3], 23), (n1_1, #[Value.int .i64 y0, Value.int .i64 y1, Value.int .i64 y2, Value.int .i64 y3], 23), (n1_2, #[Value.int .i64 n0, Value.int .i64 n1, Value.int .i64 n2, Value.int .i64 n3], 24)]
  zt : Vals D s [(0, 15, Value.bool true), (1, 16, Value.bool false)]

structure sound_law_r4_4 (x0 x1 x2 x3 y0 y1 y2 y3 n0 n1 n2 n3 v1 k1 v2 k2 : Int) (a b : Ab) (zf : Int → Ab) (n1_0 n1_1 n1_2 : Nat) (w : World) (m4 : Nat) (D : Nat → Bool) (s : Nat → Value) (W : World) : Prop where
  zb : Mk0 w m4 W
  zq : Bks W [(n1_0, #[Value.int .i64 x0, Value.int .i64 x1, Value.int .i64 x2, Value.int .i64 x3], 23), (n1_1, #[Value.int .i64 y0, Value.int .i64 y1, Value.int .i64 y2, Value.int .i64 y3], 23), (n1_2, #[Value.int .i64 n0, Value.int .i64 n1, Value.int .i64 n2, Value.int .i64 n3], 24)]
  zt : Vals D s [(0, 17, Value.agg #[Value.int .i64 x0, Value.int .i64 x1, Value.int .i64 x2, Value.int .i64 x3]), (1, 18, Value.agg #[Value.int .i64 a.lo, Value.int .i64 a.hi, Value.int .i64 a.m, Value.int .i64 a.r, Value.int .i64 a.k]), (2, 19, Value.agg #[Value.int .i64 y0, Value.int .i64 y1, Value.int .i64 y2, Value.int .i64 y3]), (3, 20, Value.agg #[Value.int .i64 b.lo, Value.int .i64 b.hi, Value.int .i64 b.m, Value.int .i64 b.r, Value.int .i64 b.k])]
  v4 : D 4 = true → s 8 = (Value.pointer (some ⟨pblk (s 8), 0, none⟩))
  v5 : D 5 = true → s 9 = (Value.pointer (some ⟨pblk (s 9), 0, none⟩))
  k4_0 : D 4 = true → D 6 = false → Bk W (pblk (s 8)) #[Value.int .i64 0, Value.int .i64 0, Value.int .i64 0, Value.int .i64 0, Value.int .i64 0] 27
  k4_1 : D 6 = true → Bk W (pblk (s 8)) #[Value.int .i64 a.lo, Value.int .i64 a.hi, Value.int .i64 a.m, Value.int .i64 a.r, Value.int .i64 a.k] 27
  c4_1 : D 6 = true → D 4 = true
  g4 : D 4 = true → m4 ≤ (pblk (s 8))
  k5_0 : D 5 = true → D 7 = false → Bk W (pblk (s 9)) #[Value.int .i64 0, Value.int .i64 0, Value.int .i64 0, Value.int .i64 0, Value.int .i64 0] 27
  k5_1 : D 7 = true → Bk W (pblk (s 9)) #[Value.int .i64 b.lo, Value.int .i64 b.hi, Value.int .i64 b.m, Value.int .i64 b.r, Value.int .i64 b.k] 27
  c5_1 : D 7 = true → D 5 = true
  g5 : D 5 = true → m4 ≤ (pblk (s 9))
  e4_5 : D 4 = true → D 5 = true → pblk (s 8) ≠ pblk (s 9)

structure sound_law_r5_5 (x0 x1 x2 x3 y0 y1 y2 y3 n0 n1 n2 n3 v1 k1 v2 k2 : Int) (a b : Ab) (zf : Int → Ab) (n1_2 n4_4 n4_5 : Nat) (w : World) (m5 : Nat) (D : Nat → Bool) (s : Nat → Value) (W : World) : Prop where
  zb : Mk0 w m5 W
  zq : Bks W [(n1_2, #[Value.int .i64 n0, Value.int .i64 n1, Value.int .i64 n2, Value.int .i64 n3], 24), (n4_4, #[Value.int .i64 a.lo, Value.int .i64 a.hi, Value.int .i64 a.m, Value.int .i64 a.r, Value.int .i64 a.k], 27), (n4_5, #[Value.int .i64 b.lo, Value.int .i64 b.hi, Value.int .i64 b.m, Value.int .i64 b.r, Value.int .i64 b.k], 27)]
  zt : Vals D s [(0, 21, Value.agg #[Value.int .i64 a.lo, Value.int .i64 a.hi, Value.int .i64 a.m, Value.int .i64 a.r, Value.int .i64 a.k]), (1, 22, Value.pointer (some ⟨n1_2, 0, none⟩)), (2, 23, Value.int .i64 n0), (3, 24, Value.pointer (some ⟨n1_2, 1, none⟩)), (4, 25, Value.int .i64 n1), (5, 26, Value.agg #[Value.int .i64 v1, Value.int .i64 k1]), (6, 27, Value.agg #[Value.int .i64 b.lo, Value.int .i64 b.hi, Value.int .i64 b.m, Value.int .i64 b.r, Value.int .i64 b.k]), (7, 28, Value.pointer (some ⟨n1_2, 2, none⟩)), (8, 29, Value.int .i64 n2), (9, 30, Value.pointer (some ⟨n1_2, 3, none⟩)), (10, 31, Value.int .i64 n3), (11, 32, Value.agg #[Value.int .i64 v2, Value.int .i64 k2])]
  v12 : D 12 = true → s 10 = (Value.pointer (some ⟨pblk (s 10), 0, none⟩))
  v13 : D 13 = true → s 11 = (Value.pointer (some ⟨pblk (s 11), 0, none⟩))
  k12_0 : D 12 = true → D 14 = false → Bk W (pblk (s 10)) #[Value.int .i64 0, Value.int .i64 0] 30
  k12_1 : D 14 = true → Bk W (pblk (s 10)) #[Value.int .i64 v1, Value.int .i64 k1] 30
  c12_1 : D 14 = true → D 12 = true
  g12 : D 12 = true → m5 ≤ (pblk (s 10))
  k13_0 : D 13 = true → D 15 = false → Bk W (pblk (s 11)) #[Value.int .i64 0, Value.int .i64 0] 30
  k13_1 : D 15 = true → Bk W (pblk (s 11)) #[Value.int .i64 v2, Value.int .i64 k2] 30
  c13_1 : D 15 = true → D 13 = true
  g13 : D 13 = true → m5 ≤ (pblk (s 11))
  e12_13 : D 12 = true → D 13 = true → pblk (s 10) ≠ pblk (s 11)

structure sound_law_r6_6 (x0 x1 x2 x3 y0 y1 y2 y3 n0 n1 n2 n3 v1 k1 v2 k2 : Int) (a b : Ab) (zf : Int → Ab) (n4_4 n4_5 n5_12 n5_13 : Nat) (w : World) (m6 : Nat) (D : Nat → Bool) (s : Nat → Value) (W : World) : Prop where
  zb : Mk0 w m6 W
  zq : Bks W [(n4_4, #[Value.int .i64 a.lo, Value.int .i64 a.hi, Value.int .i64 a.m, Value.int .i64 a.r, Value.int .i64 a.k], 27), (n4_5, #[Value.int .i64 b.lo, Value.int .i64 b.hi, Value.int .i64 b.m, Value.int .i64 b.r, Value.int .i64 b.k], 27), (n5_12, #[Value.int .i64 v1, Value.int .i64 k1], 30), (n5_13, #[Value.int .i64 v2, Value.int .i64 k2], 30)]
  zt : Vals D s [(0, 33, Value.agg #[Value.int .i64 a.lo, Value.int .i64 a.hi, Value.int .i64 a.m, Value.int .i64 a.r, Value.int .i64 a.k]), (1, 34, Value.agg #[Value.int .i64 v1, Value.int .i64 k1]), (2, 35, Value.bool true), (3, 36, Value.bool false), (4, 37, Value.bool false), (5, 38, Value.agg #[Value.int .i64 b.lo, Value.int .i64 b.hi, Value.int .i64 b.m, Value.int .i64 b.r, Value.int .i64 b.k]), (6, 39, Value.agg #[Value.int .i64 v2, Value.int .i64 k2]), (7, 40, Value.bool true), (8, 41, Value.bool false), (9, 42, Value.bool false)]

structure sound_law_r8_7 (x0 x1 x2 x3 y0 y1 y2 y3 n0 n1 n2 n3 v1 k1 v2 k2 : Int) (a b : Ab) (zf : Int → Ab) (n4_4 n4_5 n5_12 n5_13 : Nat) (w : World) (m7 : Nat) (D : Nat → Bool) (s : Nat → Value) (W : World) : Prop where
  zb : Mk0 w m7 W
  zq : Bks W [(n4_4, #[Value.int .i64 a.lo, Value.int .i64 a.hi, Value.int .i64 a.m, Value.int .i64 a.r, Value.int .i64 a.k], 27), (n4_5, #[Value.int .i64 b.lo, Value.int .i64 b.hi, Value.int .i64 b.m, Value.int .i64 b.r, Value.int .i64 b.k], 27), (n5_12, #[Value.int .i64 v1, Value.int .i64 k1], 30), (n5_13, #[Value.int .i64 v2, Value.int .i64 k2], 30)]
  zt : Vals D s [(0, 12, Value.int .i64 4)]

structure sound_law_r9_8 (x0 x1 x2 x3 y0 y1 y2 y3 n0 n1 n2 n3 v1 k1 v2 k2 : Int) (a b : Ab) (zf : Int → Ab) (op : Int) (n4_4 n4_5 n5_12 n5_13 : Nat) (w : World) (m8 : Nat) (D : Nat → Bool) (s : Nat → Value) (W : World) : Prop where
  zb : Mk0 w m8 W
  zq : Bks W [(n4_4, #[Value.int .i64 a.lo, Value.int .i64 a.hi, Value.int .i64 a.m, Value.int .i64 a.r, Value.int .i64 a.k], 27), (n4_5, #[Value.int .i64 b.lo, Value.int .i64 b.hi, Value.int .i64 b.m, Value.int .i64 b.r, Value.int .i64 b.k], 27), (n5_12, #[Value.int .i64 v1, Value.int .i64 k1], 30), (n5_13, #[Value.int .i64 v2, Value.int .i64 k2], 30)]
  zt : Vals D s [(0, 43, Value.int .i64 op), (1, 44, Value.bool (decide (op ≤ 10)))]

structure sound_law_r11_9 (x0 x1 x2 x3 y0 y1 y2 y3 n0 n1 n2 n3 v1 k1 v2 k2 : Int) (a b : Ab) (zf : Int → Ab) (op : Int) (n4_4 n4_5 n5_12 n5_13 : Nat) (w : World) (m9 : Nat) (D : Nat → Bool) (s : Nat → Value) (W : World) : Prop where
  zb : Mk0 w m9 W
  zq : Bks W [(n4_4, #[Value.int .i64 a.lo, Value.int .i64 a.hi, Value.int .i64 a.m, Value.int .i64 a.r, Value.int .i64 a.k], 27), (n4_5, #[Value.int .i64 b.lo, Value.int .i64 b.hi, Value.int .i64 b.m, Value.int .i64 b.r, Value.int .i64 b.k], 27), (n5_12, #[Value.int .i64 v1, Value.int .i64 k1], 30), (n5_13, #[Value.int .i64 v2, Value.int .i64 k2], 30)]
  zt : Vals D s [(0, 47, Value.int .i64 op), (1, 48, Value.agg #[Value.int .i64 a.lo, Value.int .i64 a.hi, Value.int .i64 a.m, Value.int .i64 a.r, Value.int .i64 a.k]), (2, 49, Value.agg #[Value.int .i64 b.lo, Value.int .i64 b.hi, Value.int .i64 b.m, Value.int .i64 b.r, Value.int .i64 b.k]), (3, 50, Value.agg #[Value.int .i64 (zf op).lo, Value.int .i64 (zf op).hi, Value.int .i64 (zf op).m, Value.int .i64 (zf op).r, Value.int .i64 (zf op).k])]
  v4 : D 4 = true → s 13 = (Value.pointer (some ⟨pblk (s 13), 0, none⟩))
  k4_0 : D 4 = true → D 5 = false → Bk W (pblk (s 13)) #[Value.int .i64 0, Value.int .i64 0, Value.int .i64 0, Value.int .i64 0, Value.int .i64 0] 27
  k4_1 : D 5 = true → Bk W (pblk (s 13)) #[Value.int .i64 (zf op).lo, Value.int .i64 (zf op).hi, Value.int .i64 (zf op).m, Value.int .i64 (zf op).r, Value.int .i64 (zf op).k] 27
  c4_1 : D 5 = true → D 4 = true
  g4 : D 4 = true → m9 ≤ (pblk (s 13))

structure sound_law_r12_10 (x0 x1 x2 x3 y0 y1 y2 y3 n0 n1 n2 n3 v1 k1 v2 k2 : Int) (a b : Ab) (zf : Int → Ab) (op : Int) (n4_4 n4_5 n5_12 n5_13 n9_4 : Nat) (w : World) (m10 : Nat) (D : Nat → Bool) (s : Nat → Value) (W : World) : Prop where
  zb : Mk0 w m10 W
  zq : Bks W [(n4_4, #[Value.int .i64 a.lo, Value.int .i64 a.hi, Value.int .i64 a.m, Value.int .i64 a.r, Value.int .i64 a.k], 27), (n4_5, #[Value.int .i64 b.lo, Value.int .i64 b.hi, Value.int .i64 b.m, Value.int .i64 b.r, Value.int .i64 b.k], 27), (n5_12, #[Value.int .i64 v1, Value.int .i64 k1], 30), (n5_13, #[Value.int .i64 v2, Value.int .i64 k2], 30), (n9_4, #[Value.int .i64 (zf op).lo, Value.int .i64 (zf op).hi, Value.int .i64 (zf op).m, Value.int .i64 (zf op).r, Value.int .i64 (zf op).k], 27)]
  zt : Vals D s [(0, 51, Value.agg #[Value.int .i64 (zf op).lo, Value.int .i64 (zf op).hi, Value.int .i64 (zf op).m, Value.int .i64 (zf op).r, Value.int .i64 (zf op).k]), (1, 52, Value.bool true), (2, 53, Value.bool false), (3, 54, Value.bool false), (4, 55, Value.agg #[Value.int .i64 (zf op).lo, Value.int .i64 (zf op).hi, Value.int .i64 (zf op).m, Value.int .i64 (zf op).r, Value.int .i64 (zf op).k]), (5, 56, Value.int .i64 op), (6, 57, Value.pointer (some ⟨n5_12, 0, none⟩)), (7, 58, Value.int .i64 v1), (8, 59, Value.pointer (some ⟨n5_13, 0, none⟩)), (9, 60, Value.int .i64 v2), (10, 61, Value.int .i64 (opV op v1 v2)), (11, 62, Value.pointer (some ⟨n5_12, 1, none⟩)), (12, 63, Value.int .i64 k1), (13, 64, Value.pointer (some ⟨n5_13, 1, none⟩)), (14, 65, Value.int .i64 k2), (15, 66, Value.int .i64 (bits .or .i64 k1 k2)), (16, 67, Value.agg #[Value.int .i64 (opV op v1 v2), Value.int .i64 (bits .or .i64 k1 k2)]), (17, 68, Value.bool true), (18, 69, Value.bool false), (19, 70, Value.bool false)]

structure sound_law_r10_11 (x0 x1 x2 x3 y0 y1 y2 y3 n0 n1 n2 n3 v1 k1 v2 k2 : Int) (a b : Ab) (zf : Int → Ab) (op : Int) (n4_4 n4_5 n5_12 n5_13 n9_4 : Nat) (w : World) (m11 : Nat) (D : Nat → Bool) (s : Nat → Value) (W : World) : Prop where
  zb : Mk0 w m11 W
  zq : Bks W [(n4_4, #[Value.int .i64 a.lo, Value.int .i64 a.hi, Value.int .i64 a.m, Value.int .i64 a.r, Value.int .i64 a.k], 27), (n4_5, #[Value.int .i64 b.lo, Value.int .i64 b.hi, Value.int .i64 b.m, Value.int .i64 b.r, Value.int .i64 b.k], 27), (n5_12, #[Value.int .i64 v1, Value.int .i64 k1], 30), (n5_13, #[Value.int .i64 v2, Value.int .i64 k2], 30), (n9_4, #[Value.int .i64 (zf op).lo, Value.int .i64 (zf op).hi, Value.int .i64 (zf op).m, Value.int .i64 (zf op).r, Value.int .i64 (zf op).k], 27)]
  zt : Vals D s [(0, 45, Value.int .i64 op), (1, 46, Value.int .i64 (op + 1)), (2, 12, Value.int .i64 (op + 1))]
  r12 : D 2 = false → s 12 = (Value.int .i64 op)
  q12_0 : D 2 = true → D 0 = true

structure sound_law_r14_12 (x0 x1 x2 x3 y0 y1 y2 y3 n0 n1 n2 n3 v1 k1 v2 k2 : Int) (a b : Ab) (zf : Int → Ab) (op : Int) (n4_4 n4_5 n5_12 n5_13 : Nat) (w : World) (m12 : Nat) (D : Nat → Bool) (s : Nat → Value) (W : World) : Prop where
  zb : Mk0 w m12 W
  zq : Bks W [(n4_4, #[Value.int .i64 a.lo, Value.int .i64 a.hi, Value.int .i64 a.m, Value.int .i64 a.r, Value.int .i64 a.k], 27), (n4_5, #[Value.int .i64 b.lo, Value.int .i64 b.hi, Value.int .i64 b.m, Value.int .i64 b.r, Value.int .i64 b.k], 27), (n5_12, #[Value.int .i64 v1, Value.int .i64 k1], 30), (n5_13, #[Value.int .i64 v2, Value.int .i64 k2], 30)]
  zt : Vals D s [(0, 71, Value.bool true), (1, 6, Value.bool true)]

set_option maxRecDepth 100000 in
set_option maxHeartbeats 4000000 in
theorem sound_law (x0 x1 x2 x3 y0 y1 y2 y3 n0 n1 n2 n3 v1 k1 v2 k2 : Int) (a b : Ab) (zf : Int → Ab) (w : World) 
    (Gx : Hid (∀ w, Calls Try.prog 11 #[Value.agg #[Value.int .i64 x0, Value.int .i64 x1, Value.int .i64 x2, Value.int .i64 x3]] w fun e w' => e = .returned (abVal a) ∧ Below w.heap.size w w'))
    (Gy : Hid (∀ w, Calls Try.prog 11 #[Value.agg #[Value.int .i64 y0, Value.int .i64 y1, Value.int .i64 y2, Value.int .i64 y3]] w fun e w' => e = .returned (abVal b) ∧ Below w.heap.size w w'))
    (KA : Hid (∀ w, Calls Try.prog 12 #[Value.agg #[Value.int .i64 a.lo, Value.int .i64 a.hi, Value.int .i64 a.m, Value.int .i64 a.r, Value.int .i64 a.k], .int .i64 n0, .int .i64 n1] w fun e w' => e = .returned (Value.agg #[Value.int .i64 v1, Value.int .i64 k1]) ∧ Below w.heap.size w w'))
    (KB : Hid (∀ w, Calls Try.prog 12 #[Value.agg #[Value.int .i64 b.lo, Value.int .i64 b.hi, Value.int .i64 b.m, Value.int .i64 b.r, Value.int .i64 b.k], .int .i64 n2, .int .i64 n3] w fun e w' => e = .returned (Value.agg #[Value.int .i64 v2, Value.int .i64 k2]) ∧ Below w.heap.size w w'))
    (KH1 : Hid (∀ w, Calls Try.prog 13 #[Value.agg #[Value.int .i64 a.lo, Value.int .i64 a.hi, Value.int .i64 a.m, Value.int .i64 a.r, Value.int .i64 a.k], Value.agg #[Value.int .i64 v1, Value.int .i64 k1]] w fun e w' => e = .returned (.bool true) ∧ Below w.heap.size w w'))
    (KH2 : Hid (∀ w, Calls Try.prog 13 #[Value.agg #[Value.int .i64 b.lo, Value.int .i64 b.hi, Value.int .i64 b.m, Value.int .i64 b.r, Value.int .i64 b.k], Value.agg #[Value.int .i64 v2, Value.int .i64 k2]] w fun e w' => e = .returned (.bool true) ∧ Below w.heap.size w w'))
    (KO : Hid (∀ op, 4 ≤ op → op ≤ 10 → ∀ w, Calls Try.prog 14 #[.int .i64 op, Value.agg #[Value.int .i64 a.lo, Value.int .i64 a.hi, Value.int .i64 a.m, Value.int .i64 a.r, Value.int .i64 a.k], Value.agg #[Value.int .i64 b.lo, Value.int .i64 b.hi, Value.int .i64 b.m, Value.int .i64 b.r, Value.int .i64 b.k]] w fun e w' => e = .returned (abVal (zf op)) ∧ Below w.heap.size w w'))
    (KV : Hid (∀ op, 4 ≤ op → op ≤ 10 → ∀ w, Calls Try.prog 15 #[Value.agg #[Value.int .i64 (zf op).lo, Value.int .i64 (zf op).hi, Value.int .i64 (zf op).m, Value.int .i64 (zf op).r, Value.int .i64 (zf op).k]] w fun e w' => e = .returned (.bool true) ∧ Below w.heap.size w w'))
    (KN : Hid (∀ op, 4 ≤ op → op ≤ 10 → ∀ w, Calls Try.prog 13 #[Value.agg #[Value.int .i64 (zf op).lo, Value.int .i64 (zf op).hi, Value.int .i64 (zf op).m, Value.int .i64 (zf op).r, Value.int .i64 (zf op).k], Value.agg #[Value.int .i64 (opV op v1 v2), Value.int .i64 (bits .or .i64 k1 k2)]] w fun e w' => e = .returned (.bool true) ∧ Below w.heap.size w w')) :
    Calls Try.prog 3 #[Value.agg #[Value.int .i64 x0, Value.int .i64 x1, Value.int .i64 x2, Value.int .i64 x3], Value.agg #[Value.int .i64 y0, Value.int .i64 y1, Value.int .i64 y2, Value.int .i64 y3], Value.agg #[Value.int .i64 n0, Value.int .i64 n1, Value.int .i64 n2, Value.int .i64 n3]] w fun e w' => e = .returned (Value.bool true) ∧ Below w.heap.size w w' := by
  have KE := Lib.hid spexamples
  refine calls_go Try.func3 rfl 72 rfl rfl (fun aF hz df hu => ?_)
  have u0 : Sl aF 0 (Value.agg #[Value.int .i64 x0, Value.int .i64 x1, Value.int .i64 x2, Value.int .i64 x3]) := hu 0 _ rfl
  have u1 : Sl aF 1 (Value.agg #[Value.int .i64 y0, Value.int .i64 y1, Value.int .i64 y2, Value.int .i64 y3]) := hu 1 _ rfl
  have u2 : Sl aF 2 (Value.agg #[Value.int .i64 n0, Value.int .i64 n1, Value.int .i64 n2, Value.int .i64 n3]) := hu 2 _ rfl
  clear hu
  have hM : Mk0 w w.heap.size w := ⟨Below.refl _ _, Nat.le_refl _⟩
  have hB : Bks w [] := trivial
  refine wp_seq ?_
  obtain ⟨m1, hM, hU, hwm⟩ := start_region hM.b hB
  refine region_run (F := sound_law_r0_1 x0 x1 x2 x3 y0 y1 y2 y3 n0 n1 n2 n3 v1 k1 v2 k2 a b zf w m1) [3, 4, 5, 6] [0, 1, 2, 3] hz df (by kernel_rfl) (by kernel_rfl) (fun s hs0 => ⟨hM, hB, Vals.none s _, fun h => no_of' h, fun h => no_of' h, fun h => no_of' h, fun h => no_of' h, fun h => no_of' h, fun h => no_of' h, fun h => no_of' h, fun h => no_of' h, fun h => no_of' h, fun h => no_of' h, fun h => no_of' h, fun h => no_of' h⟩) ?_ ?_
  refine FSteps.op3 hz rfl (dv := []) (by kernel_rfl) (by kernel_rfl) (by kernel_rfl) (fun D s W bA kK hD hW hF hA hK => ?_) ?_
  · have x0 := hA.o 0 _ rfl u0
    have hF := Lib.hid hF
    clear hA
    go_simp
    exact hK.out _ _ ⟨hF.out.zb.al _, Bks.al _ hF.out.zq, hF.out.zt.skip rfl, fun _ => rfl, hF.out.v1, hF.out.v2, fun _ => Bk.new _ _ _, fun _ => hF.out.zb.g, fun h1 => (hF.out.k1_0 h1).al _, hF.out.g1, fun h1 => (hF.out.k2_0 h1).al _, hF.out.g2, fun _ h => Nat.ne_of_gt ((hF.out.k1_0 h).lt), fun _ h => Nat.ne_of_gt ((hF.out.k2_0 h).lt), hF.out.e1_2⟩
  refine FSteps.op3 hz rfl (dv := []) (by kernel_rfl) (by kernel_rfl) (by kernel_rfl) (fun D s W bA kK hD hW hF hA hK => ?_) ?_
  · have x1 := hA.o 1 _ rfl u1
    have hF := Lib.hid hF
    clear hA
    go_simp
    exact hK.out _ _ ⟨hF.out.zb.al _, Bks.al _ hF.out.zq, hF.out.zt.skip rfl, hF.out.v0, fun _ => rfl, hF.out.v2, fun h1 => (hF.out.k0_0 h1).al _, hF.out.g0, fun _ => Bk.new _ _ _, fun _ => hF.out.zb.g, fun h1 => (hF.out.k2_0 h1).al _, hF.out.g2, fun h _ => Nat.ne_of_lt ((hF.out.k0_0 h).lt), hF.out.e0_2, fun _ h => Nat.ne_of_gt ((hF.out.k2_0 h).lt)⟩
  refine FSteps.op3 hz rfl (dv := []) (by kernel_rfl) (by kernel_rfl) (by kernel_rfl) (fun D s W bA kK hD hW hF hA hK => ?_) ?_
  · have x2 := hA.o 2 _ rfl u2
    have hF := Lib.hid hF
    clear hA
    go_simp
    exact hK.out _ _ ⟨hF.out.zb.al _, Bks.al _ hF.out.zq, hF.out.zt.skip rfl, hF.out.v0, hF.out.v1, fun _ => rfl, fun h1 => (hF.out.k0_0 h1).al _, hF.out.g0, fun h1 => (hF.out.k1_0 h1).al _, hF.out.g1, fun _ => Bk.new _ _ _, fun _ => hF.out.zb.g, hF.out.e0_1, fun h _ => Nat.ne_of_lt ((hF.out.k0_0 h).lt), fun h _ => Nat.ne_of_lt ((hF.out.k1_0 h).lt)⟩
  refine FSteps.op3 hz rfl (dv := []) (by kernel_rfl) (by kernel_rfl) (by kernel_rfl) (fun D s W bA kK hD hW hF hA hK => ?_) ?_
  · have hF := Lib.hid hF
    clear hA
    go_simp
    exact hK.out _ _ ⟨hF.out.zb, hF.out.zq, hF.out.zt.step rfl rfl, hF.out.v0, hF.out.v1, hF.out.v2, hF.out.k0_0, hF.out.g0, hF.out.k1_0, hF.out.g1, hF.out.k2_0, hF.out.g2, hF.out.e0_1, hF.out.e0_2, hF.out.e1_2⟩
  exact FSteps.nil
  intro D s W aF1 hD hF hz' df' hA
  obtain ⟨d0, d1, d2, d3, -⟩ := hD
  clear u0 u1 u2
  have u3 : Sl aF1 3 _ := hA.i 3 _ rfl rfl (hF.v0 d0)
  have u4 : Sl aF1 4 _ := hA.i 4 _ rfl rfl (hF.v1 d1)
  have u5 : Sl aF1 5 _ := hA.i 5 _ rfl rfl (hF.v2 d2)
  have u6 : Sl aF1 6 _ := hA.i 6 _ rfl rfl (hF.zt.get (j := 3) rfl d3)
  have hkX0 := hF.k0_0 d0
  have hgX0 := hF.g0 d0
  have hkX1 := hF.k1_0 d1
  have hgX1 := hF.g1 d1
  have hkX2 := hF.k2_0 d2
  have hgX2 := hF.g2 d2
  have heX0_1 := hF.e0_1 d0 d1
  have heX0_2 := hF.e0_2 d0 d2
  have heX1_2 := hF.e1_2 d1 d2
  have hM := hF.zb
  have hB := hF.zq
  generalize pblk (s 3) = n1_0 at hkX0 hgX0 hkX1 hgX1 hkX2 hgX2 heX0_1 heX0_2 heX1_2 u3 u4 u5 u6
  generalize pblk (s 4) = n1_1 at hkX0 hgX0 hkX1 hgX1 hkX2 hgX2 heX0_1 heX0_2 heX1_2 u3 u4 u5 u6
  generalize pblk (s 5) = n1_2 at hkX0 hgX0 hkX1 hgX1 hkX2 hgX2 heX0_1 heX0_2 heX1_2 u3 u4 u5 u6
  have hB : Bks W [(n1_0, #[Value.int .i64 x0, Value.int .i64 x1, Value.int .i64 x2, Value.int .i64 x3], 23), (n1_1, #[Value.int .i64 y0, Value.int .i64 y1, Value.int .i64 y2, Value.int .i64 y3], 23), (n1_2, #[Value.int .i64 n0, Value.int .i64 n1, Value.int .i64 n2, Value.int .i64 n3], 24)] := ⟨hkX0, hkX1, hkX2, trivial⟩
  clear hF hA hz df d0 d1 d2 d3 hU
  have hz := hz'; have df := df'; clear hz' df'
  clear aF
  show Code.wp _ _ _ _ _
  refine wp_seq ?_
  obtain ⟨m2, hM, hU, hwm⟩ := start_region hM.b hB
  refine region_run (F := sound_law_r1_2 x0 x1 x2 x3 y0 y1 y2 y3 n0 n1 n2 n3 v1 k1 v2 k2 a b zf n1_0 n1_1 n1_2 w m2) [14, 7] [0, 1] hz df (by kernel_rfl) (by kernel_rfl) (fun s hs0 => ⟨hM, hB, Vals.none s _⟩) ?_ ?_
  refine FSteps.op3 hz rfl (dv := []) (by kernel_rfl) (by kernel_rfl) (by kernel_rfl) (fun D s W bA kK hD hW hF hA hK => ?_) ?_
  · have hF := Lib.hid hF
    clear hA
    go_simp
    (go_at_call 10; ((with_reducible_and_instances refine (KE.out _).mono ?_)); rintro e W1 ⟨rfl, hb⟩; (try unfold abVal))
    (try go_wp2_with fail)
    exact hK.out _ _ ⟨hF.out.zb.on hb, Bks.on hb hF.out.zq, hF.out.zt.step rfl rfl⟩
  refine FSteps.op3 hz rfl (dv := [0, 0, 0]) (by kernel_rfl) (by kernel_rfl) (by kernel_rfl) (fun D s W bA kK hD hW hF hA hK => ?_) ?_
  · have x14 := hA.i 14 _ rfl rfl (hF.zt.get (j := 0) rfl hW.1)
    have hF := Lib.hid hF
    clear hA
    go_simp
    exact hK.out _ _ ⟨hF.out.zb, hF.out.zq, hF.out.zt.step rfl rfl⟩
  exact FSteps.nil
  intro D s W aF2 hD hF hz' df' hA
  obtain ⟨d0, d1, -⟩ := hD
  replace u3 : Sl aF2 3 _ := hA.o 3 _ rfl u3
  replace u4 : Sl aF2 4 _ := hA.o 4 _ rfl u4
  replace u5 : Sl aF2 5 _ := hA.o 5 _ rfl u5
  replace u6 : Sl aF2 6 _ := hA.o 6 _ rfl u6
  have u7 : Sl aF2 7 _ := hA.i 7 _ rfl rfl (hF.zt.get (j := 1) rfl d1)
  have hM := hF.zb
  have hB := hF.zq
  have hB : Bks W [(n1_0, #[Value.int .i64 x0, Value.int .i64 x1, Value.int .i64 x2, Value.int .i64 x3], 23), (n1_1, #[Value.int .i64 y0, Value.int .i64 y1, Value.int .i64 y2, Value.int .i64 y3], 23), (n1_2, #[Value.int .i64 n0, Value.int .i64 n1, Value.int .i64 n2, Value.int .i64 n3], 24)] := ⟨hB.1, hB.2.1, hB.2.2.1, trivial⟩
  clear hF hA hz df d0 d1 hU
  have hz := hz'; have df := df'; clear hz' df'
  clear aF1
  show Code.wp _ _ _ _ _
  refine wp_seq ?_
  refine wp_seq ?_
  obtain ⟨m3, hM, hU, hwm⟩ := start_region hM.b hB
  refine region_run (F := sound_law_r2_3 x0 x1 x2 x3 y0 y1 y2 y3 n0 n1 n2 n3 v1 k1 v2 k2 a b zf n1_0 n1_1 n1_2 w m3) [15, 16] [0, 1] hz df (by kernel_rfl) (by kernel_rfl) (fun s hs0 => ⟨hM, hB, Vals.none s _⟩) ?_ ?_
  refine FSteps.op3 hz rfl (dv := []) (by kernel_rfl) (by kernel_rfl) (by kernel_rfl) (fun D s W bA kK hD hW hF hA hK => ?_) ?_
  · have x7 := hA.o 7 _ rfl u7
    have hF := Lib.hid hF
    clear hA
    go_simp
    exact hK.out _ _ ⟨hF.out.zb, hF.out.zq, hF.out.zt.step rfl rfl⟩
  refine FSteps.op3 hz rfl (dv := [0]) (by kernel_rfl) (by kernel_rfl) (by kernel_rfl) (fun D s W bA kK hD hW hF hA hK => ?_) ?_
  · have x15 := hA.i 15 _ rfl rfl (hF.zt.get (j := 0) rfl hW.1)
    have hF := Lib.hid hF
    clear hA
    go_simp
    exact hK.out _ _ ⟨hF.out.zb, hF.out.zq, hF.out.zt.step rfl rfl⟩
  exact FSteps.nil
  intro D s W aF3 hD hF hz' df' hA
  obtain ⟨d0, d1, -⟩ := hD
  replace u3 : Sl aF3 3 _ := hA.o 3 _ rfl u3
  replace u4 : Sl aF3 4 _ := hA.o 4 _ rfl u4
  replace u5 : Sl aF3 5 _ := hA.o 5 _ rfl u5
  replace u6 : Sl aF3 6 _ := hA.o 6 _ rfl u6
  replace u7 : Sl aF3 7 _ := hA.o 7 _ rfl u7
  have u16 : Sl aF3 16 _ := hA.i 16 _ rfl rfl (hF.zt.get (j := 1) rfl d1)
  have hM := hF.zb
  have hB := hF.zq
  have hB : Bks W [(n1_0, #[Value.int .i64 x0, Value.int .i64 x1, Value.int .i64 x2, Value.int .i64 x3], 23), (n1_1, #[Value.int .i64 y0, Value.int .i64 y1, Value.int .i64 y2, Value.int .i64 y3], 23), (n1_2, #[Value.int .i64 n0, Value.int .i64 n1, Value.int .i64 n2, Value.int .i64 n3], 24)] := ⟨hB.1, hB.2.1, hB.2.2.1, trivial⟩
  clear hF hA hz df d0 d1 hU
  have hz := hz'; have df := df'; clear hz' df'
  clear aF2
  show Code.wp _ _ _ _ _
  refine cond_f u16 ?_
  refine wp_skip ?_
  show Code.wp _ _ _ _ _
  refine wp_seq ?_
  obtain ⟨m4, hM, hU, hwm⟩ := start_region hM.b hB
  refine region_go (F := sound_law_r4_4 x0 x1 x2 x3 y0 y1 y2 y3 n0 n1 n2 n3 v1 k1 v2 k2 a b zf n1_0 n1_1 n1_2 w m4) [17, 18, 19, 20, 8, 9] [0, 1, 2, 3, 4, 5, 6, 7] hz df (by kernel_rfl) (by kernel_rfl) (by kernel_rfl) (fun s hs0 => ⟨hM.drew, Bks.drew hB, Vals.none s _, fun h => no_of' h, fun h => no_of' h, fun h => no_of' h, fun h => no_of' h, fun h => no_of' h, fun h => no_of' h, fun h => no_of' h, fun h => no_of' h, fun h => no_of' h, fun h => no_of' h, fun h => no_of' h⟩) ?_ ?_
  refine FSteps.op3 hz rfl (dv := []) (by kernel_rfl) (by kernel_rfl) (by kernel_rfl) (fun D s W bA kK hD hW hF hA hK => ?_) ?_
  · have x3 := hA.o 3 _ rfl u3
    obtain ⟨⟨c0, z0⟩, -, -, -⟩ := hF.zq.rules
    have hF := Lib.hid hF
    clear hA
    go_simp
    exact hK.out _ _ ⟨hF.out.zb, hF.out.zq, hF.out.zt.step rfl rfl, hF.out.v4, hF.out.v5, hF.out.k4_0, hF.out.k4_1, hF.out.c4_1, hF.out.g4, hF.out.k5_0, hF.out.k5_1, hF.out.c5_1, hF.out.g5, hF.out.e4_5⟩
  refine FSteps.op3 hz rfl (dv := [0]) (by kernel_rfl) (by kernel_rfl) (by kernel_rfl) (fun D s W bA kK hD hW hF hA hK => ?_) ?_
  · have x17 := hA.i 17 _ rfl rfl (hF.zt.get (j := 0) rfl hW.1)
    have hF := Lib.hid hF
    clear hA
    go_simp
    (go_at_call 11; ((with_reducible_and_instances refine (Gx.out _).mono ?_)); rintro e W1 ⟨rfl, hb⟩; (try unfold abVal))
    (try go_wp2_with fail)
    exact hK.out _ _ ⟨hF.out.zb.on hb, Bks.on hb hF.out.zq, hF.out.zt.step rfl rfl, hF.out.v4, hF.out.v5, fun h1 h2 => (hF.out.k4_0 h1 h2).on hb, fun h1 => (hF.out.k4_1 h1).on hb, hF.out.c4_1, hF.out.g4, fun h1 h2 => (hF.out.k5_0 h1 h2).on hb, fun h1 => (hF.out.k5_1 h1).on hb, hF.out.c5_1, hF.out.g5, hF.out.e4_5⟩
  refine FSteps.op3 hz rfl (dv := []) (by kernel_rfl) (by kernel_rfl) (by kernel_rfl) (fun D s W bA kK hD hW hF hA hK => ?_) ?_
  · have x4 := hA.o 4 _ rfl u4
    obtain ⟨-, ⟨c1, z1⟩, -, -⟩ := hF.zq.rules
    have hF := Lib.hid hF
    clear hA
    go_simp
    exact hK.out _ _ ⟨hF.out.zb, hF.out.zq, hF.out.zt.step rfl rfl, hF.out.v4, hF.out.v5, hF.out.k4_0, hF.out.k4_1, hF.out.c4_1, hF.out.g4, hF.out.k5_0, hF.out.k5_1, hF.out.c5_1, hF.out.g5, hF.out.e4_5⟩
  refine FSteps.op3 hz rfl (dv := [2, 1]) (by kernel_rfl) (by kernel_rfl) (by kernel_rfl) (fun D s W bA kK hD hW hF hA hK => ?_) ?_
  · have x19 := hA.i 19 _ rfl rfl (hF.zt.get (j := 2) rfl hW.1)
    have hF := Lib.hid hF
    clear hA
    go_simp
    (go_at_call 11; ((with_reducible_and_instances refine (Gy.out _).mono ?_)); rintro e W1 ⟨rfl, hb⟩; (try unfold abVal))
    (try go_wp2_with fail)
    exact hK.out _ _ ⟨hF.out.zb.on hb, Bks.on hb hF.out.zq, hF.out.zt.step rfl rfl, hF.out.v4, hF.out.v5, fun h1 h2 => (hF.out.k4_0 h1 h2).on hb, fun h1 => (hF.out.k4_1 h1).on hb, hF.out.c4_1, hF.out.g4, fun h1 h2 => (hF.out.k5_0 h1 h2).on hb, fun h1 => (hF.out.k5_1 h1).on hb, hF.out.c5_1, hF.out.g5, hF.out.e4_5⟩
  refine FSteps.op3 hz rfl (dv := []) (by kernel_rfl) (by kernel_rfl) (by kernel_rfl) (fun D s W bA kK hD hW hF hA hK => ?_) ?_
  · have hF := Lib.hid hF
    clear hA
    go_simp
    exact hK.out _ _ ⟨hF.out.zb.al _, Bks.al _ hF.out.zq, hF.out.zt.skip rfl, fun _ => rfl, hF.out.v5, fun _ _ => Bk.new _ _ _, fun h1 => absurd (hF.out.c4_1 h1) (by rw [hD]; decide), fun _ => rfl, fun _ => hF.out.zb.g, fun h1 h2 => (hF.out.k5_0 h1 h2).al _, fun h1 => (hF.out.k5_1 h1).al _, hF.out.c5_1, hF.out.g5, fun _ h => Nat.ne_of_gt (lt_of_either (hF.out.k5_0 h) hF.out.k5_1)⟩
  refine FSteps.op3 hz rfl (dv := []) (by kernel_rfl) (by kernel_rfl) (by kernel_rfl) (fun D s W bA kK hD hW hF hA hK => ?_) ?_
  · have hF := Lib.hid hF
    clear hA
    go_simp
    exact hK.out _ _ ⟨hF.out.zb.al _, Bks.al _ hF.out.zq, hF.out.zt.skip rfl, hF.out.v4, fun _ => rfl, fun h1 h2 => (hF.out.k4_0 h1 h2).al _, fun h1 => (hF.out.k4_1 h1).al _, hF.out.c4_1, hF.out.g4, fun _ _ => Bk.new _ _ _, fun h1 => absurd (hF.out.c5_1 h1) (by rw [hD]; decide), fun _ => rfl, fun _ => hF.out.zb.g, fun h _ => Nat.ne_of_lt (lt_of_either (hF.out.k4_0 h) hF.out.k4_1)⟩
  refine FSteps.op3 hz rfl (dv := [4, 1, 3, 0, 1, 4, 5]) (by kernel_rfl) (by kernel_rfl) (by kernel_rfl) (fun D s W bA kK hD hW hF hA hK => ?_) ?_
  · have x8 := hA.i 8 _ rfl rfl (hF.v4 hW.1)
    have x18 := hA.i 18 _ rfl rfl (hF.zt.get (j := 1) rfl hW.2.1)
    have kk := hF.k4_0 hW.1 hD
    have hge := Nat.le_trans hwm (hF.g4 hW.1); have hge2 := hF.g4 hW.1
    have kc := kk.cell; have kf := kk.free
    have hF := Lib.hid hF
    have kk := Lib.hid kk; have hge := Lib.hid hge; have hge2 := Lib.hid hge2
    clear hA
    go_simp
    exact hK.out undef _ ⟨hF.out.zb.sAll (hge.out) 0 [Value.int .i64 a.lo, Value.int .i64 a.hi, Value.int .i64 a.m, Value.int .i64 a.r, Value.int .i64 a.k], Bks.oAll [Value.int .i64 a.lo, Value.int .i64 a.hi, Value.int .i64 a.m, Value.int .i64 a.r, Value.int .i64 a.k] 0 (Under.outside hge2.out hU) hF.out.zq, hF.out.zt.skip rfl, hF.out.v4, hF.out.v5, fun h1 h2 => no_of h2, fun _ => kk.out.full [Value.int .i64 a.lo, Value.int .i64 a.hi, Value.int .i64 a.m, Value.int .i64 a.r, Value.int .i64 a.k] rfl, fun _ => hW.1, hF.out.g4, fun h1 h2 => Bk.oAll ((hF.out.e4_5 hW.1 h1).symm) [Value.int .i64 a.lo, Value.int .i64 a.hi, Value.int .i64 a.m, Value.int .i64 a.r, Value.int .i64 a.k] 0 (hF.out.k5_0 h1 h2), fun h1 => Bk.oAll ((hF.out.e4_5 hW.1 (hF.out.c5_1 h1)).symm) [Value.int .i64 a.lo, Value.int .i64 a.hi, Value.int .i64 a.m, Value.int .i64 a.r, Value.int .i64 a.k] 0 (hF.out.k5_1 h1), hF.out.c5_1, hF.out.g5, hF.out.e4_5⟩
  refine FSteps.op3 hz rfl (dv := [5, 3, 6, 0, 1, 2, 3, 4, 5, 6]) (by kernel_rfl) (by kernel_rfl) (by kernel_rfl) (fun D s W bA kK hD hW hF hA hK => ?_) ?_
  · have x9 := hA.i 9 _ rfl rfl (hF.v5 hW.1)
    have x20 := hA.i 20 _ rfl rfl (hF.zt.get (j := 3) rfl hW.2.1)
    have kk := hF.k5_0 hW.1 hD
    have hge := Nat.le_trans hwm (hF.g5 hW.1); have hge2 := hF.g5 hW.1
    have kc := kk.cell; have kf := kk.free
    have hF := Lib.hid hF
    have kk := Lib.hid kk; have hge := Lib.hid hge; have hge2 := Lib.hid hge2
    clear hA
    go_simp
    exact hK.out undef _ ⟨hF.out.zb.sAll (hge.out) 0 [Value.int .i64 b.lo, Value.int .i64 b.hi, Value.int .i64 b.m, Value.int .i64 b.r, Value.int .i64 b.k], Bks.oAll [Value.int .i64 b.lo, Value.int .i64 b.hi, Value.int .i64 b.m, Value.int .i64 b.r, Value.int .i64 b.k] 0 (Under.outside hge2.out hU) hF.out.zq, hF.out.zt.skip rfl, hF.out.v4, hF.out.v5, fun h1 h2 => Bk.oAll (hF.out.e4_5 h1 hW.1) [Value.int .i64 b.lo, Value.int .i64 b.hi, Value.int .i64 b.m, Value.int .i64 b.r, Value.int .i64 b.k] 0 (hF.out.k4_0 h1 h2), fun h1 => Bk.oAll (hF.out.e4_5 (hF.out.c4_1 h1) hW.1) [Value.int .i64 b.lo, Value.int .i64 b.hi, Value.int .i64 b.m, Value.int .i64 b.r, Value.int .i64 b.k] 0 (hF.out.k4_1 h1), hF.out.c4_1, hF.out.g4, fun h1 h2 => no_of h2, fun _ => kk.out.full [Value.int .i64 b.lo, Value.int .i64 b.hi, Value.int .i64 b.m, Value.int .i64 b.r, Value.int .i64 b.k] rfl, fun _ => hW.1, hF.out.g5, hF.out.e4_5⟩
  exact FSteps.nil
  intro D s W aF4 hD hF hz' df' hA
  obtain ⟨d0, d1, d2, d3, d4, d5, d6, d7, -⟩ := hD
  clear u3 u4 u16
  replace u5 : Sl aF4 5 _ := hA.o 5 _ rfl u5
  replace u6 : Sl aF4 6 _ := hA.o 6 _ rfl u6
  replace u7 : Sl aF4 7 _ := hA.o 7 _ rfl u7
  have u8 : Sl aF4 8 _ := hA.i 8 _ rfl rfl (hF.v4 d4)
  have u9 : Sl aF4 9 _ := hA.i 9 _ rfl rfl (hF.v5 d5)
  have hkX4 := hF.k4_1 d6
  have hgX4 := hF.g4 d4
  have hkX5 := hF.k5_1 d7
  have hgX5 := hF.g5 d5
  have heX4_5 := hF.e4_5 d4 d5
  have hM := hF.zb
  have hB := hF.zq
  generalize pblk (s 8) = n4_4 at hkX4 hgX4 hkX5 hgX5 heX4_5 u8 u9
  generalize pblk (s 9) = n4_5 at hkX4 hgX4 hkX5 hgX5 heX4_5 u8 u9
  have hB : Bks W [(n1_2, #[Value.int .i64 n0, Value.int .i64 n1, Value.int .i64 n2, Value.int .i64 n3], 24), (n4_4, #[Value.int .i64 a.lo, Value.int .i64 a.hi, Value.int .i64 a.m, Value.int .i64 a.r, Value.int .i64 a.k], 27), (n4_5, #[Value.int .i64 b.lo, Value.int .i64 b.hi, Value.int .i64 b.m, Value.int .i64 b.r, Value.int .i64 b.k], 27)] := ⟨hB.2.2.1, hkX4, hkX5, trivial⟩
  clear hF hA hz df d0 d1 d2 d3 d4 d5 d6 d7 hU
  have hz := hz'; have df := df'; clear hz' df'
  clear aF3
  show Code.wp _ _ _ _ _
  refine wp_seq ?_
  obtain ⟨m5, hM, hU, hwm⟩ := start_region hM.b hB
  refine region_go (F := sound_law_r5_5 x0 x1 x2 x3 y0 y1 y2 y3 n0 n1 n2 n3 v1 k1 v2 k2 a b zf n1_2 n4_4 n4_5 w m5) [21, 22, 23, 24, 25, 26, 27, 28, 29, 30, 31, 32, 10, 11] [0, 1, 2, 3, 4, 5, 6, 7, 8, 9, 10, 11, 12, 13, 14, 15] hz df (by kernel_rfl) (by kernel_rfl) (by kernel_rfl) (fun s hs0 => ⟨hM.drew, Bks.drew hB, Vals.none s _, fun h => no_of' h, fun h => no_of' h, fun h => no_of' h, fun h => no_of' h, fun h => no_of' h, fun h => no_of' h, fun h => no_of' h, fun h => no_of' h, fun h => no_of' h, fun h => no_of' h, fun h => no_of' h⟩) ?_ ?_
  refine FSteps.op3 hz rfl (dv := []) (by kernel_rfl) (by kernel_rfl) (by kernel_rfl) (fun D s W bA kK hD hW hF hA hK => ?_) ?_
  · have x8 := hA.o 8 _ rfl u8
    obtain ⟨-, ⟨c1, z1⟩, -, -⟩ := hF.zq.rules
    have hF := Lib.hid hF
    clear hA
    go_simp
    exact hK.out _ _ ⟨hF.out.zb, hF.out.zq, hF.out.zt.step rfl rfl, hF.out.v12, hF.out.v13, hF.out.k12_0, hF.out.k12_1, hF.out.c12_1, hF.out.g12, hF.out.k13_0, hF.out.k13_1, hF.out.c13_1, hF.out.g13, hF.out.e12_13⟩
  refine FSteps.op3 hz rfl (dv := []) (by kernel_rfl) (by kernel_rfl) (by kernel_rfl) (fun D s W bA kK hD hW hF hA hK => ?_) ?_
  · have x5 := hA.o 5 _ rfl u5
    have hF := Lib.hid hF
    clear hA
    go_simp
    exact hK.out _ _ ⟨hF.out.zb, hF.out.zq, hF.out.zt.step rfl rfl, hF.out.v12, hF.out.v13, hF.out.k12_0, hF.out.k12_1, hF.out.c12_1, hF.out.g12, hF.out.k13_0, hF.out.k13_1, hF.out.c13_1, hF.out.g13, hF.out.e12_13⟩
  refine FSteps.op3 hz rfl (dv := [1]) (by kernel_rfl) (by kernel_rfl) (by kernel_rfl) (fun D s W bA kK hD hW hF hA hK => ?_) ?_
  · have x22 := hA.i 22 _ rfl rfl (hF.zt.get (j := 1) rfl hW.1)
    obtain ⟨⟨c0, z0⟩, -, -, -⟩ := hF.zq.rules
    have hF := Lib.hid hF
    clear hA
    go_simp
    exact hK.out _ _ ⟨hF.out.zb, hF.out.zq, hF.out.zt.step rfl rfl, hF.out.v12, hF.out.v13, hF.out.k12_0, hF.out.k12_1, hF.out.c12_1, hF.out.g12, hF.out.k13_0, hF.out.k13_1, hF.out.c13_1, hF.out.g13, hF.out.e12_13⟩
  refine FSteps.op3 hz rfl (dv := []) (by kernel_rfl) (by kernel_rfl) (by kernel_rfl) (fun D s W bA kK hD hW hF hA hK => ?_) ?_
  · have x5 := hA.o 5 _ rfl u5
    have hF := Lib.hid hF
    clear hA
    go_simp
    exact hK.out _ _ ⟨hF.out.zb, hF.out.zq, hF.out.zt.step rfl rfl, hF.out.v12, hF.out.v13, hF.out.k12_0, hF.out.k12_1, hF.out.c12_1, hF.out.g12, hF.out.k13_0, hF.out.k13_1, hF.out.c13_1, hF.out.g13, hF.out.e12_13⟩
  refine FSteps.op3 hz rfl (dv := [3]) (by kernel_rfl) (by kernel_rfl) (by kernel_rfl) (fun D s W bA kK hD hW hF hA hK => ?_) ?_
  · have x24 := hA.i 24 _ rfl rfl (hF.zt.get (j := 3) rfl hW.1)
    obtain ⟨⟨c0, z0⟩, -, -, -⟩ := hF.zq.rules
    have hF := Lib.hid hF
    clear hA
    go_simp
    exact hK.out _ _ ⟨hF.out.zb, hF.out.zq, hF.out.zt.step rfl rfl, hF.out.v12, hF.out.v13, hF.out.k12_0, hF.out.k12_1, hF.out.c12_1, hF.out.g12, hF.out.k13_0, hF.out.k13_1, hF.out.c13_1, hF.out.g13, hF.out.e12_13⟩
  refine FSteps.op3 hz rfl (dv := [0, 2, 4]) (by kernel_rfl) (by kernel_rfl) (by kernel_rfl) (fun D s W bA kK hD hW hF hA hK => ?_) ?_
  · have x21 := hA.i 21 _ rfl rfl (hF.zt.get (j := 0) rfl hW.1)
    have x23 := hA.i 23 _ rfl rfl (hF.zt.get (j := 2) rfl hW.2.1)
    have x25 := hA.i 25 _ rfl rfl (hF.zt.get (j := 4) rfl hW.2.2.1)
    have hF := Lib.hid hF
    clear hA
    go_simp
    (go_at_call 12; ((with_reducible_and_instances refine (KA.out _).mono ?_)); rintro e W1 ⟨rfl, hb⟩; (try unfold abVal))
    (try go_wp2_with fail)
    exact hK.out _ _ ⟨hF.out.zb.on hb, Bks.on hb hF.out.zq, hF.out.zt.step rfl rfl, hF.out.v12, hF.out.v13, fun h1 h2 => (hF.out.k12_0 h1 h2).on hb, fun h1 => (hF.out.k12_1 h1).on hb, hF.out.c12_1, hF.out.g12, fun h1 h2 => (hF.out.k13_0 h1 h2).on hb, fun h1 => (hF.out.k13_1 h1).on hb, hF.out.c13_1, hF.out.g13, hF.out.e12_13⟩
  refine FSteps.op3 hz rfl (dv := []) (by kernel_rfl) (by kernel_rfl) (by kernel_rfl) (fun D s W bA kK hD hW hF hA hK => ?_) ?_
  · have x9 := hA.o 9 _ rfl u9
    obtain ⟨-, -, ⟨c2, z2⟩, -⟩ := hF.zq.rules
    have hF := Lib.hid hF
    clear hA
    go_simp
    exact hK.out _ _ ⟨hF.out.zb, hF.out.zq, hF.out.zt.step rfl rfl, hF.out.v12, hF.out.v13, hF.out.k12_0, hF.out.k12_1, hF.out.c12_1, hF.out.g12, hF.out.k13_0, hF.out.k13_1, hF.out.c13_1, hF.out.g13, hF.out.e12_13⟩
  refine FSteps.op3 hz rfl (dv := []) (by kernel_rfl) (by kernel_rfl) (by kernel_rfl) (fun D s W bA kK hD hW hF hA hK => ?_) ?_
  · have x5 := hA.o 5 _ rfl u5
    have hF := Lib.hid hF
    clear hA
    go_simp
    exact hK.out _ _ ⟨hF.out.zb, hF.out.zq, hF.out.zt.step rfl rfl, hF.out.v12, hF.out.v13, hF.out.k12_0, hF.out.k12_1, hF.out.c12_1, hF.out.g12, hF.out.k13_0, hF.out.k13_1, hF.out.c13_1, hF.out.g13, hF.out.e12_13⟩
  refine FSteps.op3 hz rfl (dv := [7]) (by kernel_rfl) (by kernel_rfl) (by kernel_rfl) (fun D s W bA kK hD hW hF hA hK => ?_) ?_
  · have x28 := hA.i 28 _ rfl rfl (hF.zt.get (j := 7) rfl hW.1)
    obtain ⟨⟨c0, z0⟩, -, -, -⟩ := hF.zq.rules
    have hF := Lib.hid hF
    clear hA
    go_simp
    exact hK.out _ _ ⟨hF.out.zb, hF.out.zq, hF.out.zt.step rfl rfl, hF.out.v12, hF.out.v13, hF.out.k12_0, hF.out.k12_1, hF.out.c12_1, hF.out.g12, hF.out.k13_0, hF.out.k13_1, hF.out.c13_1, hF.out.g13, hF.out.e12_13⟩
  refine FSteps.op3 hz rfl (dv := []) (by kernel_rfl) (by kernel_rfl) (by kernel_rfl) (fun D s W bA kK hD hW hF hA hK => ?_) ?_
  · have x5 := hA.o 5 _ rfl u5
    have hF := Lib.hid hF
    clear hA
    go_simp
    exact hK.out _ _ ⟨hF.out.zb, hF.out.zq, hF.out.zt.step rfl rfl, hF.out.v12, hF.out.v13, hF.out.k12_0, hF.out.k12_1, hF.out.c12_1, hF.out.g12, hF.out.k13_0, hF.out.k13_1, hF.out.c13_1, hF.out.g13, hF.out.e12_13⟩
  refine FSteps.op3 hz rfl (dv := [9]) (by kernel_rfl) (by kernel_rfl) (by kernel_rfl) (fun D s W bA kK hD hW hF hA hK => ?_) ?_
  · have x30 := hA.i 30 _ rfl rfl (hF.zt.get (j := 9) rfl hW.1)
    obtain ⟨⟨c0, z0⟩, -, -, -⟩ := hF.zq.rules
    have hF := Lib.hid hF
    clear hA
    go_simp
    exact hK.out _ _ ⟨hF.out.zb, hF.out.zq, hF.out.zt.step rfl rfl, hF.out.v12, hF.out.v13, hF.out.k12_0, hF.out.k12_1, hF.out.c12_1, hF.out.g12, hF.out.k13_0, hF.out.k13_1, hF.out.c13_1, hF.out.g13, hF.out.e12_13⟩
  refine FSteps.op3 hz rfl (dv := [6, 8, 10, 5]) (by kernel_rfl) (by kernel_rfl) (by kernel_rfl) (fun D s W bA kK hD hW hF hA hK => ?_) ?_
  · have x27 := hA.i 27 _ rfl rfl (hF.zt.get (j := 6) rfl hW.1)
    have x29 := hA.i 29 _ rfl rfl (hF.zt.get (j := 8) rfl hW.2.1)
    have x31 := hA.i 31 _ rfl rfl (hF.zt.get (j := 10) rfl hW.2.2.1)
    have hF := Lib.hid hF
    clear hA
    go_simp
    (go_at_call 12; ((with_reducible_and_instances refine (KB.out _).mono ?_)); rintro e W1 ⟨rfl, hb⟩; (try unfold abVal))
    (try go_wp2_with fail)
    exact hK.out _ _ ⟨hF.out.zb.on hb, Bks.on hb hF.out.zq, hF.out.zt.step rfl rfl, hF.out.v12, hF.out.v13, fun h1 h2 => (hF.out.k12_0 h1 h2).on hb, fun h1 => (hF.out.k12_1 h1).on hb, hF.out.c12_1, hF.out.g12, fun h1 h2 => (hF.out.k13_0 h1 h2).on hb, fun h1 => (hF.out.k13_1 h1).on hb, hF.out.c13_1, hF.out.g13, hF.out.e12_13⟩
  refine FSteps.op3 hz rfl (dv := []) (by kernel_rfl) (by kernel_rfl) (by kernel_rfl) (fun D s W bA kK hD hW hF hA hK => ?_) ?_
  · have hF := Lib.hid hF
    clear hA
    go_simp
    exact hK.out _ _ ⟨hF.out.zb.al _, Bks.al _ hF.out.zq, hF.out.zt.skip rfl, fun _ => rfl, hF.out.v13, fun _ _ => Bk.new _ _ _, fun h1 => absurd (hF.out.c12_1 h1) (by rw [hD]; decide), fun _ => rfl, fun _ => hF.out.zb.g, fun h1 h2 => (hF.out.k13_0 h1 h2).al _, fun h1 => (hF.out.k13_1 h1).al _, hF.out.c13_1, hF.out.g13, fun _ h => Nat.ne_of_gt (lt_of_either (hF.out.k13_0 h) hF.out.k13_1)⟩
  refine FSteps.op3 hz rfl (dv := []) (by kernel_rfl) (by kernel_rfl) (by kernel_rfl) (fun D s W bA kK hD hW hF hA hK => ?_) ?_
  · have hF := Lib.hid hF
    clear hA
    go_simp
    exact hK.out _ _ ⟨hF.out.zb.al _, Bks.al _ hF.out.zq, hF.out.zt.skip rfl, hF.out.v12, fun _ => rfl, fun h1 h2 => (hF.out.k12_0 h1 h2).al _, fun h1 => (hF.out.k12_1 h1).al _, hF.out.c12_1, hF.out.g12, fun _ _ => Bk.new _ _ _, fun h1 => absurd (hF.out.c13_1 h1) (by rw [hD]; decide), fun _ => rfl, fun _ => hF.out.zb.g, fun h _ => Nat.ne_of_lt (lt_of_either (hF.out.k12_0 h) hF.out.k12_1)⟩
  refine FSteps.op3 hz rfl (dv := [12, 5, 11, 0, 1, 2, 3, 4, 5, 12, 13]) (by kernel_rfl) (by kernel_rfl) (by kernel_rfl) (fun D s W bA kK hD hW hF hA hK => ?_) ?_
  · have x10 := hA.i 10 _ rfl rfl (hF.v12 hW.1)
    have x26 := hA.i 26 _ rfl rfl (hF.zt.get (j := 5) rfl hW.2.1)
    have kk := hF.k12_0 hW.1 hD
    have hge := Nat.le_trans hwm (hF.g12 hW.1); have hge2 := hF.g12 hW.1
    have kc := kk.cell; have kf := kk.free
    have hF := Lib.hid hF
    have kk := Lib.hid kk; have hge := Lib.hid hge; have hge2 := Lib.hid hge2
    clear hA
    go_simp
    exact hK.out undef _ ⟨hF.out.zb.sAll (hge.out) 0 [Value.int .i64 v1, Value.int .i64 k1], Bks.oAll [Value.int .i64 v1, Value.int .i64 k1] 0 (Under.outside hge2.out hU) hF.out.zq, hF.out.zt.skip rfl, hF.out.v12, hF.out.v13, fun h1 h2 => no_of h2, fun _ => kk.out.full [Value.int .i64 v1, Value.int .i64 k1] rfl, fun _ => hW.1, hF.out.g12, fun h1 h2 => Bk.oAll ((hF.out.e12_13 hW.1 h1).symm) [Value.int .i64 v1, Value.int .i64 k1] 0 (hF.out.k13_0 h1 h2), fun h1 => Bk.oAll ((hF.out.e12_13 hW.1 (hF.out.c13_1 h1)).symm) [Value.int .i64 v1, Value.int .i64 k1] 0 (hF.out.k13_1 h1), hF.out.c13_1, hF.out.g13, hF.out.e12_13⟩
  refine FSteps.op3 hz rfl (dv := [13, 11, 14, 0, 1, 2, 3, 4, 5, 6, 7, 8, 9, 10, 11, 12, 13, 14]) (by kernel_rfl) (by kernel_rfl) (by kernel_rfl) (fun D s W bA kK hD hW hF hA hK => ?_) ?_
  · have x11 := hA.i 11 _ rfl rfl (hF.v13 hW.1)
    have x32 := hA.i 32 _ rfl rfl (hF.zt.get (j := 11) rfl hW.2.1)
    have kk := hF.k13_0 hW.1 hD
    have hge := Nat.le_trans hwm (hF.g13 hW.1); have hge2 := hF.g13 hW.1
    have kc := kk.cell; have kf := kk.free
    have hF := Lib.hid hF
    have kk := Lib.hid kk; have hge := Lib.hid hge; have hge2 := Lib.hid hge2
    clear hA
    go_simp
    exact hK.out undef _ ⟨hF.out.zb.sAll (hge.out) 0 [Value.int .i64 v2, Value.int .i64 k2], Bks.oAll [Value.int .i64 v2, Value.int .i64 k2] 0 (Under.outside hge2.out hU) hF.out.zq, hF.out.zt.skip rfl, hF.out.v12, hF.out.v13, fun h1 h2 => Bk.oAll (hF.out.e12_13 h1 hW.1) [Value.int .i64 v2, Value.int .i64 k2] 0 (hF.out.k12_0 h1 h2), fun h1 => Bk.oAll (hF.out.e12_13 (hF.out.c12_1 h1) hW.1) [Value.int .i64 v2, Value.int .i64 k2] 0 (hF.out.k12_1 h1), hF.out.c12_1, hF.out.g12, fun h1 h2 => no_of h2, fun _ => kk.out.full [Value.int .i64 v2, Value.int .i64 k2] rfl, fun _ => hW.1, hF.out.g13, hF.out.e12_13⟩
  exact FSteps.nil
  intro D s W aF5 hD hF hz' df' hA
  obtain ⟨d0, d1, d2, d3, d4, d5, d6, d7, d8, d9, d10, d11, d12, d13, d14, d15, -⟩ := hD
  clear u5
  replace u6 : Sl aF5 6 _ := hA.o 6 _ rfl u6
  replace u7 : Sl aF5 7 _ := hA.o 7 _ rfl u7
  replace u8 : Sl aF5 8 _ := hA.o 8 _ rfl u8
  replace u9 : Sl aF5 9 _ := hA.o 9 _ rfl u9
  have u10 : Sl aF5 10 _ := hA.i 10 _ rfl rfl (hF.v12 d12)
  have u11 : Sl aF5 11 _ := hA.i 11 _ rfl rfl (hF.v13 d13)
  have hkX12 := hF.k12_1 d14
  have hgX12 := hF.g12 d12
  have hkX13 := hF.k13_1 d15
  have hgX13 := hF.g13 d13
  have heX12_13 := hF.e12_13 d12 d13
  have hM := hF.zb
  have hB := hF.zq
  generalize pblk (s 10) = n5_12 at hkX12 hgX12 hkX13 hgX13 heX12_13 u10 u11
  generalize pblk (s 11) = n5_13 at hkX12 hgX12 hkX13 hgX13 heX12_13 u10 u11
  have hB : Bks W [(n4_4, #[Value.int .i64 a.lo, Value.int .i64 a.hi, Value.int .i64 a.m, Value.int .i64 a.r, Value.int .i64 a.k], 27), (n4_5, #[Value.int .i64 b.lo, Value.int .i64 b.hi, Value.int .i64 b.m, Value.int .i64 b.r, Value.int .i64 b.k], 27), (n5_12, #[Value.int .i64 v1, Value.int .i64 k1], 30), (n5_13, #[Value.int .i64 v2, Value.int .i64 k2], 30)] := ⟨hB.2.1, hB.2.2.1, hkX12, hkX13, trivial⟩
  clear hF hA hz df d0 d1 d2 d3 d4 d5 d6 d7 d8 d9 d10 d11 d12 d13 d14 d15 hU
  have hz := hz'; have df := df'; clear hz' df'
  clear aF4
  show Code.wp _ _ _ _ _
  refine wp_seq ?_
  refine wp_seq ?_
  obtain ⟨m6, hM, hU, hwm⟩ := start_region hM.b hB
  refine region_run (F := sound_law_r6_6 x0 x1 x2 x3 y0 y1 y2 y3 n0 n1 n2 n3 v1 k1 v2 k2 a b zf n4_4 n4_5 n5_12 n5_13 w m6) [33, 34, 35, 36, 37, 38, 39, 40, 41, 42] [0, 1, 2, 3, 4, 5, 6, 7, 8, 9] hz df (by kernel_rfl) (by kernel_rfl) (fun s hs0 => ⟨hM, hB, Vals.none s _⟩) ?_ ?_
  refine FSteps.op3 hz rfl (dv := []) (by kernel_rfl) (by kernel_rfl) (by kernel_rfl) (fun D s W bA kK hD hW hF hA hK => ?_) ?_
  · have x8 := hA.o 8 _ rfl u8
    obtain ⟨⟨c0, z0⟩, -, -, -, -⟩ := hF.zq.rules
    have hF := Lib.hid hF
    clear hA
    go_simp
    exact hK.out _ _ ⟨hF.out.zb, hF.out.zq, hF.out.zt.step rfl rfl⟩
  refine FSteps.op3 hz rfl (dv := []) (by kernel_rfl) (by kernel_rfl) (by kernel_rfl) (fun D s W bA kK hD hW hF hA hK => ?_) ?_
  · have x10 := hA.o 10 _ rfl u10
    obtain ⟨-, -, ⟨c2, z2⟩, -, -⟩ := hF.zq.rules
    have hF := Lib.hid hF
    clear hA
    go_simp
    exact hK.out _ _ ⟨hF.out.zb, hF.out.zq, hF.out.zt.step rfl rfl⟩
  refine FSteps.op3 hz rfl (dv := [0, 1]) (by kernel_rfl) (by kernel_rfl) (by kernel_rfl) (fun D s W bA kK hD hW hF hA hK => ?_) ?_
  · have x33 := hA.i 33 _ rfl rfl (hF.zt.get (j := 0) rfl hW.1)
    have x34 := hA.i 34 _ rfl rfl (hF.zt.get (j := 1) rfl hW.2.1)
    have hF := Lib.hid hF
    clear hA
    go_simp
    (go_at_call 13; ((with_reducible_and_instances refine (KH1.out _).mono ?_)); rintro e W1 ⟨rfl, hb⟩; (try unfold abVal))
    (try go_wp2_with fail)
    exact hK.out _ _ ⟨hF.out.zb.on hb, Bks.on hb hF.out.zq, hF.out.zt.step rfl rfl⟩
  refine FSteps.op3 hz rfl (dv := [2]) (by kernel_rfl) (by kernel_rfl) (by kernel_rfl) (fun D s W bA kK hD hW hF hA hK => ?_) ?_
  · have x35 := hA.i 35 _ rfl rfl (hF.zt.get (j := 2) rfl hW.1)
    have hF := Lib.hid hF
    clear hA
    go_simp
    exact hK.out _ _ ⟨hF.out.zb, hF.out.zq, hF.out.zt.step rfl rfl⟩
  refine FSteps.op3 hz rfl (dv := [3, 2]) (by kernel_rfl) (by kernel_rfl) (by kernel_rfl) (fun D s W bA kK hD hW hF hA hK => ?_) ?_
  · have x36 := hA.i 36 _ rfl rfl (hF.zt.get (j := 3) rfl hW.1)
    have hF := Lib.hid hF
    clear hA
    go_simp
    exact hK.out _ _ ⟨hF.out.zb, hF.out.zq, hF.out.zt.step rfl rfl⟩
  refine FSteps.yes3 (bv := false) hz rfl (dv := [4]) (by kernel_rfl) rfl (by kernel_rfl) (by kernel_rfl) (fun D s W hW hF => (hF.zt.get (j := 4) rfl hW.1)) (by kernel_rfl) (by kernel_rfl) (fun D s W bA kK hD hW hF hA hK => ?_) ?_
  · have x9 := hA.o 9 _ rfl u9
    obtain ⟨-, ⟨c1, z1⟩, -, -, -⟩ := hF.zq.rules
    have hF := Lib.hid hF
    clear hA
    go_simp
    exact hK.out _ _ ⟨hF.out.zb, hF.out.zq, hF.out.zt.step rfl rfl⟩
  refine FSteps.yes3 (bv := false) hz rfl (dv := [4]) (by kernel_rfl) rfl (by kernel_rfl) (by kernel_rfl) (fun D s W hW hF => (hF.zt.get (j := 4) rfl hW.1)) (by kernel_rfl) (by kernel_rfl) (fun D s W bA kK hD hW hF hA hK => ?_) ?_
  · have x11 := hA.o 11 _ rfl u11
    obtain ⟨-, -, -, ⟨c3, z3⟩, -⟩ := hF.zq.rules
    have hF := Lib.hid hF
    clear hA
    go_simp
    exact hK.out _ _ ⟨hF.out.zb, hF.out.zq, hF.out.zt.step rfl rfl⟩
  refine FSteps.yes3 (bv := false) hz rfl (dv := [5, 6, 4, 4]) (by kernel_rfl) rfl (by kernel_rfl) (by kernel_rfl) (fun D s W hW hF => (hF.zt.get (j := 4) rfl hW.2.2.1)) (by kernel_rfl) (by kernel_rfl) (fun D s W bA kK hD hW hF hA hK => ?_) ?_
  · have x38 := hA.i 38 _ rfl rfl (hF.zt.get (j := 5) rfl hW.1)
    have x39 := hA.i 39 _ rfl rfl (hF.zt.get (j := 6) rfl hW.2.1)
    have hF := Lib.hid hF
    clear hA
    go_simp
    (go_at_call 13; ((with_reducible_and_instances refine (KH2.out _).mono ?_)); rintro e W1 ⟨rfl, hb⟩; (try unfold abVal))
    (try go_wp2_with fail)
    exact hK.out _ _ ⟨hF.out.zb.on hb, Bks.on hb hF.out.zq, hF.out.zt.step rfl rfl⟩
  refine FSteps.yes3 (bv := false) hz rfl (dv := [7, 4]) (by kernel_rfl) rfl (by kernel_rfl) (by kernel_rfl) (fun D s W hW hF => (hF.zt.get (j := 4) rfl hW.2.1)) (by kernel_rfl) (by kernel_rfl) (fun D s W bA kK hD hW hF hA hK => ?_) ?_
  · have x40 := hA.i 40 _ rfl rfl (hF.zt.get (j := 7) rfl hW.1)
    have hF := Lib.hid hF
    clear hA
    go_simp
    exact hK.out _ _ ⟨hF.out.zb, hF.out.zq, hF.out.zt.step rfl rfl⟩
  refine FSteps.op3 hz rfl (dv := [4, 8]) (by kernel_rfl) (by kernel_rfl) (by kernel_rfl) (fun D s W bA kK hD hW hF hA hK => ?_) ?_
  · have x37 := hA.i 37 _ rfl rfl (hF.zt.get (j := 4) rfl hW.1)
    have x41 := hA.i 41 _ rfl rfl (hF.zt.get (j := 8) rfl hW.2.1)
    have hF := Lib.hid hF
    clear hA
    go_simp
    exact hK.out _ _ ⟨hF.out.zb, hF.out.zq, hF.out.zt.step rfl rfl⟩
  exact FSteps.nil
  intro D s W aF6 hD hF hz' df' hA
  obtain ⟨d0, d1, d2, d3, d4, d5, d6, d7, d8, d9, -⟩ := hD
  replace u6 : Sl aF6 6 _ := hA.o 6 _ rfl u6
  replace u7 : Sl aF6 7 _ := hA.o 7 _ rfl u7
  replace u8 : Sl aF6 8 _ := hA.o 8 _ rfl u8
  replace u9 : Sl aF6 9 _ := hA.o 9 _ rfl u9
  replace u10 : Sl aF6 10 _ := hA.o 10 _ rfl u10
  replace u11 : Sl aF6 11 _ := hA.o 11 _ rfl u11
  have u42 : Sl aF6 42 _ := hA.i 42 _ rfl rfl (hF.zt.get (j := 9) rfl d9)
  have hM := hF.zb
  have hB := hF.zq
  have hB : Bks W [(n4_4, #[Value.int .i64 a.lo, Value.int .i64 a.hi, Value.int .i64 a.m, Value.int .i64 a.r, Value.int .i64 a.k], 27), (n4_5, #[Value.int .i64 b.lo, Value.int .i64 b.hi, Value.int .i64 b.m, Value.int .i64 b.r, Value.int .i64 b.k], 27), (n5_12, #[Value.int .i64 v1, Value.int .i64 k1], 30), (n5_13, #[Value.int .i64 v2, Value.int .i64 k2], 30)] := ⟨hB.1, hB.2.1, hB.2.2.1, hB.2.2.2.1, trivial⟩
  clear hF hA hz df d0 d1 d2 d3 d4 d5 d6 d7 d8 d9 hU
  have hz := hz'; have df := df'; clear hz' df'
  clear aF5
  show Code.wp _ _ _ _ _
  refine cond_f u42 ?_
  refine wp_skip ?_
  show Code.wp _ _ _ _ _
  refine wp_seq ?_
  refine wp_seq ?_
  obtain ⟨m7, hM, hU, hwm⟩ := start_region hM.b hB
  refine region_run (F := sound_law_r8_7 x0 x1 x2 x3 y0 y1 y2 y3 n0 n1 n2 n3 v1 k1 v2 k2 a b zf n4_4 n4_5 n5_12 n5_13 w m7) [12] [0] hz df (by kernel_rfl) (by kernel_rfl) (fun s hs0 => ⟨hM, hB, Vals.none s _⟩) ?_ ?_
  refine FSteps.op3 hz rfl (dv := []) (by kernel_rfl) (by kernel_rfl) (by kernel_rfl) (fun D s W bA kK hD hW hF hA hK => ?_) ?_
  · have hF := Lib.hid hF
    clear hA
    go_simp
    exact hK.out _ _ ⟨hF.out.zb, hF.out.zq, hF.out.zt.step rfl rfl⟩
  exact FSteps.nil
  intro D s W aF7 hD hF hz' df' hA
  obtain ⟨d0, -⟩ := hD
  clear u42
  replace u6 : Sl aF7 6 _ := hA.o 6 _ rfl u6
  replace u7 : Sl aF7 7 _ := hA.o 7 _ rfl u7
  replace u8 : Sl aF7 8 _ := hA.o 8 _ rfl u8
  replace u9 : Sl aF7 9 _ := hA.o 9 _ rfl u9
  replace u10 : Sl aF7 10 _ := hA.o 10 _ rfl u10
  replace u11 : Sl aF7 11 _ := hA.o 11 _ rfl u11
  have u12 : Sl aF7 12 _ := hA.i 12 _ rfl rfl (hF.zt.get (j := 0) rfl d0)
  have hM := hF.zb
  have hB := hF.zq
  have hB : Bks W [(n4_4, #[Value.int .i64 a.lo, Value.int .i64 a.hi, Value.int .i64 a.m, Value.int .i64 a.r, Value.int .i64 a.k], 27), (n4_5, #[Value.int .i64 b.lo, Value.int .i64 b.hi, Value.int .i64 b.m, Value.int .i64 b.r, Value.int .i64 b.k], 27), (n5_12, #[Value.int .i64 v1, Value.int .i64 k1], 30), (n5_13, #[Value.int .i64 v2, Value.int .i64 k2], 30)] := ⟨hB.1, hB.2.1, hB.2.2.1, hB.2.2.2.1, trivial⟩
  clear hF hA hz df d0 hU
  have hz := hz'; have df := df'; clear hz' df'
  clear aF6
  show Code.wp _ _ _ _ _
  refine wp_block ?_
  refine loop_go (fun n aF W => ∃ (op : Int), n = (11 - op).toNat ∧ (4 ≤ op ∧ op ≤ 11) ∧ aF.tmps.size = 72 ∧ aF.defers = [] ∧ Sl aF 6 (Value.bool false) ∧ Sl aF 7 (Value.bool true) ∧ Sl aF 8 (Value.pointer (some ⟨n4_4, 0, none⟩)) ∧ Sl aF 9 (Value.pointer (some ⟨n4_5, 0, none⟩)) ∧ Sl aF 10 (Value.pointer (some ⟨n5_12, 0, none⟩)) ∧ Sl aF 11 (Value.pointer (some ⟨n5_13, 0, none⟩)) ∧ Sl aF 12 (Value.int .i64 op) ∧ Below w.heap.size w W ∧ Bks W [(n4_4, #[Value.int .i64 a.lo, Value.int .i64 a.hi, Value.int .i64 a.m, Value.int .i64 a.r, Value.int .i64 a.k], 27), (n4_5, #[Value.int .i64 b.lo, Value.int .i64 b.hi, Value.int .i64 b.m, Value.int .i64 b.r, Value.int .i64 b.k], 27), (n5_12, #[Value.int .i64 v1, Value.int .i64 k1], 30), (n5_13, #[Value.int .i64 v2, Value.int .i64 k2], 30)]) _ ⟨4, rfl, ⟨by omega, by omega⟩, hz, df, u6, u7, u8, u9, u10, u11, u12, hM.b, hB⟩ ?_
  clear hM hB hz df u6 u7 u8 u9 u10 u11 u12 aF7
  intro n aL1 W hI
  obtain ⟨op, rfl, hinv, hz, df, u6, u7, u8, u9, u10, u11, u12, hb0, hB⟩ := hI
  have hM : Mk0 w W.heap.size W := ⟨hb0, Nat.le_refl _⟩
  obtain ⟨hl1, hl3⟩ := hinv
  refine wp_seq ?_
  refine wp_seq ?_
  obtain ⟨m8, hM, hU, hwm⟩ := start_region hM.b hB
  refine region_run (F := sound_law_r9_8 x0 x1 x2 x3 y0 y1 y2 y3 n0 n1 n2 n3 v1 k1 v2 k2 a b zf op n4_4 n4_5 n5_12 n5_13 w m8) [43, 44] [0, 1] hz df (by kernel_rfl) (by kernel_rfl) (fun s hs0 => ⟨hM, hB, Vals.none s _⟩) ?_ ?_
  refine FSteps.op3 hz rfl (dv := []) (by kernel_rfl) (by kernel_rfl) (by kernel_rfl) (fun D s W bA kK hD hW hF hA hK => ?_) ?_
  · have x12 := hA.o 12 _ rfl u12
    have hF := Lib.hid hF
    clear hA
    go_simp
    exact hK.out _ _ ⟨hF.out.zb, hF.out.zq, hF.out.zt.step rfl rfl⟩
  refine FSteps.op3 hz rfl (dv := [0]) (by kernel_rfl) (by kernel_rfl) (by kernel_rfl) (fun D s W bA kK hD hW hF hA hK => ?_) ?_
  · have x43 := hA.i 43 _ rfl rfl (hF.zt.get (j := 0) rfl hW.1)
    have hF := Lib.hid hF
    clear hA
    go_simp
    exact hK.out _ _ ⟨hF.out.zb, hF.out.zq, hF.out.zt.step rfl rfl⟩
  exact FSteps.nil
  intro D s W aF8 hD hF hz' df' hA
  obtain ⟨d0, d1, -⟩ := hD
  replace u6 : Sl aF8 6 _ := hA.o 6 _ rfl u6
  replace u7 : Sl aF8 7 _ := hA.o 7 _ rfl u7
  replace u8 : Sl aF8 8 _ := hA.o 8 _ rfl u8
  replace u9 : Sl aF8 9 _ := hA.o 9 _ rfl u9
  replace u10 : Sl aF8 10 _ := hA.o 10 _ rfl u10
  replace u11 : Sl aF8 11 _ := hA.o 11 _ rfl u11
  replace u12 : Sl aF8 12 _ := hA.o 12 _ rfl u12
  have u44 : Sl aF8 44 _ := hA.i 44 _ rfl rfl (hF.zt.get (j := 1) rfl d1)
  have hM := hF.zb
  have hB := hF.zq
  have hB : Bks W [(n4_4, #[Value.int .i64 a.lo, Value.int .i64 a.hi, Value.int .i64 a.m, Value.int .i64 a.r, Value.int .i64 a.k], 27), (n4_5, #[Value.int .i64 b.lo, Value.int .i64 b.hi, Value.int .i64 b.m, Value.int .i64 b.r, Value.int .i64 b.k], 27), (n5_12, #[Value.int .i64 v1, Value.int .i64 k1], 30), (n5_13, #[Value.int .i64 v2, Value.int .i64 k2], 30)] := ⟨hB.1, hB.2.1, hB.2.2.1, hB.2.2.2.1, trivial⟩
  clear hF hA hz df d0 d1 hU
  have hz := hz'; have df := df'; clear hz' df'
  clear aL1
  show Code.wp _ _ _ _ _
  refine cond_s u44 (fun hcnd => ?_) (fun hcnd => ?_)
  · have hcnd := Lib.hid hcnd
    have hl2 : op ≤ 10 := by simpa using hcnd.out
    refine wp_skip ?_
    show Code.wp _ _ _ _ _
    refine wp_seq ?_
    refine wp_block ?_
    refine wp_seq ?_
    obtain ⟨m9, hM, hU, hwm⟩ := start_region hM.b hB
    refine region_run (F := sound_law_r11_9 x0 x1 x2 x3 y0 y1 y2 y3 n0 n1 n2 n3 v1 k1 v2 k2 a b zf op n4_4 n4_5 n5_12 n5_13 w m9) [47, 48, 49, 50, 13] [0, 1, 2, 3, 4, 5] hz df (by kernel_rfl) (by kernel_rfl) (fun s hs0 => ⟨hM, hB, Vals.none s _, fun h => no_of' h, fun h => no_of' h, fun h => no_of' h, fun h => no_of' h, fun h => no_of' h⟩) ?_ ?_
    refine FSteps.op3 hz rfl (dv := []) (by kernel_rfl) (by kernel_rfl) (by kernel_rfl) (fun D s W bA kK hD hW hF hA hK => ?_) ?_
    · have x12 := hA.o 12 _ rfl u12
      have hF := Lib.hid hF
      clear hA
      go_simp
      exact hK.out _ _ ⟨hF.out.zb, hF.out.zq, hF.out.zt.step rfl rfl, hF.out.v4, hF.out.k4_0, hF.out.k4_1, hF.out.c4_1, hF.out.g4⟩
    refine FSteps.op3 hz rfl (dv := []) (by kernel_rfl) (by kernel_rfl) (by kernel_rfl) (fun D s W bA kK hD hW hF hA hK => ?_) ?_
    · have x8 := hA.o 8 _ rfl u8
      obtain ⟨⟨c0, z0⟩, -, -, -, -⟩ := hF.zq.rules
      have hF := Lib.hid hF
      clear hA
      go_simp
      exact hK.out _ _ ⟨hF.out.zb, hF.out.zq, hF.out.zt.step rfl rfl, hF.out.v4, hF.out.k4_0, hF.out.k4_1, hF.out.c4_1, hF.out.g4⟩
    refine FSteps.op3 hz rfl (dv := []) (by kernel_rfl) (by kernel_rfl) (by kernel_rfl) (fun D s W bA kK hD hW hF hA hK => ?_) ?_
    · have x9 := hA.o 9 _ rfl u9
      obtain ⟨-, ⟨c1, z1⟩, -, -, -⟩ := hF.zq.rules
      have hF := Lib.hid hF
      clear hA
      go_simp
      exact hK.out _ _ ⟨hF.out.zb, hF.out.zq, hF.out.zt.step rfl rfl, hF.out.v4, hF.out.k4_0, hF.out.k4_1, hF.out.c4_1, hF.out.g4⟩
    refine FSteps.op3 hz rfl (dv := [0, 1, 2]) (by kernel_rfl) (by kernel_rfl) (by kernel_rfl) (fun D s W bA kK hD hW hF hA hK => ?_) ?_
    · have x47 := hA.i 47 _ rfl rfl (hF.zt.get (j := 0) rfl hW.1)
      have x48 := hA.i 48 _ rfl rfl (hF.zt.get (j := 1) rfl hW.2.1)
      have x49 := hA.i 49 _ rfl rfl (hF.zt.get (j := 2) rfl hW.2.2.1)
      have hF := Lib.hid hF
      clear hA
      go_simp
      (go_at_call 14; ((with_reducible_and_instances refine (KO.out op hl1 hl2 _).mono ?_)); rintro e W1 ⟨rfl, hb⟩; (try unfold abVal))
      (try go_wp2_with fail)
      exact hK.out _ _ ⟨hF.out.zb.on hb, Bks.on hb hF.out.zq, hF.out.zt.step rfl rfl, hF.out.v4, fun h1 h2 => (hF.out.k4_0 h1 h2).on hb, fun h1 => (hF.out.k4_1 h1).on hb, hF.out.c4_1, hF.out.g4⟩
    refine FSteps.op3 hz rfl (dv := []) (by kernel_rfl) (by kernel_rfl) (by kernel_rfl) (fun D s W bA kK hD hW hF hA hK => ?_) ?_
    · have hF := Lib.hid hF
      clear hA
      go_simp
      exact hK.out _ _ ⟨hF.out.zb.al _, Bks.al _ hF.out.zq, hF.out.zt.skip rfl, fun _ => rfl, fun _ _ => Bk.new _ _ _, fun h1 => absurd (hF.out.c4_1 h1) (by rw [hD]; decide), fun _ => rfl, fun _ => hF.out.zb.g⟩
    refine FSteps.op3 hz rfl (dv := [4, 3, 3, 0, 1, 2, 3, 4]) (by kernel_rfl) (by kernel_rfl) (by kernel_rfl) (fun D s W bA kK hD hW hF hA hK => ?_) ?_
    · have x13 := hA.i 13 _ rfl rfl (hF.v4 hW.1)
      have x50 := hA.i 50 _ rfl rfl (hF.zt.get (j := 3) rfl hW.2.1)
      have kk := hF.k4_0 hW.1 hD
      have hge := Nat.le_trans hwm (hF.g4 hW.1); have hge2 := hF.g4 hW.1
      have kc := kk.cell; have kf := kk.free
      have hF := Lib.hid hF
      have kk := Lib.hid kk; have hge := Lib.hid hge; have hge2 := Lib.hid hge2
      clear hA
      go_simp
      exact hK.out undef _ ⟨hF.out.zb.sAll (hge.out) 0 [Value.int .i64 (zf op).lo, Value.int .i64 (zf op).hi, Value.int .i64 (zf op).m, Value.int .i64 (zf op).r, Value.int .i64 (zf op).k], Bks.oAll [Value.int .i64 (zf op).lo, Value.int .i64 (zf op).hi, Value.int .i64 (zf op).m, Value.int .i64 (zf op).r, Value.int .i64 (zf op).k] 0 (Under.outside hge2.out hU) hF.out.zq, hF.out.zt.skip rfl, hF.out.v4, fun h1 h2 => no_of h2, fun _ => kk.out.full [Value.int .i64 (zf op).lo, Value.int .i64 (zf op).hi, Value.int .i64 (zf op).m, Value.int .i64 (zf op).r, Value.int .i64 (zf op).k] rfl, fun _ => hW.1, hF.out.g4⟩
    exact FSteps.nil
    intro D s W aF9 hD hF hz' df' hA
    obtain ⟨d0, d1, d2, d3, d4, d5, -⟩ := hD
    replace u6 : Sl aF9 6 _ := hA.o 6 _ rfl u6
    replace u7 : Sl aF9 7 _ := hA.o 7 _ rfl u7
    replace u8 : Sl aF9 8 _ := hA.o 8 _ rfl u8
    replace u9 : Sl aF9 9 _ := hA.o 9 _ rfl u9
    replace u10 : Sl aF9 10 _ := hA.o 10 _ rfl u10
    replace u11 : Sl aF9 11 _ := hA.o 11 _ rfl u11
    replace u12 : Sl aF9 12 _ := hA.o 12 _ rfl u12
    replace u44 : Sl aF9 44 _ := hA.o 44 _ rfl u44
    have u13 : Sl aF9 13 _ := hA.i 13 _ rfl rfl (hF.v4 d4)
    have hkX4 := hF.k4_1 d5
    have hgX4 := hF.g4 d4
    have hM := hF.zb
    have hB := hF.zq
    generalize pblk (s 13) = n9_4 at hkX4 hgX4 u13
    have hB : Bks W [(n4_4, #[Value.int .i64 a.lo, Value.int .i64 a.hi, Value.int .i64 a.m, Value.int .i64 a.r, Value.int .i64 a.k], 27), (n4_5, #[Value.int .i64 b.lo, Value.int .i64 b.hi, Value.int .i64 b.m, Value.int .i64 b.r, Value.int .i64 b.k], 27), (n5_12, #[Value.int .i64 v1, Value.int .i64 k1], 30), (n5_13, #[Value.int .i64 v2, Value.int .i64 k2], 30), (n9_4, #[Value.int .i64 (zf op).lo, Value.int .i64 (zf op).hi, Value.int .i64 (zf op).m, Value.int .i64 (zf op).r, Value.int .i64 (zf op).k], 27)] := ⟨hB.1, hB.2.1, hB.2.2.1, hB.2.2.2.1, hkX4, trivial⟩
    clear hF hA hz df d0 d1 d2 d3 d4 d5 hU
    have hz := hz'; have df := df'; clear hz' df'
    clear aF8
    show Code.wp _ _ _ _ _
    refine wp_seq ?_
    obtain ⟨m10, hM, hU, hwm⟩ := start_region hM.b hB
    refine region_go (F := sound_law_r12_10 x0 x1 x2 x3 y0 y1 y2 y3 n0 n1 n2 n3 v1 k1 v2 k2 a b zf op n4_4 n4_5 n5_12 n5_13 n9_4 w m10) [51, 52, 53, 54, 55, 56, 57, 58, 59, 60, 61, 62, 63, 64, 65, 66, 67, 68, 69, 70] [0, 1, 2, 3, 4, 5, 6, 7, 8, 9, 10, 11, 12, 13, 14, 15, 16, 17, 18, 19] hz df (by kernel_rfl) (by kernel_rfl) (by kernel_rfl) (fun s hs0 => ⟨hM.drew, Bks.drew hB, Vals.none s _⟩) ?_ ?_
    refine FSteps.op3 hz rfl (dv := []) (by kernel_rfl) (by kernel_rfl) (by kernel_rfl) (fun D s W bA kK hD hW hF hA hK => ?_) ?_
    · have x13 := hA.o 13 _ rfl u13
      obtain ⟨-, -, -, -, ⟨c4, z4⟩, -⟩ := hF.zq.rules
      have hF := Lib.hid hF
      clear hA
      go_simp
      exact hK.out _ _ ⟨hF.out.zb, hF.out.zq, hF.out.zt.step rfl rfl⟩
    refine FSteps.op3 hz rfl (dv := [0]) (by kernel_rfl) (by kernel_rfl) (by kernel_rfl) (fun D s W bA kK hD hW hF hA hK => ?_) ?_
    · have x51 := hA.i 51 _ rfl rfl (hF.zt.get (j := 0) rfl hW.1)
      have hF := Lib.hid hF
      clear hA
      go_simp
      (go_at_call 15; ((with_reducible_and_instances refine (KV.out op hl1 hl2 _).mono ?_)); rintro e W1 ⟨rfl, hb⟩; (try unfold abVal))
      (try go_wp2_with fail)
      exact hK.out _ _ ⟨hF.out.zb.on hb, Bks.on hb hF.out.zq, hF.out.zt.step rfl rfl⟩
    refine FSteps.op3 hz rfl (dv := [1]) (by kernel_rfl) (by kernel_rfl) (by kernel_rfl) (fun D s W bA kK hD hW hF hA hK => ?_) ?_
    · have x52 := hA.i 52 _ rfl rfl (hF.zt.get (j := 1) rfl hW.1)
      have hF := Lib.hid hF
      clear hA
      go_simp
      exact hK.out _ _ ⟨hF.out.zb, hF.out.zq, hF.out.zt.step rfl rfl⟩
    refine FSteps.op3 hz rfl (dv := [2, 1]) (by kernel_rfl) (by kernel_rfl) (by kernel_rfl) (fun D s W bA kK hD hW hF hA hK => ?_) ?_
    · have x53 := hA.i 53 _ rfl rfl (hF.zt.get (j := 2) rfl hW.1)
      have hF := Lib.hid hF
      clear hA
      go_simp
      exact hK.out _ _ ⟨hF.out.zb, hF.out.zq, hF.out.zt.step rfl rfl⟩
    refine FSteps.yes3 (bv := false) hz rfl (dv := [3]) (by kernel_rfl) rfl (by kernel_rfl) (by kernel_rfl) (fun D s W hW hF => (hF.zt.get (j := 3) rfl hW.1)) (by kernel_rfl) (by kernel_rfl) (fun D s W bA kK hD hW hF hA hK => ?_) ?_
    · have x13 := hA.o 13 _ rfl u13
      obtain ⟨-, -, -, -, ⟨c4, z4⟩, -⟩ := hF.zq.rules
      have hF := Lib.hid hF
      clear hA
      go_simp
      exact hK.out _ _ ⟨hF.out.zb, hF.out.zq, hF.out.zt.step rfl rfl⟩
    refine FSteps.yes3 (bv := false) hz rfl (dv := [3]) (by kernel_rfl) rfl (by kernel_rfl) (by kernel_rfl) (fun D s W hW hF => (hF.zt.get (j := 3) rfl hW.1)) (by kernel_rfl) (by kernel_rfl) (fun D s W bA kK hD hW hF hA hK => ?_) ?_
    · have x12 := hA.o 12 _ rfl u12
      have hF := Lib.hid hF
      clear hA
      go_simp
      exact hK.out _ _ ⟨hF.out.zb, hF.out.zq, hF.out.zt.step rfl rfl⟩
    refine FSteps.yes3 (bv := false) hz rfl (dv := [3]) (by kernel_rfl) rfl (by kernel_rfl) (by kernel_rfl) (fun D s W hW hF => (hF.zt.get (j := 3) rfl hW.1)) (by kernel_rfl) (by kernel_rfl) (fun D s W bA kK hD hW hF hA hK => ?_) ?_
    · have x10 := hA.o 10 _ rfl u10
      have hF := Lib.hid hF
      clear hA
      go_simp
      exact hK.out _ _ ⟨hF.out.zb, hF.out.zq, hF.out.zt.step rfl rfl⟩
    refine FSteps.yes3 (bv := false) hz rfl (dv := [6, 3]) (by kernel_rfl) rfl (by kernel_rfl) (by kernel_rfl) (fun D s W hW hF => (hF.zt.get (j := 3) rfl hW.2.1)) (by kernel_rfl) (by kernel_rfl) (fun D s W bA kK hD hW hF hA hK => ?_) ?_
    · have x57 := hA.i 57 _ rfl rfl (hF.zt.get (j := 6) rfl hW.1)
      obtain ⟨-, -, ⟨c2, z2⟩, -, -, -⟩ := hF.zq.rules
      have hF := Lib.hid hF
      clear hA
      go_simp
      exact hK.out _ _ ⟨hF.out.zb, hF.out.zq, hF.out.zt.step rfl rfl⟩
    refine FSteps.yes3 (bv := false) hz rfl (dv := [3]) (by kernel_rfl) rfl (by kernel_rfl) (by kernel_rfl) (fun D s W hW hF => (hF.zt.get (j := 3) rfl hW.1)) (by kernel_rfl) (by kernel_rfl) (fun D s W bA kK hD hW hF hA hK => ?_) ?_
    · have x11 := hA.o 11 _ rfl u11
      have hF := Lib.hid hF
      clear hA
      go_simp
      exact hK.out _ _ ⟨hF.out.zb, hF.out.zq, hF.out.zt.step rfl rfl⟩
    refine FSteps.yes3 (bv := false) hz rfl (dv := [8, 3]) (by kernel_rfl) rfl (by kernel_rfl) (by kernel_rfl) (fun D s W hW hF => (hF.zt.get (j := 3) rfl hW.2.1)) (by kernel_rfl) (by kernel_rfl) (fun D s W bA kK hD hW hF hA hK => ?_) ?_
    · have x59 := hA.i 59 _ rfl rfl (hF.zt.get (j := 8) rfl hW.1)
      obtain ⟨-, -, -, ⟨c3, z3⟩, -, -⟩ := hF.zq.rules
      have hF := Lib.hid hF
      clear hA
      go_simp
      exact hK.out _ _ ⟨hF.out.zb, hF.out.zq, hF.out.zt.step rfl rfl⟩
    refine FSteps.yes3 (bv := false) hz rfl (dv := [5, 7, 9, 3, 3]) (by kernel_rfl) rfl (by kernel_rfl) (by kernel_rfl) (fun D s W hW hF => (hF.zt.get (j := 3) rfl hW.2.2.2.1)) (by kernel_rfl) (by kernel_rfl) (fun D s W bA kK hD hW hF hA hK => ?_) ?_
    · have x56 := hA.i 56 _ rfl rfl (hF.zt.get (j := 5) rfl hW.1)
      have x58 := hA.i 58 _ rfl rfl (hF.zt.get (j := 7) rfl hW.2.1)
      have x60 := hA.i 60 _ rfl rfl (hF.zt.get (j := 9) rfl hW.2.2.1)
      have hF := Lib.hid hF
      clear hA
      go_simp
      (go_at_call 16; ((with_reducible_and_instances refine (op_b _ _ _ _).mono ?_)); rintro e W1 ⟨rfl, hb⟩; (try unfold abVal))
      (try go_wp2_with fail)
      exact hK.out _ _ ⟨hF.out.zb.on hb, Bks.on hb hF.out.zq, hF.out.zt.step rfl rfl⟩
    refine FSteps.yes3 (bv := false) hz rfl (dv := [3]) (by kernel_rfl) rfl (by kernel_rfl) (by kernel_rfl) (fun D s W hW hF => (hF.zt.get (j := 3) rfl hW.1)) (by kernel_rfl) (by kernel_rfl) (fun D s W bA kK hD hW hF hA hK => ?_) ?_
    · have x10 := hA.o 10 _ rfl u10
      have hF := Lib.hid hF
      clear hA
      go_simp
      exact hK.out _ _ ⟨hF.out.zb, hF.out.zq, hF.out.zt.step rfl rfl⟩
    refine FSteps.yes3 (bv := false) hz rfl (dv := [11, 3]) (by kernel_rfl) rfl (by kernel_rfl) (by kernel_rfl) (fun D s W hW hF => (hF.zt.get (j := 3) rfl hW.2.1)) (by kernel_rfl) (by kernel_rfl) (fun D s W bA kK hD hW hF hA hK => ?_) ?_
    · have x62 := hA.i 62 _ rfl rfl (hF.zt.get (j := 11) rfl hW.1)
      obtain ⟨-, -, ⟨c2, z2⟩, -, -, -⟩ := hF.zq.rules
      have hF := Lib.hid hF
      clear hA
      go_simp
      exact hK.out _ _ ⟨hF.out.zb, hF.out.zq, hF.out.zt.step rfl rfl⟩
    refine FSteps.yes3 (bv := false) hz rfl (dv := [3]) (by kernel_rfl) rfl (by kernel_rfl) (by kernel_rfl) (fun D s W hW hF => (hF.zt.get (j := 3) rfl hW.1)) (by kernel_rfl) (by kernel_rfl) (fun D s W bA kK hD hW hF hA hK => ?_) ?_
    · have x11 := hA.o 11 _ rfl u11
      have hF := Lib.hid hF
      clear hA
      go_simp
      exact hK.out _ _ ⟨hF.out.zb, hF.out.zq, hF.out.zt.step rfl rfl⟩
    refine FSteps.yes3 (bv := false) hz rfl (dv := [13, 3]) (by kernel_rfl) rfl (by kernel_rfl) (by kernel_rfl) (fun D s W hW hF => (hF.zt.get (j := 3) rfl hW.2.1)) (by kernel_rfl) (by kernel_rfl) (fun D s W bA kK hD hW hF hA hK => ?_) ?_
    · have x64 := hA.i 64 _ rfl rfl (hF.zt.get (j := 13) rfl hW.1)
      obtain ⟨-, -, -, ⟨c3, z3⟩, -, -⟩ := hF.zq.rules
      have hF := Lib.hid hF
      clear hA
      go_simp
      exact hK.out _ _ ⟨hF.out.zb, hF.out.zq, hF.out.zt.step rfl rfl⟩
    refine FSteps.yes3 (bv := false) hz rfl (dv := [12, 14, 3]) (by kernel_rfl) rfl (by kernel_rfl) (by kernel_rfl) (fun D s W hW hF => (hF.zt.get (j := 3) rfl hW.2.2.1)) (by kernel_rfl) (by kernel_rfl) (fun D s W bA kK hD hW hF hA hK => ?_) ?_
    · have x63 := hA.i 63 _ rfl rfl (hF.zt.get (j := 12) rfl hW.1)
      have x65 := hA.i 65 _ rfl rfl (hF.zt.get (j := 14) rfl hW.2.1)
      have hF := Lib.hid hF
      clear hA
      go_simp
      exact hK.out _ _ ⟨hF.out.zb, hF.out.zq, hF.out.zt.step rfl rfl⟩
    refine FSteps.yes3 (bv := false) hz rfl (dv := [10, 15, 3]) (by kernel_rfl) rfl (by kernel_rfl) (by kernel_rfl) (fun D s W hW hF => (hF.zt.get (j := 3) rfl hW.2.2.1)) (by kernel_rfl) (by kernel_rfl) (fun D s W bA kK hD hW hF hA hK => ?_) ?_
    · have x61 := hA.i 61 _ rfl rfl (hF.zt.get (j := 10) rfl hW.1)
      have x66 := hA.i 66 _ rfl rfl (hF.zt.get (j := 15) rfl hW.2.1)
      have hF := Lib.hid hF
      clear hA
      go_simp
      exact hK.out _ _ ⟨hF.out.zb, hF.out.zq, hF.out.zt.step rfl rfl⟩
    refine FSteps.yes3 (bv := false) hz rfl (dv := [4, 16, 10, 3]) (by kernel_rfl) rfl (by kernel_rfl) (by kernel_rfl) (fun D s W hW hF => (hF.zt.get (j := 3) rfl hW.2.2.2.1)) (by kernel_rfl) (by kernel_rfl) (fun D s W bA kK hD hW hF hA hK => ?_) ?_
    · have x55 := hA.i 55 _ rfl rfl (hF.zt.get (j := 4) rfl hW.1)
      have x67 := hA.i 67 _ rfl rfl (hF.zt.get (j := 16) rfl hW.2.1)
      have hF := Lib.hid hF
      clear hA
      go_simp
      (go_at_call 13; ((with_reducible_and_instances refine (KN.out op hl1 hl2 _).mono ?_)); rintro e W1 ⟨rfl, hb⟩; (try unfold abVal))
      (try go_wp2_with fail)
      exact hK.out _ _ ⟨hF.out.zb.on hb, Bks.on hb hF.out.zq, hF.out.zt.step rfl rfl⟩
    refine FSteps.yes3 (bv := false) hz rfl (dv := [17, 3]) (by kernel_rfl) rfl (by kernel_rfl) (by kernel_rfl) (fun D s W hW hF => (hF.zt.get (j := 3) rfl hW.2.1)) (by kernel_rfl) (by kernel_rfl) (fun D s W bA kK hD hW hF hA hK => ?_) ?_
    · have x68 := hA.i 68 _ rfl rfl (hF.zt.get (j := 17) rfl hW.1)
      have hF := Lib.hid hF
      clear hA
      go_simp
      exact hK.out _ _ ⟨hF.out.zb, hF.out.zq, hF.out.zt.step rfl rfl⟩
    refine FSteps.op3 hz rfl (dv := [3, 18]) (by kernel_rfl) (by kernel_rfl) (by kernel_rfl) (fun D s W bA kK hD hW hF hA hK => ?_) ?_
    · have x54 := hA.i 54 _ rfl rfl (hF.zt.get (j := 3) rfl hW.1)
      have x69 := hA.i 69 _ rfl rfl (hF.zt.get (j := 18) rfl hW.2.1)
      have hF := Lib.hid hF
      clear hA
      go_simp
      exact hK.out _ _ ⟨hF.out.zb, hF.out.zq, hF.out.zt.step rfl rfl⟩
    exact FSteps.nil
    intro D s W aF10 hD hF hz' df' hA
    obtain ⟨d0, d1, d2, d3, d4, d5, d6, d7, d8, d9, d10, d11, d12, d13, d14, d15, d16, d17, d18, d19, -⟩ := hD
    replace u6 : Sl aF10 6 _ := hA.o 6 _ rfl u6
    replace u7 : Sl aF10 7 _ := hA.o 7 _ rfl u7
    replace u8 : Sl aF10 8 _ := hA.o 8 _ rfl u8
    replace u9 : Sl aF10 9 _ := hA.o 9 _ rfl u9
    replace u10 : Sl aF10 10 _ := hA.o 10 _ rfl u10
    replace u11 : Sl aF10 11 _ := hA.o 11 _ rfl u11
    replace u12 : Sl aF10 12 _ := hA.o 12 _ rfl u12
    replace u44 : Sl aF10 44 _ := hA.o 44 _ rfl u44
    replace u13 : Sl aF10 13 _ := hA.o 13 _ rfl u13
    have u70 : Sl aF10 70 _ := hA.i 70 _ rfl rfl (hF.zt.get (j := 19) rfl d19)
    have hM := hF.zb
    have hB := hF.zq
    have hB : Bks W [(n4_4, #[Value.int .i64 a.lo, Value.int .i64 a.hi, Value.int .i64 a.m, Value.int .i64 a.r, Value.int .i64 a.k], 27), (n4_5, #[Value.int .i64 b.lo, Value.int .i64 b.hi, Value.int .i64 b.m, Value.int .i64 b.r, Value.int .i64 b.k], 27), (n5_12, #[Value.int .i64 v1, Value.int .i64 k1], 30), (n5_13, #[Value.int .i64 v2, Value.int .i64 k2], 30), (n9_4, #[Value.int .i64 (zf op).lo, Value.int .i64 (zf op).hi, Value.int .i64 (zf op).m, Value.int .i64 (zf op).r, Value.int .i64 (zf op).k], 27)] := ⟨hB.1, hB.2.1, hB.2.2.1, hB.2.2.2.1, hB.2.2.2.2.1, trivial⟩
    clear hF hA hz df d0 d1 d2 d3 d4 d5 d6 d7 d8 d9 d10 d11 d12 d13 d14 d15 d16 d17 d18 d19 hU
    have hz := hz'; have df := df'; clear hz' df'
    clear aF9
    show Code.wp _ _ _ _ _
    refine cond_f u70 ?_
    refine wp_skip ?_
    show Code.wp _ _ _ _ _
    obtain ⟨m11, hM, hU, hwm⟩ := start_region hM.b hB
    refine region_run (F := sound_law_r10_11 x0 x1 x2 x3 y0 y1 y2 y3 n0 n1 n2 n3 v1 k1 v2 k2 a b zf op n4_4 n4_5 n5_12 n5_13 n9_4 w m11) [45, 46, 12] [0, 1, 2] hz df (by kernel_rfl) (by kernel_rfl) (fun s hs0 => ⟨hM, hB, Vals.none s _, fun _ => hs0 12 _ u12, fun h => no_of' h⟩) ?_ ?_
    refine FSteps.op3 hz rfl (dv := []) (by kernel_rfl) (by kernel_rfl) (by kernel_rfl) (fun D s W bA kK hD hW hF hA hK => ?_) ?_
    · have x12 := hA.i 12 _ rfl rfl (hF.r12 (by rcases hq : D 2 with _ | _; rfl; exact absurd (hF.q12_0 hq) (by rw [hD]; decide)))
      have hF := Lib.hid hF
      clear hA
      go_simp
      exact hK.out _ _ ⟨hF.out.zb, hF.out.zq, hF.out.zt.step rfl rfl, hF.out.r12, fun _ => rfl⟩
    refine FSteps.op3 hz rfl (dv := [0]) (by kernel_rfl) (by kernel_rfl) (by kernel_rfl) (fun D s W bA kK hD hW hF hA hK => ?_) ?_
    · have x45 := hA.i 45 _ rfl rfl (hF.zt.get (j := 0) rfl hW.1)
      have hF := Lib.hid hF
      clear hA
      have hw1 : IntKind.i64.wrap (op + 1) = op + 1 := IntWalk.i64_in _ (by omega)
      go_simp
      exact hK.out _ _ ⟨hF.out.zb, hF.out.zq, hF.out.zt.step rfl rfl, hF.out.r12, hF.out.q12_0⟩
    refine FSteps.op3 hz rfl (dv := [1, 0, 1]) (by kernel_rfl) (by kernel_rfl) (by kernel_rfl) (fun D s W bA kK hD hW hF hA hK => ?_) ?_
    · have x46 := hA.i 46 _ rfl rfl (hF.zt.get (j := 1) rfl hW.1)
      have hF := Lib.hid hF
      clear hA
      go_simp
      exact hK.out _ _ ⟨hF.out.zb, hF.out.zq, hF.out.zt.step rfl rfl, fun h => no_of h, fun _ => hW.2.1⟩
    exact FSteps.nil
    intro D s W aF11 hD hF hz' df' hA
    obtain ⟨d0, d1, d2, -⟩ := hD
    clear u12
    replace u6 : Sl aF11 6 _ := hA.o 6 _ rfl u6
    replace u7 : Sl aF11 7 _ := hA.o 7 _ rfl u7
    replace u8 : Sl aF11 8 _ := hA.o 8 _ rfl u8
    replace u9 : Sl aF11 9 _ := hA.o 9 _ rfl u9
    replace u10 : Sl aF11 10 _ := hA.o 10 _ rfl u10
    replace u11 : Sl aF11 11 _ := hA.o 11 _ rfl u11
    replace u44 : Sl aF11 44 _ := hA.o 44 _ rfl u44
    replace u13 : Sl aF11 13 _ := hA.o 13 _ rfl u13
    replace u70 : Sl aF11 70 _ := hA.o 70 _ rfl u70
    have u12 : Sl aF11 12 _ := hA.i 12 _ rfl rfl (hF.zt.get (j := 2) rfl d2)
    have hM := hF.zb
    have hB := hF.zq
    have hB : Bks W [(n4_4, #[Value.int .i64 a.lo, Value.int .i64 a.hi, Value.int .i64 a.m, Value.int .i64 a.r, Value.int .i64 a.k], 27), (n4_5, #[Value.int .i64 b.lo, Value.int .i64 b.hi, Value.int .i64 b.m, Value.int .i64 b.r, Value.int .i64 b.k], 27), (n5_12, #[Value.int .i64 v1, Value.int .i64 k1], 30), (n5_13, #[Value.int .i64 v2, Value.int .i64 k2], 30), (n9_4, #[Value.int .i64 (zf op).lo, Value.int .i64 (zf op).hi, Value.int .i64 (zf op).m, Value.int .i64 (zf op).r, Value.int .i64 (zf op).k], 27)] := ⟨hB.1, hB.2.1, hB.2.2.1, hB.2.2.2.1, hB.2.2.2.2.1, trivial⟩
    clear hF hA hz df d0 d1 d2 hU
    have hz := hz'; have df := df'; clear hz' df'
    clear aF10
    show ∃ n2, n2 < _ ∧ _
    exact ⟨_, by omega, (op + 1), rfl, ⟨by omega, by omega⟩, hz, df, u6, u7, u8, u9, u10, u11, u12, hM.b, ⟨hB.1, hB.2.1, hB.2.2.1, hB.2.2.2.1, trivial⟩⟩
  · have hcnd := Lib.hid hcnd
    refine wp_exit ?_
    refine then_exit ?_
    refine then_exit ?_
    refine exit_here ?_
    show Code.wp _ _ _ _ _
    refine wp_seq ?_
    obtain ⟨m12, hM, hU, hwm⟩ := start_region hM.b hB
    refine region_run (F := sound_law_r14_12 x0 x1 x2 x3 y0 y1 y2 y3 n0 n1 n2 n3 v1 k1 v2 k2 a b zf op n4_4 n4_5 n5_12 n5_13 w m12) [71, 6] [0, 1] hz df (by kernel_rfl) (by kernel_rfl) (fun s hs0 => ⟨hM, hB, Vals.none s _⟩) ?_ ?_
    refine FSteps.op3 hz rfl (dv := []) (by kernel_rfl) (by kernel_rfl) (by kernel_rfl) (fun D s W bA kK hD hW hF hA hK => ?_) ?_
    · have x7 := hA.o 7 _ rfl u7
      have hF := Lib.hid hF
      clear hA
      go_simp
      exact hK.out _ _ ⟨hF.out.zb, hF.out.zq, hF.out.zt.step rfl rfl⟩
    refine FSteps.op3 hz rfl (dv := [0, 0]) (by kernel_rfl) (by kernel_rfl) (by kernel_rfl) (fun D s W bA kK hD hW hF hA hK => ?_) ?_
    · have x71 := hA.i 71 _ rfl rfl (hF.zt.get (j := 0) rfl hW.1)
      have hF := Lib.hid hF
      clear hA
      go_simp
      exact hK.out _ _ ⟨hF.out.zb, hF.out.zq, hF.out.zt.step rfl rfl⟩
    exact FSteps.nil
    intro D s W aF12 hD hF hz' df' hA
    obtain ⟨d0, d1, -⟩ := hD
    clear u6
    replace u7 : Sl aF12 7 _ := hA.o 7 _ rfl u7
    replace u8 : Sl aF12 8 _ := hA.o 8 _ rfl u8
    replace u9 : Sl aF12 9 _ := hA.o 9 _ rfl u9
    replace u10 : Sl aF12 10 _ := hA.o 10 _ rfl u10
    replace u11 : Sl aF12 11 _ := hA.o 11 _ rfl u11
    replace u12 : Sl aF12 12 _ := hA.o 12 _ rfl u12
    replace u44 : Sl aF12 44 _ := hA.o 44 _ rfl u44
    have u6 : Sl aF12 6 _ := hA.i 6 _ rfl rfl (hF.zt.get (j := 1) rfl d1)
    have hM := hF.zb
    have hB := hF.zq
    have hB : Bks W [(n4_4, #[Value.int .i64 a.lo, Value.int .i64 a.hi, Value.int .i64 a.m, Value.int .i64 a.r, Value.int .i64 a.k], 27), (n4_5, #[Value.int .i64 b.lo, Value.int .i64 b.hi, Value.int .i64 b.m, Value.int .i64 b.r, Value.int .i64 b.k], 27), (n5_12, #[Value.int .i64 v1, Value.int .i64 k1], 30), (n5_13, #[Value.int .i64 v2, Value.int .i64 k2], 30)] := ⟨hB.1, hB.2.1, hB.2.2.1, hB.2.2.2.1, trivial⟩
    clear hF hA hz df d0 d1 hU
    have hz := hz'; have df := df'; clear hz' df'
    clear aF8
    show Code.wp _ _ _ _ _
    refine wp_ret ?_
    show bodyPost _ _ _ _ _ _
    exact end_go df (res_tmp rfl u6) ⟨rfl, hM.b⟩


end Go.Proofs.Ytlokjiniigfaiaa
