/- The walk of parolelaw10.SpanOrder. -/
import Derived.Test.YtlokjiniigfaiaaSpEx
import Derived.Test.YtlokjiniigfaiaaSpLeq
import Derived.Test.YtlokjiniigfaiaaWk
set_option linter.unusedVariables false
set_option linter.unusedSimpArgs false
namespace Go.Proofs.Ytlokjiniigfaiaa
open Go.ChangeShapes Go.WideShapes Go.ChangeAt Go.RowKit

theorem six_ways (q0 q1 q2 u : Bool) (p : Prop) : q0 = false ∨ (q0 = true ∧ q1 = false) ∨ (q0 = true ∧ q1 = true ∧ q2 = false) ∨ (q0 = true ∧ q1 = true ∧ q2 = true ∧ ¬ p) ∨ (q0 = true ∧ q1 = true ∧ q2 = true ∧ p ∧ u = false) ∨ (q0 = true ∧ q1 = true ∧ q2 = true ∧ p ∧ u = true) := by
  by_cases hp : p <;> cases q0 <;> cases q1 <;> cases q2 <;> cases u <;> simp [hp]

structure order_law_r0_1 (x0 x1 x2 x3 y0 y1 y2 y3 z0 z1 z2 z3 s1 k0 k1 k2 : Int) (a b c big w1 w2 w3 w4 : Ab) (zf zg : Int → Ab) (q0 q1 q2 t u : Bool) (w : World) (m1 : Nat) (D : Nat → Bool) (s : Nat → Value) (W : World) : Prop where
  zb : Mk0 w m1 W
  zq : Bks W []
  zt : Vals D s [(3, 6, Value.bool false)]
  v0 : D 0 = true → s 3 = (Value.pointer (some ⟨pblk (s 3), 0, none⟩))
  v1 : D 1 = true → s 4 = (Value.pointer (some ⟨pblk (s 4), 0, none⟩))
  v2 : D 2 = true → s 5 = (Value.pointer (some ⟨pblk (s 5), 0, none⟩))
  k0_0 : D 0 = true → Bk W (pblk (s 3)) #[Value.int .i64 x0, Value.int .i64 x1, Value.int .i64 x2, Value.int .i64 x3] 23
  g0 : D 0 = true → m1 ≤ (pblk (s 3))
  k1_0 : D 1 = true → Bk W (pblk (s 4)) #[Value.int .i64 y0, Value.int .i64 y1, Value.int .i64 y2, Value.int .i64 y3] 23
  g1 : D 1 = true → m1 ≤ (pblk (s 4))
  k2_0 : D 2 = true → Bk W (pblk (s 5)) #[Value.int .i64 z0, Value.int .i64 z1, Value.int .i64 z2, Value.int .i64 z3] 23
  g2 : D 2 = true → m1 ≤ (pblk (s 5))
  e0_1 : D 0 = true → D 1 = true → pblk (s 3) ≠ pblk (s 4)
  e0_2 : D 0 = true → D 2 = true → pblk (s 3) ≠ pblk (s 5)
  e1_2 : D 1 = true → D 2 = true → pblk (s 4) ≠ pblk (s 5)

structure order_law_r1_2 (x0 x1 x2 x3 y0 y1 y2 y3 z0 z1 z2 z3 s1 k0 k1 k2 : Int) (a b c big w1 w2 w3 w4 : Ab) (zf zg : Int → Ab) (q0 q1 q2 t u : Bool) (n1_0 n1_1 n1_2 : Nat) (w : World) (m2 : Nat) (D : Nat → Bool) (s : Nat → Value) (W : World) : Prop where
  zb : Mk0 w m2 W
  zq : Bks W [(n1_0, #[Value.int .i64 x0, Value.int .i64 x1, Value.int .i64 x2, Value.int .i64 x3], 23), (n1_1, #[Value.int .i64 y0, Value.int .i64 y1, Value.int .i64 y2, Value.int .i64 y3], 23), (n1_2, #[Value.int .i64 z0, Value.int .i64 z1, Value.int .i64 z2, Value.int .i64 z3], 23)]
  zt : Vals D s [(0, 15, Value.bool true), (1, 7, Value.bool true)]

structure order_law_r2_3 (x0 x1 x2 x3 y0 y1 y2 y3 z0 z1 z2 z3 s1 k0 k1 k2 : Int) (a b c big w1 w2 w3 w4 : Ab) (zf zg : Int → Ab) (q0 q1 q2 t u : Bool) (n1_0 n1_1 n1_2 : Nat) (w : World) (m3 : Nat) (D : Nat → Bool) (s : Nat → Value) (W : World) : Prop where
  zb : Mk0 w m3 W
  zq : Bks W [(n1_0, #[Value.int .i64 x0, Value.int .i64 x1, Value.int .i64 x2, Value.int .i64 x3], 23), (n1_1, #[Value.int .i64 y0, Value.int .i64 y1, Value.int .i64 y2, Value.int .i64 y3], 23), (n1_2, #[Value.int .i64 z0, Value.int .i64 z1, Value.int .i64 z2, Value.int .i64 z3], 23)]
  zt : Vals D s [(0, 16, Value.bool true), (1, 17, Value.bool false)]

structure order_law_r4_4 (x0 x1 x2 x3 y0 y1 y2 y3 z0 z1 z2 z3 s1 k0 k1 k2 : Int) (a b c big w1 w2 w3 w4 : Ab) (zf zg : Int → Ab) (q0 q1 q2 t u : Bool) (n1_0 n1_1 n1_2 : Nat) (w : World) (m4 : Nat) (D : Nat → Bool) (s : Nat → Value) (W : World) : Prop where
  zb : Mk0 w m4 W
  zq : Bks W [(n1_0, #[Value.int .i64 x0, Value.int .i64 x1, Value.int .i64 x2, Value.int .i64 x3], 23), (n1_1, #[Value.int .i64 y0, Value.int .i64 y1, Value.int .i64 y2, Value.int .i64 y3], 23), (n1_2, #[Value.int .i64 z0, Value.int .i64 z1, Value.int .i64 z2, Value.int .i64 z3], 23)]
  zt : Vals D s [(0, 18, Value.agg #[Value.int .i64 x0, Value.int .i64 x1, Value.int .i64 x2, Value.int .i64 x3]), (1, 19, Value.agg #[Value.int .i64 a.lo, Value.int .i64 a.hi, Value.int .i64 a.m, Value.int .i64 a.r, Value.int .i64 a.k]), (2, 20, Value.agg #[Value.int .i64 y0, Value.int .i64 y1, Value.int .i64 y2, Value.int .i64 y3]), (3, 21, Value.agg #[Value.int .i64 b.lo, Value.int .i64 b.hi, Value.int .i64 b.m, Value.int .i64 b.r, Value.int .i64 b.k])]
  v4 : D 4 = true → s 8 = (Value.pointer (some ⟨pblk (s 8), 0, none⟩))
  v5 : D 5 = true → s 9 = (Value.pointer (some ⟨pblk (s 9), 0, none⟩))
  k4_0 : D 4 = true → D 6 = false → Bk W (pblk (s 8)) #[Value.int .i64 0, Value.int .i64 0, Value.int .i64 0, Value.int .i64 0, Value.int .i64 0] 27
  k4_1 : D 6 = true → Bk W (pblk (s 8)) #[Value.int .i64 a.lo, Value.int .i64 a.hi, Value.int .i64 a.m, Value.int .i64 a.r, Value.int .i64 a.k] 27
  c4_1 : D 6 = true → D 4 = true
  g4 : D 4 = true → m4 ≤ (pblk (s 8))
  k5_0 : D 5 = true → D 7 = false → Bk W (pblk (s 9)) #[Value.int .i64 0, Value.int .i64 0, Value.int .i64 0, Value.int .i64 0, Value.int .i64 0] 27
  k5_1 : D 7 = true → Bk W (pblk (s 9)) #[Value.int .i64 b.lo, Value.int .i64 b.hi, Value.int .i64 b.m, Value.int .i64 b.r, Value.int .i64 b.k] 27
  c5_1 : D 7 = true → D 5 = true
  g5 : D 5 = true → m4 ≤ (pblk (s 9))
  e4_5 : D 4 = true → D 5 = true → pblk (s 8) ≠ pblk (s 9)

structure order_law_r5_5 (x0 x1 x2 x3 y0 y1 y2 y3 z0 z1 z2 z3 s1 k0 k1 k2 : Int) (a b c big w1 w2 w3 w4 : Ab) (zf zg : Int → Ab) (q0 q1 q2 t u : Bool) (n1_2 n4_4 n4_5 : Nat) (w : World) (m5 : Nat) (D : Nat → Bool) (s : Nat → Value) (W : World) : Prop where
  zb : Mk0 w m5 W
  zq : Bks W [(n1_2, #[Value.int .i64 z0, Value.int .i64 z1, Value.int .i64 z2, Value.int .i64 z3], 23), (n4_4, #[Value.int .i64 a.lo, Value.int .i64 a.hi, Value.int .i64 a.m, Value.int .i64 a.r, Value.int .i64 a.k], 27), (n4_5, #[Value.int .i64 b.lo, Value.int .i64 b.hi, Value.int .i64 b.m, Value.int .i64 b.r, Value.int .i64 b.k], 27)]
  zt : Vals D s [(0, 22, Value.agg #[Value.int .i64 z0, Value.int .i64 z1, Value.int .i64 z2, Value.int .i64 z3]), (1, 23, Value.agg #[Value.int .i64 c.lo, Value.int .i64 c.hi, Value.int .i64 c.m, Value.int .i64 c.r, Value.int .i64 c.k])]
  v2 : D 2 = true → s 10 = (Value.pointer (some ⟨pblk (s 10), 0, none⟩))
  k2_0 : D 2 = true → D 3 = false → Bk W (pblk (s 10)) #[Value.int .i64 0, Value.int .i64 0, Value.int .i64 0, Value.int .i64 0, Value.int .i64 0] 27
  k2_1 : D 3 = true → Bk W (pblk (s 10)) #[Value.int .i64 c.lo, Value.int .i64 c.hi, Value.int .i64 c.m, Value.int .i64 c.r, Value.int .i64 c.k] 27
  c2_1 : D 3 = true → D 2 = true
  g2 : D 2 = true → m5 ≤ (pblk (s 10))

structure order_law_r6_6 (x0 x1 x2 x3 y0 y1 y2 y3 z0 z1 z2 z3 s1 k0 k1 k2 : Int) (a b c big w1 w2 w3 w4 : Ab) (zf zg : Int → Ab) (q0 q1 q2 t u : Bool) (n4_4 n4_5 n5_2 : Nat) (w : World) (m6 : Nat) (D : Nat → Bool) (s : Nat → Value) (W : World) : Prop where
  zb : Mk0 w m6 W
  zq : Bks W [(n4_4, #[Value.int .i64 a.lo, Value.int .i64 a.hi, Value.int .i64 a.m, Value.int .i64 a.r, Value.int .i64 a.k], 27), (n4_5, #[Value.int .i64 b.lo, Value.int .i64 b.hi, Value.int .i64 b.m, Value.int .i64 b.r, Value.int .i64 b.k], 27), (n5_2, #[Value.int .i64 c.lo, Value.int .i64 c.hi, Value.int .i64 c.m, Value.int .i64 c.r, Value.int .i64 c.k], 27)]
  zt : Vals D s [(0, 24, Value.agg #[Value.int .i64 a.lo, Value.int .i64 a.hi, Value.int .i64 a.m, Value.int .i64 a.r, Value.int .i64 a.k]), (1, 25, Value.agg #[Value.int .i64 b.lo, Value.int .i64 b.hi, Value.int .i64 b.m, Value.int .i64 b.r, Value.int .i64 b.k]), (2, 26, Value.bool t), (3, 11, Value.bool t)]

structure order_t7_r7_1 (x0 x1 x2 x3 y0 y1 y2 y3 z0 z1 z2 z3 s1 k0 k1 k2 : Int) (a b c big w1 w2 w3 w4 : Ab) (zf zg : Int → Ab) (n4_4 n4_5 n5_2 : Nat) (w : World) (m1 : Nat) (D : Nat → Bool) (s : Nat → Value) (W : World) : Prop where
  zb : Mk0 w m1 W
  zq : Bks W [(n4_4, #[Value.int .i64 a.lo, Value.int .i64 a.hi, Value.int .i64 a.m, Value.int .i64 a.r, Value.int .i64 a.k], 27), (n4_5, #[Value.int .i64 b.lo, Value.int .i64 b.hi, Value.int .i64 b.m, Value.int .i64 b.r, Value.int .i64 b.k], 27), (n5_2, #[Value.int .i64 c.lo, Value.int .i64 c.hi, Value.int .i64 c.m, Value.int .i64 c.r, Value.int .i64 c.k], 27)]
  zt : Vals D s [(0, 27, Value.agg #[Value.int .i64 b.lo, Value.int .i64 b.hi, Value.int .i64 b.m, Value.int .i64 b.r, Value.int .i64 b.k]), (1, 28, Value.agg #[Value.int .i64 a.lo, Value.int .i64 a.hi, Value.int .i64 a.m, Value.int .i64 a.r, Value.int .i64 a.k]), (2, 29, Value.agg #[Value.int .i64 a.lo, Value.int .i64 k0]), (3, 30, Value.bool false), (4, 31, Value.bool false), (5, 32, undef), (6, 33, undef), (7, 34, undef), (8, 35, undef), (9, 36, Value.bool false), (10, 37, Value.bool false), (11, 38, undef), (12, 39, undef), (13, 40, undef), (14, 41, undef), (15, 42, Value.bool false), (16, 12, Value.bool false)]

structure order_t7_r8_2 (x0 x1 x2 x3 y0 y1 y2 y3 z0 z1 z2 z3 s1 k0 k1 k2 : Int) (a b c big w1 w2 w3 w4 : Ab) (zf zg : Int → Ab) (n4_4 n4_5 n5_2 : Nat) (w : World) (m2 : Nat) (D : Nat → Bool) (s : Nat → Value) (W : World) : Prop where
  zb : Mk0 w m2 W
  zq : Bks W [(n4_4, #[Value.int .i64 a.lo, Value.int .i64 a.hi, Value.int .i64 a.m, Value.int .i64 a.r, Value.int .i64 a.k], 27), (n4_5, #[Value.int .i64 b.lo, Value.int .i64 b.hi, Value.int .i64 b.m, Value.int .i64 b.r, Value.int .i64 b.k], 27), (n5_2, #[Value.int .i64 c.lo, Value.int .i64 c.hi, Value.int .i64 c.m, Value.int .i64 c.r, Value.int .i64 c.k], 27)]
  zt : Vals D s [(0, 43, Value.bool false), (1, 44, Value.bool false), (2, 45, Value.bool false), (3, 46, undef), (4, 47, undef), (5, 48, undef), (6, 49, undef), (7, 50, undef), (8, 51, undef), (9, 52, Value.bool false), (10, 53, Value.bool false), (11, 54, Value.bool false), (12, 55, Value.agg #[Value.int .i64 a.lo, Value.int .i64 a.hi, Value.int .i64 a.m, Value.int .i64 a.r, Value.int .i64 a.k]), (13, 56, Value.agg #[Value.int .i64 a.lo, Value.int .i64 a.hi, Value.int .i64 a.m, Value.int .i64 a.r, Value.int .i64 a.k]), (14, 57, Value.bool true), (15, 58, Value.bool false), (16, 59, Value.bool false), (17, 60, Value.bool false), (18, 61, Value.bool false), (19, 62, Value.bool false), (20, 63, undef), (21, 64, undef), (22, 65, undef), (23, 66, Value.bool false), (24, 67, Value.bool false), (25, 68, undef), (26, 69, undef), (27, 70, undef), (28, 71, Value.bool false), (29, 72, Value.bool false)]

structure order_t10_r10_1 (x0 x1 x2 x3 y0 y1 y2 y3 z0 z1 z2 z3 s1 k0 k1 k2 : Int) (a b c big w1 w2 w3 w4 : Ab) (zf zg : Int → Ab) (n4_4 n4_5 n5_2 : Nat) (w : World) (m1 : Nat) (D : Nat → Bool) (s : Nat → Value) (W : World) : Prop where
  zb : Mk0 w m1 W
  zq : Bks W [(n4_4, #[Value.int .i64 a.lo, Value.int .i64 a.hi, Value.int .i64 a.m, Value.int .i64 a.r, Value.int .i64 a.k], 27), (n4_5, #[Value.int .i64 b.lo, Value.int .i64 b.hi, Value.int .i64 b.m, Value.int .i64 b.r, Value.int .i64 b.k], 27), (n5_2, #[Value.int .i64 c.lo, Value.int .i64 c.hi, Value.int .i64 c.m, Value.int .i64 c.r, Value.int .i64 c.k], 27)]
  zt : Vals D s [(0, 73, Value.agg #[Value.int .i64 a.lo, Value.int .i64 a.hi, Value.int .i64 a.m, Value.int .i64 a.r, Value.int .i64 a.k]), (1, 74, Value.agg #[Value.int .i64 b.lo, Value.int .i64 b.hi, Value.int .i64 b.m, Value.int .i64 b.r, Value.int .i64 b.k]), (2, 75, Value.agg #[Value.int .i64 big.lo, Value.int .i64 big.hi, Value.int .i64 big.m, Value.int .i64 big.r, Value.int .i64 big.k])]
  v3 : D 3 = true → s 13 = (Value.pointer (some ⟨pblk (s 13), 0, none⟩))
  k3_0 : D 3 = true → D 4 = false → Bk W (pblk (s 13)) #[Value.int .i64 0, Value.int .i64 0, Value.int .i64 0, Value.int .i64 0, Value.int .i64 0] 27
  k3_1 : D 4 = true → Bk W (pblk (s 13)) #[Value.int .i64 big.lo, Value.int .i64 big.hi, Value.int .i64 big.m, Value.int .i64 big.r, Value.int .i64 big.k] 27
  c3_1 : D 4 = true → D 3 = true
  g3 : D 3 = true → m1 ≤ (pblk (s 13))

structure order_t10_r11_2 (x0 x1 x2 x3 y0 y1 y2 y3 z0 z1 z2 z3 s1 k0 k1 k2 : Int) (a b c big w1 w2 w3 w4 : Ab) (zf zg : Int → Ab) (n1_3 n4_4 n5_2 : Nat) (w : World) (m2 : Nat) (D : Nat → Bool) (s : Nat → Value) (W : World) : Prop where
  zb : Mk0 w m2 W
  zq : Bks W [(n4_4, #[Value.int .i64 a.lo, Value.int .i64 a.hi, Value.int .i64 a.m, Value.int .i64 a.r, Value.int .i64 a.k], 27), (n5_2, #[Value.int .i64 c.lo, Value.int .i64 c.hi, Value.int .i64 c.m, Value.int .i64 c.r, Value.int .i64 c.k], 27), (n1_3, #[Value.int .i64 big.lo, Value.int .i64 big.hi, Value.int .i64 big.m, Value.int .i64 big.r, Value.int .i64 big.k], 27)]
  zt : Vals D s [(0, 14, Value.int .i64 4)]

structure order_t10_r12_3 (x0 x1 x2 x3 y0 y1 y2 y3 z0 z1 z2 z3 s1 k0 k1 k2 : Int) (a b c big w1 w2 w3 w4 : Ab) (zf zg : Int → Ab) (op : Int) (n1_3 n4_4 n5_2 : Nat) (w : World) (m3 : Nat) (D : Nat → Bool) (s : Nat → Value) (W : World) : Prop where
  zb : Mk0 w m3 W
  zq : Bks W [(n4_4, #[Value.int .i64 a.lo, Value.int .i64 a.hi, Value.int .i64 a.m, Value.int .i64 a.r, Value.int .i64 a.k], 27), (n5_2, #[Value.int .i64 c.lo, Value.int .i64 c.hi, Value.int .i64 c.m, Value.int .i64 c.r, Value.int .i64 c.k], 27), (n1_3, #[Value.int .i64 big.lo, Value.int .i64 big.hi, Value.int .i64 big.m, Value.int .i64 big.r, Value.int .i64 big.k], 27)]
  zt : Vals D s [(0, 76, Value.int .i64 op), (1, 77, Value.bool (decide (op ≤ 6)))]

structure order_t10_r14_4 (x0 x1 x2 x3 y0 y1 y2 y3 z0 z1 z2 z3 s1 k0 k1 k2 : Int) (a b c big w1 w2 w3 w4 : Ab) (zf zg : Int → Ab) (op : Int) (n1_3 n4_4 n5_2 : Nat) (w : World) (m4 : Nat) (D : Nat → Bool) (s : Nat → Value) (W : World) : Prop where
  zb : Mk0 w m4 W
  zq : Bks W [(n4_4, #[Value.int .i64 a.lo, Value.int .i64 a.hi, Value.int .i64 a.m, Value.int .i64 a.r, Value.int .i64 a.k], 27), (n5_2, #[Value.int .i64 c.lo, Value.int .i64 c.hi, Value.int .i64 c.m, Value.int .i64 c.r, Value.int .i64 c.k], 27), (n1_3, #[Value.int .i64 big.lo, Value.int .i64 big.hi, Value.int .i64 big.m, Value.int .i64 big.r, Value.int .i64 big.k], 27)]
  zt : Vals D s [(0, 80, Value.int .i64 op), (1, 81, Value.agg #[Value.int .i64 a.lo, Value.int .i64 a.hi, Value.int .i64 a.m, Value.int .i64 a.r, Value.int .i64 a.k]), (2, 82, Value.agg #[Value.int .i64 c.lo, Value.int .i64 c.hi, Value.int .i64 c.m, Value.int .i64 c.r, Value.int .i64 c.k]), (3, 83, Value.agg #[Value.int .i64 (zf op).lo, Value.int .i64 (zf op).hi, Value.int .i64 (zf op).m, Value.int .i64 (zf op).r, Value.int .i64 (zf op).k]), (4, 84, Value.int .i64 op), (5, 85, Value.agg #[Value.int .i64 big.lo, Value.int .i64 big.hi, Value.int .i64 big.m, Value.int .i64 big.r, Value.int .i64 big.k]), (6, 86, Value.agg #[Value.int .i64 c.lo, Value.int .i64 c.hi, Value.int .i64 c.m, Value.int .i64 c.r, Value.int .i64 c.k]), (7, 87, Value.agg #[Value.int .i64 (zg op).lo, Value.int .i64 (zg op).hi, Value.int .i64 (zg op).m, Value.int .i64 (zg op).r, Value.int .i64 (zg op).k]), (8, 88, Value.bool true), (9, 89, Value.bool false)]

structure order_t10_r13_5 (x0 x1 x2 x3 y0 y1 y2 y3 z0 z1 z2 z3 s1 k0 k1 k2 : Int) (a b c big w1 w2 w3 w4 : Ab) (zf zg : Int → Ab) (op : Int) (n1_3 n4_4 n5_2 : Nat) (w : World) (m5 : Nat) (D : Nat → Bool) (s : Nat → Value) (W : World) : Prop where
  zb : Mk0 w m5 W
  zq : Bks W [(n4_4, #[Value.int .i64 a.lo, Value.int .i64 a.hi, Value.int .i64 a.m, Value.int .i64 a.r, Value.int .i64 a.k], 27), (n5_2, #[Value.int .i64 c.lo, Value.int .i64 c.hi, Value.int .i64 c.m, Value.int .i64 c.r, Value.int .i64 c.k], 27), (n1_3, #[Value.int .i64 big.lo, Value.int .i64 big.hi, Value.int .i64 big.m, Value.int .i64 big.r, Value.int .i64 big.k], 27)]
  zt : Vals D s [(0, 78, Value.int .i64 op), (1, 79, Value.int .i64 (op + 1)), (2, 14, Value.int .i64 (op + 1))]
  r14 : D 2 = false → s 14 = (Value.int .i64 op)
  q14_0 : D 2 = true → D 0 = true

structure order_t10_r16_6 (x0 x1 x2 x3 y0 y1 y2 y3 z0 z1 z2 z3 s1 k0 k1 k2 : Int) (a b c big w1 w2 w3 w4 : Ab) (zf zg : Int → Ab) (op : Int) (n1_3 n4_4 n5_2 : Nat) (w : World) (m6 : Nat) (D : Nat → Bool) (s : Nat → Value) (W : World) : Prop where
  zb : Mk0 w m6 W
  zq : Bks W [(n4_4, #[Value.int .i64 a.lo, Value.int .i64 a.hi, Value.int .i64 a.m, Value.int .i64 a.r, Value.int .i64 a.k], 27), (n5_2, #[Value.int .i64 c.lo, Value.int .i64 c.hi, Value.int .i64 c.m, Value.int .i64 c.r, Value.int .i64 c.k], 27), (n1_3, #[Value.int .i64 big.lo, Value.int .i64 big.hi, Value.int .i64 big.m, Value.int .i64 big.r, Value.int .i64 big.k], 27)]
  zt : Vals D s [(0, 90, Value.agg #[Value.int .i64 a.lo, Value.int .i64 a.hi, Value.int .i64 a.m, Value.int .i64 a.r, Value.int .i64 a.k]), (1, 91, Value.agg #[Value.int .i64 c.lo, Value.int .i64 c.hi, Value.int .i64 c.m, Value.int .i64 c.r, Value.int .i64 c.k]), (2, 92, Value.agg #[Value.int .i64 w1.lo, Value.int .i64 w1.hi, Value.int .i64 w1.m, Value.int .i64 w1.r, Value.int .i64 w1.k]), (3, 93, Value.agg #[Value.int .i64 big.lo, Value.int .i64 big.hi, Value.int .i64 big.m, Value.int .i64 big.r, Value.int .i64 big.k]), (4, 94, Value.agg #[Value.int .i64 c.lo, Value.int .i64 c.hi, Value.int .i64 c.m, Value.int .i64 c.r, Value.int .i64 c.k]), (5, 95, Value.agg #[Value.int .i64 w2.lo, Value.int .i64 w2.hi, Value.int .i64 w2.m, Value.int .i64 w2.r, Value.int .i64 w2.k]), (6, 96, Value.bool true), (7, 97, Value.bool true), (8, 98, Value.agg #[Value.int .i64 c.lo, Value.int .i64 c.hi, Value.int .i64 c.m, Value.int .i64 c.r, Value.int .i64 c.k]), (9, 99, Value.agg #[Value.int .i64 a.lo, Value.int .i64 a.hi, Value.int .i64 a.m, Value.int .i64 a.r, Value.int .i64 a.k]), (10, 100, Value.agg #[Value.int .i64 w3.lo, Value.int .i64 w3.hi, Value.int .i64 w3.m, Value.int .i64 w3.r, Value.int .i64 w3.k]), (11, 101, Value.agg #[Value.int .i64 c.lo, Value.int .i64 c.hi, Value.int .i64 c.m, Value.int .i64 c.r, Value.int .i64 c.k]), (12, 102, Value.agg #[Value.int .i64 big.lo, Value.int .i64 big.hi, Value.int .i64 big.m, Value.int .i64 big.r, Value.int .i64 big.k]), (13, 103, Value.agg #[Value.int .i64 w4.lo, Value.int .i64 w4.hi, Value.int .i64 w4.m, Value.int .i64 w4.r, Value.int .i64 w4.k]), (14, 104, Value.bool true), (15, 105, Value.bool true), (16, 106, Value.bool true), (17, 107, Value.bool true), (18, 108, Value.bool true), (19, 6, Value.bool true)]

set_option maxRecDepth 100000 in
set_option maxHeartbeats 4000000 in
theorem order_t10 (x0 x1 x2 x3 y0 y1 y2 y3 z0 z1 z2 z3 s1 k0 k1 k2 : Int) (a b c big w1 w2 w3 w4 : Ab) (zf zg : Int → Ab)  (w : World) (KJ : Hid (∀ w, Calls Try.prog 17 #[Value.agg #[Value.int .i64 a.lo, Value.int .i64 a.hi, Value.int .i64 a.m, Value.int .i64 a.r, Value.int .i64 a.k], Value.agg #[Value.int .i64 b.lo, Value.int .i64 b.hi, Value.int .i64 b.m, Value.int .i64 b.r, Value.int .i64 b.k]] w fun e w' => e = .returned (abVal big) ∧ Below w.heap.size w w')) (KO1 : Hid (∀ op, 4 ≤ op → op ≤ 6 → ∀ w, Calls Try.prog 14 #[.int .i64 op, Value.agg #[Value.int .i64 a.lo, Value.int .i64 a.hi, Value.int .i64 a.m, Value.int .i64 a.r, Value.int .i64 a.k], Value.agg #[Value.int .i64 c.lo, Value.int .i64 c.hi, Value.int .i64 c.m, Value.int .i64 c.r, Value.int .i64 c.k]] w fun e w' => e = .returned (abVal (zf op)) ∧ Below w.heap.size w w')) (KO2 : Hid (∀ op, 4 ≤ op → op ≤ 6 → ∀ w, Calls Try.prog 14 #[.int .i64 op, Value.agg #[Value.int .i64 big.lo, Value.int .i64 big.hi, Value.int .i64 big.m, Value.int .i64 big.r, Value.int .i64 big.k], Value.agg #[Value.int .i64 c.lo, Value.int .i64 c.hi, Value.int .i64 c.m, Value.int .i64 c.r, Value.int .i64 c.k]] w fun e w' => e = .returned (abVal (zg op)) ∧ Below w.heap.size w w')) (KOL : Hid (∀ op, 4 ≤ op → op ≤ 6 → ∀ w, Calls Try.prog 18 #[Value.agg #[Value.int .i64 (zf op).lo, Value.int .i64 (zf op).hi, Value.int .i64 (zf op).m, Value.int .i64 (zf op).r, Value.int .i64 (zf op).k], Value.agg #[Value.int .i64 (zg op).lo, Value.int .i64 (zg op).hi, Value.int .i64 (zg op).m, Value.int .i64 (zg op).r, Value.int .i64 (zg op).k]] w fun e w' => e = .returned (.bool true) ∧ Below w.heap.size w w')) (KP1 : Hid (∀ w, Calls Try.prog 14 #[.int .i64 9, Value.agg #[Value.int .i64 a.lo, Value.int .i64 a.hi, Value.int .i64 a.m, Value.int .i64 a.r, Value.int .i64 a.k], Value.agg #[Value.int .i64 c.lo, Value.int .i64 c.hi, Value.int .i64 c.m, Value.int .i64 c.r, Value.int .i64 c.k]] w fun e w' => e = .returned (abVal w1) ∧ Below w.heap.size w w')) (KP2 : Hid (∀ w, Calls Try.prog 14 #[.int .i64 9, Value.agg #[Value.int .i64 big.lo, Value.int .i64 big.hi, Value.int .i64 big.m, Value.int .i64 big.r, Value.int .i64 big.k], Value.agg #[Value.int .i64 c.lo, Value.int .i64 c.hi, Value.int .i64 c.m, Value.int .i64 c.r, Value.int .i64 c.k]] w fun e w' => e = .returned (abVal w2) ∧ Below w.heap.size w w')) (KPL : Hid (∀ w, Calls Try.prog 18 #[Value.agg #[Value.int .i64 w1.lo, Value.int .i64 w1.hi, Value.int .i64 w1.m, Value.int .i64 w1.r, Value.int .i64 w1.k], Value.agg #[Value.int .i64 w2.lo, Value.int .i64 w2.hi, Value.int .i64 w2.m, Value.int .i64 w2.r, Value.int .i64 w2.k]] w fun e w' => e = .returned (.bool true) ∧ Below w.heap.size w w')) (KQ1 : Hid (∀ w, Calls Try.prog 14 #[.int .i64 10, Value.agg #[Value.int .i64 c.lo, Value.int .i64 c.hi, Value.int .i64 c.m, Value.int .i64 c.r, Value.int .i64 c.k], Value.agg #[Value.int .i64 a.lo, Value.int .i64 a.hi, Value.int .i64 a.m, Value.int .i64 a.r, Value.int .i64 a.k]] w fun e w' => e = .returned (abVal w3) ∧ Below w.heap.size w w')) (KQ2 : Hid (∀ w, Calls Try.prog 14 #[.int .i64 10, Value.agg #[Value.int .i64 c.lo, Value.int .i64 c.hi, Value.int .i64 c.m, Value.int .i64 c.r, Value.int .i64 c.k], Value.agg #[Value.int .i64 big.lo, Value.int .i64 big.hi, Value.int .i64 big.m, Value.int .i64 big.r, Value.int .i64 big.k]] w fun e w' => e = .returned (abVal w4) ∧ Below w.heap.size w w')) (KQL : Hid (∀ w, Calls Try.prog 18 #[Value.agg #[Value.int .i64 w3.lo, Value.int .i64 w3.hi, Value.int .i64 w3.m, Value.int .i64 w3.r, Value.int .i64 w3.k], Value.agg #[Value.int .i64 w4.lo, Value.int .i64 w4.hi, Value.int .i64 w4.m, Value.int .i64 w4.r, Value.int .i64 w4.k]] w fun e w' => e = .returned (.bool true) ∧ Below w.heap.size w w')) (aF : Act) (W : World) (n4_4 n4_5 n5_2 : Nat)   (hz : aF.tmps.size = 109) (df : aF.defers = []) (u6 : Sl aF 6 (Value.bool false)) (u7 : Sl aF 7 (Value.bool true)) (u8 : Sl aF 8 (Value.pointer (some ⟨n4_4, 0, none⟩))) (u9 : Sl aF 9 (Value.pointer (some ⟨n4_5, 0, none⟩))) (u10 : Sl aF 10 (Value.pointer (some ⟨n5_2, 0, none⟩))) (hb0 : Below w.heap.size w W)
    (hB : Bks W [(n4_4, #[Value.int .i64 a.lo, Value.int .i64 a.hi, Value.int .i64 a.m, Value.int .i64 a.r, Value.int .i64 a.k], 27), (n4_5, #[Value.int .i64 b.lo, Value.int .i64 b.hi, Value.int .i64 b.m, Value.int .i64 b.r, Value.int .i64 b.k], 27), (n5_2, #[Value.int .i64 c.lo, Value.int .i64 c.hi, Value.int .i64 c.m, Value.int .i64 c.r, Value.int .i64 c.k], 27)]) :
    Code.wp Try.prog (cAt (codeOf Try.f5) [true, true, true, true, true, true, true, true]) (bodyPost Try.prog Try.f5 fun e w' => e = .returned (Value.bool true) ∧ Below w.heap.size w w') aF W := by
  have hM : Mk0 w W.heap.size W := ⟨hb0, Nat.le_refl _⟩
  refine wp_seq ?_
  obtain ⟨m1, hM, hU, hwm⟩ := start_region hM.b hB
  refine region_run (F := order_t10_r10_1 x0 x1 x2 x3 y0 y1 y2 y3 z0 z1 z2 z3 s1 k0 k1 k2 a b c big w1 w2 w3 w4 zf zg n4_4 n4_5 n5_2 w m1) [73, 74, 75, 13] [0, 1, 2, 3, 4] hz df (by kernel_rfl) (by kernel_rfl) (fun s hs0 => ⟨hM, hB, Vals.none s _, fun h => no_of' h, fun h => no_of' h, fun h => no_of' h, fun h => no_of' h, fun h => no_of' h⟩) ?_ ?_
  refine FSteps.op3 hz rfl (dv := []) (by kernel_rfl) (by kernel_rfl) (by kernel_rfl) (fun D s W bA kK hD hW hF hA hK => ?_) ?_
  · have x8 := hA.o 8 _ rfl u8
    obtain ⟨⟨c0, z0⟩, -, -, -⟩ := hF.zq.rules
    have hF := Lib.hid hF
    clear hA
    go_simp
    exact hK.out _ _ ⟨hF.out.zb, hF.out.zq, hF.out.zt.step rfl rfl, hF.out.v3, hF.out.k3_0, hF.out.k3_1, hF.out.c3_1, hF.out.g3⟩
  refine FSteps.op3 hz rfl (dv := []) (by kernel_rfl) (by kernel_rfl) (by kernel_rfl) (fun D s W bA kK hD hW hF hA hK => ?_) ?_
  · have x9 := hA.o 9 _ rfl u9
    obtain ⟨-, ⟨c1, z1⟩, -, -⟩ := hF.zq.rules
    have hF := Lib.hid hF
    clear hA
    go_simp
    exact hK.out _ _ ⟨hF.out.zb, hF.out.zq, hF.out.zt.step rfl rfl, hF.out.v3, hF.out.k3_0, hF.out.k3_1, hF.out.c3_1, hF.out.g3⟩
  refine FSteps.op3 hz rfl (dv := [0, 1]) (by kernel_rfl) (by kernel_rfl) (by kernel_rfl) (fun D s W bA kK hD hW hF hA hK => ?_) ?_
  · have x73 := hA.i 73 _ rfl rfl (hF.zt.get (j := 0) rfl hW.1)
    have x74 := hA.i 74 _ rfl rfl (hF.zt.get (j := 1) rfl hW.2.1)
    have hF := Lib.hid hF
    clear hA
    go_simp
    (go_at_call 17; ((with_reducible_and_instances refine (KJ.out _).mono ?_)); rintro e W1 ⟨rfl, hb⟩; (try unfold abVal))
    (try go_wp2_with fail)
    exact hK.out _ _ ⟨hF.out.zb.on hb, Bks.on hb hF.out.zq, hF.out.zt.step rfl rfl, hF.out.v3, fun h1 h2 => (hF.out.k3_0 h1 h2).on hb, fun h1 => (hF.out.k3_1 h1).on hb, hF.out.c3_1, hF.out.g3⟩
  refine FSteps.op3 hz rfl (dv := []) (by kernel_rfl) (by kernel_rfl) (by kernel_rfl) (fun D s W bA kK hD hW hF hA hK => ?_) ?_
  · have hF := Lib.hid hF
    clear hA
    go_simp
    exact hK.out _ _ ⟨hF.out.zb.al _, Bks.al _ hF.out.zq, hF.out.zt.skip rfl, fun _ => rfl, fun _ _ => Bk.new _ _ _, fun h1 => absurd (hF.out.c3_1 h1) (by rw [hD]; decide), fun _ => rfl, fun _ => hF.out.zb.g⟩
  refine FSteps.op3 hz rfl (dv := [3, 2, 2, 0, 1, 2, 3]) (by kernel_rfl) (by kernel_rfl) (by kernel_rfl) (fun D s W bA kK hD hW hF hA hK => ?_) ?_
  · have x13 := hA.i 13 _ rfl rfl (hF.v3 hW.1)
    have x75 := hA.i 75 _ rfl rfl (hF.zt.get (j := 2) rfl hW.2.1)
    have kk := hF.k3_0 hW.1 hD
    have hge := Nat.le_trans hwm (hF.g3 hW.1); have hge2 := hF.g3 hW.1
    have kc := kk.cell; have kf := kk.free
    have hF := Lib.hid hF
    have kk := Lib.hid kk; have hge := Lib.hid hge; have hge2 := Lib.hid hge2
    clear hA
    go_simp
    exact hK.out undef _ ⟨hF.out.zb.sAll (hge.out) 0 [Value.int .i64 big.lo, Value.int .i64 big.hi, Value.int .i64 big.m, Value.int .i64 big.r, Value.int .i64 big.k], Bks.oAll [Value.int .i64 big.lo, Value.int .i64 big.hi, Value.int .i64 big.m, Value.int .i64 big.r, Value.int .i64 big.k] 0 (Under.outside hge2.out hU) hF.out.zq, hF.out.zt.skip rfl, hF.out.v3, fun h1 h2 => no_of h2, fun _ => kk.out.full [Value.int .i64 big.lo, Value.int .i64 big.hi, Value.int .i64 big.m, Value.int .i64 big.r, Value.int .i64 big.k] rfl, fun _ => hW.1, hF.out.g3⟩
  exact FSteps.nil
  intro D s W aF1 hD hF hz' df' hA
  obtain ⟨d0, d1, d2, d3, d4, -⟩ := hD
  clear u9
  replace u6 : Sl aF1 6 _ := hA.o 6 _ rfl u6
  replace u7 : Sl aF1 7 _ := hA.o 7 _ rfl u7
  replace u8 : Sl aF1 8 _ := hA.o 8 _ rfl u8
  replace u10 : Sl aF1 10 _ := hA.o 10 _ rfl u10
  have u13 : Sl aF1 13 _ := hA.i 13 _ rfl rfl (hF.v3 d3)
  have hkX3 := hF.k3_1 d4
  have hgX3 := hF.g3 d3
  have hM := hF.zb
  have hB := hF.zq
  generalize pblk (s 13) = n1_3 at hkX3 hgX3 u13
  have hB : Bks W [(n4_4, #[Value.int .i64 a.lo, Value.int .i64 a.hi, Value.int .i64 a.m, Value.int .i64 a.r, Value.int .i64 a.k], 27), (n5_2, #[Value.int .i64 c.lo, Value.int .i64 c.hi, Value.int .i64 c.m, Value.int .i64 c.r, Value.int .i64 c.k], 27), (n1_3, #[Value.int .i64 big.lo, Value.int .i64 big.hi, Value.int .i64 big.m, Value.int .i64 big.r, Value.int .i64 big.k], 27)] := ⟨hB.1, hB.2.2.1, hkX3, trivial⟩
  clear hF hA hz df d0 d1 d2 d3 d4 hU
  have hz := hz'; have df := df'; clear hz' df'
  clear aF
  show Code.wp _ _ _ _ _
  refine wp_seq ?_
  refine wp_seq ?_
  obtain ⟨m2, hM, hU, hwm⟩ := start_region hM.b hB
  refine region_run (F := order_t10_r11_2 x0 x1 x2 x3 y0 y1 y2 y3 z0 z1 z2 z3 s1 k0 k1 k2 a b c big w1 w2 w3 w4 zf zg n1_3 n4_4 n5_2 w m2) [14] [0] hz df (by kernel_rfl) (by kernel_rfl) (fun s hs0 => ⟨hM, hB, Vals.none s _⟩) ?_ ?_
  refine FSteps.op3 hz rfl (dv := []) (by kernel_rfl) (by kernel_rfl) (by kernel_rfl) (fun D s W bA kK hD hW hF hA hK => ?_) ?_
  · have hF := Lib.hid hF
    clear hA
    go_simp
    exact hK.out _ _ ⟨hF.out.zb, hF.out.zq, hF.out.zt.step rfl rfl⟩
  exact FSteps.nil
  intro D s W aF2 hD hF hz' df' hA
  obtain ⟨d0, -⟩ := hD
  replace u6 : Sl aF2 6 _ := hA.o 6 _ rfl u6
  replace u7 : Sl aF2 7 _ := hA.o 7 _ rfl u7
  replace u8 : Sl aF2 8 _ := hA.o 8 _ rfl u8
  replace u10 : Sl aF2 10 _ := hA.o 10 _ rfl u10
  replace u13 : Sl aF2 13 _ := hA.o 13 _ rfl u13
  have u14 : Sl aF2 14 _ := hA.i 14 _ rfl rfl (hF.zt.get (j := 0) rfl d0)
  have hM := hF.zb
  have hB := hF.zq
  have hB : Bks W [(n4_4, #[Value.int .i64 a.lo, Value.int .i64 a.hi, Value.int .i64 a.m, Value.int .i64 a.r, Value.int .i64 a.k], 27), (n5_2, #[Value.int .i64 c.lo, Value.int .i64 c.hi, Value.int .i64 c.m, Value.int .i64 c.r, Value.int .i64 c.k], 27), (n1_3, #[Value.int .i64 big.lo, Value.int .i64 big.hi, Value.int .i64 big.m, Value.int .i64 big.r, Value.int .i64 big.k], 27)] := ⟨hB.1, hB.2.1, hB.2.2.1, trivial⟩
  clear hF hA hz df d0 hU
  have hz := hz'; have df := df'; clear hz' df'
  clear aF1
  show Code.wp _ _ _ _ _
  refine wp_block ?_
  refine loop_go (fun n aF W => ∃ (op : Int), n = (7 - op).toNat ∧ (4 ≤ op ∧ op ≤ 7) ∧ aF.tmps.size = 109 ∧ aF.defers = [] ∧ Sl aF 6 (Value.bool false) ∧ Sl aF 7 (Value.bool true) ∧ Sl aF 8 (Value.pointer (some ⟨n4_4, 0, none⟩)) ∧ Sl aF 10 (Value.pointer (some ⟨n5_2, 0, none⟩)) ∧ Sl aF 13 (Value.pointer (some ⟨n1_3, 0, none⟩)) ∧ Sl aF 14 (Value.int .i64 op) ∧ Below w.heap.size w W ∧ Bks W [(n4_4, #[Value.int .i64 a.lo, Value.int .i64 a.hi, Value.int .i64 a.m, Value.int .i64 a.r, Value.int .i64 a.k], 27), (n5_2, #[Value.int .i64 c.lo, Value.int .i64 c.hi, Value.int .i64 c.m, Value.int .i64 c.r, Value.int .i64 c.k], 27), (n1_3, #[Value.int .i64 big.lo, Value.int .i64 big.hi, Value.int .i64 big.m, Value.int .i64 big.r, Value.int .i64 big.k], 27)]) _ ⟨4, rfl, ⟨by omega, by omega⟩, hz, df, u6, u7, u8, u10, u13, u14, hM.b, hB⟩ ?_
  clear hM hB hz df u6 u7 u8 u10 u13 u14 aF2
  intro n aL1 W hI
  obtain ⟨op, rfl, hinv, hz, df, u6, u7, u8, u10, u13, u14, hb0, hB⟩ := hI
  have hM : Mk0 w W.heap.size W := ⟨hb0, Nat.le_refl _⟩
  obtain ⟨hl1, hl3⟩ := hinv
  refine wp_seq ?_
  refine wp_seq ?_
  obtain ⟨m3, hM, hU, hwm⟩ := start_region hM.b hB
  refine region_run (F := order_t10_r12_3 x0 x1 x2 x3 y0 y1 y2 y3 z0 z1 z2 z3 s1 k0 k1 k2 a b c big w1 w2 w3 w4 zf zg op n1_3 n4_4 n5_2 w m3) [76, 77] [0, 1] hz df (by kernel_rfl) (by kernel_rfl) (fun s hs0 => ⟨hM, hB, Vals.none s _⟩) ?_ ?_
  refine FSteps.op3 hz rfl (dv := []) (by kernel_rfl) (by kernel_rfl) (by kernel_rfl) (fun D s W bA kK hD hW hF hA hK => ?_) ?_
  · have x14 := hA.o 14 _ rfl u14
    have hF := Lib.hid hF
    clear hA
    go_simp
    exact hK.out _ _ ⟨hF.out.zb, hF.out.zq, hF.out.zt.step rfl rfl⟩
  refine FSteps.op3 hz rfl (dv := [0]) (by kernel_rfl) (by kernel_rfl) (by kernel_rfl) (fun D s W bA kK hD hW hF hA hK => ?_) ?_
  · have x76 := hA.i 76 _ rfl rfl (hF.zt.get (j := 0) rfl hW.1)
    have hF := Lib.hid hF
    clear hA
    go_simp
    exact hK.out _ _ ⟨hF.out.zb, hF.out.zq, hF.out.zt.step rfl rfl⟩
  exact FSteps.nil
  intro D s W aF3 hD hF hz' df' hA
  obtain ⟨d0, d1, -⟩ := hD
  replace u6 : Sl aF3 6 _ := hA.o 6 _ rfl u6
  replace u7 : Sl aF3 7 _ := hA.o 7 _ rfl u7
  replace u8 : Sl aF3 8 _ := hA.o 8 _ rfl u8
  replace u10 : Sl aF3 10 _ := hA.o 10 _ rfl u10
  replace u13 : Sl aF3 13 _ := hA.o 13 _ rfl u13
  replace u14 : Sl aF3 14 _ := hA.o 14 _ rfl u14
  have u77 : Sl aF3 77 _ := hA.i 77 _ rfl rfl (hF.zt.get (j := 1) rfl d1)
  have hM := hF.zb
  have hB := hF.zq
  have hB : Bks W [(n4_4, #[Value.int .i64 a.lo, Value.int .i64 a.hi, Value.int .i64 a.m, Value.int .i64 a.r, Value.int .i64 a.k], 27), (n5_2, #[Value.int .i64 c.lo, Value.int .i64 c.hi, Value.int .i64 c.m, Value.int .i64 c.r, Value.int .i64 c.k], 27), (n1_3, #[Value.int .i64 big.lo, Value.int .i64 big.hi, Value.int .i64 big.m, Value.int .i64 big.r, Value.int .i64 big.k], 27)] := ⟨hB.1, hB.2.1, hB.2.2.1, trivial⟩
  clear hF hA hz df d0 d1 hU
  have hz := hz'; have df := df'; clear hz' df'
  clear aL1
  show Code.wp _ _ _ _ _
  refine cond_s u77 (fun hcnd => ?_) (fun hcnd => ?_)
  · have hcnd := Lib.hid hcnd
    have hl2 : op ≤ 6 := by simpa using hcnd.out
    refine wp_skip ?_
    show Code.wp _ _ _ _ _
    refine wp_seq ?_
    refine wp_block ?_
    refine wp_seq ?_
    obtain ⟨m4, hM, hU, hwm⟩ := start_region hM.b hB
    refine region_go (F := order_t10_r14_4 x0 x1 x2 x3 y0 y1 y2 y3 z0 z1 z2 z3 s1 k0 k1 k2 a b c big w1 w2 w3 w4 zf zg op n1_3 n4_4 n5_2 w m4) [80, 81, 82, 83, 84, 85, 86, 87, 88, 89] [0, 1, 2, 3, 4, 5, 6, 7, 8, 9] hz df (by kernel_rfl) (by kernel_rfl) (by kernel_rfl) (fun s hs0 => ⟨hM.drew, Bks.drew hB, Vals.none s _⟩) ?_ ?_
    refine FSteps.op3 hz rfl (dv := []) (by kernel_rfl) (by kernel_rfl) (by kernel_rfl) (fun D s W bA kK hD hW hF hA hK => ?_) ?_
    · have x14 := hA.o 14 _ rfl u14
      have hF := Lib.hid hF
      clear hA
      go_simp
      exact hK.out _ _ ⟨hF.out.zb, hF.out.zq, hF.out.zt.step rfl rfl⟩
    refine FSteps.op3 hz rfl (dv := []) (by kernel_rfl) (by kernel_rfl) (by kernel_rfl) (fun D s W bA kK hD hW hF hA hK => ?_) ?_
    · have x8 := hA.o 8 _ rfl u8
      obtain ⟨⟨c0, z0⟩, -, -, -⟩ := hF.zq.rules
      have hF := Lib.hid hF
      clear hA
      go_simp
      exact hK.out _ _ ⟨hF.out.zb, hF.out.zq, hF.out.zt.step rfl rfl⟩
    refine FSteps.op3 hz rfl (dv := []) (by kernel_rfl) (by kernel_rfl) (by kernel_rfl) (fun D s W bA kK hD hW hF hA hK => ?_) ?_
    · have x10 := hA.o 10 _ rfl u10
      obtain ⟨-, ⟨c1, z1⟩, -, -⟩ := hF.zq.rules
      have hF := Lib.hid hF
      clear hA
      go_simp
      exact hK.out _ _ ⟨hF.out.zb, hF.out.zq, hF.out.zt.step rfl rfl⟩
    refine FSteps.op3 hz rfl (dv := [0, 1, 2]) (by kernel_rfl) (by kernel_rfl) (by kernel_rfl) (fun D s W bA kK hD hW hF hA hK => ?_) ?_
    · have x80 := hA.i 80 _ rfl rfl (hF.zt.get (j := 0) rfl hW.1)
      have x81 := hA.i 81 _ rfl rfl (hF.zt.get (j := 1) rfl hW.2.1)
      have x82 := hA.i 82 _ rfl rfl (hF.zt.get (j := 2) rfl hW.2.2.1)
      have hF := Lib.hid hF
      clear hA
      go_simp
      (go_at_call 14; ((with_reducible_and_instances refine (KO1.out op hl1 hl2 _).mono ?_)); rintro e W1 ⟨rfl, hb⟩; (try unfold abVal))
      (try go_wp2_with fail)
      exact hK.out _ _ ⟨hF.out.zb.on hb, Bks.on hb hF.out.zq, hF.out.zt.step rfl rfl⟩
    refine FSteps.op3 hz rfl (dv := []) (by kernel_rfl) (by kernel_rfl) (by kernel_rfl) (fun D s W bA kK hD hW hF hA hK => ?_) ?_
    · have x14 := hA.o 14 _ rfl u14
      have hF := Lib.hid hF
      clear hA
      go_simp
      exact hK.out _ _ ⟨hF.out.zb, hF.out.zq, hF.out.zt.step rfl rfl⟩
    refine FSteps.op3 hz rfl (dv := []) (by kernel_rfl) (by kernel_rfl) (by kernel_rfl) (fun D s W bA kK hD hW hF hA hK => ?_) ?_
    · have x13 := hA.o 13 _ rfl u13
      obtain ⟨-, -, ⟨c2, z2⟩, -⟩ := hF.zq.rules
      have hF := Lib.hid hF
      clear hA
      go_simp
      exact hK.out _ _ ⟨hF.out.zb, hF.out.zq, hF.out.zt.step rfl rfl⟩
    refine FSteps.op3 hz rfl (dv := []) (by kernel_rfl) (by kernel_rfl) (by kernel_rfl) (fun D s W bA kK hD hW hF hA hK => ?_) ?_
    · have x10 := hA.o 10 _ rfl u10
      obtain ⟨-, ⟨c1, z1⟩, -, -⟩ := hF.zq.rules
      have hF := Lib.hid hF
      clear hA
      go_simp
      exact hK.out _ _ ⟨hF.out.zb, hF.out.zq, hF.out.zt.step rfl rfl⟩
    refine FSteps.op3 hz rfl (dv := [4, 5, 6, 3]) (by kernel_rfl) (by kernel_rfl) (by kernel_rfl) (fun D s W bA kK hD hW hF hA hK => ?_) ?_
    · have x84 := hA.i 84 _ rfl rfl (hF.zt.get (j := 4) rfl hW.1)
      have x85 := hA.i 85 _ rfl rfl (hF.zt.get (j := 5) rfl hW.2.1)
      have x86 := hA.i 86 _ rfl rfl (hF.zt.get (j := 6) rfl hW.2.2.1)
      have hF := Lib.hid hF
      clear hA
      go_simp
      (go_at_call 14; ((with_reducible_and_instances refine (KO2.out op hl1 hl2 _).mono ?_)); rintro e W1 ⟨rfl, hb⟩; (try unfold abVal))
      (try go_wp2_with fail)
      exact hK.out _ _ ⟨hF.out.zb.on hb, Bks.on hb hF.out.zq, hF.out.zt.step rfl rfl⟩
    refine FSteps.op3 hz rfl (dv := [3, 7, 7]) (by kernel_rfl) (by kernel_rfl) (by kernel_rfl) (fun D s W bA kK hD hW hF hA hK => ?_) ?_
    · have x83 := hA.i 83 _ rfl rfl (hF.zt.get (j := 3) rfl hW.1)
      have x87 := hA.i 87 _ rfl rfl (hF.zt.get (j := 7) rfl hW.2.1)
      have hF := Lib.hid hF
      clear hA
      go_simp
      (go_at_call 18; ((with_reducible_and_instances refine (KOL.out op hl1 hl2 _).mono ?_)); rintro e W1 ⟨rfl, hb⟩; (try unfold abVal))
      (try go_wp2_with fail)
      exact hK.out _ _ ⟨hF.out.zb.on hb, Bks.on hb hF.out.zq, hF.out.zt.step rfl rfl⟩
    refine FSteps.op3 hz rfl (dv := [8]) (by kernel_rfl) (by kernel_rfl) (by kernel_rfl) (fun D s W bA kK hD hW hF hA hK => ?_) ?_
    · have x88 := hA.i 88 _ rfl rfl (hF.zt.get (j := 8) rfl hW.1)
      have hF := Lib.hid hF
      clear hA
      go_simp
      exact hK.out _ _ ⟨hF.out.zb, hF.out.zq, hF.out.zt.step rfl rfl⟩
    exact FSteps.nil
    intro D s W aF4 hD hF hz' df' hA
    obtain ⟨d0, d1, d2, d3, d4, d5, d6, d7, d8, d9, -⟩ := hD
    replace u6 : Sl aF4 6 _ := hA.o 6 _ rfl u6
    replace u7 : Sl aF4 7 _ := hA.o 7 _ rfl u7
    replace u8 : Sl aF4 8 _ := hA.o 8 _ rfl u8
    replace u10 : Sl aF4 10 _ := hA.o 10 _ rfl u10
    replace u13 : Sl aF4 13 _ := hA.o 13 _ rfl u13
    replace u14 : Sl aF4 14 _ := hA.o 14 _ rfl u14
    replace u77 : Sl aF4 77 _ := hA.o 77 _ rfl u77
    have u89 : Sl aF4 89 _ := hA.i 89 _ rfl rfl (hF.zt.get (j := 9) rfl d9)
    have hM := hF.zb
    have hB := hF.zq
    have hB : Bks W [(n4_4, #[Value.int .i64 a.lo, Value.int .i64 a.hi, Value.int .i64 a.m, Value.int .i64 a.r, Value.int .i64 a.k], 27), (n5_2, #[Value.int .i64 c.lo, Value.int .i64 c.hi, Value.int .i64 c.m, Value.int .i64 c.r, Value.int .i64 c.k], 27), (n1_3, #[Value.int .i64 big.lo, Value.int .i64 big.hi, Value.int .i64 big.m, Value.int .i64 big.r, Value.int .i64 big.k], 27)] := ⟨hB.1, hB.2.1, hB.2.2.1, trivial⟩
    clear hF hA hz df d0 d1 d2 d3 d4 d5 d6 d7 d8 d9 hU
    have hz := hz'; have df := df'; clear hz' df'
    clear aF3
    show Code.wp _ _ _ _ _
    refine cond_f u89 ?_
    refine wp_skip ?_
    show Code.wp _ _ _ _ _
    obtain ⟨m5, hM, hU, hwm⟩ := start_region hM.b hB
    refine region_run (F := order_t10_r13_5 x0 x1 x2 x3 y0 y1 y2 y3 z0 z1 z2 z3 s1 k0 k1 k2 a b c big w1 w2 w3 w4 zf zg op n1_3 n4_4 n5_2 w m5) [78, 79, 14] [0, 1, 2] hz df (by kernel_rfl) (by kernel_rfl) (fun s hs0 => ⟨hM, hB, Vals.none s _, fun _ => hs0 14 _ u14, fun h => no_of' h⟩) ?_ ?_
    refine FSteps.op3 hz rfl (dv := []) (by kernel_rfl) (by kernel_rfl) (by kernel_rfl) (fun D s W bA kK hD hW hF hA hK => ?_) ?_
    · have x14 := hA.i 14 _ rfl rfl (hF.r14 (by rcases hq : D 2 with _ | _; rfl; exact absurd (hF.q14_0 hq) (by rw [hD]; decide)))
      have hF := Lib.hid hF
      clear hA
      go_simp
      exact hK.out _ _ ⟨hF.out.zb, hF.out.zq, hF.out.zt.step rfl rfl, hF.out.r14, fun _ => rfl⟩
    refine FSteps.op3 hz rfl (dv := [0]) (by kernel_rfl) (by kernel_rfl) (by kernel_rfl) (fun D s W bA kK hD hW hF hA hK => ?_) ?_
    · have x78 := hA.i 78 _ rfl rfl (hF.zt.get (j := 0) rfl hW.1)
      have hF := Lib.hid hF
      clear hA
      have hw1 : IntKind.i64.wrap (op + 1) = op + 1 := IntWalk.i64_in _ (by omega)
      go_simp
      exact hK.out _ _ ⟨hF.out.zb, hF.out.zq, hF.out.zt.step rfl rfl, hF.out.r14, hF.out.q14_0⟩
    refine FSteps.op3 hz rfl (dv := [1, 0, 1]) (by kernel_rfl) (by kernel_rfl) (by kernel_rfl) (fun D s W bA kK hD hW hF hA hK => ?_) ?_
    · have x79 := hA.i 79 _ rfl rfl (hF.zt.get (j := 1) rfl hW.1)
      have hF := Lib.hid hF
      clear hA
      go_simp
      exact hK.out _ _ ⟨hF.out.zb, hF.out.zq, hF.out.zt.step rfl rfl, fun h => no_of h, fun _ => hW.2.1⟩
    exact FSteps.nil
    intro D s W aF5 hD hF hz' df' hA
    obtain ⟨d0, d1, d2, -⟩ := hD
    clear u14
    replace u6 : Sl aF5 6 _ := hA.o 6 _ rfl u6
    replace u7 : Sl aF5 7 _ := hA.o 7 _ rfl u7
    replace u8 : Sl aF5 8 _ := hA.o 8 _ rfl u8
    replace u10 : Sl aF5 10 _ := hA.o 10 _ rfl u10
    replace u13 : Sl aF5 13 _ := hA.o 13 _ rfl u13
    replace u77 : Sl aF5 77 _ := hA.o 77 _ rfl u77
    replace u89 : Sl aF5 89 _ := hA.o 89 _ rfl u89
    have u14 : Sl aF5 14 _ := hA.i 14 _ rfl rfl (hF.zt.get (j := 2) rfl d2)
    have hM := hF.zb
    have hB := hF.zq
    have hB : Bks W [(n4_4, #[Value.int .i64 a.lo, Value.int .i64 a.hi, Value.int .i64 a.m, Value.int .i64 a.r, Value.int .i64 a.k], 27), (n5_2, #[Value.int .i64 c.lo, Value.int .i64 c.hi, Value.int .i64 c.m, Value.int .i64 c.r, Value.int .i64 c.k], 27), (n1_3, #[Value.int .i64 big.lo, Value.int .i64 big.hi, Value.int .i64 big.m, Value.int .i64 big.r, Value.int .i64 big.k], 27)] := ⟨hB.1, hB.2.1, hB.2.2.1, trivial⟩
    clear hF hA hz df d0 d1 d2 hU
    have hz := hz'; have df := df'; clear hz' df'
    clear aF4
    show ∃ n2, n2 < _ ∧ _
    exact ⟨_, by omega, (op + 1), rfl, ⟨by omega, by omega⟩, hz, df, u6, u7, u8, u10, u13, u14, hM.b, ⟨hB.1, hB.2.1, hB.2.2.1, trivial⟩⟩
  · have hcnd := Lib.hid hcnd
    refine wp_exit ?_
    refine then_exit ?_
    refine then_exit ?_
    refine exit_here ?_
    show Code.wp _ _ _ _ _
    refine wp_seq ?_
    obtain ⟨m6, hM, hU, hwm⟩ := start_region hM.b hB
    refine region_go (F := order_t10_r16_6 x0 x1 x2 x3 y0 y1 y2 y3 z0 z1 z2 z3 s1 k0 k1 k2 a b c big w1 w2 w3 w4 zf zg op n1_3 n4_4 n5_2 w m6) [90, 91, 92, 93, 94, 95, 96, 97, 98, 99, 100, 101, 102, 103, 104, 105, 106, 107, 108, 6] [0, 1, 2, 3, 4, 5, 6, 7, 8, 9, 10, 11, 12, 13, 14, 15, 16, 17, 18, 19] hz df (by kernel_rfl) (by kernel_rfl) (by kernel_rfl) (fun s hs0 => ⟨hM.drew, Bks.drew hB, Vals.none s _⟩) ?_ ?_
    refine FSteps.op3 hz rfl (dv := []) (by kernel_rfl) (by kernel_rfl) (by kernel_rfl) (fun D s W bA kK hD hW hF hA hK => ?_) ?_
    · have x8 := hA.o 8 _ rfl u8
      obtain ⟨⟨c0, z0⟩, -, -, -⟩ := hF.zq.rules
      have hF := Lib.hid hF
      clear hA
      go_simp
      exact hK.out _ _ ⟨hF.out.zb, hF.out.zq, hF.out.zt.step rfl rfl⟩
    refine FSteps.op3 hz rfl (dv := []) (by kernel_rfl) (by kernel_rfl) (by kernel_rfl) (fun D s W bA kK hD hW hF hA hK => ?_) ?_
    · have x10 := hA.o 10 _ rfl u10
      obtain ⟨-, ⟨c1, z1⟩, -, -⟩ := hF.zq.rules
      have hF := Lib.hid hF
      clear hA
      go_simp
      exact hK.out _ _ ⟨hF.out.zb, hF.out.zq, hF.out.zt.step rfl rfl⟩
    refine FSteps.op3 hz rfl (dv := [0, 1]) (by kernel_rfl) (by kernel_rfl) (by kernel_rfl) (fun D s W bA kK hD hW hF hA hK => ?_) ?_
    · have x90 := hA.i 90 _ rfl rfl (hF.zt.get (j := 0) rfl hW.1)
      have x91 := hA.i 91 _ rfl rfl (hF.zt.get (j := 1) rfl hW.2.1)
      have hF := Lib.hid hF
      clear hA
      go_simp
      (go_at_call 14; ((with_reducible_and_instances refine (KP1.out _).mono ?_)); rintro e W1 ⟨rfl, hb⟩; (try unfold abVal))
      (try go_wp2_with fail)
      exact hK.out _ _ ⟨hF.out.zb.on hb, Bks.on hb hF.out.zq, hF.out.zt.step rfl rfl⟩
    refine FSteps.op3 hz rfl (dv := []) (by kernel_rfl) (by kernel_rfl) (by kernel_rfl) (fun D s W bA kK hD hW hF hA hK => ?_) ?_
    · have x13 := hA.o 13 _ rfl u13
      obtain ⟨-, -, ⟨c2, z2⟩, -⟩ := hF.zq.rules
      have hF := Lib.hid hF
      clear hA
      go_simp
      exact hK.out _ _ ⟨hF.out.zb, hF.out.zq, hF.out.zt.step rfl rfl⟩
    refine FSteps.op3 hz rfl (dv := []) (by kernel_rfl) (by kernel_rfl) (by kernel_rfl) (fun D s W bA kK hD hW hF hA hK => ?_) ?_
    · have x10 := hA.o 10 _ rfl u10
      obtain ⟨-, ⟨c1, z1⟩, -, -⟩ := hF.zq.rules
      have hF := Lib.hid hF
      clear hA
      go_simp
      exact hK.out _ _ ⟨hF.out.zb, hF.out.zq, hF.out.zt.step rfl rfl⟩
    refine FSteps.op3 hz rfl (dv := [3, 4, 2]) (by kernel_rfl) (by kernel_rfl) (by kernel_rfl) (fun D s W bA kK hD hW hF hA hK => ?_) ?_
    · have x93 := hA.i 93 _ rfl rfl (hF.zt.get (j := 3) rfl hW.1)
      have x94 := hA.i 94 _ rfl rfl (hF.zt.get (j := 4) rfl hW.2.1)
      have hF := Lib.hid hF
      clear hA
      go_simp
      (go_at_call 14; ((with_reducible_and_instances refine (KP2.out _).mono ?_)); rintro e W1 ⟨rfl, hb⟩; (try unfold abVal))
      (try go_wp2_with fail)
      exact hK.out _ _ ⟨hF.out.zb.on hb, Bks.on hb hF.out.zq, hF.out.zt.step rfl rfl⟩
    refine FSteps.op3 hz rfl (dv := [2, 5, 5]) (by kernel_rfl) (by kernel_rfl) (by kernel_rfl) (fun D s W bA kK hD hW hF hA hK => ?_) ?_
    · have x92 := hA.i 92 _ rfl rfl (hF.zt.get (j := 2) rfl hW.1)
      have x95 := hA.i 95 _ rfl rfl (hF.zt.get (j := 5) rfl hW.2.1)
      have hF := Lib.hid hF
      clear hA
      go_simp
      (go_at_call 18; ((with_reducible_and_instances refine (KPL.out _).mono ?_)); rintro e W1 ⟨rfl, hb⟩; (try unfold abVal))
      (try go_wp2_with fail)
      exact hK.out _ _ ⟨hF.out.zb.on hb, Bks.on hb hF.out.zq, hF.out.zt.step rfl rfl⟩
    refine FSteps.op3 hz rfl (dv := [6, 6]) (by kernel_rfl) (by kernel_rfl) (by kernel_rfl) (fun D s W bA kK hD hW hF hA hK => ?_) ?_
    · have x96 := hA.i 96 _ rfl rfl (hF.zt.get (j := 6) rfl hW.1)
      have hF := Lib.hid hF
      clear hA
      go_simp
      exact hK.out _ _ ⟨hF.out.zb, hF.out.zq, hF.out.zt.step rfl rfl⟩
    refine FSteps.yes3 (bv := true) hz rfl (dv := [7]) (by kernel_rfl) rfl (by kernel_rfl) (by kernel_rfl) (fun D s W hW hF => (hF.zt.get (j := 7) rfl hW.1)) (by kernel_rfl) (by kernel_rfl) (fun D s W bA kK hD hW hF hA hK => ?_) ?_
    · have x10 := hA.o 10 _ rfl u10
      obtain ⟨-, ⟨c1, z1⟩, -, -⟩ := hF.zq.rules
      have hF := Lib.hid hF
      clear hA
      go_simp
      exact hK.out _ _ ⟨hF.out.zb, hF.out.zq, hF.out.zt.step rfl rfl⟩
    refine FSteps.yes3 (bv := true) hz rfl (dv := [7]) (by kernel_rfl) rfl (by kernel_rfl) (by kernel_rfl) (fun D s W hW hF => (hF.zt.get (j := 7) rfl hW.1)) (by kernel_rfl) (by kernel_rfl) (fun D s W bA kK hD hW hF hA hK => ?_) ?_
    · have x8 := hA.o 8 _ rfl u8
      obtain ⟨⟨c0, z0⟩, -, -, -⟩ := hF.zq.rules
      have hF := Lib.hid hF
      clear hA
      go_simp
      exact hK.out _ _ ⟨hF.out.zb, hF.out.zq, hF.out.zt.step rfl rfl⟩
    refine FSteps.yes3 (bv := true) hz rfl (dv := [8, 9, 7, 7]) (by kernel_rfl) rfl (by kernel_rfl) (by kernel_rfl) (fun D s W hW hF => (hF.zt.get (j := 7) rfl hW.2.2.1)) (by kernel_rfl) (by kernel_rfl) (fun D s W bA kK hD hW hF hA hK => ?_) ?_
    · have x98 := hA.i 98 _ rfl rfl (hF.zt.get (j := 8) rfl hW.1)
      have x99 := hA.i 99 _ rfl rfl (hF.zt.get (j := 9) rfl hW.2.1)
      have hF := Lib.hid hF
      clear hA
      go_simp
      (go_at_call 14; ((with_reducible_and_instances refine (KQ1.out _).mono ?_)); rintro e W1 ⟨rfl, hb⟩; (try unfold abVal))
      (try go_wp2_with fail)
      exact hK.out _ _ ⟨hF.out.zb.on hb, Bks.on hb hF.out.zq, hF.out.zt.step rfl rfl⟩
    refine FSteps.yes3 (bv := true) hz rfl (dv := [7]) (by kernel_rfl) rfl (by kernel_rfl) (by kernel_rfl) (fun D s W hW hF => (hF.zt.get (j := 7) rfl hW.1)) (by kernel_rfl) (by kernel_rfl) (fun D s W bA kK hD hW hF hA hK => ?_) ?_
    · have x10 := hA.o 10 _ rfl u10
      obtain ⟨-, ⟨c1, z1⟩, -, -⟩ := hF.zq.rules
      have hF := Lib.hid hF
      clear hA
      go_simp
      exact hK.out _ _ ⟨hF.out.zb, hF.out.zq, hF.out.zt.step rfl rfl⟩
    refine FSteps.yes3 (bv := true) hz rfl (dv := [7]) (by kernel_rfl) rfl (by kernel_rfl) (by kernel_rfl) (fun D s W hW hF => (hF.zt.get (j := 7) rfl hW.1)) (by kernel_rfl) (by kernel_rfl) (fun D s W bA kK hD hW hF hA hK => ?_) ?_
    · have x13 := hA.o 13 _ rfl u13
      obtain ⟨-, -, ⟨c2, z2⟩, -⟩ := hF.zq.rules
      have hF := Lib.hid hF
      clear hA
      go_simp
      exact hK.out _ _ ⟨hF.out.zb, hF.out.zq, hF.out.zt.step rfl rfl⟩
    refine FSteps.yes3 (bv := true) hz rfl (dv := [11, 12, 10, 7]) (by kernel_rfl) rfl (by kernel_rfl) (by kernel_rfl) (fun D s W hW hF => (hF.zt.get (j := 7) rfl hW.2.2.2.1)) (by kernel_rfl) (by kernel_rfl) (fun D s W bA kK hD hW hF hA hK => ?_) ?_
    · have x101 := hA.i 101 _ rfl rfl (hF.zt.get (j := 11) rfl hW.1)
      have x102 := hA.i 102 _ rfl rfl (hF.zt.get (j := 12) rfl hW.2.1)
      have hF := Lib.hid hF
      clear hA
      go_simp
      (go_at_call 14; ((with_reducible_and_instances refine (KQ2.out _).mono ?_)); rintro e W1 ⟨rfl, hb⟩; (try unfold abVal))
      (try go_wp2_with fail)
      exact hK.out _ _ ⟨hF.out.zb.on hb, Bks.on hb hF.out.zq, hF.out.zt.step rfl rfl⟩
    refine FSteps.yes3 (bv := true) hz rfl (dv := [10, 13, 13, 7]) (by kernel_rfl) rfl (by kernel_rfl) (by kernel_rfl) (fun D s W hW hF => (hF.zt.get (j := 7) rfl hW.2.2.2.1)) (by kernel_rfl) (by kernel_rfl) (fun D s W bA kK hD hW hF hA hK => ?_) ?_
    · have x100 := hA.i 100 _ rfl rfl (hF.zt.get (j := 10) rfl hW.1)
      have x103 := hA.i 103 _ rfl rfl (hF.zt.get (j := 13) rfl hW.2.1)
      have hF := Lib.hid hF
      clear hA
      go_simp
      (go_at_call 18; ((with_reducible_and_instances refine (KQL.out _).mono ?_)); rintro e W1 ⟨rfl, hb⟩; (try unfold abVal))
      (try go_wp2_with fail)
      exact hK.out _ _ ⟨hF.out.zb.on hb, Bks.on hb hF.out.zq, hF.out.zt.step rfl rfl⟩
    refine FSteps.op3 hz rfl (dv := [7, 14]) (by kernel_rfl) (by kernel_rfl) (by kernel_rfl) (fun D s W bA kK hD hW hF hA hK => ?_) ?_
    · have x97 := hA.i 97 _ rfl rfl (hF.zt.get (j := 7) rfl hW.1)
      have x104 := hA.i 104 _ rfl rfl (hF.zt.get (j := 14) rfl hW.2.1)
      have hF := Lib.hid hF
      clear hA
      go_simp
      exact hK.out _ _ ⟨hF.out.zb, hF.out.zq, hF.out.zt.step rfl rfl⟩
    refine FSteps.op3 hz rfl (dv := [15, 14]) (by kernel_rfl) (by kernel_rfl) (by kernel_rfl) (fun D s W bA kK hD hW hF hA hK => ?_) ?_
    · have x105 := hA.i 105 _ rfl rfl (hF.zt.get (j := 15) rfl hW.1)
      have hF := Lib.hid hF
      clear hA
      go_simp
      exact hK.out _ _ ⟨hF.out.zb, hF.out.zq, hF.out.zt.step rfl rfl⟩
    refine FSteps.yes3 (bv := true) hz rfl (dv := [16]) (by kernel_rfl) rfl (by kernel_rfl) (by kernel_rfl) (fun D s W hW hF => (hF.zt.get (j := 16) rfl hW.1)) (by kernel_rfl) (by kernel_rfl) (fun D s W bA kK hD hW hF hA hK => ?_) ?_
    · have x7 := hA.o 7 _ rfl u7
      have hF := Lib.hid hF
      clear hA
      go_simp
      exact hK.out _ _ ⟨hF.out.zb, hF.out.zq, hF.out.zt.step rfl rfl⟩
    refine FSteps.op3 hz rfl (dv := [16, 17]) (by kernel_rfl) (by kernel_rfl) (by kernel_rfl) (fun D s W bA kK hD hW hF hA hK => ?_) ?_
    · have x106 := hA.i 106 _ rfl rfl (hF.zt.get (j := 16) rfl hW.1)
      have x107 := hA.i 107 _ rfl rfl (hF.zt.get (j := 17) rfl hW.2.1)
      have hF := Lib.hid hF
      clear hA
      go_simp
      exact hK.out _ _ ⟨hF.out.zb, hF.out.zq, hF.out.zt.step rfl rfl⟩
    refine FSteps.op3 hz rfl (dv := [18, 16, 0, 1, 2, 3, 4, 5, 6, 7, 8, 9, 10, 11, 12, 13, 14, 15, 16, 17, 18]) (by kernel_rfl) (by kernel_rfl) (by kernel_rfl) (fun D s W bA kK hD hW hF hA hK => ?_) ?_
    · have x108 := hA.i 108 _ rfl rfl (hF.zt.get (j := 18) rfl hW.1)
      have hF := Lib.hid hF
      clear hA
      go_simp
      exact hK.out _ _ ⟨hF.out.zb, hF.out.zq, hF.out.zt.step rfl rfl⟩
    exact FSteps.nil
    intro D s W aF6 hD hF hz' df' hA
    obtain ⟨d0, d1, d2, d3, d4, d5, d6, d7, d8, d9, d10, d11, d12, d13, d14, d15, d16, d17, d18, d19, -⟩ := hD
    clear u6
    replace u7 : Sl aF6 7 _ := hA.o 7 _ rfl u7
    replace u8 : Sl aF6 8 _ := hA.o 8 _ rfl u8
    replace u10 : Sl aF6 10 _ := hA.o 10 _ rfl u10
    replace u13 : Sl aF6 13 _ := hA.o 13 _ rfl u13
    replace u14 : Sl aF6 14 _ := hA.o 14 _ rfl u14
    replace u77 : Sl aF6 77 _ := hA.o 77 _ rfl u77
    have u6 : Sl aF6 6 _ := hA.i 6 _ rfl rfl (hF.zt.get (j := 19) rfl d19)
    have hM := hF.zb
    have hB := hF.zq
    have hB : Bks W [(n4_4, #[Value.int .i64 a.lo, Value.int .i64 a.hi, Value.int .i64 a.m, Value.int .i64 a.r, Value.int .i64 a.k], 27), (n5_2, #[Value.int .i64 c.lo, Value.int .i64 c.hi, Value.int .i64 c.m, Value.int .i64 c.r, Value.int .i64 c.k], 27), (n1_3, #[Value.int .i64 big.lo, Value.int .i64 big.hi, Value.int .i64 big.m, Value.int .i64 big.r, Value.int .i64 big.k], 27)] := ⟨hB.1, hB.2.1, hB.2.2.1, trivial⟩
    clear hF hA hz df d0 d1 d2 d3 d4 d5 d6 d7 d8 d9 d10 d11 d12 d13 d14 d15 d16 d17 d18 d19 hU
    have hz := hz'; have df := df'; clear hz' df'
    clear aF3
    show Code.wp _ _ _ _ _
    refine wp_ret ?_
    show bodyPost _ _ _ _ _ _
    exact end_go df (res_tmp rfl u6) ⟨rfl, hM.b⟩

structure order_t7_r7_3 (x0 x1 x2 x3 y0 y1 y2 y3 z0 z1 z2 z3 s1 k0 k1 k2 : Int) (a b c big w1 w2 w3 w4 : Ab) (zf zg : Int → Ab) (n4_4 n4_5 n5_2 : Nat) (w : World) (m3 : Nat) (D : Nat → Bool) (s : Nat → Value) (W : World) : Prop where
  zb : Mk0 w m3 W
  zq : Bks W [(n4_4, #[Value.int .i64 a.lo, Value.int .i64 a.hi, Value.int .i64 a.m, Value.int .i64 a.r, Value.int .i64 a.k], 27), (n4_5, #[Value.int .i64 b.lo, Value.int .i64 b.hi, Value.int .i64 b.m, Value.int .i64 b.r, Value.int .i64 b.k], 27), (n5_2, #[Value.int .i64 c.lo, Value.int .i64 c.hi, Value.int .i64 c.m, Value.int .i64 c.r, Value.int .i64 c.k], 27)]
  zt : Vals D s [(0, 27, Value.agg #[Value.int .i64 b.lo, Value.int .i64 b.hi, Value.int .i64 b.m, Value.int .i64 b.r, Value.int .i64 b.k]), (1, 28, Value.agg #[Value.int .i64 a.lo, Value.int .i64 a.hi, Value.int .i64 a.m, Value.int .i64 a.r, Value.int .i64 a.k]), (2, 29, Value.agg #[Value.int .i64 a.lo, Value.int .i64 k0]), (3, 30, Value.bool true), (4, 31, Value.bool true), (5, 32, Value.agg #[Value.int .i64 b.lo, Value.int .i64 b.hi, Value.int .i64 b.m, Value.int .i64 b.r, Value.int .i64 b.k]), (6, 33, Value.agg #[Value.int .i64 a.lo, Value.int .i64 a.hi, Value.int .i64 a.m, Value.int .i64 a.r, Value.int .i64 a.k]), (7, 34, Value.agg #[Value.int .i64 s1, Value.int .i64 k1]), (8, 35, Value.bool false), (9, 36, Value.bool false), (10, 37, Value.bool false), (11, 38, undef), (12, 39, undef), (13, 40, undef), (14, 41, undef), (15, 42, Value.bool false), (16, 12, Value.bool false)]

structure order_t7_r8_4 (x0 x1 x2 x3 y0 y1 y2 y3 z0 z1 z2 z3 s1 k0 k1 k2 : Int) (a b c big w1 w2 w3 w4 : Ab) (zf zg : Int → Ab) (n4_4 n4_5 n5_2 : Nat) (w : World) (m4 : Nat) (D : Nat → Bool) (s : Nat → Value) (W : World) : Prop where
  zb : Mk0 w m4 W
  zq : Bks W [(n4_4, #[Value.int .i64 a.lo, Value.int .i64 a.hi, Value.int .i64 a.m, Value.int .i64 a.r, Value.int .i64 a.k], 27), (n4_5, #[Value.int .i64 b.lo, Value.int .i64 b.hi, Value.int .i64 b.m, Value.int .i64 b.r, Value.int .i64 b.k], 27), (n5_2, #[Value.int .i64 c.lo, Value.int .i64 c.hi, Value.int .i64 c.m, Value.int .i64 c.r, Value.int .i64 c.k], 27)]
  zt : Vals D s [(0, 43, Value.bool false), (1, 44, Value.bool false), (2, 45, Value.bool false), (3, 46, undef), (4, 47, undef), (5, 48, undef), (6, 49, undef), (7, 50, undef), (8, 51, undef), (9, 52, Value.bool false), (10, 53, Value.bool false), (11, 54, Value.bool false), (12, 55, Value.agg #[Value.int .i64 a.lo, Value.int .i64 a.hi, Value.int .i64 a.m, Value.int .i64 a.r, Value.int .i64 a.k]), (13, 56, Value.agg #[Value.int .i64 a.lo, Value.int .i64 a.hi, Value.int .i64 a.m, Value.int .i64 a.r, Value.int .i64 a.k]), (14, 57, Value.bool true), (15, 58, Value.bool false), (16, 59, Value.bool false), (17, 60, Value.bool false), (18, 61, Value.bool false), (19, 62, Value.bool false), (20, 63, undef), (21, 64, undef), (22, 65, undef), (23, 66, Value.bool false), (24, 67, Value.bool false), (25, 68, undef), (26, 69, undef), (27, 70, undef), (28, 71, Value.bool false), (29, 72, Value.bool false)]

structure order_t7_r7_5 (x0 x1 x2 x3 y0 y1 y2 y3 z0 z1 z2 z3 s1 k0 k1 k2 : Int) (a b c big w1 w2 w3 w4 : Ab) (zf zg : Int → Ab) (n4_4 n4_5 n5_2 : Nat) (w : World) (m5 : Nat) (D : Nat → Bool) (s : Nat → Value) (W : World) : Prop where
  zb : Mk0 w m5 W
  zq : Bks W [(n4_4, #[Value.int .i64 a.lo, Value.int .i64 a.hi, Value.int .i64 a.m, Value.int .i64 a.r, Value.int .i64 a.k], 27), (n4_5, #[Value.int .i64 b.lo, Value.int .i64 b.hi, Value.int .i64 b.m, Value.int .i64 b.r, Value.int .i64 b.k], 27), (n5_2, #[Value.int .i64 c.lo, Value.int .i64 c.hi, Value.int .i64 c.m, Value.int .i64 c.r, Value.int .i64 c.k], 27)]
  zt : Vals D s [(0, 27, Value.agg #[Value.int .i64 b.lo, Value.int .i64 b.hi, Value.int .i64 b.m, Value.int .i64 b.r, Value.int .i64 b.k]), (1, 28, Value.agg #[Value.int .i64 a.lo, Value.int .i64 a.hi, Value.int .i64 a.m, Value.int .i64 a.r, Value.int .i64 a.k]), (2, 29, Value.agg #[Value.int .i64 a.lo, Value.int .i64 k0]), (3, 30, Value.bool true), (4, 31, Value.bool true), (5, 32, Value.agg #[Value.int .i64 b.lo, Value.int .i64 b.hi, Value.int .i64 b.m, Value.int .i64 b.r, Value.int .i64 b.k]), (6, 33, Value.agg #[Value.int .i64 a.lo, Value.int .i64 a.hi, Value.int .i64 a.m, Value.int .i64 a.r, Value.int .i64 a.k]), (7, 34, Value.agg #[Value.int .i64 s1, Value.int .i64 k1]), (8, 35, Value.bool true), (9, 36, Value.bool true), (10, 37, Value.bool true), (11, 38, Value.agg #[Value.int .i64 b.lo, Value.int .i64 b.hi, Value.int .i64 b.m, Value.int .i64 b.r, Value.int .i64 b.k]), (12, 39, Value.agg #[Value.int .i64 a.lo, Value.int .i64 a.hi, Value.int .i64 a.m, Value.int .i64 a.r, Value.int .i64 a.k]), (13, 40, Value.agg #[Value.int .i64 a.hi, Value.int .i64 k2]), (14, 41, Value.bool false), (15, 42, Value.bool false), (16, 12, Value.bool false)]

structure order_t7_r8_6 (x0 x1 x2 x3 y0 y1 y2 y3 z0 z1 z2 z3 s1 k0 k1 k2 : Int) (a b c big w1 w2 w3 w4 : Ab) (zf zg : Int → Ab) (n4_4 n4_5 n5_2 : Nat) (w : World) (m6 : Nat) (D : Nat → Bool) (s : Nat → Value) (W : World) : Prop where
  zb : Mk0 w m6 W
  zq : Bks W [(n4_4, #[Value.int .i64 a.lo, Value.int .i64 a.hi, Value.int .i64 a.m, Value.int .i64 a.r, Value.int .i64 a.k], 27), (n4_5, #[Value.int .i64 b.lo, Value.int .i64 b.hi, Value.int .i64 b.m, Value.int .i64 b.r, Value.int .i64 b.k], 27), (n5_2, #[Value.int .i64 c.lo, Value.int .i64 c.hi, Value.int .i64 c.m, Value.int .i64 c.r, Value.int .i64 c.k], 27)]
  zt : Vals D s [(0, 43, Value.bool false), (1, 44, Value.bool false), (2, 45, Value.bool false), (3, 46, undef), (4, 47, undef), (5, 48, undef), (6, 49, undef), (7, 50, undef), (8, 51, undef), (9, 52, Value.bool false), (10, 53, Value.bool false), (11, 54, Value.bool false), (12, 55, Value.agg #[Value.int .i64 a.lo, Value.int .i64 a.hi, Value.int .i64 a.m, Value.int .i64 a.r, Value.int .i64 a.k]), (13, 56, Value.agg #[Value.int .i64 a.lo, Value.int .i64 a.hi, Value.int .i64 a.m, Value.int .i64 a.r, Value.int .i64 a.k]), (14, 57, Value.bool true), (15, 58, Value.bool false), (16, 59, Value.bool false), (17, 60, Value.bool false), (18, 61, Value.bool false), (19, 62, Value.bool false), (20, 63, undef), (21, 64, undef), (22, 65, undef), (23, 66, Value.bool false), (24, 67, Value.bool false), (25, 68, undef), (26, 69, undef), (27, 70, undef), (28, 71, Value.bool false), (29, 72, Value.bool false)]

structure order_t7_r7_7 (x0 x1 x2 x3 y0 y1 y2 y3 z0 z1 z2 z3 s1 k0 k1 k2 : Int) (a b c big w1 w2 w3 w4 : Ab) (zf zg : Int → Ab) (n4_4 n4_5 n5_2 : Nat) (w : World) (m7 : Nat) (D : Nat → Bool) (s : Nat → Value) (W : World) : Prop where
  zb : Mk0 w m7 W
  zq : Bks W [(n4_4, #[Value.int .i64 a.lo, Value.int .i64 a.hi, Value.int .i64 a.m, Value.int .i64 a.r, Value.int .i64 a.k], 27), (n4_5, #[Value.int .i64 b.lo, Value.int .i64 b.hi, Value.int .i64 b.m, Value.int .i64 b.r, Value.int .i64 b.k], 27), (n5_2, #[Value.int .i64 c.lo, Value.int .i64 c.hi, Value.int .i64 c.m, Value.int .i64 c.r, Value.int .i64 c.k], 27)]
  zt : Vals D s [(0, 27, Value.agg #[Value.int .i64 b.lo, Value.int .i64 b.hi, Value.int .i64 b.m, Value.int .i64 b.r, Value.int .i64 b.k]), (1, 28, Value.agg #[Value.int .i64 a.lo, Value.int .i64 a.hi, Value.int .i64 a.m, Value.int .i64 a.r, Value.int .i64 a.k]), (2, 29, Value.agg #[Value.int .i64 a.lo, Value.int .i64 k0]), (3, 30, Value.bool true), (4, 31, Value.bool true), (5, 32, Value.agg #[Value.int .i64 b.lo, Value.int .i64 b.hi, Value.int .i64 b.m, Value.int .i64 b.r, Value.int .i64 b.k]), (6, 33, Value.agg #[Value.int .i64 a.lo, Value.int .i64 a.hi, Value.int .i64 a.m, Value.int .i64 a.r, Value.int .i64 a.k]), (7, 34, Value.agg #[Value.int .i64 s1, Value.int .i64 k1]), (8, 35, Value.bool true), (9, 36, Value.bool true), (10, 37, Value.bool true), (11, 38, Value.agg #[Value.int .i64 b.lo, Value.int .i64 b.hi, Value.int .i64 b.m, Value.int .i64 b.r, Value.int .i64 b.k]), (12, 39, Value.agg #[Value.int .i64 a.lo, Value.int .i64 a.hi, Value.int .i64 a.m, Value.int .i64 a.r, Value.int .i64 a.k]), (13, 40, Value.agg #[Value.int .i64 a.hi, Value.int .i64 k2]), (14, 41, Value.bool true), (15, 42, Value.bool true), (16, 12, Value.bool true)]

structure order_t7_r8_8 (x0 x1 x2 x3 y0 y1 y2 y3 z0 z1 z2 z3 s1 k0 k1 k2 : Int) (a b c big w1 w2 w3 w4 : Ab) (zf zg : Int → Ab) (n4_4 n4_5 n5_2 : Nat) (w : World) (m8 : Nat) (D : Nat → Bool) (s : Nat → Value) (W : World) : Prop where
  zb : Mk0 w m8 W
  zq : Bks W [(n4_4, #[Value.int .i64 a.lo, Value.int .i64 a.hi, Value.int .i64 a.m, Value.int .i64 a.r, Value.int .i64 a.k], 27), (n4_5, #[Value.int .i64 b.lo, Value.int .i64 b.hi, Value.int .i64 b.m, Value.int .i64 b.r, Value.int .i64 b.k], 27), (n5_2, #[Value.int .i64 c.lo, Value.int .i64 c.hi, Value.int .i64 c.m, Value.int .i64 c.r, Value.int .i64 c.k], 27)]
  zt : Vals D s [(0, 43, Value.bool false), (1, 44, Value.bool true), (2, 45, Value.bool true), (3, 46, Value.pointer (some ⟨n4_4, 4, none⟩)), (4, 47, Value.int .i64 a.k), (5, 48, Value.pointer (some ⟨n4_5, 4, none⟩)), (6, 49, Value.int .i64 b.k), (7, 50, Value.int .i64 (bits .andNot .i64 a.k b.k)), (8, 51, Value.bool false), (9, 52, Value.bool false), (10, 53, Value.bool false), (11, 54, Value.bool false), (12, 55, Value.agg #[Value.int .i64 a.lo, Value.int .i64 a.hi, Value.int .i64 a.m, Value.int .i64 a.r, Value.int .i64 a.k]), (13, 56, Value.agg #[Value.int .i64 a.lo, Value.int .i64 a.hi, Value.int .i64 a.m, Value.int .i64 a.r, Value.int .i64 a.k]), (14, 57, Value.bool true), (15, 58, Value.bool false), (16, 59, Value.bool false), (17, 60, Value.bool false), (18, 61, Value.bool false), (19, 62, Value.bool false), (20, 63, undef), (21, 64, undef), (22, 65, undef), (23, 66, Value.bool false), (24, 67, Value.bool false), (25, 68, undef), (26, 69, undef), (27, 70, undef), (28, 71, Value.bool false), (29, 72, Value.bool false)]

structure order_t7_r7_9 (x0 x1 x2 x3 y0 y1 y2 y3 z0 z1 z2 z3 s1 k0 k1 k2 : Int) (a b c big w1 w2 w3 w4 : Ab) (zf zg : Int → Ab) (n4_4 n4_5 n5_2 : Nat) (w : World) (m9 : Nat) (D : Nat → Bool) (s : Nat → Value) (W : World) : Prop where
  zb : Mk0 w m9 W
  zq : Bks W [(n4_4, #[Value.int .i64 a.lo, Value.int .i64 a.hi, Value.int .i64 a.m, Value.int .i64 a.r, Value.int .i64 a.k], 27), (n4_5, #[Value.int .i64 b.lo, Value.int .i64 b.hi, Value.int .i64 b.m, Value.int .i64 b.r, Value.int .i64 b.k], 27), (n5_2, #[Value.int .i64 c.lo, Value.int .i64 c.hi, Value.int .i64 c.m, Value.int .i64 c.r, Value.int .i64 c.k], 27)]
  zt : Vals D s [(0, 27, Value.agg #[Value.int .i64 b.lo, Value.int .i64 b.hi, Value.int .i64 b.m, Value.int .i64 b.r, Value.int .i64 b.k]), (1, 28, Value.agg #[Value.int .i64 a.lo, Value.int .i64 a.hi, Value.int .i64 a.m, Value.int .i64 a.r, Value.int .i64 a.k]), (2, 29, Value.agg #[Value.int .i64 a.lo, Value.int .i64 k0]), (3, 30, Value.bool true), (4, 31, Value.bool true), (5, 32, Value.agg #[Value.int .i64 b.lo, Value.int .i64 b.hi, Value.int .i64 b.m, Value.int .i64 b.r, Value.int .i64 b.k]), (6, 33, Value.agg #[Value.int .i64 a.lo, Value.int .i64 a.hi, Value.int .i64 a.m, Value.int .i64 a.r, Value.int .i64 a.k]), (7, 34, Value.agg #[Value.int .i64 s1, Value.int .i64 k1]), (8, 35, Value.bool true), (9, 36, Value.bool true), (10, 37, Value.bool true), (11, 38, Value.agg #[Value.int .i64 b.lo, Value.int .i64 b.hi, Value.int .i64 b.m, Value.int .i64 b.r, Value.int .i64 b.k]), (12, 39, Value.agg #[Value.int .i64 a.lo, Value.int .i64 a.hi, Value.int .i64 a.m, Value.int .i64 a.r, Value.int .i64 a.k]), (13, 40, Value.agg #[Value.int .i64 a.hi, Value.int .i64 k2]), (14, 41, Value.bool true), (15, 42, Value.bool true), (16, 12, Value.bool true)]

structure order_t7_r8_10 (x0 x1 x2 x3 y0 y1 y2 y3 z0 z1 z2 z3 s1 k0 k1 k2 : Int) (a b c big w1 w2 w3 w4 : Ab) (zf zg : Int → Ab) (n4_4 n4_5 n5_2 : Nat) (w : World) (m10 : Nat) (D : Nat → Bool) (s : Nat → Value) (W : World) : Prop where
  zb : Mk0 w m10 W
  zq : Bks W [(n4_4, #[Value.int .i64 a.lo, Value.int .i64 a.hi, Value.int .i64 a.m, Value.int .i64 a.r, Value.int .i64 a.k], 27), (n4_5, #[Value.int .i64 b.lo, Value.int .i64 b.hi, Value.int .i64 b.m, Value.int .i64 b.r, Value.int .i64 b.k], 27), (n5_2, #[Value.int .i64 c.lo, Value.int .i64 c.hi, Value.int .i64 c.m, Value.int .i64 c.r, Value.int .i64 c.k], 27)]
  zt : Vals D s [(0, 43, Value.bool true), (1, 44, Value.bool true), (2, 45, Value.bool true), (3, 46, Value.pointer (some ⟨n4_4, 4, none⟩)), (4, 47, Value.int .i64 a.k), (5, 48, Value.pointer (some ⟨n4_5, 4, none⟩)), (6, 49, Value.int .i64 b.k), (7, 50, Value.int .i64 (bits .andNot .i64 a.k b.k)), (8, 51, Value.bool true), (9, 52, Value.bool true), (10, 53, Value.bool false), (11, 54, Value.bool false), (12, 55, Value.agg #[Value.int .i64 a.lo, Value.int .i64 a.hi, Value.int .i64 a.m, Value.int .i64 a.r, Value.int .i64 a.k]), (13, 56, Value.agg #[Value.int .i64 a.lo, Value.int .i64 a.hi, Value.int .i64 a.m, Value.int .i64 a.r, Value.int .i64 a.k]), (14, 57, Value.bool true), (15, 58, Value.bool false), (16, 59, Value.bool false), (17, 60, Value.bool false), (18, 61, Value.bool true), (19, 62, Value.bool true), (20, 63, Value.agg #[Value.int .i64 b.lo, Value.int .i64 b.hi, Value.int .i64 b.m, Value.int .i64 b.r, Value.int .i64 b.k]), (21, 64, Value.agg #[Value.int .i64 a.lo, Value.int .i64 a.hi, Value.int .i64 a.m, Value.int .i64 a.r, Value.int .i64 a.k]), (22, 65, Value.bool false), (23, 66, Value.bool false), (24, 67, Value.bool false), (25, 68, undef), (26, 69, undef), (27, 70, undef), (28, 71, Value.bool false), (29, 72, Value.bool false)]

structure order_t7_r7_11 (x0 x1 x2 x3 y0 y1 y2 y3 z0 z1 z2 z3 s1 k0 k1 k2 : Int) (a b c big w1 w2 w3 w4 : Ab) (zf zg : Int → Ab) (n4_4 n4_5 n5_2 : Nat) (w : World) (m11 : Nat) (D : Nat → Bool) (s : Nat → Value) (W : World) : Prop where
  zb : Mk0 w m11 W
  zq : Bks W [(n4_4, #[Value.int .i64 a.lo, Value.int .i64 a.hi, Value.int .i64 a.m, Value.int .i64 a.r, Value.int .i64 a.k], 27), (n4_5, #[Value.int .i64 b.lo, Value.int .i64 b.hi, Value.int .i64 b.m, Value.int .i64 b.r, Value.int .i64 b.k], 27), (n5_2, #[Value.int .i64 c.lo, Value.int .i64 c.hi, Value.int .i64 c.m, Value.int .i64 c.r, Value.int .i64 c.k], 27)]
  zt : Vals D s [(0, 27, Value.agg #[Value.int .i64 b.lo, Value.int .i64 b.hi, Value.int .i64 b.m, Value.int .i64 b.r, Value.int .i64 b.k]), (1, 28, Value.agg #[Value.int .i64 a.lo, Value.int .i64 a.hi, Value.int .i64 a.m, Value.int .i64 a.r, Value.int .i64 a.k]), (2, 29, Value.agg #[Value.int .i64 a.lo, Value.int .i64 k0]), (3, 30, Value.bool true), (4, 31, Value.bool true), (5, 32, Value.agg #[Value.int .i64 b.lo, Value.int .i64 b.hi, Value.int .i64 b.m, Value.int .i64 b.r, Value.int .i64 b.k]), (6, 33, Value.agg #[Value.int .i64 a.lo, Value.int .i64 a.hi, Value.int .i64 a.m, Value.int .i64 a.r, Value.int .i64 a.k]), (7, 34, Value.agg #[Value.int .i64 s1, Value.int .i64 k1]), (8, 35, Value.bool true), (9, 36, Value.bool true), (10, 37, Value.bool true), (11, 38, Value.agg #[Value.int .i64 b.lo, Value.int .i64 b.hi, Value.int .i64 b.m, Value.int .i64 b.r, Value.int .i64 b.k]), (12, 39, Value.agg #[Value.int .i64 a.lo, Value.int .i64 a.hi, Value.int .i64 a.m, Value.int .i64 a.r, Value.int .i64 a.k]), (13, 40, Value.agg #[Value.int .i64 a.hi, Value.int .i64 k2]), (14, 41, Value.bool true), (15, 42, Value.bool true), (16, 12, Value.bool true)]

structure order_t7_r8_12 (x0 x1 x2 x3 y0 y1 y2 y3 z0 z1 z2 z3 s1 k0 k1 k2 : Int) (a b c big w1 w2 w3 w4 : Ab) (zf zg : Int → Ab) (n4_4 n4_5 n5_2 : Nat) (w : World) (m12 : Nat) (D : Nat → Bool) (s : Nat → Value) (W : World) : Prop where
  zb : Mk0 w m12 W
  zq : Bks W [(n4_4, #[Value.int .i64 a.lo, Value.int .i64 a.hi, Value.int .i64 a.m, Value.int .i64 a.r, Value.int .i64 a.k], 27), (n4_5, #[Value.int .i64 b.lo, Value.int .i64 b.hi, Value.int .i64 b.m, Value.int .i64 b.r, Value.int .i64 b.k], 27), (n5_2, #[Value.int .i64 c.lo, Value.int .i64 c.hi, Value.int .i64 c.m, Value.int .i64 c.r, Value.int .i64 c.k], 27)]
  zt : Vals D s [(0, 43, Value.bool true), (1, 44, Value.bool true), (2, 45, Value.bool true), (3, 46, Value.pointer (some ⟨n4_4, 4, none⟩)), (4, 47, Value.int .i64 a.k), (5, 48, Value.pointer (some ⟨n4_5, 4, none⟩)), (6, 49, Value.int .i64 b.k), (7, 50, Value.int .i64 (bits .andNot .i64 a.k b.k)), (8, 51, Value.bool true), (9, 52, Value.bool true), (10, 53, Value.bool false), (11, 54, Value.bool false), (12, 55, Value.agg #[Value.int .i64 a.lo, Value.int .i64 a.hi, Value.int .i64 a.m, Value.int .i64 a.r, Value.int .i64 a.k]), (13, 56, Value.agg #[Value.int .i64 a.lo, Value.int .i64 a.hi, Value.int .i64 a.m, Value.int .i64 a.r, Value.int .i64 a.k]), (14, 57, Value.bool true), (15, 58, Value.bool false), (16, 59, Value.bool false), (17, 60, Value.bool false), (18, 61, Value.bool true), (19, 62, Value.bool true), (20, 63, Value.agg #[Value.int .i64 b.lo, Value.int .i64 b.hi, Value.int .i64 b.m, Value.int .i64 b.r, Value.int .i64 b.k]), (21, 64, Value.agg #[Value.int .i64 a.lo, Value.int .i64 a.hi, Value.int .i64 a.m, Value.int .i64 a.r, Value.int .i64 a.k]), (22, 65, Value.bool true), (23, 66, Value.bool true), (24, 67, Value.bool true), (25, 68, Value.agg #[Value.int .i64 a.lo, Value.int .i64 a.hi, Value.int .i64 a.m, Value.int .i64 a.r, Value.int .i64 a.k]), (26, 69, Value.agg #[Value.int .i64 b.lo, Value.int .i64 b.hi, Value.int .i64 b.m, Value.int .i64 b.r, Value.int .i64 b.k]), (27, 70, Value.bool false), (28, 71, Value.bool false), (29, 72, Value.bool false)]

set_option maxRecDepth 100000 in
set_option maxHeartbeats 4000000 in
theorem order_t7 (x0 x1 x2 x3 y0 y1 y2 y3 z0 z1 z2 z3 s1 k0 k1 k2 : Int) (a b c big w1 w2 w3 w4 : Ab) (zf zg : Int → Ab) (q0 q1 q2 t u : Bool)  (w : World) (KA0 : Hid (∀ w, Calls Try.prog 12 #[Value.agg #[Value.int .i64 a.lo, Value.int .i64 a.hi, Value.int .i64 a.m, Value.int .i64 a.r, Value.int .i64 a.k], .int .i64 0, .int .i64 255] w fun e w' => e = .returned (Value.agg #[Value.int .i64 a.lo, Value.int .i64 k0]) ∧ Below w.heap.size w w')) (KA1 : Hid (∀ w, Calls Try.prog 12 #[Value.agg #[Value.int .i64 a.lo, Value.int .i64 a.hi, Value.int .i64 a.m, Value.int .i64 a.r, Value.int .i64 a.k], .int .i64 1, .int .i64 255] w fun e w' => e = .returned (Value.agg #[Value.int .i64 s1, Value.int .i64 k1]) ∧ Below w.heap.size w w')) (KA2 : Hid (∀ w, Calls Try.prog 12 #[Value.agg #[Value.int .i64 a.lo, Value.int .i64 a.hi, Value.int .i64 a.m, Value.int .i64 a.r, Value.int .i64 a.k], .int .i64 (-1), .int .i64 255] w fun e w' => e = .returned (Value.agg #[Value.int .i64 a.hi, Value.int .i64 k2]) ∧ Below w.heap.size w w')) (KH0 : Hid (∀ w, Calls Try.prog 13 #[Value.agg #[Value.int .i64 b.lo, Value.int .i64 b.hi, Value.int .i64 b.m, Value.int .i64 b.r, Value.int .i64 b.k], Value.agg #[Value.int .i64 a.lo, Value.int .i64 k0]] w fun e w' => e = .returned (.bool q0) ∧ Below w.heap.size w w')) (KH1 : Hid (∀ w, Calls Try.prog 13 #[Value.agg #[Value.int .i64 b.lo, Value.int .i64 b.hi, Value.int .i64 b.m, Value.int .i64 b.r, Value.int .i64 b.k], Value.agg #[Value.int .i64 s1, Value.int .i64 k1]] w fun e w' => e = .returned (.bool q1) ∧ Below w.heap.size w w')) (KH2 : Hid (∀ w, Calls Try.prog 13 #[Value.agg #[Value.int .i64 b.lo, Value.int .i64 b.hi, Value.int .i64 b.m, Value.int .i64 b.r, Value.int .i64 b.k], Value.agg #[Value.int .i64 a.hi, Value.int .i64 k2]] w fun e w' => e = .returned (.bool q2) ∧ Below w.heap.size w w')) (KS : Hid (∀ w, Calls Try.prog 18 #[Value.agg #[Value.int .i64 a.lo, Value.int .i64 a.hi, Value.int .i64 a.m, Value.int .i64 a.r, Value.int .i64 a.k], Value.agg #[Value.int .i64 a.lo, Value.int .i64 a.hi, Value.int .i64 a.m, Value.int .i64 a.r, Value.int .i64 a.k]] w fun e w' => e = .returned (.bool true) ∧ Below w.heap.size w w')) (KB : Hid (∀ w, Calls Try.prog 18 #[Value.agg #[Value.int .i64 b.lo, Value.int .i64 b.hi, Value.int .i64 b.m, Value.int .i64 b.r, Value.int .i64 b.k], Value.agg #[Value.int .i64 a.lo, Value.int .i64 a.hi, Value.int .i64 a.m, Value.int .i64 a.r, Value.int .i64 a.k]] w fun e w' => e = .returned (.bool u) ∧ Below w.heap.size w w')) (KJ : Hid (∀ w, Calls Try.prog 17 #[Value.agg #[Value.int .i64 a.lo, Value.int .i64 a.hi, Value.int .i64 a.m, Value.int .i64 a.r, Value.int .i64 a.k], Value.agg #[Value.int .i64 b.lo, Value.int .i64 b.hi, Value.int .i64 b.m, Value.int .i64 b.r, Value.int .i64 b.k]] w fun e w' => e = .returned (abVal big) ∧ Below w.heap.size w w')) (KO1 : Hid (∀ op, 4 ≤ op → op ≤ 6 → ∀ w, Calls Try.prog 14 #[.int .i64 op, Value.agg #[Value.int .i64 a.lo, Value.int .i64 a.hi, Value.int .i64 a.m, Value.int .i64 a.r, Value.int .i64 a.k], Value.agg #[Value.int .i64 c.lo, Value.int .i64 c.hi, Value.int .i64 c.m, Value.int .i64 c.r, Value.int .i64 c.k]] w fun e w' => e = .returned (abVal (zf op)) ∧ Below w.heap.size w w')) (KO2 : Hid (∀ op, 4 ≤ op → op ≤ 6 → ∀ w, Calls Try.prog 14 #[.int .i64 op, Value.agg #[Value.int .i64 big.lo, Value.int .i64 big.hi, Value.int .i64 big.m, Value.int .i64 big.r, Value.int .i64 big.k], Value.agg #[Value.int .i64 c.lo, Value.int .i64 c.hi, Value.int .i64 c.m, Value.int .i64 c.r, Value.int .i64 c.k]] w fun e w' => e = .returned (abVal (zg op)) ∧ Below w.heap.size w w')) (KOL : Hid (∀ op, 4 ≤ op → op ≤ 6 → ∀ w, Calls Try.prog 18 #[Value.agg #[Value.int .i64 (zf op).lo, Value.int .i64 (zf op).hi, Value.int .i64 (zf op).m, Value.int .i64 (zf op).r, Value.int .i64 (zf op).k], Value.agg #[Value.int .i64 (zg op).lo, Value.int .i64 (zg op).hi, Value.int .i64 (zg op).m, Value.int .i64 (zg op).r, Value.int .i64 (zg op).k]] w fun e w' => e = .returned (.bool true) ∧ Below w.heap.size w w')) (KP1 : Hid (∀ w, Calls Try.prog 14 #[.int .i64 9, Value.agg #[Value.int .i64 a.lo, Value.int .i64 a.hi, Value.int .i64 a.m, Value.int .i64 a.r, Value.int .i64 a.k], Value.agg #[Value.int .i64 c.lo, Value.int .i64 c.hi, Value.int .i64 c.m, Value.int .i64 c.r, Value.int .i64 c.k]] w fun e w' => e = .returned (abVal w1) ∧ Below w.heap.size w w')) (KP2 : Hid (∀ w, Calls Try.prog 14 #[.int .i64 9, Value.agg #[Value.int .i64 big.lo, Value.int .i64 big.hi, Value.int .i64 big.m, Value.int .i64 big.r, Value.int .i64 big.k], Value.agg #[Value.int .i64 c.lo, Value.int .i64 c.hi, Value.int .i64 c.m, Value.int .i64 c.r, Value.int .i64 c.k]] w fun e w' => e = .returned (abVal w2) ∧ Below w.heap.size w w')) (KPL : Hid (∀ w, Calls Try.prog 18 #[Value.agg #[Value.int .i64 w1.lo, Value.int .i64 w1.hi, Value.int .i64 w1.m, Value.int .i64 w1.r, Value.int .i64 w1.k], Value.agg #[Value.int .i64 w2.lo, Value.int .i64 w2.hi, Value.int .i64 w2.m, Value.int .i64 w2.r, Value.int .i64 w2.k]] w fun e w' => e = .returned (.bool true) ∧ Below w.heap.size w w')) (KQ1 : Hid (∀ w, Calls Try.prog 14 #[.int .i64 10, Value.agg #[Value.int .i64 c.lo, Value.int .i64 c.hi, Value.int .i64 c.m, Value.int .i64 c.r, Value.int .i64 c.k], Value.agg #[Value.int .i64 a.lo, Value.int .i64 a.hi, Value.int .i64 a.m, Value.int .i64 a.r, Value.int .i64 a.k]] w fun e w' => e = .returned (abVal w3) ∧ Below w.heap.size w w')) (KQ2 : Hid (∀ w, Calls Try.prog 14 #[.int .i64 10, Value.agg #[Value.int .i64 c.lo, Value.int .i64 c.hi, Value.int .i64 c.m, Value.int .i64 c.r, Value.int .i64 c.k], Value.agg #[Value.int .i64 big.lo, Value.int .i64 big.hi, Value.int .i64 big.m, Value.int .i64 big.r, Value.int .i64 big.k]] w fun e w' => e = .returned (abVal w4) ∧ Below w.heap.size w w')) (KQL : Hid (∀ w, Calls Try.prog 18 #[Value.agg #[Value.int .i64 w3.lo, Value.int .i64 w3.hi, Value.int .i64 w3.m, Value.int .i64 w3.r, Value.int .i64 w3.k], Value.agg #[Value.int .i64 w4.lo, Value.int .i64 w4.hi, Value.int .i64 w4.m, Value.int .i64 w4.r, Value.int .i64 w4.k]] w fun e w' => e = .returned (.bool true) ∧ Below w.heap.size w w')) (hq : t = (((q0 && q1) && q2) && (bits .andNot .i64 a.k b.k == 0))) (hab : t = true → u = true → a = b) (aF : Act) (W : World) (n4_4 n4_5 n5_2 : Nat)   (hz : aF.tmps.size = 109) (df : aF.defers = []) (u6 : Sl aF 6 (Value.bool false)) (u7 : Sl aF 7 (Value.bool true)) (u8 : Sl aF 8 (Value.pointer (some ⟨n4_4, 0, none⟩))) (u9 : Sl aF 9 (Value.pointer (some ⟨n4_5, 0, none⟩))) (u10 : Sl aF 10 (Value.pointer (some ⟨n5_2, 0, none⟩))) (u11 : Sl aF 11 (Value.bool t)) (hb0 : Below w.heap.size w W)
    (hB : Bks W [(n4_4, #[Value.int .i64 a.lo, Value.int .i64 a.hi, Value.int .i64 a.m, Value.int .i64 a.r, Value.int .i64 a.k], 27), (n4_5, #[Value.int .i64 b.lo, Value.int .i64 b.hi, Value.int .i64 b.m, Value.int .i64 b.r, Value.int .i64 b.k], 27), (n5_2, #[Value.int .i64 c.lo, Value.int .i64 c.hi, Value.int .i64 c.m, Value.int .i64 c.r, Value.int .i64 c.k], 27)]) :
    Code.wp Try.prog (cAt (codeOf Try.f5) [true, true, true, true, true, true]) (bodyPost Try.prog Try.f5 fun e w' => e = .returned (Value.bool true) ∧ Below w.heap.size w w') aF W := by
  have hM : Mk0 w W.heap.size W := ⟨hb0, Nat.le_refl _⟩
  rcases (show q0 = false ∨ (q0 = true ∧ q1 = false) ∨ (q0 = true ∧ q1 = true ∧ q2 = false) ∨ (q0 = true ∧ q1 = true ∧ q2 = true ∧ ¬ bits .andNot .i64 a.k b.k = 0) ∨ (q0 = true ∧ q1 = true ∧ q2 = true ∧ bits .andNot .i64 a.k b.k = 0 ∧ u = false) ∨ (q0 = true ∧ q1 = true ∧ q2 = true ∧ bits .andNot .i64 a.k b.k = 0 ∧ u = true) from six_ways q0 q1 q2 u _) with hq0 | ⟨hq0, hq1⟩ | ⟨hq0, hq1, hq2⟩ | ⟨hq0, hq1, hq2, hmk⟩ | ⟨hq0, hq1, hq2, hmk, hu⟩ | ⟨hq0, hq1, hq2, hmk, hu⟩
  · subst hq0; obtain rfl : t = false := by simpa using hq
    clear hq
    try clear hab
    refine wp_seq ?_
    obtain ⟨m1, hM, hU, hwm⟩ := start_region hM.b hB
    refine region_go (F := order_t7_r7_1 x0 x1 x2 x3 y0 y1 y2 y3 z0 z1 z2 z3 s1 k0 k1 k2 a b c big w1 w2 w3 w4 zf zg n4_4 n4_5 n5_2 w m1) [27, 28, 29, 30, 31, 32, 33, 34, 35, 36, 37, 38, 39, 40, 41, 42, 12] [0, 1, 2, 3, 4, 5, 6, 7, 8, 9, 10, 11, 12, 13, 14, 15, 16] hz df (by kernel_rfl) (by kernel_rfl) (by kernel_rfl) (fun s hs0 => ⟨hM.drew, Bks.drew hB, Vals.none s _⟩) ?_ ?_
    refine FSteps.op3 hz rfl (dv := []) (by kernel_rfl) (by kernel_rfl) (by kernel_rfl) (fun D s W bA kK hD hW hF hA hK => ?_) ?_
    · have x9 := hA.o 9 _ rfl u9
      obtain ⟨-, ⟨c1, z1⟩, -, -⟩ := hF.zq.rules
      have hF := Lib.hid hF
      clear hA
      go_simp
      exact hK.out _ _ ⟨hF.out.zb, hF.out.zq, hF.out.zt.step rfl rfl⟩
    refine FSteps.op3 hz rfl (dv := []) (by kernel_rfl) (by kernel_rfl) (by kernel_rfl) (fun D s W bA kK hD hW hF hA hK => ?_) ?_
    · have x8 := hA.o 8 _ rfl u8
      obtain ⟨⟨c0, z0⟩, -, -, -⟩ := hF.zq.rules
      have hF := Lib.hid hF
      clear hA
      go_simp
      exact hK.out _ _ ⟨hF.out.zb, hF.out.zq, hF.out.zt.step rfl rfl⟩
    refine FSteps.op3 hz rfl (dv := [1]) (by kernel_rfl) (by kernel_rfl) (by kernel_rfl) (fun D s W bA kK hD hW hF hA hK => ?_) ?_
    · have x28 := hA.i 28 _ rfl rfl (hF.zt.get (j := 1) rfl hW.1)
      have hF := Lib.hid hF
      clear hA
      go_simp
      (go_at_call 12; ((with_reducible_and_instances refine (KA0.out _).mono ?_)); rintro e W1 ⟨rfl, hb⟩; (try unfold abVal))
      (try go_wp2_with fail)
      exact hK.out _ _ ⟨hF.out.zb.on hb, Bks.on hb hF.out.zq, hF.out.zt.step rfl rfl⟩
    refine FSteps.op3 hz rfl (dv := [0, 2, 2]) (by kernel_rfl) (by kernel_rfl) (by kernel_rfl) (fun D s W bA kK hD hW hF hA hK => ?_) ?_
    · have x27 := hA.i 27 _ rfl rfl (hF.zt.get (j := 0) rfl hW.1)
      have x29 := hA.i 29 _ rfl rfl (hF.zt.get (j := 2) rfl hW.2.1)
      have hF := Lib.hid hF
      clear hA
      go_simp
      (go_at_call 13; ((with_reducible_and_instances refine (KH0.out _).mono ?_)); rintro e W1 ⟨rfl, hb⟩; (try unfold abVal))
      (try go_wp2_with fail)
      exact hK.out _ _ ⟨hF.out.zb.on hb, Bks.on hb hF.out.zq, hF.out.zt.step rfl rfl⟩
    refine FSteps.op3 hz rfl (dv := [3, 3]) (by kernel_rfl) (by kernel_rfl) (by kernel_rfl) (fun D s W bA kK hD hW hF hA hK => ?_) ?_
    · have x30 := hA.i 30 _ rfl rfl (hF.zt.get (j := 3) rfl hW.1)
      have hF := Lib.hid hF
      clear hA
      go_simp
      exact hK.out _ _ ⟨hF.out.zb, hF.out.zq, hF.out.zt.step rfl rfl⟩
    refine FSteps.no3 (bv := true) hz rfl (dv := [4]) (by kernel_rfl) rfl (by kernel_rfl) (by kernel_rfl) (fun D s W hW hF => (hF.zt.get (j := 4) rfl hW.1)) (by kernel_rfl) (by kernel_rfl) (fun D s W hD hF => ⟨hF.zb, hF.zq, hF.zt.step rfl rfl⟩) ?_
    refine FSteps.no3 (bv := true) hz rfl (dv := [4]) (by kernel_rfl) rfl (by kernel_rfl) (by kernel_rfl) (fun D s W hW hF => (hF.zt.get (j := 4) rfl hW.1)) (by kernel_rfl) (by kernel_rfl) (fun D s W hD hF => ⟨hF.zb, hF.zq, hF.zt.step rfl rfl⟩) ?_
    refine FSteps.no3 (bv := true) hz rfl (dv := [6, 4, 4]) (by kernel_rfl) rfl (by kernel_rfl) (by kernel_rfl) (fun D s W hW hF => (hF.zt.get (j := 4) rfl hW.2.1)) (by kernel_rfl) (by kernel_rfl) (fun D s W hD hF => ⟨hF.zb, hF.zq, hF.zt.step rfl rfl⟩) ?_
    refine FSteps.no3 (bv := true) hz rfl (dv := [5, 7, 7, 4]) (by kernel_rfl) rfl (by kernel_rfl) (by kernel_rfl) (fun D s W hW hF => (hF.zt.get (j := 4) rfl hW.2.2.2.1)) (by kernel_rfl) (by kernel_rfl) (fun D s W hD hF => ⟨hF.zb, hF.zq, hF.zt.step rfl rfl⟩) ?_
    refine FSteps.op3 hz rfl (dv := [4, 8]) (by kernel_rfl) (by kernel_rfl) (by kernel_rfl) (fun D s W bA kK hD hW hF hA hK => ?_) ?_
    · have x31 := hA.i 31 _ rfl rfl (hF.zt.get (j := 4) rfl hW.1)
      have x35 := hA.i 35 _ rfl rfl (hF.zt.get (j := 8) rfl hW.2.1)
      have hF := Lib.hid hF
      clear hA
      go_simp
      exact hK.out _ _ ⟨hF.out.zb, hF.out.zq, hF.out.zt.step rfl rfl⟩
    refine FSteps.op3 hz rfl (dv := [9, 8]) (by kernel_rfl) (by kernel_rfl) (by kernel_rfl) (fun D s W bA kK hD hW hF hA hK => ?_) ?_
    · have x36 := hA.i 36 _ rfl rfl (hF.zt.get (j := 9) rfl hW.1)
      have hF := Lib.hid hF
      clear hA
      go_simp
      exact hK.out _ _ ⟨hF.out.zb, hF.out.zq, hF.out.zt.step rfl rfl⟩
    refine FSteps.no3 (bv := true) hz rfl (dv := [10]) (by kernel_rfl) rfl (by kernel_rfl) (by kernel_rfl) (fun D s W hW hF => (hF.zt.get (j := 10) rfl hW.1)) (by kernel_rfl) (by kernel_rfl) (fun D s W hD hF => ⟨hF.zb, hF.zq, hF.zt.step rfl rfl⟩) ?_
    refine FSteps.no3 (bv := true) hz rfl (dv := [10]) (by kernel_rfl) rfl (by kernel_rfl) (by kernel_rfl) (fun D s W hW hF => (hF.zt.get (j := 10) rfl hW.1)) (by kernel_rfl) (by kernel_rfl) (fun D s W hD hF => ⟨hF.zb, hF.zq, hF.zt.step rfl rfl⟩) ?_
    refine FSteps.no3 (bv := true) hz rfl (dv := [12, 10, 10]) (by kernel_rfl) rfl (by kernel_rfl) (by kernel_rfl) (fun D s W hW hF => (hF.zt.get (j := 10) rfl hW.2.1)) (by kernel_rfl) (by kernel_rfl) (fun D s W hD hF => ⟨hF.zb, hF.zq, hF.zt.step rfl rfl⟩) ?_
    refine FSteps.no3 (bv := true) hz rfl (dv := [11, 13, 13, 10]) (by kernel_rfl) rfl (by kernel_rfl) (by kernel_rfl) (fun D s W hW hF => (hF.zt.get (j := 10) rfl hW.2.2.2.1)) (by kernel_rfl) (by kernel_rfl) (fun D s W hD hF => ⟨hF.zb, hF.zq, hF.zt.step rfl rfl⟩) ?_
    refine FSteps.op3 hz rfl (dv := [10, 14]) (by kernel_rfl) (by kernel_rfl) (by kernel_rfl) (fun D s W bA kK hD hW hF hA hK => ?_) ?_
    · have x37 := hA.i 37 _ rfl rfl (hF.zt.get (j := 10) rfl hW.1)
      have x41 := hA.i 41 _ rfl rfl (hF.zt.get (j := 14) rfl hW.2.1)
      have hF := Lib.hid hF
      clear hA
      go_simp
      exact hK.out _ _ ⟨hF.out.zb, hF.out.zq, hF.out.zt.step rfl rfl⟩
    refine FSteps.op3 hz rfl (dv := [15, 14, 0, 1, 2, 3, 4, 5, 6, 7, 8, 9, 10, 11, 12, 13, 14, 15]) (by kernel_rfl) (by kernel_rfl) (by kernel_rfl) (fun D s W bA kK hD hW hF hA hK => ?_) ?_
    · have x42 := hA.i 42 _ rfl rfl (hF.zt.get (j := 15) rfl hW.1)
      have hF := Lib.hid hF
      clear hA
      go_simp
      exact hK.out _ _ ⟨hF.out.zb, hF.out.zq, hF.out.zt.step rfl rfl⟩
    exact FSteps.nil
    intro D s W aF1 hD hF hz' df' hA
    obtain ⟨d0, d1, d2, d3, d4, d5, d6, d7, d8, d9, d10, d11, d12, d13, d14, d15, d16, -⟩ := hD
    replace u6 : Sl aF1 6 _ := hA.o 6 _ rfl u6
    replace u7 : Sl aF1 7 _ := hA.o 7 _ rfl u7
    replace u8 : Sl aF1 8 _ := hA.o 8 _ rfl u8
    replace u9 : Sl aF1 9 _ := hA.o 9 _ rfl u9
    replace u10 : Sl aF1 10 _ := hA.o 10 _ rfl u10
    replace u11 : Sl aF1 11 _ := hA.o 11 _ rfl u11
    have u12 : Sl aF1 12 _ := hA.i 12 _ rfl rfl (hF.zt.get (j := 16) rfl d16)
    have hM := hF.zb
    have hB := hF.zq
    have hB : Bks W [(n4_4, #[Value.int .i64 a.lo, Value.int .i64 a.hi, Value.int .i64 a.m, Value.int .i64 a.r, Value.int .i64 a.k], 27), (n4_5, #[Value.int .i64 b.lo, Value.int .i64 b.hi, Value.int .i64 b.m, Value.int .i64 b.r, Value.int .i64 b.k], 27), (n5_2, #[Value.int .i64 c.lo, Value.int .i64 c.hi, Value.int .i64 c.m, Value.int .i64 c.r, Value.int .i64 c.k], 27)] := ⟨hB.1, hB.2.1, hB.2.2.1, trivial⟩
    clear hF hA hz df d0 d1 d2 d3 d4 d5 d6 d7 d8 d9 d10 d11 d12 d13 d14 d15 d16 hU
    have hz := hz'; have df := df'; clear hz' df'
    clear aF
    show Code.wp _ _ _ _ _
    refine wp_seq ?_
    refine wp_seq ?_
    obtain ⟨m2, hM, hU, hwm⟩ := start_region hM.b hB
    refine region_run (F := order_t7_r8_2 x0 x1 x2 x3 y0 y1 y2 y3 z0 z1 z2 z3 s1 k0 k1 k2 a b c big w1 w2 w3 w4 zf zg n4_4 n4_5 n5_2 w m2) [43, 44, 45, 46, 47, 48, 49, 50, 51, 52, 53, 54, 55, 56, 57, 58, 59, 60, 61, 62, 63, 64, 65, 66, 67, 68, 69, 70, 71, 72] [0, 1, 2, 3, 4, 5, 6, 7, 8, 9, 10, 11, 12, 13, 14, 15, 16, 17, 18, 19, 20, 21, 22, 23, 24, 25, 26, 27, 28, 29] hz df (by kernel_rfl) (by kernel_rfl) (fun s hs0 => ⟨hM, hB, Vals.none s _⟩) ?_ ?_
    refine FSteps.op3 hz rfl (dv := []) (by kernel_rfl) (by kernel_rfl) (by kernel_rfl) (fun D s W bA kK hD hW hF hA hK => ?_) ?_
    · have x11 := hA.o 11 _ rfl u11
      have hF := Lib.hid hF
      clear hA
      go_simp
      exact hK.out _ _ ⟨hF.out.zb, hF.out.zq, hF.out.zt.step rfl rfl⟩
    refine FSteps.op3 hz rfl (dv := []) (by kernel_rfl) (by kernel_rfl) (by kernel_rfl) (fun D s W bA kK hD hW hF hA hK => ?_) ?_
    · have x12 := hA.o 12 _ rfl u12
      have hF := Lib.hid hF
      clear hA
      go_simp
      exact hK.out _ _ ⟨hF.out.zb, hF.out.zq, hF.out.zt.step rfl rfl⟩
    refine FSteps.op3 hz rfl (dv := [1]) (by kernel_rfl) (by kernel_rfl) (by kernel_rfl) (fun D s W bA kK hD hW hF hA hK => ?_) ?_
    · have x44 := hA.i 44 _ rfl rfl (hF.zt.get (j := 1) rfl hW.1)
      have hF := Lib.hid hF
      clear hA
      go_simp
      exact hK.out _ _ ⟨hF.out.zb, hF.out.zq, hF.out.zt.step rfl rfl⟩
    refine FSteps.no3 (bv := true) hz rfl (dv := [2]) (by kernel_rfl) rfl (by kernel_rfl) (by kernel_rfl) (fun D s W hW hF => (hF.zt.get (j := 2) rfl hW.1)) (by kernel_rfl) (by kernel_rfl) (fun D s W hD hF => ⟨hF.zb, hF.zq, hF.zt.step rfl rfl⟩) ?_
    refine FSteps.no3 (bv := true) hz rfl (dv := [3, 2]) (by kernel_rfl) rfl (by kernel_rfl) (by kernel_rfl) (fun D s W hW hF => (hF.zt.get (j := 2) rfl hW.2.1)) (by kernel_rfl) (by kernel_rfl) (fun D s W hD hF => ⟨hF.zb, hF.zq, hF.zt.step rfl rfl⟩) ?_
    refine FSteps.no3 (bv := true) hz rfl (dv := [2]) (by kernel_rfl) rfl (by kernel_rfl) (by kernel_rfl) (fun D s W hW hF => (hF.zt.get (j := 2) rfl hW.1)) (by kernel_rfl) (by kernel_rfl) (fun D s W hD hF => ⟨hF.zb, hF.zq, hF.zt.step rfl rfl⟩) ?_
    refine FSteps.no3 (bv := true) hz rfl (dv := [5, 2]) (by kernel_rfl) rfl (by kernel_rfl) (by kernel_rfl) (fun D s W hW hF => (hF.zt.get (j := 2) rfl hW.2.1)) (by kernel_rfl) (by kernel_rfl) (fun D s W hD hF => ⟨hF.zb, hF.zq, hF.zt.step rfl rfl⟩) ?_
    refine FSteps.no3 (bv := true) hz rfl (dv := [4, 6, 2]) (by kernel_rfl) rfl (by kernel_rfl) (by kernel_rfl) (fun D s W hW hF => (hF.zt.get (j := 2) rfl hW.2.2.1)) (by kernel_rfl) (by kernel_rfl) (fun D s W hD hF => ⟨hF.zb, hF.zq, hF.zt.step rfl rfl⟩) ?_
    refine FSteps.no3 (bv := true) hz rfl (dv := [7, 2]) (by kernel_rfl) rfl (by kernel_rfl) (by kernel_rfl) (fun D s W hW hF => (hF.zt.get (j := 2) rfl hW.2.1)) (by kernel_rfl) (by kernel_rfl) (fun D s W hD hF => ⟨hF.zb, hF.zq, hF.zt.step rfl rfl⟩) ?_
    refine FSteps.op3 hz rfl (dv := [2, 8]) (by kernel_rfl) (by kernel_rfl) (by kernel_rfl) (fun D s W bA kK hD hW hF hA hK => ?_) ?_
    · have x45 := hA.i 45 _ rfl rfl (hF.zt.get (j := 2) rfl hW.1)
      have x51 := hA.i 51 _ rfl rfl (hF.zt.get (j := 8) rfl hW.2.1)
      have hF := Lib.hid hF
      clear hA
      go_simp
      exact hK.out _ _ ⟨hF.out.zb, hF.out.zq, hF.out.zt.step rfl rfl⟩
    refine FSteps.op3 hz rfl (dv := [0, 9]) (by kernel_rfl) (by kernel_rfl) (by kernel_rfl) (fun D s W bA kK hD hW hF hA hK => ?_) ?_
    · have x43 := hA.i 43 _ rfl rfl (hF.zt.get (j := 0) rfl hW.1)
      have x52 := hA.i 52 _ rfl rfl (hF.zt.get (j := 9) rfl hW.2.1)
      have hF := Lib.hid hF
      clear hA
      have hbb : (false != false) = false := rfl
      go_simp
      exact hK.out _ _ ⟨hF.out.zb, hF.out.zq, hF.out.zt.step rfl rfl⟩
    refine FSteps.op3 hz rfl (dv := [10, 2]) (by kernel_rfl) (by kernel_rfl) (by kernel_rfl) (fun D s W bA kK hD hW hF hA hK => ?_) ?_
    · have x53 := hA.i 53 _ rfl rfl (hF.zt.get (j := 10) rfl hW.1)
      have hF := Lib.hid hF
      clear hA
      go_simp
      exact hK.out _ _ ⟨hF.out.zb, hF.out.zq, hF.out.zt.step rfl rfl⟩
    refine FSteps.yes3 (bv := false) hz rfl (dv := [11]) (by kernel_rfl) rfl (by kernel_rfl) (by kernel_rfl) (fun D s W hW hF => (hF.zt.get (j := 11) rfl hW.1)) (by kernel_rfl) (by kernel_rfl) (fun D s W bA kK hD hW hF hA hK => ?_) ?_
    · have x8 := hA.o 8 _ rfl u8
      obtain ⟨⟨c0, z0⟩, -, -, -⟩ := hF.zq.rules
      have hF := Lib.hid hF
      clear hA
      go_simp
      exact hK.out _ _ ⟨hF.out.zb, hF.out.zq, hF.out.zt.step rfl rfl⟩
    refine FSteps.yes3 (bv := false) hz rfl (dv := [11]) (by kernel_rfl) rfl (by kernel_rfl) (by kernel_rfl) (fun D s W hW hF => (hF.zt.get (j := 11) rfl hW.1)) (by kernel_rfl) (by kernel_rfl) (fun D s W bA kK hD hW hF hA hK => ?_) ?_
    · have x8 := hA.o 8 _ rfl u8
      obtain ⟨⟨c0, z0⟩, -, -, -⟩ := hF.zq.rules
      have hF := Lib.hid hF
      clear hA
      go_simp
      exact hK.out _ _ ⟨hF.out.zb, hF.out.zq, hF.out.zt.step rfl rfl⟩
    refine FSteps.yes3 (bv := false) hz rfl (dv := [12, 13, 11, 11]) (by kernel_rfl) rfl (by kernel_rfl) (by kernel_rfl) (fun D s W hW hF => (hF.zt.get (j := 11) rfl hW.2.2.1)) (by kernel_rfl) (by kernel_rfl) (fun D s W bA kK hD hW hF hA hK => ?_) ?_
    · have x55 := hA.i 55 _ rfl rfl (hF.zt.get (j := 12) rfl hW.1)
      have x56 := hA.i 56 _ rfl rfl (hF.zt.get (j := 13) rfl hW.2.1)
      have hF := Lib.hid hF
      clear hA
      go_simp
      (go_at_call 18; ((with_reducible_and_instances refine (KS.out _).mono ?_)); rintro e W1 ⟨rfl, hb⟩; (try unfold abVal))
      (try go_wp2_with fail)
      exact hK.out _ _ ⟨hF.out.zb.on hb, Bks.on hb hF.out.zq, hF.out.zt.step rfl rfl⟩
    refine FSteps.yes3 (bv := false) hz rfl (dv := [14, 11]) (by kernel_rfl) rfl (by kernel_rfl) (by kernel_rfl) (fun D s W hW hF => (hF.zt.get (j := 11) rfl hW.2.1)) (by kernel_rfl) (by kernel_rfl) (fun D s W bA kK hD hW hF hA hK => ?_) ?_
    · have x57 := hA.i 57 _ rfl rfl (hF.zt.get (j := 14) rfl hW.1)
      have hF := Lib.hid hF
      clear hA
      go_simp
      exact hK.out _ _ ⟨hF.out.zb, hF.out.zq, hF.out.zt.step rfl rfl⟩
    refine FSteps.op3 hz rfl (dv := [11, 15]) (by kernel_rfl) (by kernel_rfl) (by kernel_rfl) (fun D s W bA kK hD hW hF hA hK => ?_) ?_
    · have x54 := hA.i 54 _ rfl rfl (hF.zt.get (j := 11) rfl hW.1)
      have x58 := hA.i 58 _ rfl rfl (hF.zt.get (j := 15) rfl hW.2.1)
      have hF := Lib.hid hF
      clear hA
      go_simp
      exact hK.out _ _ ⟨hF.out.zb, hF.out.zq, hF.out.zt.step rfl rfl⟩
    refine FSteps.op3 hz rfl (dv := [16, 14]) (by kernel_rfl) (by kernel_rfl) (by kernel_rfl) (fun D s W bA kK hD hW hF hA hK => ?_) ?_
    · have x59 := hA.i 59 _ rfl rfl (hF.zt.get (j := 16) rfl hW.1)
      have hF := Lib.hid hF
      clear hA
      go_simp
      exact hK.out _ _ ⟨hF.out.zb, hF.out.zq, hF.out.zt.step rfl rfl⟩
    refine FSteps.yes3 (bv := false) hz rfl (dv := [17]) (by kernel_rfl) rfl (by kernel_rfl) (by kernel_rfl) (fun D s W hW hF => (hF.zt.get (j := 17) rfl hW.1)) (by kernel_rfl) (by kernel_rfl) (fun D s W bA kK hD hW hF hA hK => ?_) ?_
    · have x11 := hA.o 11 _ rfl u11
      have hF := Lib.hid hF
      clear hA
      go_simp
      exact hK.out _ _ ⟨hF.out.zb, hF.out.zq, hF.out.zt.step rfl rfl⟩
    refine FSteps.yes3 (bv := false) hz rfl (dv := [18, 17, 17]) (by kernel_rfl) rfl (by kernel_rfl) (by kernel_rfl) (fun D s W hW hF => (hF.zt.get (j := 17) rfl hW.2.1)) (by kernel_rfl) (by kernel_rfl) (fun D s W bA kK hD hW hF hA hK => ?_) ?_
    · have x61 := hA.i 61 _ rfl rfl (hF.zt.get (j := 18) rfl hW.1)
      have hF := Lib.hid hF
      clear hA
      go_simp
      exact hK.out _ _ ⟨hF.out.zb, hF.out.zq, hF.out.zt.step rfl rfl⟩
    refine FSteps.no3 (bv := true) hz rfl (dv := [19]) (by kernel_rfl) rfl (by kernel_rfl) (by kernel_rfl) (fun D s W hW hF => (hF.zt.get (j := 19) rfl hW.1)) (by kernel_rfl) (by kernel_rfl) (fun D s W hD hF => ⟨hF.zb, hF.zq, hF.zt.step rfl rfl⟩) ?_
    refine FSteps.no3 (bv := true) hz rfl (dv := [19]) (by kernel_rfl) rfl (by kernel_rfl) (by kernel_rfl) (fun D s W hW hF => (hF.zt.get (j := 19) rfl hW.1)) (by kernel_rfl) (by kernel_rfl) (fun D s W hD hF => ⟨hF.zb, hF.zq, hF.zt.step rfl rfl⟩) ?_
    refine FSteps.no3 (bv := true) hz rfl (dv := [20, 21, 19, 19]) (by kernel_rfl) rfl (by kernel_rfl) (by kernel_rfl) (fun D s W hW hF => (hF.zt.get (j := 19) rfl hW.2.2.1)) (by kernel_rfl) (by kernel_rfl) (fun D s W hD hF => ⟨hF.zb, hF.zq, hF.zt.step rfl rfl⟩) ?_
    refine FSteps.yes3 (bv := false) hz rfl (dv := [19, 22, 17]) (by kernel_rfl) rfl (by kernel_rfl) (by kernel_rfl) (fun D s W hW hF => (hF.zt.get (j := 17) rfl hW.2.2.1)) (by kernel_rfl) (by kernel_rfl) (fun D s W bA kK hD hW hF hA hK => ?_) ?_
    · have x62 := hA.i 62 _ rfl rfl (hF.zt.get (j := 19) rfl hW.1)
      have x65 := hA.i 65 _ rfl rfl (hF.zt.get (j := 22) rfl hW.2.1)
      have hF := Lib.hid hF
      clear hA
      go_simp
      exact hK.out _ _ ⟨hF.out.zb, hF.out.zq, hF.out.zt.step rfl rfl⟩
    refine FSteps.yes3 (bv := false) hz rfl (dv := [23, 22, 17]) (by kernel_rfl) rfl (by kernel_rfl) (by kernel_rfl) (fun D s W hW hF => (hF.zt.get (j := 17) rfl hW.2.2.1)) (by kernel_rfl) (by kernel_rfl) (fun D s W bA kK hD hW hF hA hK => ?_) ?_
    · have x66 := hA.i 66 _ rfl rfl (hF.zt.get (j := 23) rfl hW.1)
      have hF := Lib.hid hF
      clear hA
      go_simp
      exact hK.out _ _ ⟨hF.out.zb, hF.out.zq, hF.out.zt.step rfl rfl⟩
    refine FSteps.no3 (bv := true) hz rfl (dv := [24]) (by kernel_rfl) rfl (by kernel_rfl) (by kernel_rfl) (fun D s W hW hF => (hF.zt.get (j := 24) rfl hW.1)) (by kernel_rfl) (by kernel_rfl) (fun D s W hD hF => ⟨hF.zb, hF.zq, hF.zt.step rfl rfl⟩) ?_
    refine FSteps.no3 (bv := true) hz rfl (dv := [24]) (by kernel_rfl) rfl (by kernel_rfl) (by kernel_rfl) (fun D s W hW hF => (hF.zt.get (j := 24) rfl hW.1)) (by kernel_rfl) (by kernel_rfl) (fun D s W hD hF => ⟨hF.zb, hF.zq, hF.zt.step rfl rfl⟩) ?_
    refine FSteps.no3 (bv := true) hz rfl (dv := [25, 26, 24]) (by kernel_rfl) rfl (by kernel_rfl) (by kernel_rfl) (fun D s W hW hF => (hF.zt.get (j := 24) rfl hW.2.2.1)) (by kernel_rfl) (by kernel_rfl) (fun D s W hD hF => ⟨hF.zb, hF.zq, hF.zt.step rfl rfl⟩) ?_
    refine FSteps.yes3 (bv := false) hz rfl (dv := [24, 27, 17]) (by kernel_rfl) rfl (by kernel_rfl) (by kernel_rfl) (fun D s W hW hF => (hF.zt.get (j := 17) rfl hW.2.2.1)) (by kernel_rfl) (by kernel_rfl) (fun D s W bA kK hD hW hF hA hK => ?_) ?_
    · have x67 := hA.i 67 _ rfl rfl (hF.zt.get (j := 24) rfl hW.1)
      have x70 := hA.i 70 _ rfl rfl (hF.zt.get (j := 27) rfl hW.2.1)
      have hF := Lib.hid hF
      clear hA
      go_simp
      exact hK.out _ _ ⟨hF.out.zb, hF.out.zq, hF.out.zt.step rfl rfl⟩
    refine FSteps.op3 hz rfl (dv := [17, 28]) (by kernel_rfl) (by kernel_rfl) (by kernel_rfl) (fun D s W bA kK hD hW hF hA hK => ?_) ?_
    · have x60 := hA.i 60 _ rfl rfl (hF.zt.get (j := 17) rfl hW.1)
      have x71 := hA.i 71 _ rfl rfl (hF.zt.get (j := 28) rfl hW.2.1)
      have hF := Lib.hid hF
      clear hA
      go_simp
      exact hK.out _ _ ⟨hF.out.zb, hF.out.zq, hF.out.zt.step rfl rfl⟩
    exact FSteps.nil
    intro D s W aF2 hD hF hz' df' hA
    obtain ⟨d0, d1, d2, d3, d4, d5, d6, d7, d8, d9, d10, d11, d12, d13, d14, d15, d16, d17, d18, d19, d20, d21, d22, d23, d24, d25, d26, d27, d28, d29, -⟩ := hD
    clear u11 u12
    replace u6 : Sl aF2 6 _ := hA.o 6 _ rfl u6
    replace u7 : Sl aF2 7 _ := hA.o 7 _ rfl u7
    replace u8 : Sl aF2 8 _ := hA.o 8 _ rfl u8
    replace u9 : Sl aF2 9 _ := hA.o 9 _ rfl u9
    replace u10 : Sl aF2 10 _ := hA.o 10 _ rfl u10
    have u72 : Sl aF2 72 _ := hA.i 72 _ rfl rfl (hF.zt.get (j := 29) rfl d29)
    have hM := hF.zb
    have hB := hF.zq
    have hB : Bks W [(n4_4, #[Value.int .i64 a.lo, Value.int .i64 a.hi, Value.int .i64 a.m, Value.int .i64 a.r, Value.int .i64 a.k], 27), (n4_5, #[Value.int .i64 b.lo, Value.int .i64 b.hi, Value.int .i64 b.m, Value.int .i64 b.r, Value.int .i64 b.k], 27), (n5_2, #[Value.int .i64 c.lo, Value.int .i64 c.hi, Value.int .i64 c.m, Value.int .i64 c.r, Value.int .i64 c.k], 27)] := ⟨hB.1, hB.2.1, hB.2.2.1, trivial⟩
    clear hF hA hz df d0 d1 d2 d3 d4 d5 d6 d7 d8 d9 d10 d11 d12 d13 d14 d15 d16 d17 d18 d19 d20 d21 d22 d23 d24 d25 d26 d27 d28 d29 hU
    have hz := hz'; have df := df'; clear hz' df'
    clear aF1
    show Code.wp _ _ _ _ _
    refine cond_f u72 ?_
    refine wp_skip ?_
    show Code.wp _ _ _ _ _
    exact order_t10 x0 x1 x2 x3 y0 y1 y2 y3 z0 z1 z2 z3 s1 k0 k1 k2 a b c big w1 w2 w3 w4 zf zg  w KJ KO1 KO2 KOL KP1 KP2 KPL KQ1 KQ2 KQL aF2 W n4_4 n4_5 n5_2  hz df u6 u7 u8 u9 u10 hM.b ⟨hB.1, hB.2.1, hB.2.2.1, trivial⟩
  · subst hq0 hq1; obtain rfl : t = false := by simpa using hq
    clear hq
    try clear hab
    refine wp_seq ?_
    obtain ⟨m3, hM, hU, hwm⟩ := start_region hM.b hB
    refine region_go (F := order_t7_r7_3 x0 x1 x2 x3 y0 y1 y2 y3 z0 z1 z2 z3 s1 k0 k1 k2 a b c big w1 w2 w3 w4 zf zg n4_4 n4_5 n5_2 w m3) [27, 28, 29, 30, 31, 32, 33, 34, 35, 36, 37, 38, 39, 40, 41, 42, 12] [0, 1, 2, 3, 4, 5, 6, 7, 8, 9, 10, 11, 12, 13, 14, 15, 16] hz df (by kernel_rfl) (by kernel_rfl) (by kernel_rfl) (fun s hs0 => ⟨hM.drew, Bks.drew hB, Vals.none s _⟩) ?_ ?_
    refine FSteps.op3 hz rfl (dv := []) (by kernel_rfl) (by kernel_rfl) (by kernel_rfl) (fun D s W bA kK hD hW hF hA hK => ?_) ?_
    · have x9 := hA.o 9 _ rfl u9
      obtain ⟨-, ⟨c1, z1⟩, -, -⟩ := hF.zq.rules
      have hF := Lib.hid hF
      clear hA
      go_simp
      exact hK.out _ _ ⟨hF.out.zb, hF.out.zq, hF.out.zt.step rfl rfl⟩
    refine FSteps.op3 hz rfl (dv := []) (by kernel_rfl) (by kernel_rfl) (by kernel_rfl) (fun D s W bA kK hD hW hF hA hK => ?_) ?_
    · have x8 := hA.o 8 _ rfl u8
      obtain ⟨⟨c0, z0⟩, -, -, -⟩ := hF.zq.rules
      have hF := Lib.hid hF
      clear hA
      go_simp
      exact hK.out _ _ ⟨hF.out.zb, hF.out.zq, hF.out.zt.step rfl rfl⟩
    refine FSteps.op3 hz rfl (dv := [1]) (by kernel_rfl) (by kernel_rfl) (by kernel_rfl) (fun D s W bA kK hD hW hF hA hK => ?_) ?_
    · have x28 := hA.i 28 _ rfl rfl (hF.zt.get (j := 1) rfl hW.1)
      have hF := Lib.hid hF
      clear hA
      go_simp
      (go_at_call 12; ((with_reducible_and_instances refine (KA0.out _).mono ?_)); rintro e W1 ⟨rfl, hb⟩; (try unfold abVal))
      (try go_wp2_with fail)
      exact hK.out _ _ ⟨hF.out.zb.on hb, Bks.on hb hF.out.zq, hF.out.zt.step rfl rfl⟩
    refine FSteps.op3 hz rfl (dv := [0, 2, 2]) (by kernel_rfl) (by kernel_rfl) (by kernel_rfl) (fun D s W bA kK hD hW hF hA hK => ?_) ?_
    · have x27 := hA.i 27 _ rfl rfl (hF.zt.get (j := 0) rfl hW.1)
      have x29 := hA.i 29 _ rfl rfl (hF.zt.get (j := 2) rfl hW.2.1)
      have hF := Lib.hid hF
      clear hA
      go_simp
      (go_at_call 13; ((with_reducible_and_instances refine (KH0.out _).mono ?_)); rintro e W1 ⟨rfl, hb⟩; (try unfold abVal))
      (try go_wp2_with fail)
      exact hK.out _ _ ⟨hF.out.zb.on hb, Bks.on hb hF.out.zq, hF.out.zt.step rfl rfl⟩
    refine FSteps.op3 hz rfl (dv := [3, 3]) (by kernel_rfl) (by kernel_rfl) (by kernel_rfl) (fun D s W bA kK hD hW hF hA hK => ?_) ?_
    · have x30 := hA.i 30 _ rfl rfl (hF.zt.get (j := 3) rfl hW.1)
      have hF := Lib.hid hF
      clear hA
      go_simp
      exact hK.out _ _ ⟨hF.out.zb, hF.out.zq, hF.out.zt.step rfl rfl⟩
    refine FSteps.yes3 (bv := true) hz rfl (dv := [4]) (by kernel_rfl) rfl (by kernel_rfl) (by kernel_rfl) (fun D s W hW hF => (hF.zt.get (j := 4) rfl hW.1)) (by kernel_rfl) (by kernel_rfl) (fun D s W bA kK hD hW hF hA hK => ?_) ?_
    · have x9 := hA.o 9 _ rfl u9
      obtain ⟨-, ⟨c1, z1⟩, -, -⟩ := hF.zq.rules
      have hF := Lib.hid hF
      clear hA
      go_simp
      exact hK.out _ _ ⟨hF.out.zb, hF.out.zq, hF.out.zt.step rfl rfl⟩
    refine FSteps.yes3 (bv := true) hz rfl (dv := [4]) (by kernel_rfl) rfl (by kernel_rfl) (by kernel_rfl) (fun D s W hW hF => (hF.zt.get (j := 4) rfl hW.1)) (by kernel_rfl) (by kernel_rfl) (fun D s W bA kK hD hW hF hA hK => ?_) ?_
    · have x8 := hA.o 8 _ rfl u8
      obtain ⟨⟨c0, z0⟩, -, -, -⟩ := hF.zq.rules
      have hF := Lib.hid hF
      clear hA
      go_simp
      exact hK.out _ _ ⟨hF.out.zb, hF.out.zq, hF.out.zt.step rfl rfl⟩
    refine FSteps.yes3 (bv := true) hz rfl (dv := [6, 4, 4]) (by kernel_rfl) rfl (by kernel_rfl) (by kernel_rfl) (fun D s W hW hF => (hF.zt.get (j := 4) rfl hW.2.1)) (by kernel_rfl) (by kernel_rfl) (fun D s W bA kK hD hW hF hA hK => ?_) ?_
    · have x33 := hA.i 33 _ rfl rfl (hF.zt.get (j := 6) rfl hW.1)
      have hF := Lib.hid hF
      clear hA
      go_simp
      (go_at_call 12; ((with_reducible_and_instances refine (KA1.out _).mono ?_)); rintro e W1 ⟨rfl, hb⟩; (try unfold abVal))
      (try go_wp2_with fail)
      exact hK.out _ _ ⟨hF.out.zb.on hb, Bks.on hb hF.out.zq, hF.out.zt.step rfl rfl⟩
    refine FSteps.yes3 (bv := true) hz rfl (dv := [5, 7, 7, 4]) (by kernel_rfl) rfl (by kernel_rfl) (by kernel_rfl) (fun D s W hW hF => (hF.zt.get (j := 4) rfl hW.2.2.2.1)) (by kernel_rfl) (by kernel_rfl) (fun D s W bA kK hD hW hF hA hK => ?_) ?_
    · have x32 := hA.i 32 _ rfl rfl (hF.zt.get (j := 5) rfl hW.1)
      have x34 := hA.i 34 _ rfl rfl (hF.zt.get (j := 7) rfl hW.2.1)
      have hF := Lib.hid hF
      clear hA
      go_simp
      (go_at_call 13; ((with_reducible_and_instances refine (KH1.out _).mono ?_)); rintro e W1 ⟨rfl, hb⟩; (try unfold abVal))
      (try go_wp2_with fail)
      exact hK.out _ _ ⟨hF.out.zb.on hb, Bks.on hb hF.out.zq, hF.out.zt.step rfl rfl⟩
    refine FSteps.op3 hz rfl (dv := [4, 8]) (by kernel_rfl) (by kernel_rfl) (by kernel_rfl) (fun D s W bA kK hD hW hF hA hK => ?_) ?_
    · have x31 := hA.i 31 _ rfl rfl (hF.zt.get (j := 4) rfl hW.1)
      have x35 := hA.i 35 _ rfl rfl (hF.zt.get (j := 8) rfl hW.2.1)
      have hF := Lib.hid hF
      clear hA
      go_simp
      exact hK.out _ _ ⟨hF.out.zb, hF.out.zq, hF.out.zt.step rfl rfl⟩
    refine FSteps.op3 hz rfl (dv := [9, 8]) (by kernel_rfl) (by kernel_rfl) (by kernel_rfl) (fun D s W bA kK hD hW hF hA hK => ?_) ?_
    · have x36 := hA.i 36 _ rfl rfl (hF.zt.get (j := 9) rfl hW.1)
      have hF := Lib.hid hF
      clear hA
      go_simp
      exact hK.out _ _ ⟨hF.out.zb, hF.out.zq, hF.out.zt.step rfl rfl⟩
    refine FSteps.no3 (bv := true) hz rfl (dv := [10]) (by kernel_rfl) rfl (by kernel_rfl) (by kernel_rfl) (fun D s W hW hF => (hF.zt.get (j := 10) rfl hW.1)) (by kernel_rfl) (by kernel_rfl) (fun D s W hD hF => ⟨hF.zb, hF.zq, hF.zt.step rfl rfl⟩) ?_
    refine FSteps.no3 (bv := true) hz rfl (dv := [10]) (by kernel_rfl) rfl (by kernel_rfl) (by kernel_rfl) (fun D s W hW hF => (hF.zt.get (j := 10) rfl hW.1)) (by kernel_rfl) (by kernel_rfl) (fun D s W hD hF => ⟨hF.zb, hF.zq, hF.zt.step rfl rfl⟩) ?_
    refine FSteps.no3 (bv := true) hz rfl (dv := [12, 10, 10]) (by kernel_rfl) rfl (by kernel_rfl) (by kernel_rfl) (fun D s W hW hF => (hF.zt.get (j := 10) rfl hW.2.1)) (by kernel_rfl) (by kernel_rfl) (fun D s W hD hF => ⟨hF.zb, hF.zq, hF.zt.step rfl rfl⟩) ?_
    refine FSteps.no3 (bv := true) hz rfl (dv := [11, 13, 13, 10]) (by kernel_rfl) rfl (by kernel_rfl) (by kernel_rfl) (fun D s W hW hF => (hF.zt.get (j := 10) rfl hW.2.2.2.1)) (by kernel_rfl) (by kernel_rfl) (fun D s W hD hF => ⟨hF.zb, hF.zq, hF.zt.step rfl rfl⟩) ?_
    refine FSteps.op3 hz rfl (dv := [10, 14]) (by kernel_rfl) (by kernel_rfl) (by kernel_rfl) (fun D s W bA kK hD hW hF hA hK => ?_) ?_
    · have x37 := hA.i 37 _ rfl rfl (hF.zt.get (j := 10) rfl hW.1)
      have x41 := hA.i 41 _ rfl rfl (hF.zt.get (j := 14) rfl hW.2.1)
      have hF := Lib.hid hF
      clear hA
      go_simp
      exact hK.out _ _ ⟨hF.out.zb, hF.out.zq, hF.out.zt.step rfl rfl⟩
    refine FSteps.op3 hz rfl (dv := [15, 14, 0, 1, 2, 3, 4, 5, 6, 7, 8, 9, 10, 11, 12, 13, 14, 15]) (by kernel_rfl) (by kernel_rfl) (by kernel_rfl) (fun D s W bA kK hD hW hF hA hK => ?_) ?_
    · have x42 := hA.i 42 _ rfl rfl (hF.zt.get (j := 15) rfl hW.1)
      have hF := Lib.hid hF
      clear hA
      go_simp
      exact hK.out _ _ ⟨hF.out.zb, hF.out.zq, hF.out.zt.step rfl rfl⟩
    exact FSteps.nil
    intro D s W aF3 hD hF hz' df' hA
    obtain ⟨d0, d1, d2, d3, d4, d5, d6, d7, d8, d9, d10, d11, d12, d13, d14, d15, d16, -⟩ := hD
    replace u6 : Sl aF3 6 _ := hA.o 6 _ rfl u6
    replace u7 : Sl aF3 7 _ := hA.o 7 _ rfl u7
    replace u8 : Sl aF3 8 _ := hA.o 8 _ rfl u8
    replace u9 : Sl aF3 9 _ := hA.o 9 _ rfl u9
    replace u10 : Sl aF3 10 _ := hA.o 10 _ rfl u10
    replace u11 : Sl aF3 11 _ := hA.o 11 _ rfl u11
    have u12 : Sl aF3 12 _ := hA.i 12 _ rfl rfl (hF.zt.get (j := 16) rfl d16)
    have hM := hF.zb
    have hB := hF.zq
    have hB : Bks W [(n4_4, #[Value.int .i64 a.lo, Value.int .i64 a.hi, Value.int .i64 a.m, Value.int .i64 a.r, Value.int .i64 a.k], 27), (n4_5, #[Value.int .i64 b.lo, Value.int .i64 b.hi, Value.int .i64 b.m, Value.int .i64 b.r, Value.int .i64 b.k], 27), (n5_2, #[Value.int .i64 c.lo, Value.int .i64 c.hi, Value.int .i64 c.m, Value.int .i64 c.r, Value.int .i64 c.k], 27)] := ⟨hB.1, hB.2.1, hB.2.2.1, trivial⟩
    clear hF hA hz df d0 d1 d2 d3 d4 d5 d6 d7 d8 d9 d10 d11 d12 d13 d14 d15 d16 hU
    have hz := hz'; have df := df'; clear hz' df'
    clear aF
    show Code.wp _ _ _ _ _
    refine wp_seq ?_
    refine wp_seq ?_
    obtain ⟨m4, hM, hU, hwm⟩ := start_region hM.b hB
    refine region_run (F := order_t7_r8_4 x0 x1 x2 x3 y0 y1 y2 y3 z0 z1 z2 z3 s1 k0 k1 k2 a b c big w1 w2 w3 w4 zf zg n4_4 n4_5 n5_2 w m4) [43, 44, 45, 46, 47, 48, 49, 50, 51, 52, 53, 54, 55, 56, 57, 58, 59, 60, 61, 62, 63, 64, 65, 66, 67, 68, 69, 70, 71, 72] [0, 1, 2, 3, 4, 5, 6, 7, 8, 9, 10, 11, 12, 13, 14, 15, 16, 17, 18, 19, 20, 21, 22, 23, 24, 25, 26, 27, 28, 29] hz df (by kernel_rfl) (by kernel_rfl) (fun s hs0 => ⟨hM, hB, Vals.none s _⟩) ?_ ?_
    refine FSteps.op3 hz rfl (dv := []) (by kernel_rfl) (by kernel_rfl) (by kernel_rfl) (fun D s W bA kK hD hW hF hA hK => ?_) ?_
    · have x11 := hA.o 11 _ rfl u11
      have hF := Lib.hid hF
      clear hA
      go_simp
      exact hK.out _ _ ⟨hF.out.zb, hF.out.zq, hF.out.zt.step rfl rfl⟩
    refine FSteps.op3 hz rfl (dv := []) (by kernel_rfl) (by kernel_rfl) (by kernel_rfl) (fun D s W bA kK hD hW hF hA hK => ?_) ?_
    · have x12 := hA.o 12 _ rfl u12
      have hF := Lib.hid hF
      clear hA
      go_simp
      exact hK.out _ _ ⟨hF.out.zb, hF.out.zq, hF.out.zt.step rfl rfl⟩
    refine FSteps.op3 hz rfl (dv := [1]) (by kernel_rfl) (by kernel_rfl) (by kernel_rfl) (fun D s W bA kK hD hW hF hA hK => ?_) ?_
    · have x44 := hA.i 44 _ rfl rfl (hF.zt.get (j := 1) rfl hW.1)
      have hF := Lib.hid hF
      clear hA
      go_simp
      exact hK.out _ _ ⟨hF.out.zb, hF.out.zq, hF.out.zt.step rfl rfl⟩
    refine FSteps.no3 (bv := true) hz rfl (dv := [2]) (by kernel_rfl) rfl (by kernel_rfl) (by kernel_rfl) (fun D s W hW hF => (hF.zt.get (j := 2) rfl hW.1)) (by kernel_rfl) (by kernel_rfl) (fun D s W hD hF => ⟨hF.zb, hF.zq, hF.zt.step rfl rfl⟩) ?_
    refine FSteps.no3 (bv := true) hz rfl (dv := [3, 2]) (by kernel_rfl) rfl (by kernel_rfl) (by kernel_rfl) (fun D s W hW hF => (hF.zt.get (j := 2) rfl hW.2.1)) (by kernel_rfl) (by kernel_rfl) (fun D s W hD hF => ⟨hF.zb, hF.zq, hF.zt.step rfl rfl⟩) ?_
    refine FSteps.no3 (bv := true) hz rfl (dv := [2]) (by kernel_rfl) rfl (by kernel_rfl) (by kernel_rfl) (fun D s W hW hF => (hF.zt.get (j := 2) rfl hW.1)) (by kernel_rfl) (by kernel_rfl) (fun D s W hD hF => ⟨hF.zb, hF.zq, hF.zt.step rfl rfl⟩) ?_
    refine FSteps.no3 (bv := true) hz rfl (dv := [5, 2]) (by kernel_rfl) rfl (by kernel_rfl) (by kernel_rfl) (fun D s W hW hF => (hF.zt.get (j := 2) rfl hW.2.1)) (by kernel_rfl) (by kernel_rfl) (fun D s W hD hF => ⟨hF.zb, hF.zq, hF.zt.step rfl rfl⟩) ?_
    refine FSteps.no3 (bv := true) hz rfl (dv := [4, 6, 2]) (by kernel_rfl) rfl (by kernel_rfl) (by kernel_rfl) (fun D s W hW hF => (hF.zt.get (j := 2) rfl hW.2.2.1)) (by kernel_rfl) (by kernel_rfl) (fun D s W hD hF => ⟨hF.zb, hF.zq, hF.zt.step rfl rfl⟩) ?_
    refine FSteps.no3 (bv := true) hz rfl (dv := [7, 2]) (by kernel_rfl) rfl (by kernel_rfl) (by kernel_rfl) (fun D s W hW hF => (hF.zt.get (j := 2) rfl hW.2.1)) (by kernel_rfl) (by kernel_rfl) (fun D s W hD hF => ⟨hF.zb, hF.zq, hF.zt.step rfl rfl⟩) ?_
    refine FSteps.op3 hz rfl (dv := [2, 8]) (by kernel_rfl) (by kernel_rfl) (by kernel_rfl) (fun D s W bA kK hD hW hF hA hK => ?_) ?_
    · have x45 := hA.i 45 _ rfl rfl (hF.zt.get (j := 2) rfl hW.1)
      have x51 := hA.i 51 _ rfl rfl (hF.zt.get (j := 8) rfl hW.2.1)
      have hF := Lib.hid hF
      clear hA
      go_simp
      exact hK.out _ _ ⟨hF.out.zb, hF.out.zq, hF.out.zt.step rfl rfl⟩
    refine FSteps.op3 hz rfl (dv := [0, 9]) (by kernel_rfl) (by kernel_rfl) (by kernel_rfl) (fun D s W bA kK hD hW hF hA hK => ?_) ?_
    · have x43 := hA.i 43 _ rfl rfl (hF.zt.get (j := 0) rfl hW.1)
      have x52 := hA.i 52 _ rfl rfl (hF.zt.get (j := 9) rfl hW.2.1)
      have hF := Lib.hid hF
      clear hA
      have hbb : (false != false) = false := rfl
      go_simp
      exact hK.out _ _ ⟨hF.out.zb, hF.out.zq, hF.out.zt.step rfl rfl⟩
    refine FSteps.op3 hz rfl (dv := [10, 2]) (by kernel_rfl) (by kernel_rfl) (by kernel_rfl) (fun D s W bA kK hD hW hF hA hK => ?_) ?_
    · have x53 := hA.i 53 _ rfl rfl (hF.zt.get (j := 10) rfl hW.1)
      have hF := Lib.hid hF
      clear hA
      go_simp
      exact hK.out _ _ ⟨hF.out.zb, hF.out.zq, hF.out.zt.step rfl rfl⟩
    refine FSteps.yes3 (bv := false) hz rfl (dv := [11]) (by kernel_rfl) rfl (by kernel_rfl) (by kernel_rfl) (fun D s W hW hF => (hF.zt.get (j := 11) rfl hW.1)) (by kernel_rfl) (by kernel_rfl) (fun D s W bA kK hD hW hF hA hK => ?_) ?_
    · have x8 := hA.o 8 _ rfl u8
      obtain ⟨⟨c0, z0⟩, -, -, -⟩ := hF.zq.rules
      have hF := Lib.hid hF
      clear hA
      go_simp
      exact hK.out _ _ ⟨hF.out.zb, hF.out.zq, hF.out.zt.step rfl rfl⟩
    refine FSteps.yes3 (bv := false) hz rfl (dv := [11]) (by kernel_rfl) rfl (by kernel_rfl) (by kernel_rfl) (fun D s W hW hF => (hF.zt.get (j := 11) rfl hW.1)) (by kernel_rfl) (by kernel_rfl) (fun D s W bA kK hD hW hF hA hK => ?_) ?_
    · have x8 := hA.o 8 _ rfl u8
      obtain ⟨⟨c0, z0⟩, -, -, -⟩ := hF.zq.rules
      have hF := Lib.hid hF
      clear hA
      go_simp
      exact hK.out _ _ ⟨hF.out.zb, hF.out.zq, hF.out.zt.step rfl rfl⟩
    refine FSteps.yes3 (bv := false) hz rfl (dv := [12, 13, 11, 11]) (by kernel_rfl) rfl (by kernel_rfl) (by kernel_rfl) (fun D s W hW hF => (hF.zt.get (j := 11) rfl hW.2.2.1)) (by kernel_rfl) (by kernel_rfl) (fun D s W bA kK hD hW hF hA hK => ?_) ?_
    · have x55 := hA.i 55 _ rfl rfl (hF.zt.get (j := 12) rfl hW.1)
      have x56 := hA.i 56 _ rfl rfl (hF.zt.get (j := 13) rfl hW.2.1)
      have hF := Lib.hid hF
      clear hA
      go_simp
      (go_at_call 18; ((with_reducible_and_instances refine (KS.out _).mono ?_)); rintro e W1 ⟨rfl, hb⟩; (try unfold abVal))
      (try go_wp2_with fail)
      exact hK.out _ _ ⟨hF.out.zb.on hb, Bks.on hb hF.out.zq, hF.out.zt.step rfl rfl⟩
    refine FSteps.yes3 (bv := false) hz rfl (dv := [14, 11]) (by kernel_rfl) rfl (by kernel_rfl) (by kernel_rfl) (fun D s W hW hF => (hF.zt.get (j := 11) rfl hW.2.1)) (by kernel_rfl) (by kernel_rfl) (fun D s W bA kK hD hW hF hA hK => ?_) ?_
    · have x57 := hA.i 57 _ rfl rfl (hF.zt.get (j := 14) rfl hW.1)
      have hF := Lib.hid hF
      clear hA
      go_simp
      exact hK.out _ _ ⟨hF.out.zb, hF.out.zq, hF.out.zt.step rfl rfl⟩
    refine FSteps.op3 hz rfl (dv := [11, 15]) (by kernel_rfl) (by kernel_rfl) (by kernel_rfl) (fun D s W bA kK hD hW hF hA hK => ?_) ?_
    · have x54 := hA.i 54 _ rfl rfl (hF.zt.get (j := 11) rfl hW.1)
      have x58 := hA.i 58 _ rfl rfl (hF.zt.get (j := 15) rfl hW.2.1)
      have hF := Lib.hid hF
      clear hA
      go_simp
      exact hK.out _ _ ⟨hF.out.zb, hF.out.zq, hF.out.zt.step rfl rfl⟩
    refine FSteps.op3 hz rfl (dv := [16, 14]) (by kernel_rfl) (by kernel_rfl) (by kernel_rfl) (fun D s W bA kK hD hW hF hA hK => ?_) ?_
    · have x59 := hA.i 59 _ rfl rfl (hF.zt.get (j := 16) rfl hW.1)
      have hF := Lib.hid hF
      clear hA
      go_simp
      exact hK.out _ _ ⟨hF.out.zb, hF.out.zq, hF.out.zt.step rfl rfl⟩
    refine FSteps.yes3 (bv := false) hz rfl (dv := [17]) (by kernel_rfl) rfl (by kernel_rfl) (by kernel_rfl) (fun D s W hW hF => (hF.zt.get (j := 17) rfl hW.1)) (by kernel_rfl) (by kernel_rfl) (fun D s W bA kK hD hW hF hA hK => ?_) ?_
    · have x11 := hA.o 11 _ rfl u11
      have hF := Lib.hid hF
      clear hA
      go_simp
      exact hK.out _ _ ⟨hF.out.zb, hF.out.zq, hF.out.zt.step rfl rfl⟩
    refine FSteps.yes3 (bv := false) hz rfl (dv := [18, 17, 17]) (by kernel_rfl) rfl (by kernel_rfl) (by kernel_rfl) (fun D s W hW hF => (hF.zt.get (j := 17) rfl hW.2.1)) (by kernel_rfl) (by kernel_rfl) (fun D s W bA kK hD hW hF hA hK => ?_) ?_
    · have x61 := hA.i 61 _ rfl rfl (hF.zt.get (j := 18) rfl hW.1)
      have hF := Lib.hid hF
      clear hA
      go_simp
      exact hK.out _ _ ⟨hF.out.zb, hF.out.zq, hF.out.zt.step rfl rfl⟩
    refine FSteps.no3 (bv := true) hz rfl (dv := [19]) (by kernel_rfl) rfl (by kernel_rfl) (by kernel_rfl) (fun D s W hW hF => (hF.zt.get (j := 19) rfl hW.1)) (by kernel_rfl) (by kernel_rfl) (fun D s W hD hF => ⟨hF.zb, hF.zq, hF.zt.step rfl rfl⟩) ?_
    refine FSteps.no3 (bv := true) hz rfl (dv := [19]) (by kernel_rfl) rfl (by kernel_rfl) (by kernel_rfl) (fun D s W hW hF => (hF.zt.get (j := 19) rfl hW.1)) (by kernel_rfl) (by kernel_rfl) (fun D s W hD hF => ⟨hF.zb, hF.zq, hF.zt.step rfl rfl⟩) ?_
    refine FSteps.no3 (bv := true) hz rfl (dv := [20, 21, 19, 19]) (by kernel_rfl) rfl (by kernel_rfl) (by kernel_rfl) (fun D s W hW hF => (hF.zt.get (j := 19) rfl hW.2.2.1)) (by kernel_rfl) (by kernel_rfl) (fun D s W hD hF => ⟨hF.zb, hF.zq, hF.zt.step rfl rfl⟩) ?_
    refine FSteps.yes3 (bv := false) hz rfl (dv := [19, 22, 17]) (by kernel_rfl) rfl (by kernel_rfl) (by kernel_rfl) (fun D s W hW hF => (hF.zt.get (j := 17) rfl hW.2.2.1)) (by kernel_rfl) (by kernel_rfl) (fun D s W bA kK hD hW hF hA hK => ?_) ?_
    · have x62 := hA.i 62 _ rfl rfl (hF.zt.get (j := 19) rfl hW.1)
      have x65 := hA.i 65 _ rfl rfl (hF.zt.get (j := 22) rfl hW.2.1)
      have hF := Lib.hid hF
      clear hA
      go_simp
      exact hK.out _ _ ⟨hF.out.zb, hF.out.zq, hF.out.zt.step rfl rfl⟩
    refine FSteps.yes3 (bv := false) hz rfl (dv := [23, 22, 17]) (by kernel_rfl) rfl (by kernel_rfl) (by kernel_rfl) (fun D s W hW hF => (hF.zt.get (j := 17) rfl hW.2.2.1)) (by kernel_rfl) (by kernel_rfl) (fun D s W bA kK hD hW hF hA hK => ?_) ?_
    · have x66 := hA.i 66 _ rfl rfl (hF.zt.get (j := 23) rfl hW.1)
      have hF := Lib.hid hF
      clear hA
      go_simp
      exact hK.out _ _ ⟨hF.out.zb, hF.out.zq, hF.out.zt.step rfl rfl⟩
    refine FSteps.no3 (bv := true) hz rfl (dv := [24]) (by kernel_rfl) rfl (by kernel_rfl) (by kernel_rfl) (fun D s W hW hF => (hF.zt.get (j := 24) rfl hW.1)) (by kernel_rfl) (by kernel_rfl) (fun D s W hD hF => ⟨hF.zb, hF.zq, hF.zt.step rfl rfl⟩) ?_
    refine FSteps.no3 (bv := true) hz rfl (dv := [24]) (by kernel_rfl) rfl (by kernel_rfl) (by kernel_rfl) (fun D s W hW hF => (hF.zt.get (j := 24) rfl hW.1)) (by kernel_rfl) (by kernel_rfl) (fun D s W hD hF => ⟨hF.zb, hF.zq, hF.zt.step rfl rfl⟩) ?_
    refine FSteps.no3 (bv := true) hz rfl (dv := [25, 26, 24]) (by kernel_rfl) rfl (by kernel_rfl) (by kernel_rfl) (fun D s W hW hF => (hF.zt.get (j := 24) rfl hW.2.2.1)) (by kernel_rfl) (by kernel_rfl) (fun D s W hD hF => ⟨hF.zb, hF.zq, hF.zt.step rfl rfl⟩) ?_
    refine FSteps.yes3 (bv := false) hz rfl (dv := [24, 27, 17]) (by kernel_rfl) rfl (by kernel_rfl) (by kernel_rfl) (fun D s W hW hF => (hF.zt.get (j := 17) rfl hW.2.2.1)) (by kernel_rfl) (by kernel_rfl) (fun D s W bA kK hD hW hF hA hK => ?_) ?_
    · have x67 := hA.i 67 _ rfl rfl (hF.zt.get (j := 24) rfl hW.1)
      have x70 := hA.i 70 _ rfl rfl (hF.zt.get (j := 27) rfl hW.2.1)
      have hF := Lib.hid hF
      clear hA
      go_simp
      exact hK.out _ _ ⟨hF.out.zb, hF.out.zq, hF.out.zt.step rfl rfl⟩
    refine FSteps.op3 hz rfl (dv := [17, 28]) (by kernel_rfl) (by kernel_rfl) (by kernel_rfl) (fun D s W bA kK hD hW hF hA hK => ?_) ?_
    · have x60 := hA.i 60 _ rfl rfl (hF.zt.get (j := 17) rfl hW.1)
      have x71 := hA.i 71 _ rfl rfl (hF.zt.get (j := 28) rfl hW.2.1)
      have hF := Lib.hid hF
      clear hA
      go_simp
      exact hK.out _ _ ⟨hF.out.zb, hF.out.zq, hF.out.zt.step rfl rfl⟩
    exact FSteps.nil
    intro D s W aF4 hD hF hz' df' hA
    obtain ⟨d0, d1, d2, d3, d4, d5, d6, d7, d8, d9, d10, d11, d12, d13, d14, d15, d16, d17, d18, d19, d20, d21, d22, d23, d24, d25, d26, d27, d28, d29, -⟩ := hD
    clear u11 u12
    replace u6 : Sl aF4 6 _ := hA.o 6 _ rfl u6
    replace u7 : Sl aF4 7 _ := hA.o 7 _ rfl u7
    replace u8 : Sl aF4 8 _ := hA.o 8 _ rfl u8
    replace u9 : Sl aF4 9 _ := hA.o 9 _ rfl u9
    replace u10 : Sl aF4 10 _ := hA.o 10 _ rfl u10
    have u72 : Sl aF4 72 _ := hA.i 72 _ rfl rfl (hF.zt.get (j := 29) rfl d29)
    have hM := hF.zb
    have hB := hF.zq
    have hB : Bks W [(n4_4, #[Value.int .i64 a.lo, Value.int .i64 a.hi, Value.int .i64 a.m, Value.int .i64 a.r, Value.int .i64 a.k], 27), (n4_5, #[Value.int .i64 b.lo, Value.int .i64 b.hi, Value.int .i64 b.m, Value.int .i64 b.r, Value.int .i64 b.k], 27), (n5_2, #[Value.int .i64 c.lo, Value.int .i64 c.hi, Value.int .i64 c.m, Value.int .i64 c.r, Value.int .i64 c.k], 27)] := ⟨hB.1, hB.2.1, hB.2.2.1, trivial⟩
    clear hF hA hz df d0 d1 d2 d3 d4 d5 d6 d7 d8 d9 d10 d11 d12 d13 d14 d15 d16 d17 d18 d19 d20 d21 d22 d23 d24 d25 d26 d27 d28 d29 hU
    have hz := hz'; have df := df'; clear hz' df'
    clear aF3
    show Code.wp _ _ _ _ _
    refine cond_f u72 ?_
    refine wp_skip ?_
    show Code.wp _ _ _ _ _
    exact order_t10 x0 x1 x2 x3 y0 y1 y2 y3 z0 z1 z2 z3 s1 k0 k1 k2 a b c big w1 w2 w3 w4 zf zg  w KJ KO1 KO2 KOL KP1 KP2 KPL KQ1 KQ2 KQL aF4 W n4_4 n4_5 n5_2  hz df u6 u7 u8 u9 u10 hM.b ⟨hB.1, hB.2.1, hB.2.2.1, trivial⟩
  · subst hq0 hq1 hq2; obtain rfl : t = false := by simpa using hq
    clear hq
    try clear hab
    refine wp_seq ?_
    obtain ⟨m5, hM, hU, hwm⟩ := start_region hM.b hB
    refine region_go (F := order_t7_r7_5 x0 x1 x2 x3 y0 y1 y2 y3 z0 z1 z2 z3 s1 k0 k1 k2 a b c big w1 w2 w3 w4 zf zg n4_4 n4_5 n5_2 w m5) [27, 28, 29, 30, 31, 32, 33, 34, 35, 36, 37, 38, 39, 40, 41, 42, 12] [0, 1, 2, 3, 4, 5, 6, 7, 8, 9, 10, 11, 12, 13, 14, 15, 16] hz df (by kernel_rfl) (by kernel_rfl) (by kernel_rfl) (fun s hs0 => ⟨hM.drew, Bks.drew hB, Vals.none s _⟩) ?_ ?_
    refine FSteps.op3 hz rfl (dv := []) (by kernel_rfl) (by kernel_rfl) (by kernel_rfl) (fun D s W bA kK hD hW hF hA hK => ?_) ?_
    · have x9 := hA.o 9 _ rfl u9
      obtain ⟨-, ⟨c1, z1⟩, -, -⟩ := hF.zq.rules
      have hF := Lib.hid hF
      clear hA
      go_simp
      exact hK.out _ _ ⟨hF.out.zb, hF.out.zq, hF.out.zt.step rfl rfl⟩
    refine FSteps.op3 hz rfl (dv := []) (by kernel_rfl) (by kernel_rfl) (by kernel_rfl) (fun D s W bA kK hD hW hF hA hK => ?_) ?_
    · have x8 := hA.o 8 _ rfl u8
      obtain ⟨⟨c0, z0⟩, -, -, -⟩ := hF.zq.rules
      have hF := Lib.hid hF
      clear hA
      go_simp
      exact hK.out _ _ ⟨hF.out.zb, hF.out.zq, hF.out.zt.step rfl rfl⟩
    refine FSteps.op3 hz rfl (dv := [1]) (by kernel_rfl) (by kernel_rfl) (by kernel_rfl) (fun D s W bA kK hD hW hF hA hK => ?_) ?_
    · have x28 := hA.i 28 _ rfl rfl (hF.zt.get (j := 1) rfl hW.1)
      have hF := Lib.hid hF
      clear hA
      go_simp
      (go_at_call 12; ((with_reducible_and_instances refine (KA0.out _).mono ?_)); rintro e W1 ⟨rfl, hb⟩; (try unfold abVal))
      (try go_wp2_with fail)
      exact hK.out _ _ ⟨hF.out.zb.on hb, Bks.on hb hF.out.zq, hF.out.zt.step rfl rfl⟩
    refine FSteps.op3 hz rfl (dv := [0, 2, 2]) (by kernel_rfl) (by kernel_rfl) (by kernel_rfl) (fun D s W bA kK hD hW hF hA hK => ?_) ?_
    · have x27 := hA.i 27 _ rfl rfl (hF.zt.get (j := 0) rfl hW.1)
      have x29 := hA.i 29 _ rfl rfl (hF.zt.get (j := 2) rfl hW.2.1)
      have hF := Lib.hid hF
      clear hA
      go_simp
      (go_at_call 13; ((with_reducible_and_instances refine (KH0.out _).mono ?_)); rintro e W1 ⟨rfl, hb⟩; (try unfold abVal))
      (try go_wp2_with fail)
      exact hK.out _ _ ⟨hF.out.zb.on hb, Bks.on hb hF.out.zq, hF.out.zt.step rfl rfl⟩
    refine FSteps.op3 hz rfl (dv := [3, 3]) (by kernel_rfl) (by kernel_rfl) (by kernel_rfl) (fun D s W bA kK hD hW hF hA hK => ?_) ?_
    · have x30 := hA.i 30 _ rfl rfl (hF.zt.get (j := 3) rfl hW.1)
      have hF := Lib.hid hF
      clear hA
      go_simp
      exact hK.out _ _ ⟨hF.out.zb, hF.out.zq, hF.out.zt.step rfl rfl⟩
    refine FSteps.yes3 (bv := true) hz rfl (dv := [4]) (by kernel_rfl) rfl (by kernel_rfl) (by kernel_rfl) (fun D s W hW hF => (hF.zt.get (j := 4) rfl hW.1)) (by kernel_rfl) (by kernel_rfl) (fun D s W bA kK hD hW hF hA hK => ?_) ?_
    · have x9 := hA.o 9 _ rfl u9
      obtain ⟨-, ⟨c1, z1⟩, -, -⟩ := hF.zq.rules
      have hF := Lib.hid hF
      clear hA
      go_simp
      exact hK.out _ _ ⟨hF.out.zb, hF.out.zq, hF.out.zt.step rfl rfl⟩
    refine FSteps.yes3 (bv := true) hz rfl (dv := [4]) (by kernel_rfl) rfl (by kernel_rfl) (by kernel_rfl) (fun D s W hW hF => (hF.zt.get (j := 4) rfl hW.1)) (by kernel_rfl) (by kernel_rfl) (fun D s W bA kK hD hW hF hA hK => ?_) ?_
    · have x8 := hA.o 8 _ rfl u8
      obtain ⟨⟨c0, z0⟩, -, -, -⟩ := hF.zq.rules
      have hF := Lib.hid hF
      clear hA
      go_simp
      exact hK.out _ _ ⟨hF.out.zb, hF.out.zq, hF.out.zt.step rfl rfl⟩
    refine FSteps.yes3 (bv := true) hz rfl (dv := [6, 4, 4]) (by kernel_rfl) rfl (by kernel_rfl) (by kernel_rfl) (fun D s W hW hF => (hF.zt.get (j := 4) rfl hW.2.1)) (by kernel_rfl) (by kernel_rfl) (fun D s W bA kK hD hW hF hA hK => ?_) ?_
    · have x33 := hA.i 33 _ rfl rfl (hF.zt.get (j := 6) rfl hW.1)
      have hF := Lib.hid hF
      clear hA
      go_simp
      (go_at_call 12; ((with_reducible_and_instances refine (KA1.out _).mono ?_)); rintro e W1 ⟨rfl, hb⟩; (try unfold abVal))
      (try go_wp2_with fail)
      exact hK.out _ _ ⟨hF.out.zb.on hb, Bks.on hb hF.out.zq, hF.out.zt.step rfl rfl⟩
    refine FSteps.yes3 (bv := true) hz rfl (dv := [5, 7, 7, 4]) (by kernel_rfl) rfl (by kernel_rfl) (by kernel_rfl) (fun D s W hW hF => (hF.zt.get (j := 4) rfl hW.2.2.2.1)) (by kernel_rfl) (by kernel_rfl) (fun D s W bA kK hD hW hF hA hK => ?_) ?_
    · have x32 := hA.i 32 _ rfl rfl (hF.zt.get (j := 5) rfl hW.1)
      have x34 := hA.i 34 _ rfl rfl (hF.zt.get (j := 7) rfl hW.2.1)
      have hF := Lib.hid hF
      clear hA
      go_simp
      (go_at_call 13; ((with_reducible_and_instances refine (KH1.out _).mono ?_)); rintro e W1 ⟨rfl, hb⟩; (try unfold abVal))
      (try go_wp2_with fail)
      exact hK.out _ _ ⟨hF.out.zb.on hb, Bks.on hb hF.out.zq, hF.out.zt.step rfl rfl⟩
    refine FSteps.op3 hz rfl (dv := [4, 8]) (by kernel_rfl) (by kernel_rfl) (by kernel_rfl) (fun D s W bA kK hD hW hF hA hK => ?_) ?_
    · have x31 := hA.i 31 _ rfl rfl (hF.zt.get (j := 4) rfl hW.1)
      have x35 := hA.i 35 _ rfl rfl (hF.zt.get (j := 8) rfl hW.2.1)
      have hF := Lib.hid hF
      clear hA
      go_simp
      exact hK.out _ _ ⟨hF.out.zb, hF.out.zq, hF.out.zt.step rfl rfl⟩
    refine FSteps.op3 hz rfl (dv := [9, 8]) (by kernel_rfl) (by kernel_rfl) (by kernel_rfl) (fun D s W bA kK hD hW hF hA hK => ?_) ?_
    · have x36 := hA.i 36 _ rfl rfl (hF.zt.get (j := 9) rfl hW.1)
      have hF := Lib.hid hF
      clear hA
      go_simp
      exact hK.out _ _ ⟨hF.out.zb, hF.out.zq, hF.out.zt.step rfl rfl⟩
    refine FSteps.yes3 (bv := true) hz rfl (dv := [10]) (by kernel_rfl) rfl (by kernel_rfl) (by kernel_rfl) (fun D s W hW hF => (hF.zt.get (j := 10) rfl hW.1)) (by kernel_rfl) (by kernel_rfl) (fun D s W bA kK hD hW hF hA hK => ?_) ?_
    · have x9 := hA.o 9 _ rfl u9
      obtain ⟨-, ⟨c1, z1⟩, -, -⟩ := hF.zq.rules
      have hF := Lib.hid hF
      clear hA
      go_simp
      exact hK.out _ _ ⟨hF.out.zb, hF.out.zq, hF.out.zt.step rfl rfl⟩
    refine FSteps.yes3 (bv := true) hz rfl (dv := [10]) (by kernel_rfl) rfl (by kernel_rfl) (by kernel_rfl) (fun D s W hW hF => (hF.zt.get (j := 10) rfl hW.1)) (by kernel_rfl) (by kernel_rfl) (fun D s W bA kK hD hW hF hA hK => ?_) ?_
    · have x8 := hA.o 8 _ rfl u8
      obtain ⟨⟨c0, z0⟩, -, -, -⟩ := hF.zq.rules
      have hF := Lib.hid hF
      clear hA
      go_simp
      exact hK.out _ _ ⟨hF.out.zb, hF.out.zq, hF.out.zt.step rfl rfl⟩
    refine FSteps.yes3 (bv := true) hz rfl (dv := [12, 10, 10]) (by kernel_rfl) rfl (by kernel_rfl) (by kernel_rfl) (fun D s W hW hF => (hF.zt.get (j := 10) rfl hW.2.1)) (by kernel_rfl) (by kernel_rfl) (fun D s W bA kK hD hW hF hA hK => ?_) ?_
    · have x39 := hA.i 39 _ rfl rfl (hF.zt.get (j := 12) rfl hW.1)
      have hF := Lib.hid hF
      clear hA
      go_simp
      (go_at_call 12; ((with_reducible_and_instances refine (KA2.out _).mono ?_)); rintro e W1 ⟨rfl, hb⟩; (try unfold abVal))
      (try go_wp2_with fail)
      exact hK.out _ _ ⟨hF.out.zb.on hb, Bks.on hb hF.out.zq, hF.out.zt.step rfl rfl⟩
    refine FSteps.yes3 (bv := true) hz rfl (dv := [11, 13, 13, 10]) (by kernel_rfl) rfl (by kernel_rfl) (by kernel_rfl) (fun D s W hW hF => (hF.zt.get (j := 10) rfl hW.2.2.2.1)) (by kernel_rfl) (by kernel_rfl) (fun D s W bA kK hD hW hF hA hK => ?_) ?_
    · have x38 := hA.i 38 _ rfl rfl (hF.zt.get (j := 11) rfl hW.1)
      have x40 := hA.i 40 _ rfl rfl (hF.zt.get (j := 13) rfl hW.2.1)
      have hF := Lib.hid hF
      clear hA
      go_simp
      (go_at_call 13; ((with_reducible_and_instances refine (KH2.out _).mono ?_)); rintro e W1 ⟨rfl, hb⟩; (try unfold abVal))
      (try go_wp2_with fail)
      exact hK.out _ _ ⟨hF.out.zb.on hb, Bks.on hb hF.out.zq, hF.out.zt.step rfl rfl⟩
    refine FSteps.op3 hz rfl (dv := [10, 14]) (by kernel_rfl) (by kernel_rfl) (by kernel_rfl) (fun D s W bA kK hD hW hF hA hK => ?_) ?_
    · have x37 := hA.i 37 _ rfl rfl (hF.zt.get (j := 10) rfl hW.1)
      have x41 := hA.i 41 _ rfl rfl (hF.zt.get (j := 14) rfl hW.2.1)
      have hF := Lib.hid hF
      clear hA
      go_simp
      exact hK.out _ _ ⟨hF.out.zb, hF.out.zq, hF.out.zt.step rfl rfl⟩
    refine FSteps.op3 hz rfl (dv := [15, 14, 0, 1, 2, 3, 4, 5, 6, 7, 8, 9, 10, 11, 12, 13, 14, 15]) (by kernel_rfl) (by kernel_rfl) (by kernel_rfl) (fun D s W bA kK hD hW hF hA hK => ?_) ?_
    · have x42 := hA.i 42 _ rfl rfl (hF.zt.get (j := 15) rfl hW.1)
      have hF := Lib.hid hF
      clear hA
      go_simp
      exact hK.out _ _ ⟨hF.out.zb, hF.out.zq, hF.out.zt.step rfl rfl⟩
    exact FSteps.nil
    intro D s W aF5 hD hF hz' df' hA
    obtain ⟨d0, d1, d2, d3, d4, d5, d6, d7, d8, d9, d10, d11, d12, d13, d14, d15, d16, -⟩ := hD
    replace u6 : Sl aF5 6 _ := hA.o 6 _ rfl u6
    replace u7 : Sl aF5 7 _ := hA.o 7 _ rfl u7
    replace u8 : Sl aF5 8 _ := hA.o 8 _ rfl u8
    replace u9 : Sl aF5 9 _ := hA.o 9 _ rfl u9
    replace u10 : Sl aF5 10 _ := hA.o 10 _ rfl u10
    replace u11 : Sl aF5 11 _ := hA.o 11 _ rfl u11
    have u12 : Sl aF5 12 _ := hA.i 12 _ rfl rfl (hF.zt.get (j := 16) rfl d16)
    have hM := hF.zb
    have hB := hF.zq
    have hB : Bks W [(n4_4, #[Value.int .i64 a.lo, Value.int .i64 a.hi, Value.int .i64 a.m, Value.int .i64 a.r, Value.int .i64 a.k], 27), (n4_5, #[Value.int .i64 b.lo, Value.int .i64 b.hi, Value.int .i64 b.m, Value.int .i64 b.r, Value.int .i64 b.k], 27), (n5_2, #[Value.int .i64 c.lo, Value.int .i64 c.hi, Value.int .i64 c.m, Value.int .i64 c.r, Value.int .i64 c.k], 27)] := ⟨hB.1, hB.2.1, hB.2.2.1, trivial⟩
    clear hF hA hz df d0 d1 d2 d3 d4 d5 d6 d7 d8 d9 d10 d11 d12 d13 d14 d15 d16 hU
    have hz := hz'; have df := df'; clear hz' df'
    clear aF
    show Code.wp _ _ _ _ _
    refine wp_seq ?_
    refine wp_seq ?_
    obtain ⟨m6, hM, hU, hwm⟩ := start_region hM.b hB
    refine region_run (F := order_t7_r8_6 x0 x1 x2 x3 y0 y1 y2 y3 z0 z1 z2 z3 s1 k0 k1 k2 a b c big w1 w2 w3 w4 zf zg n4_4 n4_5 n5_2 w m6) [43, 44, 45, 46, 47, 48, 49, 50, 51, 52, 53, 54, 55, 56, 57, 58, 59, 60, 61, 62, 63, 64, 65, 66, 67, 68, 69, 70, 71, 72] [0, 1, 2, 3, 4, 5, 6, 7, 8, 9, 10, 11, 12, 13, 14, 15, 16, 17, 18, 19, 20, 21, 22, 23, 24, 25, 26, 27, 28, 29] hz df (by kernel_rfl) (by kernel_rfl) (fun s hs0 => ⟨hM, hB, Vals.none s _⟩) ?_ ?_
    refine FSteps.op3 hz rfl (dv := []) (by kernel_rfl) (by kernel_rfl) (by kernel_rfl) (fun D s W bA kK hD hW hF hA hK => ?_) ?_
    · have x11 := hA.o 11 _ rfl u11
      have hF := Lib.hid hF
      clear hA
      go_simp
      exact hK.out _ _ ⟨hF.out.zb, hF.out.zq, hF.out.zt.step rfl rfl⟩
    refine FSteps.op3 hz rfl (dv := []) (by kernel_rfl) (by kernel_rfl) (by kernel_rfl) (fun D s W bA kK hD hW hF hA hK => ?_) ?_
    · have x12 := hA.o 12 _ rfl u12
      have hF := Lib.hid hF
      clear hA
      go_simp
      exact hK.out _ _ ⟨hF.out.zb, hF.out.zq, hF.out.zt.step rfl rfl⟩
    refine FSteps.op3 hz rfl (dv := [1]) (by kernel_rfl) (by kernel_rfl) (by kernel_rfl) (fun D s W bA kK hD hW hF hA hK => ?_) ?_
    · have x44 := hA.i 44 _ rfl rfl (hF.zt.get (j := 1) rfl hW.1)
      have hF := Lib.hid hF
      clear hA
      go_simp
      exact hK.out _ _ ⟨hF.out.zb, hF.out.zq, hF.out.zt.step rfl rfl⟩
    refine FSteps.no3 (bv := true) hz rfl (dv := [2]) (by kernel_rfl) rfl (by kernel_rfl) (by kernel_rfl) (fun D s W hW hF => (hF.zt.get (j := 2) rfl hW.1)) (by kernel_rfl) (by kernel_rfl) (fun D s W hD hF => ⟨hF.zb, hF.zq, hF.zt.step rfl rfl⟩) ?_
    refine FSteps.no3 (bv := true) hz rfl (dv := [3, 2]) (by kernel_rfl) rfl (by kernel_rfl) (by kernel_rfl) (fun D s W hW hF => (hF.zt.get (j := 2) rfl hW.2.1)) (by kernel_rfl) (by kernel_rfl) (fun D s W hD hF => ⟨hF.zb, hF.zq, hF.zt.step rfl rfl⟩) ?_
    refine FSteps.no3 (bv := true) hz rfl (dv := [2]) (by kernel_rfl) rfl (by kernel_rfl) (by kernel_rfl) (fun D s W hW hF => (hF.zt.get (j := 2) rfl hW.1)) (by kernel_rfl) (by kernel_rfl) (fun D s W hD hF => ⟨hF.zb, hF.zq, hF.zt.step rfl rfl⟩) ?_
    refine FSteps.no3 (bv := true) hz rfl (dv := [5, 2]) (by kernel_rfl) rfl (by kernel_rfl) (by kernel_rfl) (fun D s W hW hF => (hF.zt.get (j := 2) rfl hW.2.1)) (by kernel_rfl) (by kernel_rfl) (fun D s W hD hF => ⟨hF.zb, hF.zq, hF.zt.step rfl rfl⟩) ?_
    refine FSteps.no3 (bv := true) hz rfl (dv := [4, 6, 2]) (by kernel_rfl) rfl (by kernel_rfl) (by kernel_rfl) (fun D s W hW hF => (hF.zt.get (j := 2) rfl hW.2.2.1)) (by kernel_rfl) (by kernel_rfl) (fun D s W hD hF => ⟨hF.zb, hF.zq, hF.zt.step rfl rfl⟩) ?_
    refine FSteps.no3 (bv := true) hz rfl (dv := [7, 2]) (by kernel_rfl) rfl (by kernel_rfl) (by kernel_rfl) (fun D s W hW hF => (hF.zt.get (j := 2) rfl hW.2.1)) (by kernel_rfl) (by kernel_rfl) (fun D s W hD hF => ⟨hF.zb, hF.zq, hF.zt.step rfl rfl⟩) ?_
    refine FSteps.op3 hz rfl (dv := [2, 8]) (by kernel_rfl) (by kernel_rfl) (by kernel_rfl) (fun D s W bA kK hD hW hF hA hK => ?_) ?_
    · have x45 := hA.i 45 _ rfl rfl (hF.zt.get (j := 2) rfl hW.1)
      have x51 := hA.i 51 _ rfl rfl (hF.zt.get (j := 8) rfl hW.2.1)
      have hF := Lib.hid hF
      clear hA
      go_simp
      exact hK.out _ _ ⟨hF.out.zb, hF.out.zq, hF.out.zt.step rfl rfl⟩
    refine FSteps.op3 hz rfl (dv := [0, 9]) (by kernel_rfl) (by kernel_rfl) (by kernel_rfl) (fun D s W bA kK hD hW hF hA hK => ?_) ?_
    · have x43 := hA.i 43 _ rfl rfl (hF.zt.get (j := 0) rfl hW.1)
      have x52 := hA.i 52 _ rfl rfl (hF.zt.get (j := 9) rfl hW.2.1)
      have hF := Lib.hid hF
      clear hA
      have hbb : (false != false) = false := rfl
      go_simp
      exact hK.out _ _ ⟨hF.out.zb, hF.out.zq, hF.out.zt.step rfl rfl⟩
    refine FSteps.op3 hz rfl (dv := [10, 2]) (by kernel_rfl) (by kernel_rfl) (by kernel_rfl) (fun D s W bA kK hD hW hF hA hK => ?_) ?_
    · have x53 := hA.i 53 _ rfl rfl (hF.zt.get (j := 10) rfl hW.1)
      have hF := Lib.hid hF
      clear hA
      go_simp
      exact hK.out _ _ ⟨hF.out.zb, hF.out.zq, hF.out.zt.step rfl rfl⟩
    refine FSteps.yes3 (bv := false) hz rfl (dv := [11]) (by kernel_rfl) rfl (by kernel_rfl) (by kernel_rfl) (fun D s W hW hF => (hF.zt.get (j := 11) rfl hW.1)) (by kernel_rfl) (by kernel_rfl) (fun D s W bA kK hD hW hF hA hK => ?_) ?_
    · have x8 := hA.o 8 _ rfl u8
      obtain ⟨⟨c0, z0⟩, -, -, -⟩ := hF.zq.rules
      have hF := Lib.hid hF
      clear hA
      go_simp
      exact hK.out _ _ ⟨hF.out.zb, hF.out.zq, hF.out.zt.step rfl rfl⟩
    refine FSteps.yes3 (bv := false) hz rfl (dv := [11]) (by kernel_rfl) rfl (by kernel_rfl) (by kernel_rfl) (fun D s W hW hF => (hF.zt.get (j := 11) rfl hW.1)) (by kernel_rfl) (by kernel_rfl) (fun D s W bA kK hD hW hF hA hK => ?_) ?_
    · have x8 := hA.o 8 _ rfl u8
      obtain ⟨⟨c0, z0⟩, -, -, -⟩ := hF.zq.rules
      have hF := Lib.hid hF
      clear hA
      go_simp
      exact hK.out _ _ ⟨hF.out.zb, hF.out.zq, hF.out.zt.step rfl rfl⟩
    refine FSteps.yes3 (bv := false) hz rfl (dv := [12, 13, 11, 11]) (by kernel_rfl) rfl (by kernel_rfl) (by kernel_rfl) (fun D s W hW hF => (hF.zt.get (j := 11) rfl hW.2.2.1)) (by kernel_rfl) (by kernel_rfl) (fun D s W bA kK hD hW hF hA hK => ?_) ?_
    · have x55 := hA.i 55 _ rfl rfl (hF.zt.get (j := 12) rfl hW.1)
      have x56 := hA.i 56 _ rfl rfl (hF.zt.get (j := 13) rfl hW.2.1)
      have hF := Lib.hid hF
      clear hA
      go_simp
      (go_at_call 18; ((with_reducible_and_instances refine (KS.out _).mono ?_)); rintro e W1 ⟨rfl, hb⟩; (try unfold abVal))
      (try go_wp2_with fail)
      exact hK.out _ _ ⟨hF.out.zb.on hb, Bks.on hb hF.out.zq, hF.out.zt.step rfl rfl⟩
    refine FSteps.yes3 (bv := false) hz rfl (dv := [14, 11]) (by kernel_rfl) rfl (by kernel_rfl) (by kernel_rfl) (fun D s W hW hF => (hF.zt.get (j := 11) rfl hW.2.1)) (by kernel_rfl) (by kernel_rfl) (fun D s W bA kK hD hW hF hA hK => ?_) ?_
    · have x57 := hA.i 57 _ rfl rfl (hF.zt.get (j := 14) rfl hW.1)
      have hF := Lib.hid hF
      clear hA
      go_simp
      exact hK.out _ _ ⟨hF.out.zb, hF.out.zq, hF.out.zt.step rfl rfl⟩
    refine FSteps.op3 hz rfl (dv := [11, 15]) (by kernel_rfl) (by kernel_rfl) (by kernel_rfl) (fun D s W bA kK hD hW hF hA hK => ?_) ?_
    · have x54 := hA.i 54 _ rfl rfl (hF.zt.get (j := 11) rfl hW.1)
      have x58 := hA.i 58 _ rfl rfl (hF.zt.get (j := 15) rfl hW.2.1)
      have hF := Lib.hid hF
      clear hA
      go_simp
      exact hK.out _ _ ⟨hF.out.zb, hF.out.zq, hF.out.zt.step rfl rfl⟩
    refine FSteps.op3 hz rfl (dv := [16, 14]) (by kernel_rfl) (by kernel_rfl) (by kernel_rfl) (fun D s W bA kK hD hW hF hA hK => ?_) ?_
    · have x59 := hA.i 59 _ rfl rfl (hF.zt.get (j := 16) rfl hW.1)
      have hF := Lib.hid hF
      clear hA
      go_simp
      exact hK.out _ _ ⟨hF.out.zb, hF.out.zq, hF.out.zt.step rfl rfl⟩
    refine FSteps.yes3 (bv := false) hz rfl (dv := [17]) (by kernel_rfl) rfl (by kernel_rfl) (by kernel_rfl) (fun D s W hW hF => (hF.zt.get (j := 17) rfl hW.1)) (by kernel_rfl) (by kernel_rfl) (fun D s W bA kK hD hW hF hA hK => ?_) ?_
    · have x11 := hA.o 11 _ rfl u11
      have hF := Lib.hid hF
      clear hA
      go_simp
      exact hK.out _ _ ⟨hF.out.zb, hF.out.zq, hF.out.zt.step rfl rfl⟩
    refine FSteps.yes3 (bv := false) hz rfl (dv := [18, 17, 17]) (by kernel_rfl) rfl (by kernel_rfl) (by kernel_rfl) (fun D s W hW hF => (hF.zt.get (j := 17) rfl hW.2.1)) (by kernel_rfl) (by kernel_rfl) (fun D s W bA kK hD hW hF hA hK => ?_) ?_
    · have x61 := hA.i 61 _ rfl rfl (hF.zt.get (j := 18) rfl hW.1)
      have hF := Lib.hid hF
      clear hA
      go_simp
      exact hK.out _ _ ⟨hF.out.zb, hF.out.zq, hF.out.zt.step rfl rfl⟩
    refine FSteps.no3 (bv := true) hz rfl (dv := [19]) (by kernel_rfl) rfl (by kernel_rfl) (by kernel_rfl) (fun D s W hW hF => (hF.zt.get (j := 19) rfl hW.1)) (by kernel_rfl) (by kernel_rfl) (fun D s W hD hF => ⟨hF.zb, hF.zq, hF.zt.step rfl rfl⟩) ?_
    refine FSteps.no3 (bv := true) hz rfl (dv := [19]) (by kernel_rfl) rfl (by kernel_rfl) (by kernel_rfl) (fun D s W hW hF => (hF.zt.get (j := 19) rfl hW.1)) (by kernel_rfl) (by kernel_rfl) (fun D s W hD hF => ⟨hF.zb, hF.zq, hF.zt.step rfl rfl⟩) ?_
    refine FSteps.no3 (bv := true) hz rfl (dv := [20, 21, 19, 19]) (by kernel_rfl) rfl (by kernel_rfl) (by kernel_rfl) (fun D s W hW hF => (hF.zt.get (j := 19) rfl hW.2.2.1)) (by kernel_rfl) (by kernel_rfl) (fun D s W hD hF => ⟨hF.zb, hF.zq, hF.zt.step rfl rfl⟩) ?_
    refine FSteps.yes3 (bv := false) hz rfl (dv := [19, 22, 17]) (by kernel_rfl) rfl (by kernel_rfl) (by kernel_rfl) (fun D s W hW hF => (hF.zt.get (j := 17) rfl hW.2.2.1)) (by kernel_rfl) (by kernel_rfl) (fun D s W bA kK hD hW hF hA hK => ?_) ?_
    · have x62 := hA.i 62 _ rfl rfl (hF.zt.get (j := 19) rfl hW.1)
      have x65 := hA.i 65 _ rfl rfl (hF.zt.get (j := 22) rfl hW.2.1)
      have hF := Lib.hid hF
      clear hA
      go_simp
      exact hK.out _ _ ⟨hF.out.zb, hF.out.zq, hF.out.zt.step rfl rfl⟩
    refine FSteps.yes3 (bv := false) hz rfl (dv := [23, 22, 17]) (by kernel_rfl) rfl (by kernel_rfl) (by kernel_rfl) (fun D s W hW hF => (hF.zt.get (j := 17) rfl hW.2.2.1)) (by kernel_rfl) (by kernel_rfl) (fun D s W bA kK hD hW hF hA hK => ?_) ?_
    · have x66 := hA.i 66 _ rfl rfl (hF.zt.get (j := 23) rfl hW.1)
      have hF := Lib.hid hF
      clear hA
      go_simp
      exact hK.out _ _ ⟨hF.out.zb, hF.out.zq, hF.out.zt.step rfl rfl⟩
    refine FSteps.no3 (bv := true) hz rfl (dv := [24]) (by kernel_rfl) rfl (by kernel_rfl) (by kernel_rfl) (fun D s W hW hF => (hF.zt.get (j := 24) rfl hW.1)) (by kernel_rfl) (by kernel_rfl) (fun D s W hD hF => ⟨hF.zb, hF.zq, hF.zt.step rfl rfl⟩) ?_
    refine FSteps.no3 (bv := true) hz rfl (dv := [24]) (by kernel_rfl) rfl (by kernel_rfl) (by kernel_rfl) (fun D s W hW hF => (hF.zt.get (j := 24) rfl hW.1)) (by kernel_rfl) (by kernel_rfl) (fun D s W hD hF => ⟨hF.zb, hF.zq, hF.zt.step rfl rfl⟩) ?_
    refine FSteps.no3 (bv := true) hz rfl (dv := [25, 26, 24]) (by kernel_rfl) rfl (by kernel_rfl) (by kernel_rfl) (fun D s W hW hF => (hF.zt.get (j := 24) rfl hW.2.2.1)) (by kernel_rfl) (by kernel_rfl) (fun D s W hD hF => ⟨hF.zb, hF.zq, hF.zt.step rfl rfl⟩) ?_
    refine FSteps.yes3 (bv := false) hz rfl (dv := [24, 27, 17]) (by kernel_rfl) rfl (by kernel_rfl) (by kernel_rfl) (fun D s W hW hF => (hF.zt.get (j := 17) rfl hW.2.2.1)) (by kernel_rfl) (by kernel_rfl) (fun D s W bA kK hD hW hF hA hK => ?_) ?_
    · have x67 := hA.i 67 _ rfl rfl (hF.zt.get (j := 24) rfl hW.1)
      have x70 := hA.i 70 _ rfl rfl (hF.zt.get (j := 27) rfl hW.2.1)
      have hF := Lib.hid hF
      clear hA
      go_simp
      exact hK.out _ _ ⟨hF.out.zb, hF.out.zq, hF.out.zt.step rfl rfl⟩
    refine FSteps.op3 hz rfl (dv := [17, 28]) (by kernel_rfl) (by kernel_rfl) (by kernel_rfl) (fun D s W bA kK hD hW hF hA hK => ?_) ?_
    · have x60 := hA.i 60 _ rfl rfl (hF.zt.get (j := 17) rfl hW.1)
      have x71 := hA.i 71 _ rfl rfl (hF.zt.get (j := 28) rfl hW.2.1)
      have hF := Lib.hid hF
      clear hA
      go_simp
      exact hK.out _ _ ⟨hF.out.zb, hF.out.zq, hF.out.zt.step rfl rfl⟩
    exact FSteps.nil
    intro D s W aF6 hD hF hz' df' hA
    obtain ⟨d0, d1, d2, d3, d4, d5, d6, d7, d8, d9, d10, d11, d12, d13, d14, d15, d16, d17, d18, d19, d20, d21, d22, d23, d24, d25, d26, d27, d28, d29, -⟩ := hD
    clear u11 u12
    replace u6 : Sl aF6 6 _ := hA.o 6 _ rfl u6
    replace u7 : Sl aF6 7 _ := hA.o 7 _ rfl u7
    replace u8 : Sl aF6 8 _ := hA.o 8 _ rfl u8
    replace u9 : Sl aF6 9 _ := hA.o 9 _ rfl u9
    replace u10 : Sl aF6 10 _ := hA.o 10 _ rfl u10
    have u72 : Sl aF6 72 _ := hA.i 72 _ rfl rfl (hF.zt.get (j := 29) rfl d29)
    have hM := hF.zb
    have hB := hF.zq
    have hB : Bks W [(n4_4, #[Value.int .i64 a.lo, Value.int .i64 a.hi, Value.int .i64 a.m, Value.int .i64 a.r, Value.int .i64 a.k], 27), (n4_5, #[Value.int .i64 b.lo, Value.int .i64 b.hi, Value.int .i64 b.m, Value.int .i64 b.r, Value.int .i64 b.k], 27), (n5_2, #[Value.int .i64 c.lo, Value.int .i64 c.hi, Value.int .i64 c.m, Value.int .i64 c.r, Value.int .i64 c.k], 27)] := ⟨hB.1, hB.2.1, hB.2.2.1, trivial⟩
    clear hF hA hz df d0 d1 d2 d3 d4 d5 d6 d7 d8 d9 d10 d11 d12 d13 d14 d15 d16 d17 d18 d19 d20 d21 d22 d23 d24 d25 d26 d27 d28 d29 hU
    have hz := hz'; have df := df'; clear hz' df'
    clear aF5
    show Code.wp _ _ _ _ _
    refine cond_f u72 ?_
    refine wp_skip ?_
    show Code.wp _ _ _ _ _
    exact order_t10 x0 x1 x2 x3 y0 y1 y2 y3 z0 z1 z2 z3 s1 k0 k1 k2 a b c big w1 w2 w3 w4 zf zg  w KJ KO1 KO2 KOL KP1 KP2 KPL KQ1 KQ2 KQL aF6 W n4_4 n4_5 n5_2  hz df u6 u7 u8 u9 u10 hM.b ⟨hB.1, hB.2.1, hB.2.2.1, trivial⟩
  · subst hq0 hq1 hq2; obtain rfl : t = false := by (rw [beq_eq_false_iff_ne.2 hmk] at hq; simpa using hq)
    replace hmk := Lib.hid hmk
    clear hq
    try clear hab
    refine wp_seq ?_
    obtain ⟨m7, hM, hU, hwm⟩ := start_region hM.b hB
    refine region_go (F := order_t7_r7_7 x0 x1 x2 x3 y0 y1 y2 y3 z0 z1 z2 z3 s1 k0 k1 k2 a b c big w1 w2 w3 w4 zf zg n4_4 n4_5 n5_2 w m7) [27, 28, 29, 30, 31, 32, 33, 34, 35, 36, 37, 38, 39, 40, 41, 42, 12] [0, 1, 2, 3, 4, 5, 6, 7, 8, 9, 10, 11, 12, 13, 14, 15, 16] hz df (by kernel_rfl) (by kernel_rfl) (by kernel_rfl) (fun s hs0 => ⟨hM.drew, Bks.drew hB, Vals.none s _⟩) ?_ ?_
    refine FSteps.op3 hz rfl (dv := []) (by kernel_rfl) (by kernel_rfl) (by kernel_rfl) (fun D s W bA kK hD hW hF hA hK => ?_) ?_
    · have x9 := hA.o 9 _ rfl u9
      obtain ⟨-, ⟨c1, z1⟩, -, -⟩ := hF.zq.rules
      have hF := Lib.hid hF
      clear hA
      go_simp
      exact hK.out _ _ ⟨hF.out.zb, hF.out.zq, hF.out.zt.step rfl rfl⟩
    refine FSteps.op3 hz rfl (dv := []) (by kernel_rfl) (by kernel_rfl) (by kernel_rfl) (fun D s W bA kK hD hW hF hA hK => ?_) ?_
    · have x8 := hA.o 8 _ rfl u8
      obtain ⟨⟨c0, z0⟩, -, -, -⟩ := hF.zq.rules
      have hF := Lib.hid hF
      clear hA
      go_simp
      exact hK.out _ _ ⟨hF.out.zb, hF.out.zq, hF.out.zt.step rfl rfl⟩
    refine FSteps.op3 hz rfl (dv := [1]) (by kernel_rfl) (by kernel_rfl) (by kernel_rfl) (fun D s W bA kK hD hW hF hA hK => ?_) ?_
    · have x28 := hA.i 28 _ rfl rfl (hF.zt.get (j := 1) rfl hW.1)
      have hF := Lib.hid hF
      clear hA
      go_simp
      (go_at_call 12; ((with_reducible_and_instances refine (KA0.out _).mono ?_)); rintro e W1 ⟨rfl, hb⟩; (try unfold abVal))
      (try go_wp2_with fail)
      exact hK.out _ _ ⟨hF.out.zb.on hb, Bks.on hb hF.out.zq, hF.out.zt.step rfl rfl⟩
    refine FSteps.op3 hz rfl (dv := [0, 2, 2]) (by kernel_rfl) (by kernel_rfl) (by kernel_rfl) (fun D s W bA kK hD hW hF hA hK => ?_) ?_
    · have x27 := hA.i 27 _ rfl rfl (hF.zt.get (j := 0) rfl hW.1)
      have x29 := hA.i 29 _ rfl rfl (hF.zt.get (j := 2) rfl hW.2.1)
      have hF := Lib.hid hF
      clear hA
      go_simp
      (go_at_call 13; ((with_reducible_and_instances refine (KH0.out _).mono ?_)); rintro e W1 ⟨rfl, hb⟩; (try unfold abVal))
      (try go_wp2_with fail)
      exact hK.out _ _ ⟨hF.out.zb.on hb, Bks.on hb hF.out.zq, hF.out.zt.step rfl rfl⟩
    refine FSteps.op3 hz rfl (dv := [3, 3]) (by kernel_rfl) (by kernel_rfl) (by kernel_rfl) (fun D s W bA kK hD hW hF hA hK => ?_) ?_
    · have x30 := hA.i 30 _ rfl rfl (hF.zt.get (j := 3) rfl hW.1)
      have hF := Lib.hid hF
      clear hA
      go_simp
      exact hK.out _ _ ⟨hF.out.zb, hF.out.zq, hF.out.zt.step rfl rfl⟩
    refine FSteps.yes3 (bv := true) hz rfl (dv := [4]) (by kernel_rfl) rfl (by kernel_rfl) (by kernel_rfl) (fun D s W hW hF => (hF.zt.get (j := 4) rfl hW.1)) (by kernel_rfl) (by kernel_rfl) (fun D s W bA kK hD hW hF hA hK => ?_) ?_
    · have x9 := hA.o 9 _ rfl u9
      obtain ⟨-, ⟨c1, z1⟩, -, -⟩ := hF.zq.rules
      have hF := Lib.hid hF
      clear hA
      go_simp
      exact hK.out _ _ ⟨hF.out.zb, hF.out.zq, hF.out.zt.step rfl rfl⟩
    refine FSteps.yes3 (bv := true) hz rfl (dv := [4]) (by kernel_rfl) rfl (by kernel_rfl) (by kernel_rfl) (fun D s W hW hF => (hF.zt.get (j := 4) rfl hW.1)) (by kernel_rfl) (by kernel_rfl) (fun D s W bA kK hD hW hF hA hK => ?_) ?_
    · have x8 := hA.o 8 _ rfl u8
      obtain ⟨⟨c0, z0⟩, -, -, -⟩ := hF.zq.rules
      have hF := Lib.hid hF
      clear hA
      go_simp
      exact hK.out _ _ ⟨hF.out.zb, hF.out.zq, hF.out.zt.step rfl rfl⟩
    refine FSteps.yes3 (bv := true) hz rfl (dv := [6, 4, 4]) (by kernel_rfl) rfl (by kernel_rfl) (by kernel_rfl) (fun D s W hW hF => (hF.zt.get (j := 4) rfl hW.2.1)) (by kernel_rfl) (by kernel_rfl) (fun D s W bA kK hD hW hF hA hK => ?_) ?_
    · have x33 := hA.i 33 _ rfl rfl (hF.zt.get (j := 6) rfl hW.1)
      have hF := Lib.hid hF
      clear hA
      go_simp
      (go_at_call 12; ((with_reducible_and_instances refine (KA1.out _).mono ?_)); rintro e W1 ⟨rfl, hb⟩; (try unfold abVal))
      (try go_wp2_with fail)
      exact hK.out _ _ ⟨hF.out.zb.on hb, Bks.on hb hF.out.zq, hF.out.zt.step rfl rfl⟩
    refine FSteps.yes3 (bv := true) hz rfl (dv := [5, 7, 7, 4]) (by kernel_rfl) rfl (by kernel_rfl) (by kernel_rfl) (fun D s W hW hF => (hF.zt.get (j := 4) rfl hW.2.2.2.1)) (by kernel_rfl) (by kernel_rfl) (fun D s W bA kK hD hW hF hA hK => ?_) ?_
    · have x32 := hA.i 32 _ rfl rfl (hF.zt.get (j := 5) rfl hW.1)
      have x34 := hA.i 34 _ rfl rfl (hF.zt.get (j := 7) rfl hW.2.1)
      have hF := Lib.hid hF
      clear hA
      go_simp
      (go_at_call 13; ((with_reducible_and_instances refine (KH1.out _).mono ?_)); rintro e W1 ⟨rfl, hb⟩; (try unfold abVal))
      (try go_wp2_with fail)
      exact hK.out _ _ ⟨hF.out.zb.on hb, Bks.on hb hF.out.zq, hF.out.zt.step rfl rfl⟩
    refine FSteps.op3 hz rfl (dv := [4, 8]) (by kernel_rfl) (by kernel_rfl) (by kernel_rfl) (fun D s W bA kK hD hW hF hA hK => ?_) ?_
    · have x31 := hA.i 31 _ rfl rfl (hF.zt.get (j := 4) rfl hW.1)
      have x35 := hA.i 35 _ rfl rfl (hF.zt.get (j := 8) rfl hW.2.1)
      have hF := Lib.hid hF
      clear hA
      go_simp
      exact hK.out _ _ ⟨hF.out.zb, hF.out.zq, hF.out.zt.step rfl rfl⟩
    refine FSteps.op3 hz rfl (dv := [9, 8]) (by kernel_rfl) (by kernel_rfl) (by kernel_rfl) (fun D s W bA kK hD hW hF hA hK => ?_) ?_
    · have x36 := hA.i 36 _ rfl rfl (hF.zt.get (j := 9) rfl hW.1)
      have hF := Lib.hid hF
      clear hA
      go_simp
      exact hK.out _ _ ⟨hF.out.zb, hF.out.zq, hF.out.zt.step rfl rfl⟩
    refine FSteps.yes3 (bv := true) hz rfl (dv := [10]) (by kernel_rfl) rfl (by kernel_rfl) (by kernel_rfl) (fun D s W hW hF => (hF.zt.get (j := 10) rfl hW.1)) (by kernel_rfl) (by kernel_rfl) (fun D s W bA kK hD hW hF hA hK => ?_) ?_
    · have x9 := hA.o 9 _ rfl u9
      obtain ⟨-, ⟨c1, z1⟩, -, -⟩ := hF.zq.rules
      have hF := Lib.hid hF
      clear hA
      go_simp
      exact hK.out _ _ ⟨hF.out.zb, hF.out.zq, hF.out.zt.step rfl rfl⟩
    refine FSteps.yes3 (bv := true) hz rfl (dv := [10]) (by kernel_rfl) rfl (by kernel_rfl) (by kernel_rfl) (fun D s W hW hF => (hF.zt.get (j := 10) rfl hW.1)) (by kernel_rfl) (by kernel_rfl) (fun D s W bA kK hD hW hF hA hK => ?_) ?_
    · have x8 := hA.o 8 _ rfl u8
      obtain ⟨⟨c0, z0⟩, -, -, -⟩ := hF.zq.rules
      have hF := Lib.hid hF
      clear hA
      go_simp
      exact hK.out _ _ ⟨hF.out.zb, hF.out.zq, hF.out.zt.step rfl rfl⟩
    refine FSteps.yes3 (bv := true) hz rfl (dv := [12, 10, 10]) (by kernel_rfl) rfl (by kernel_rfl) (by kernel_rfl) (fun D s W hW hF => (hF.zt.get (j := 10) rfl hW.2.1)) (by kernel_rfl) (by kernel_rfl) (fun D s W bA kK hD hW hF hA hK => ?_) ?_
    · have x39 := hA.i 39 _ rfl rfl (hF.zt.get (j := 12) rfl hW.1)
      have hF := Lib.hid hF
      clear hA
      go_simp
      (go_at_call 12; ((with_reducible_and_instances refine (KA2.out _).mono ?_)); rintro e W1 ⟨rfl, hb⟩; (try unfold abVal))
      (try go_wp2_with fail)
      exact hK.out _ _ ⟨hF.out.zb.on hb, Bks.on hb hF.out.zq, hF.out.zt.step rfl rfl⟩
    refine FSteps.yes3 (bv := true) hz rfl (dv := [11, 13, 13, 10]) (by kernel_rfl) rfl (by kernel_rfl) (by kernel_rfl) (fun D s W hW hF => (hF.zt.get (j := 10) rfl hW.2.2.2.1)) (by kernel_rfl) (by kernel_rfl) (fun D s W bA kK hD hW hF hA hK => ?_) ?_
    · have x38 := hA.i 38 _ rfl rfl (hF.zt.get (j := 11) rfl hW.1)
      have x40 := hA.i 40 _ rfl rfl (hF.zt.get (j := 13) rfl hW.2.1)
      have hF := Lib.hid hF
      clear hA
      go_simp
      (go_at_call 13; ((with_reducible_and_instances refine (KH2.out _).mono ?_)); rintro e W1 ⟨rfl, hb⟩; (try unfold abVal))
      (try go_wp2_with fail)
      exact hK.out _ _ ⟨hF.out.zb.on hb, Bks.on hb hF.out.zq, hF.out.zt.step rfl rfl⟩
    refine FSteps.op3 hz rfl (dv := [10, 14]) (by kernel_rfl) (by kernel_rfl) (by kernel_rfl) (fun D s W bA kK hD hW hF hA hK => ?_) ?_
    · have x37 := hA.i 37 _ rfl rfl (hF.zt.get (j := 10) rfl hW.1)
      have x41 := hA.i 41 _ rfl rfl (hF.zt.get (j := 14) rfl hW.2.1)
      have hF := Lib.hid hF
      clear hA
      go_simp
      exact hK.out _ _ ⟨hF.out.zb, hF.out.zq, hF.out.zt.step rfl rfl⟩
    refine FSteps.op3 hz rfl (dv := [15, 14, 0, 1, 2, 3, 4, 5, 6, 7, 8, 9, 10, 11, 12, 13, 14, 15]) (by kernel_rfl) (by kernel_rfl) (by kernel_rfl) (fun D s W bA kK hD hW hF hA hK => ?_) ?_
    · have x42 := hA.i 42 _ rfl rfl (hF.zt.get (j := 15) rfl hW.1)
      have hF := Lib.hid hF
      clear hA
      go_simp
      exact hK.out _ _ ⟨hF.out.zb, hF.out.zq, hF.out.zt.step rfl rfl⟩
    exact FSteps.nil
    intro D s W aF7 hD hF hz' df' hA
    obtain ⟨d0, d1, d2, d3, d4, d5, d6, d7, d8, d9, d10, d11, d12, d13, d14, d15, d16, -⟩ := hD
    replace u6 : Sl aF7 6 _ := hA.o 6 _ rfl u6
    replace u7 : Sl aF7 7 _ := hA.o 7 _ rfl u7
    replace u8 : Sl aF7 8 _ := hA.o 8 _ rfl u8
    replace u9 : Sl aF7 9 _ := hA.o 9 _ rfl u9
    replace u10 : Sl aF7 10 _ := hA.o 10 _ rfl u10
    replace u11 : Sl aF7 11 _ := hA.o 11 _ rfl u11
    have u12 : Sl aF7 12 _ := hA.i 12 _ rfl rfl (hF.zt.get (j := 16) rfl d16)
    have hM := hF.zb
    have hB := hF.zq
    have hB : Bks W [(n4_4, #[Value.int .i64 a.lo, Value.int .i64 a.hi, Value.int .i64 a.m, Value.int .i64 a.r, Value.int .i64 a.k], 27), (n4_5, #[Value.int .i64 b.lo, Value.int .i64 b.hi, Value.int .i64 b.m, Value.int .i64 b.r, Value.int .i64 b.k], 27), (n5_2, #[Value.int .i64 c.lo, Value.int .i64 c.hi, Value.int .i64 c.m, Value.int .i64 c.r, Value.int .i64 c.k], 27)] := ⟨hB.1, hB.2.1, hB.2.2.1, trivial⟩
    clear hF hA hz df d0 d1 d2 d3 d4 d5 d6 d7 d8 d9 d10 d11 d12 d13 d14 d15 d16 hU
    have hz := hz'; have df := df'; clear hz' df'
    clear aF
    show Code.wp _ _ _ _ _
    refine wp_seq ?_
    refine wp_seq ?_
    obtain ⟨m8, hM, hU, hwm⟩ := start_region hM.b hB
    refine region_run (F := order_t7_r8_8 x0 x1 x2 x3 y0 y1 y2 y3 z0 z1 z2 z3 s1 k0 k1 k2 a b c big w1 w2 w3 w4 zf zg n4_4 n4_5 n5_2 w m8) [43, 44, 45, 46, 47, 48, 49, 50, 51, 52, 53, 54, 55, 56, 57, 58, 59, 60, 61, 62, 63, 64, 65, 66, 67, 68, 69, 70, 71, 72] [0, 1, 2, 3, 4, 5, 6, 7, 8, 9, 10, 11, 12, 13, 14, 15, 16, 17, 18, 19, 20, 21, 22, 23, 24, 25, 26, 27, 28, 29] hz df (by kernel_rfl) (by kernel_rfl) (fun s hs0 => ⟨hM, hB, Vals.none s _⟩) ?_ ?_
    refine FSteps.op3 hz rfl (dv := []) (by kernel_rfl) (by kernel_rfl) (by kernel_rfl) (fun D s W bA kK hD hW hF hA hK => ?_) ?_
    · have x11 := hA.o 11 _ rfl u11
      have hF := Lib.hid hF
      clear hA
      go_simp
      exact hK.out _ _ ⟨hF.out.zb, hF.out.zq, hF.out.zt.step rfl rfl⟩
    refine FSteps.op3 hz rfl (dv := []) (by kernel_rfl) (by kernel_rfl) (by kernel_rfl) (fun D s W bA kK hD hW hF hA hK => ?_) ?_
    · have x12 := hA.o 12 _ rfl u12
      have hF := Lib.hid hF
      clear hA
      go_simp
      exact hK.out _ _ ⟨hF.out.zb, hF.out.zq, hF.out.zt.step rfl rfl⟩
    refine FSteps.op3 hz rfl (dv := [1]) (by kernel_rfl) (by kernel_rfl) (by kernel_rfl) (fun D s W bA kK hD hW hF hA hK => ?_) ?_
    · have x44 := hA.i 44 _ rfl rfl (hF.zt.get (j := 1) rfl hW.1)
      have hF := Lib.hid hF
      clear hA
      go_simp
      exact hK.out _ _ ⟨hF.out.zb, hF.out.zq, hF.out.zt.step rfl rfl⟩
    refine FSteps.yes3 (bv := true) hz rfl (dv := [2]) (by kernel_rfl) rfl (by kernel_rfl) (by kernel_rfl) (fun D s W hW hF => (hF.zt.get (j := 2) rfl hW.1)) (by kernel_rfl) (by kernel_rfl) (fun D s W bA kK hD hW hF hA hK => ?_) ?_
    · have x8 := hA.o 8 _ rfl u8
      have hF := Lib.hid hF
      clear hA
      go_simp
      exact hK.out _ _ ⟨hF.out.zb, hF.out.zq, hF.out.zt.step rfl rfl⟩
    refine FSteps.yes3 (bv := true) hz rfl (dv := [3, 2]) (by kernel_rfl) rfl (by kernel_rfl) (by kernel_rfl) (fun D s W hW hF => (hF.zt.get (j := 2) rfl hW.2.1)) (by kernel_rfl) (by kernel_rfl) (fun D s W bA kK hD hW hF hA hK => ?_) ?_
    · have x46 := hA.i 46 _ rfl rfl (hF.zt.get (j := 3) rfl hW.1)
      obtain ⟨⟨c0, z0⟩, -, -, -⟩ := hF.zq.rules
      have hF := Lib.hid hF
      clear hA
      go_simp
      exact hK.out _ _ ⟨hF.out.zb, hF.out.zq, hF.out.zt.step rfl rfl⟩
    refine FSteps.yes3 (bv := true) hz rfl (dv := [2]) (by kernel_rfl) rfl (by kernel_rfl) (by kernel_rfl) (fun D s W hW hF => (hF.zt.get (j := 2) rfl hW.1)) (by kernel_rfl) (by kernel_rfl) (fun D s W bA kK hD hW hF hA hK => ?_) ?_
    · have x9 := hA.o 9 _ rfl u9
      have hF := Lib.hid hF
      clear hA
      go_simp
      exact hK.out _ _ ⟨hF.out.zb, hF.out.zq, hF.out.zt.step rfl rfl⟩
    refine FSteps.yes3 (bv := true) hz rfl (dv := [5, 2]) (by kernel_rfl) rfl (by kernel_rfl) (by kernel_rfl) (fun D s W hW hF => (hF.zt.get (j := 2) rfl hW.2.1)) (by kernel_rfl) (by kernel_rfl) (fun D s W bA kK hD hW hF hA hK => ?_) ?_
    · have x48 := hA.i 48 _ rfl rfl (hF.zt.get (j := 5) rfl hW.1)
      obtain ⟨-, ⟨c1, z1⟩, -, -⟩ := hF.zq.rules
      have hF := Lib.hid hF
      clear hA
      go_simp
      exact hK.out _ _ ⟨hF.out.zb, hF.out.zq, hF.out.zt.step rfl rfl⟩
    refine FSteps.yes3 (bv := true) hz rfl (dv := [4, 6, 2]) (by kernel_rfl) rfl (by kernel_rfl) (by kernel_rfl) (fun D s W hW hF => (hF.zt.get (j := 2) rfl hW.2.2.1)) (by kernel_rfl) (by kernel_rfl) (fun D s W bA kK hD hW hF hA hK => ?_) ?_
    · have x47 := hA.i 47 _ rfl rfl (hF.zt.get (j := 4) rfl hW.1)
      have x49 := hA.i 49 _ rfl rfl (hF.zt.get (j := 6) rfl hW.2.1)
      have hF := Lib.hid hF
      clear hA
      go_simp
      exact hK.out _ _ ⟨hF.out.zb, hF.out.zq, hF.out.zt.step rfl rfl⟩
    refine FSteps.yes3 (bv := true) hz rfl (dv := [7, 2]) (by kernel_rfl) rfl (by kernel_rfl) (by kernel_rfl) (fun D s W hW hF => (hF.zt.get (j := 2) rfl hW.2.1)) (by kernel_rfl) (by kernel_rfl) (fun D s W bA kK hD hW hF hA hK => ?_) ?_
    · have x50 := hA.i 50 _ rfl rfl (hF.zt.get (j := 7) rfl hW.1)
      have hF := Lib.hid hF
      clear hA
      have hd8 : ((bits .andNot .i64 a.k b.k) == 0) = false := beq_eq_false_iff_ne.2 (by exact hmk.out)
      go_simp
      exact hK.out _ _ ⟨hF.out.zb, hF.out.zq, hF.out.zt.step rfl rfl⟩
    refine FSteps.op3 hz rfl (dv := [2, 8]) (by kernel_rfl) (by kernel_rfl) (by kernel_rfl) (fun D s W bA kK hD hW hF hA hK => ?_) ?_
    · have x45 := hA.i 45 _ rfl rfl (hF.zt.get (j := 2) rfl hW.1)
      have x51 := hA.i 51 _ rfl rfl (hF.zt.get (j := 8) rfl hW.2.1)
      have hF := Lib.hid hF
      clear hA
      go_simp
      exact hK.out _ _ ⟨hF.out.zb, hF.out.zq, hF.out.zt.step rfl rfl⟩
    refine FSteps.op3 hz rfl (dv := [0, 9]) (by kernel_rfl) (by kernel_rfl) (by kernel_rfl) (fun D s W bA kK hD hW hF hA hK => ?_) ?_
    · have x43 := hA.i 43 _ rfl rfl (hF.zt.get (j := 0) rfl hW.1)
      have x52 := hA.i 52 _ rfl rfl (hF.zt.get (j := 9) rfl hW.2.1)
      have hF := Lib.hid hF
      clear hA
      have hbb : (false != false) = false := rfl
      go_simp
      exact hK.out _ _ ⟨hF.out.zb, hF.out.zq, hF.out.zt.step rfl rfl⟩
    refine FSteps.op3 hz rfl (dv := [10, 2]) (by kernel_rfl) (by kernel_rfl) (by kernel_rfl) (fun D s W bA kK hD hW hF hA hK => ?_) ?_
    · have x53 := hA.i 53 _ rfl rfl (hF.zt.get (j := 10) rfl hW.1)
      have hF := Lib.hid hF
      clear hA
      go_simp
      exact hK.out _ _ ⟨hF.out.zb, hF.out.zq, hF.out.zt.step rfl rfl⟩
    refine FSteps.yes3 (bv := false) hz rfl (dv := [11]) (by kernel_rfl) rfl (by kernel_rfl) (by kernel_rfl) (fun D s W hW hF => (hF.zt.get (j := 11) rfl hW.1)) (by kernel_rfl) (by kernel_rfl) (fun D s W bA kK hD hW hF hA hK => ?_) ?_
    · have x8 := hA.o 8 _ rfl u8
      obtain ⟨⟨c0, z0⟩, -, -, -⟩ := hF.zq.rules
      have hF := Lib.hid hF
      clear hA
      go_simp
      exact hK.out _ _ ⟨hF.out.zb, hF.out.zq, hF.out.zt.step rfl rfl⟩
    refine FSteps.yes3 (bv := false) hz rfl (dv := [11]) (by kernel_rfl) rfl (by kernel_rfl) (by kernel_rfl) (fun D s W hW hF => (hF.zt.get (j := 11) rfl hW.1)) (by kernel_rfl) (by kernel_rfl) (fun D s W bA kK hD hW hF hA hK => ?_) ?_
    · have x8 := hA.o 8 _ rfl u8
      obtain ⟨⟨c0, z0⟩, -, -, -⟩ := hF.zq.rules
      have hF := Lib.hid hF
      clear hA
      go_simp
      exact hK.out _ _ ⟨hF.out.zb, hF.out.zq, hF.out.zt.step rfl rfl⟩
    refine FSteps.yes3 (bv := false) hz rfl (dv := [12, 13, 11, 11]) (by kernel_rfl) rfl (by kernel_rfl) (by kernel_rfl) (fun D s W hW hF => (hF.zt.get (j := 11) rfl hW.2.2.1)) (by kernel_rfl) (by kernel_rfl) (fun D s W bA kK hD hW hF hA hK => ?_) ?_
    · have x55 := hA.i 55 _ rfl rfl (hF.zt.get (j := 12) rfl hW.1)
      have x56 := hA.i 56 _ rfl rfl (hF.zt.get (j := 13) rfl hW.2.1)
      have hF := Lib.hid hF
      clear hA
      go_simp
      (go_at_call 18; ((with_reducible_and_instances refine (KS.out _).mono ?_)); rintro e W1 ⟨rfl, hb⟩; (try unfold abVal))
      (try go_wp2_with fail)
      exact hK.out _ _ ⟨hF.out.zb.on hb, Bks.on hb hF.out.zq, hF.out.zt.step rfl rfl⟩
    refine FSteps.yes3 (bv := false) hz rfl (dv := [14, 11]) (by kernel_rfl) rfl (by kernel_rfl) (by kernel_rfl) (fun D s W hW hF => (hF.zt.get (j := 11) rfl hW.2.1)) (by kernel_rfl) (by kernel_rfl) (fun D s W bA kK hD hW hF hA hK => ?_) ?_
    · have x57 := hA.i 57 _ rfl rfl (hF.zt.get (j := 14) rfl hW.1)
      have hF := Lib.hid hF
      clear hA
      go_simp
      exact hK.out _ _ ⟨hF.out.zb, hF.out.zq, hF.out.zt.step rfl rfl⟩
    refine FSteps.op3 hz rfl (dv := [11, 15]) (by kernel_rfl) (by kernel_rfl) (by kernel_rfl) (fun D s W bA kK hD hW hF hA hK => ?_) ?_
    · have x54 := hA.i 54 _ rfl rfl (hF.zt.get (j := 11) rfl hW.1)
      have x58 := hA.i 58 _ rfl rfl (hF.zt.get (j := 15) rfl hW.2.1)
      have hF := Lib.hid hF
      clear hA
      go_simp
      exact hK.out _ _ ⟨hF.out.zb, hF.out.zq, hF.out.zt.step rfl rfl⟩
    refine FSteps.op3 hz rfl (dv := [16, 14]) (by kernel_rfl) (by kernel_rfl) (by kernel_rfl) (fun D s W bA kK hD hW hF hA hK => ?_) ?_
    · have x59 := hA.i 59 _ rfl rfl (hF.zt.get (j := 16) rfl hW.1)
      have hF := Lib.hid hF
      clear hA
      go_simp
      exact hK.out _ _ ⟨hF.out.zb, hF.out.zq, hF.out.zt.step rfl rfl⟩
    refine FSteps.yes3 (bv := false) hz rfl (dv := [17]) (by kernel_rfl) rfl (by kernel_rfl) (by kernel_rfl) (fun D s W hW hF => (hF.zt.get (j := 17) rfl hW.1)) (by kernel_rfl) (by kernel_rfl) (fun D s W bA kK hD hW hF hA hK => ?_) ?_
    · have x11 := hA.o 11 _ rfl u11
      have hF := Lib.hid hF
      clear hA
      go_simp
      exact hK.out _ _ ⟨hF.out.zb, hF.out.zq, hF.out.zt.step rfl rfl⟩
    refine FSteps.yes3 (bv := false) hz rfl (dv := [18, 17, 17]) (by kernel_rfl) rfl (by kernel_rfl) (by kernel_rfl) (fun D s W hW hF => (hF.zt.get (j := 17) rfl hW.2.1)) (by kernel_rfl) (by kernel_rfl) (fun D s W bA kK hD hW hF hA hK => ?_) ?_
    · have x61 := hA.i 61 _ rfl rfl (hF.zt.get (j := 18) rfl hW.1)
      have hF := Lib.hid hF
      clear hA
      go_simp
      exact hK.out _ _ ⟨hF.out.zb, hF.out.zq, hF.out.zt.step rfl rfl⟩
    refine FSteps.no3 (bv := true) hz rfl (dv := [19]) (by kernel_rfl) rfl (by kernel_rfl) (by kernel_rfl) (fun D s W hW hF => (hF.zt.get (j := 19) rfl hW.1)) (by kernel_rfl) (by kernel_rfl) (fun D s W hD hF => ⟨hF.zb, hF.zq, hF.zt.step rfl rfl⟩) ?_
    refine FSteps.no3 (bv := true) hz rfl (dv := [19]) (by kernel_rfl) rfl (by kernel_rfl) (by kernel_rfl) (fun D s W hW hF => (hF.zt.get (j := 19) rfl hW.1)) (by kernel_rfl) (by kernel_rfl) (fun D s W hD hF => ⟨hF.zb, hF.zq, hF.zt.step rfl rfl⟩) ?_
    refine FSteps.no3 (bv := true) hz rfl (dv := [20, 21, 19, 19]) (by kernel_rfl) rfl (by kernel_rfl) (by kernel_rfl) (fun D s W hW hF => (hF.zt.get (j := 19) rfl hW.2.2.1)) (by kernel_rfl) (by kernel_rfl) (fun D s W hD hF => ⟨hF.zb, hF.zq, hF.zt.step rfl rfl⟩) ?_
    refine FSteps.yes3 (bv := false) hz rfl (dv := [19, 22, 17]) (by kernel_rfl) rfl (by kernel_rfl) (by kernel_rfl) (fun D s W hW hF => (hF.zt.get (j := 17) rfl hW.2.2.1)) (by kernel_rfl) (by kernel_rfl) (fun D s W bA kK hD hW hF hA hK => ?_) ?_
    · have x62 := hA.i 62 _ rfl rfl (hF.zt.get (j := 19) rfl hW.1)
      have x65 := hA.i 65 _ rfl rfl (hF.zt.get (j := 22) rfl hW.2.1)
      have hF := Lib.hid hF
      clear hA
      go_simp
      exact hK.out _ _ ⟨hF.out.zb, hF.out.zq, hF.out.zt.step rfl rfl⟩
    refine FSteps.yes3 (bv := false) hz rfl (dv := [23, 22, 17]) (by kernel_rfl) rfl (by kernel_rfl) (by kernel_rfl) (fun D s W hW hF => (hF.zt.get (j := 17) rfl hW.2.2.1)) (by kernel_rfl) (by kernel_rfl) (fun D s W bA kK hD hW hF hA hK => ?_) ?_
    · have x66 := hA.i 66 _ rfl rfl (hF.zt.get (j := 23) rfl hW.1)
      have hF := Lib.hid hF
      clear hA
      go_simp
      exact hK.out _ _ ⟨hF.out.zb, hF.out.zq, hF.out.zt.step rfl rfl⟩
    refine FSteps.no3 (bv := true) hz rfl (dv := [24]) (by kernel_rfl) rfl (by kernel_rfl) (by kernel_rfl) (fun D s W hW hF => (hF.zt.get (j := 24) rfl hW.1)) (by kernel_rfl) (by kernel_rfl) (fun D s W hD hF => ⟨hF.zb, hF.zq, hF.zt.step rfl rfl⟩) ?_
    refine FSteps.no3 (bv := true) hz rfl (dv := [24]) (by kernel_rfl) rfl (by kernel_rfl) (by kernel_rfl) (fun D s W hW hF => (hF.zt.get (j := 24) rfl hW.1)) (by kernel_rfl) (by kernel_rfl) (fun D s W hD hF => ⟨hF.zb, hF.zq, hF.zt.step rfl rfl⟩) ?_
    refine FSteps.no3 (bv := true) hz rfl (dv := [25, 26, 24]) (by kernel_rfl) rfl (by kernel_rfl) (by kernel_rfl) (fun D s W hW hF => (hF.zt.get (j := 24) rfl hW.2.2.1)) (by kernel_rfl) (by kernel_rfl) (fun D s W hD hF => ⟨hF.zb, hF.zq, hF.zt.step rfl rfl⟩) ?_
    refine FSteps.yes3 (bv := false) hz rfl (dv := [24, 27, 17]) (by kernel_rfl) rfl (by kernel_rfl) (by kernel_rfl) (fun D s W hW hF => (hF.zt.get (j := 17) rfl hW.2.2.1)) (by kernel_rfl) (by kernel_rfl) (fun D s W bA kK hD hW hF hA hK => ?_) ?_
    · have x67 := hA.i 67 _ rfl rfl (hF.zt.get (j := 24) rfl hW.1)
      have x70 := hA.i 70 _ rfl rfl (hF.zt.get (j := 27) rfl hW.2.1)
      have hF := Lib.hid hF
      clear hA
      go_simp
      exact hK.out _ _ ⟨hF.out.zb, hF.out.zq, hF.out.zt.step rfl rfl⟩
    refine FSteps.op3 hz rfl (dv := [17, 28]) (by kernel_rfl) (by kernel_rfl) (by kernel_rfl) (fun D s W bA kK hD hW hF hA hK => ?_) ?_
    · have x60 := hA.i 60 _ rfl rfl (hF.zt.get (j := 17) rfl hW.1)
      have x71 := hA.i 71 _ rfl rfl (hF.zt.get (j := 28) rfl hW.2.1)
      have hF := Lib.hid hF
      clear hA
      go_simp
      exact hK.out _ _ ⟨hF.out.zb, hF.out.zq, hF.out.zt.step rfl rfl⟩
    exact FSteps.nil
    intro D s W aF8 hD hF hz' df' hA
    obtain ⟨d0, d1, d2, d3, d4, d5, d6, d7, d8, d9, d10, d11, d12, d13, d14, d15, d16, d17, d18, d19, d20, d21, d22, d23, d24, d25, d26, d27, d28, d29, -⟩ := hD
    clear u11 u12
    replace u6 : Sl aF8 6 _ := hA.o 6 _ rfl u6
    replace u7 : Sl aF8 7 _ := hA.o 7 _ rfl u7
    replace u8 : Sl aF8 8 _ := hA.o 8 _ rfl u8
    replace u9 : Sl aF8 9 _ := hA.o 9 _ rfl u9
    replace u10 : Sl aF8 10 _ := hA.o 10 _ rfl u10
    have u72 : Sl aF8 72 _ := hA.i 72 _ rfl rfl (hF.zt.get (j := 29) rfl d29)
    have hM := hF.zb
    have hB := hF.zq
    have hB : Bks W [(n4_4, #[Value.int .i64 a.lo, Value.int .i64 a.hi, Value.int .i64 a.m, Value.int .i64 a.r, Value.int .i64 a.k], 27), (n4_5, #[Value.int .i64 b.lo, Value.int .i64 b.hi, Value.int .i64 b.m, Value.int .i64 b.r, Value.int .i64 b.k], 27), (n5_2, #[Value.int .i64 c.lo, Value.int .i64 c.hi, Value.int .i64 c.m, Value.int .i64 c.r, Value.int .i64 c.k], 27)] := ⟨hB.1, hB.2.1, hB.2.2.1, trivial⟩
    clear hF hA hz df d0 d1 d2 d3 d4 d5 d6 d7 d8 d9 d10 d11 d12 d13 d14 d15 d16 d17 d18 d19 d20 d21 d22 d23 d24 d25 d26 d27 d28 d29 hU
    have hz := hz'; have df := df'; clear hz' df'
    clear aF7
    show Code.wp _ _ _ _ _
    refine cond_f u72 ?_
    refine wp_skip ?_
    show Code.wp _ _ _ _ _
    exact order_t10 x0 x1 x2 x3 y0 y1 y2 y3 z0 z1 z2 z3 s1 k0 k1 k2 a b c big w1 w2 w3 w4 zf zg  w KJ KO1 KO2 KOL KP1 KP2 KPL KQ1 KQ2 KQL aF8 W n4_4 n4_5 n5_2  hz df u6 u7 u8 u9 u10 hM.b ⟨hB.1, hB.2.1, hB.2.2.1, trivial⟩
  · subst hq0 hq1 hq2 hu; obtain rfl : t = true := by (rw [beq_iff_eq.2 hmk] at hq; simpa using hq)
    replace hmk := Lib.hid hmk
    clear hq
    try clear hab
    refine wp_seq ?_
    obtain ⟨m9, hM, hU, hwm⟩ := start_region hM.b hB
    refine region_go (F := order_t7_r7_9 x0 x1 x2 x3 y0 y1 y2 y3 z0 z1 z2 z3 s1 k0 k1 k2 a b c big w1 w2 w3 w4 zf zg n4_4 n4_5 n5_2 w m9) [27, 28, 29, 30, 31, 32, 33, 34, 35, 36, 37, 38, 39, 40, 41, 42, 12] [0, 1, 2, 3, 4, 5, 6, 7, 8, 9, 10, 11, 12, 13, 14, 15, 16] hz df (by kernel_rfl) (by kernel_rfl) (by kernel_rfl) (fun s hs0 => ⟨hM.drew, Bks.drew hB, Vals.none s _⟩) ?_ ?_
    refine FSteps.op3 hz rfl (dv := []) (by kernel_rfl) (by kernel_rfl) (by kernel_rfl) (fun D s W bA kK hD hW hF hA hK => ?_) ?_
    · have x9 := hA.o 9 _ rfl u9
      obtain ⟨-, ⟨c1, z1⟩, -, -⟩ := hF.zq.rules
      have hF := Lib.hid hF
      clear hA
      go_simp
      exact hK.out _ _ ⟨hF.out.zb, hF.out.zq, hF.out.zt.step rfl rfl⟩
    refine FSteps.op3 hz rfl (dv := []) (by kernel_rfl) (by kernel_rfl) (by kernel_rfl) (fun D s W bA kK hD hW hF hA hK => ?_) ?_
    · have x8 := hA.o 8 _ rfl u8
      obtain ⟨⟨c0, z0⟩, -, -, -⟩ := hF.zq.rules
      have hF := Lib.hid hF
      clear hA
      go_simp
      exact hK.out _ _ ⟨hF.out.zb, hF.out.zq, hF.out.zt.step rfl rfl⟩
    refine FSteps.op3 hz rfl (dv := [1]) (by kernel_rfl) (by kernel_rfl) (by kernel_rfl) (fun D s W bA kK hD hW hF hA hK => ?_) ?_
    · have x28 := hA.i 28 _ rfl rfl (hF.zt.get (j := 1) rfl hW.1)
      have hF := Lib.hid hF
      clear hA
      go_simp
      (go_at_call 12; ((with_reducible_and_instances refine (KA0.out _).mono ?_)); rintro e W1 ⟨rfl, hb⟩; (try unfold abVal))
      (try go_wp2_with fail)
      exact hK.out _ _ ⟨hF.out.zb.on hb, Bks.on hb hF.out.zq, hF.out.zt.step rfl rfl⟩
    refine FSteps.op3 hz rfl (dv := [0, 2, 2]) (by kernel_rfl) (by kernel_rfl) (by kernel_rfl) (fun D s W bA kK hD hW hF hA hK => ?_) ?_
    · have x27 := hA.i 27 _ rfl rfl (hF.zt.get (j := 0) rfl hW.1)
      have x29 := hA.i 29 _ rfl rfl (hF.zt.get (j := 2) rfl hW.2.1)
      have hF := Lib.hid hF
      clear hA
      go_simp
      (go_at_call 13; ((with_reducible_and_instances refine (KH0.out _).mono ?_)); rintro e W1 ⟨rfl, hb⟩; (try unfold abVal))
      (try go_wp2_with fail)
      exact hK.out _ _ ⟨hF.out.zb.on hb, Bks.on hb hF.out.zq, hF.out.zt.step rfl rfl⟩
    refine FSteps.op3 hz rfl (dv := [3, 3]) (by kernel_rfl) (by kernel_rfl) (by kernel_rfl) (fun D s W bA kK hD hW hF hA hK => ?_) ?_
    · have x30 := hA.i 30 _ rfl rfl (hF.zt.get (j := 3) rfl hW.1)
      have hF := Lib.hid hF
      clear hA
      go_simp
      exact hK.out _ _ ⟨hF.out.zb, hF.out.zq, hF.out.zt.step rfl rfl⟩
    refine FSteps.yes3 (bv := true) hz rfl (dv := [4]) (by kernel_rfl) rfl (by kernel_rfl) (by kernel_rfl) (fun D s W hW hF => (hF.zt.get (j := 4) rfl hW.1)) (by kernel_rfl) (by kernel_rfl) (fun D s W bA kK hD hW hF hA hK => ?_) ?_
    · have x9 := hA.o 9 _ rfl u9
      obtain ⟨-, ⟨c1, z1⟩, -, -⟩ := hF.zq.rules
      have hF := Lib.hid hF
      clear hA
      go_simp
      exact hK.out _ _ ⟨hF.out.zb, hF.out.zq, hF.out.zt.step rfl rfl⟩
    refine FSteps.yes3 (bv := true) hz rfl (dv := [4]) (by kernel_rfl) rfl (by kernel_rfl) (by kernel_rfl) (fun D s W hW hF => (hF.zt.get (j := 4) rfl hW.1)) (by kernel_rfl) (by kernel_rfl) (fun D s W bA kK hD hW hF hA hK => ?_) ?_
    · have x8 := hA.o 8 _ rfl u8
      obtain ⟨⟨c0, z0⟩, -, -, -⟩ := hF.zq.rules
      have hF := Lib.hid hF
      clear hA
      go_simp
      exact hK.out _ _ ⟨hF.out.zb, hF.out.zq, hF.out.zt.step rfl rfl⟩
    refine FSteps.yes3 (bv := true) hz rfl (dv := [6, 4, 4]) (by kernel_rfl) rfl (by kernel_rfl) (by kernel_rfl) (fun D s W hW hF => (hF.zt.get (j := 4) rfl hW.2.1)) (by kernel_rfl) (by kernel_rfl) (fun D s W bA kK hD hW hF hA hK => ?_) ?_
    · have x33 := hA.i 33 _ rfl rfl (hF.zt.get (j := 6) rfl hW.1)
      have hF := Lib.hid hF
      clear hA
      go_simp
      (go_at_call 12; ((with_reducible_and_instances refine (KA1.out _).mono ?_)); rintro e W1 ⟨rfl, hb⟩; (try unfold abVal))
      (try go_wp2_with fail)
      exact hK.out _ _ ⟨hF.out.zb.on hb, Bks.on hb hF.out.zq, hF.out.zt.step rfl rfl⟩
    refine FSteps.yes3 (bv := true) hz rfl (dv := [5, 7, 7, 4]) (by kernel_rfl) rfl (by kernel_rfl) (by kernel_rfl) (fun D s W hW hF => (hF.zt.get (j := 4) rfl hW.2.2.2.1)) (by kernel_rfl) (by kernel_rfl) (fun D s W bA kK hD hW hF hA hK => ?_) ?_
    · have x32 := hA.i 32 _ rfl rfl (hF.zt.get (j := 5) rfl hW.1)
      have x34 := hA.i 34 _ rfl rfl (hF.zt.get (j := 7) rfl hW.2.1)
      have hF := Lib.hid hF
      clear hA
      go_simp
      (go_at_call 13; ((with_reducible_and_instances refine (KH1.out _).mono ?_)); rintro e W1 ⟨rfl, hb⟩; (try unfold abVal))
      (try go_wp2_with fail)
      exact hK.out _ _ ⟨hF.out.zb.on hb, Bks.on hb hF.out.zq, hF.out.zt.step rfl rfl⟩
    refine FSteps.op3 hz rfl (dv := [4, 8]) (by kernel_rfl) (by kernel_rfl) (by kernel_rfl) (fun D s W bA kK hD hW hF hA hK => ?_) ?_
    · have x31 := hA.i 31 _ rfl rfl (hF.zt.get (j := 4) rfl hW.1)
      have x35 := hA.i 35 _ rfl rfl (hF.zt.get (j := 8) rfl hW.2.1)
      have hF := Lib.hid hF
      clear hA
      go_simp
      exact hK.out _ _ ⟨hF.out.zb, hF.out.zq, hF.out.zt.step rfl rfl⟩
    refine FSteps.op3 hz rfl (dv := [9, 8]) (by kernel_rfl) (by kernel_rfl) (by kernel_rfl) (fun D s W bA kK hD hW hF hA hK => ?_) ?_
    · have x36 := hA.i 36 _ rfl rfl (hF.zt.get (j := 9) rfl hW.1)
      have hF := Lib.hid hF
      clear hA
      go_simp
      exact hK.out _ _ ⟨hF.out.zb, hF.out.zq, hF.out.zt.step rfl rfl⟩
    refine FSteps.yes3 (bv := true) hz rfl (dv := [10]) (by kernel_rfl) rfl (by kernel_rfl) (by kernel_rfl) (fun D s W hW hF => (hF.zt.get (j := 10) rfl hW.1)) (by kernel_rfl) (by kernel_rfl) (fun D s W bA kK hD hW hF hA hK => ?_) ?_
    · have x9 := hA.o 9 _ rfl u9
      obtain ⟨-, ⟨c1, z1⟩, -, -⟩ := hF.zq.rules
      have hF := Lib.hid hF
      clear hA
      go_simp
      exact hK.out _ _ ⟨hF.out.zb, hF.out.zq, hF.out.zt.step rfl rfl⟩
    refine FSteps.yes3 (bv := true) hz rfl (dv := [10]) (by kernel_rfl) rfl (by kernel_rfl) (by kernel_rfl) (fun D s W hW hF => (hF.zt.get (j := 10) rfl hW.1)) (by kernel_rfl) (by kernel_rfl) (fun D s W bA kK hD hW hF hA hK => ?_) ?_
    · have x8 := hA.o 8 _ rfl u8
      obtain ⟨⟨c0, z0⟩, -, -, -⟩ := hF.zq.rules
      have hF := Lib.hid hF
      clear hA
      go_simp
      exact hK.out _ _ ⟨hF.out.zb, hF.out.zq, hF.out.zt.step rfl rfl⟩
    refine FSteps.yes3 (bv := true) hz rfl (dv := [12, 10, 10]) (by kernel_rfl) rfl (by kernel_rfl) (by kernel_rfl) (fun D s W hW hF => (hF.zt.get (j := 10) rfl hW.2.1)) (by kernel_rfl) (by kernel_rfl) (fun D s W bA kK hD hW hF hA hK => ?_) ?_
    · have x39 := hA.i 39 _ rfl rfl (hF.zt.get (j := 12) rfl hW.1)
      have hF := Lib.hid hF
      clear hA
      go_simp
      (go_at_call 12; ((with_reducible_and_instances refine (KA2.out _).mono ?_)); rintro e W1 ⟨rfl, hb⟩; (try unfold abVal))
      (try go_wp2_with fail)
      exact hK.out _ _ ⟨hF.out.zb.on hb, Bks.on hb hF.out.zq, hF.out.zt.step rfl rfl⟩
    refine FSteps.yes3 (bv := true) hz rfl (dv := [11, 13, 13, 10]) (by kernel_rfl) rfl (by kernel_rfl) (by kernel_rfl) (fun D s W hW hF => (hF.zt.get (j := 10) rfl hW.2.2.2.1)) (by kernel_rfl) (by kernel_rfl) (fun D s W bA kK hD hW hF hA hK => ?_) ?_
    · have x38 := hA.i 38 _ rfl rfl (hF.zt.get (j := 11) rfl hW.1)
      have x40 := hA.i 40 _ rfl rfl (hF.zt.get (j := 13) rfl hW.2.1)
      have hF := Lib.hid hF
      clear hA
      go_simp
      (go_at_call 13; ((with_reducible_and_instances refine (KH2.out _).mono ?_)); rintro e W1 ⟨rfl, hb⟩; (try unfold abVal))
      (try go_wp2_with fail)
      exact hK.out _ _ ⟨hF.out.zb.on hb, Bks.on hb hF.out.zq, hF.out.zt.step rfl rfl⟩
    refine FSteps.op3 hz rfl (dv := [10, 14]) (by kernel_rfl) (by kernel_rfl) (by kernel_rfl) (fun D s W bA kK hD hW hF hA hK => ?_) ?_
    · have x37 := hA.i 37 _ rfl rfl (hF.zt.get (j := 10) rfl hW.1)
      have x41 := hA.i 41 _ rfl rfl (hF.zt.get (j := 14) rfl hW.2.1)
      have hF := Lib.hid hF
      clear hA
      go_simp
      exact hK.out _ _ ⟨hF.out.zb, hF.out.zq, hF.out.zt.step rfl rfl⟩
    refine FSteps.op3 hz rfl (dv := [15, 14, 0, 1, 2, 3, 4, 5, 6, 7, 8, 9, 10, 11, 12, 13, 14, 15]) (by kernel_rfl) (by kernel_rfl) (by kernel_rfl) (fun D s W bA kK hD hW hF hA hK => ?_) ?_
    · have x42 := hA.i 42 _ rfl rfl (hF.zt.get (j := 15) rfl hW.1)
      have hF := Lib.hid hF
      clear hA
      go_simp
      exact hK.out _ _ ⟨hF.out.zb, hF.out.zq, hF.out.zt.step rfl rfl⟩
    exact FSteps.nil
    intro D s W aF9 hD hF hz' df' hA
    obtain ⟨d0, d1, d2, d3, d4, d5, d6, d7, d8, d9, d10, d11, d12, d13, d14, d15, d16, -⟩ := hD
    replace u6 : Sl aF9 6 _ := hA.o 6 _ rfl u6
    replace u7 : Sl aF9 7 _ := hA.o 7 _ rfl u7
    replace u8 : Sl aF9 8 _ := hA.o 8 _ rfl u8
    replace u9 : Sl aF9 9 _ := hA.o 9 _ rfl u9
    replace u10 : Sl aF9 10 _ := hA.o 10 _ rfl u10
    replace u11 : Sl aF9 11 _ := hA.o 11 _ rfl u11
    have u12 : Sl aF9 12 _ := hA.i 12 _ rfl rfl (hF.zt.get (j := 16) rfl d16)
    have hM := hF.zb
    have hB := hF.zq
    have hB : Bks W [(n4_4, #[Value.int .i64 a.lo, Value.int .i64 a.hi, Value.int .i64 a.m, Value.int .i64 a.r, Value.int .i64 a.k], 27), (n4_5, #[Value.int .i64 b.lo, Value.int .i64 b.hi, Value.int .i64 b.m, Value.int .i64 b.r, Value.int .i64 b.k], 27), (n5_2, #[Value.int .i64 c.lo, Value.int .i64 c.hi, Value.int .i64 c.m, Value.int .i64 c.r, Value.int .i64 c.k], 27)] := ⟨hB.1, hB.2.1, hB.2.2.1, trivial⟩
    clear hF hA hz df d0 d1 d2 d3 d4 d5 d6 d7 d8 d9 d10 d11 d12 d13 d14 d15 d16 hU
    have hz := hz'; have df := df'; clear hz' df'
    clear aF
    show Code.wp _ _ _ _ _
    refine wp_seq ?_
    refine wp_seq ?_
    obtain ⟨m10, hM, hU, hwm⟩ := start_region hM.b hB
    refine region_run (F := order_t7_r8_10 x0 x1 x2 x3 y0 y1 y2 y3 z0 z1 z2 z3 s1 k0 k1 k2 a b c big w1 w2 w3 w4 zf zg n4_4 n4_5 n5_2 w m10) [43, 44, 45, 46, 47, 48, 49, 50, 51, 52, 53, 54, 55, 56, 57, 58, 59, 60, 61, 62, 63, 64, 65, 66, 67, 68, 69, 70, 71, 72] [0, 1, 2, 3, 4, 5, 6, 7, 8, 9, 10, 11, 12, 13, 14, 15, 16, 17, 18, 19, 20, 21, 22, 23, 24, 25, 26, 27, 28, 29] hz df (by kernel_rfl) (by kernel_rfl) (fun s hs0 => ⟨hM, hB, Vals.none s _⟩) ?_ ?_
    refine FSteps.op3 hz rfl (dv := []) (by kernel_rfl) (by kernel_rfl) (by kernel_rfl) (fun D s W bA kK hD hW hF hA hK => ?_) ?_
    · have x11 := hA.o 11 _ rfl u11
      have hF := Lib.hid hF
      clear hA
      go_simp
      exact hK.out _ _ ⟨hF.out.zb, hF.out.zq, hF.out.zt.step rfl rfl⟩
    refine FSteps.op3 hz rfl (dv := []) (by kernel_rfl) (by kernel_rfl) (by kernel_rfl) (fun D s W bA kK hD hW hF hA hK => ?_) ?_
    · have x12 := hA.o 12 _ rfl u12
      have hF := Lib.hid hF
      clear hA
      go_simp
      exact hK.out _ _ ⟨hF.out.zb, hF.out.zq, hF.out.zt.step rfl rfl⟩
    refine FSteps.op3 hz rfl (dv := [1]) (by kernel_rfl) (by kernel_rfl) (by kernel_rfl) (fun D s W bA kK hD hW hF hA hK => ?_) ?_
    · have x44 := hA.i 44 _ rfl rfl (hF.zt.get (j := 1) rfl hW.1)
      have hF := Lib.hid hF
      clear hA
      go_simp
      exact hK.out _ _ ⟨hF.out.zb, hF.out.zq, hF.out.zt.step rfl rfl⟩
    refine FSteps.yes3 (bv := true) hz rfl (dv := [2]) (by kernel_rfl) rfl (by kernel_rfl) (by kernel_rfl) (fun D s W hW hF => (hF.zt.get (j := 2) rfl hW.1)) (by kernel_rfl) (by kernel_rfl) (fun D s W bA kK hD hW hF hA hK => ?_) ?_
    · have x8 := hA.o 8 _ rfl u8
      have hF := Lib.hid hF
      clear hA
      go_simp
      exact hK.out _ _ ⟨hF.out.zb, hF.out.zq, hF.out.zt.step rfl rfl⟩
    refine FSteps.yes3 (bv := true) hz rfl (dv := [3, 2]) (by kernel_rfl) rfl (by kernel_rfl) (by kernel_rfl) (fun D s W hW hF => (hF.zt.get (j := 2) rfl hW.2.1)) (by kernel_rfl) (by kernel_rfl) (fun D s W bA kK hD hW hF hA hK => ?_) ?_
    · have x46 := hA.i 46 _ rfl rfl (hF.zt.get (j := 3) rfl hW.1)
      obtain ⟨⟨c0, z0⟩, -, -, -⟩ := hF.zq.rules
      have hF := Lib.hid hF
      clear hA
      go_simp
      exact hK.out _ _ ⟨hF.out.zb, hF.out.zq, hF.out.zt.step rfl rfl⟩
    refine FSteps.yes3 (bv := true) hz rfl (dv := [2]) (by kernel_rfl) rfl (by kernel_rfl) (by kernel_rfl) (fun D s W hW hF => (hF.zt.get (j := 2) rfl hW.1)) (by kernel_rfl) (by kernel_rfl) (fun D s W bA kK hD hW hF hA hK => ?_) ?_
    · have x9 := hA.o 9 _ rfl u9
      have hF := Lib.hid hF
      clear hA
      go_simp
      exact hK.out _ _ ⟨hF.out.zb, hF.out.zq, hF.out.zt.step rfl rfl⟩
    refine FSteps.yes3 (bv := true) hz rfl (dv := [5, 2]) (by kernel_rfl) rfl (by kernel_rfl) (by kernel_rfl) (fun D s W hW hF => (hF.zt.get (j := 2) rfl hW.2.1)) (by kernel_rfl) (by kernel_rfl) (fun D s W bA kK hD hW hF hA hK => ?_) ?_
    · have x48 := hA.i 48 _ rfl rfl (hF.zt.get (j := 5) rfl hW.1)
      obtain ⟨-, ⟨c1, z1⟩, -, -⟩ := hF.zq.rules
      have hF := Lib.hid hF
      clear hA
      go_simp
      exact hK.out _ _ ⟨hF.out.zb, hF.out.zq, hF.out.zt.step rfl rfl⟩
    refine FSteps.yes3 (bv := true) hz rfl (dv := [4, 6, 2]) (by kernel_rfl) rfl (by kernel_rfl) (by kernel_rfl) (fun D s W hW hF => (hF.zt.get (j := 2) rfl hW.2.2.1)) (by kernel_rfl) (by kernel_rfl) (fun D s W bA kK hD hW hF hA hK => ?_) ?_
    · have x47 := hA.i 47 _ rfl rfl (hF.zt.get (j := 4) rfl hW.1)
      have x49 := hA.i 49 _ rfl rfl (hF.zt.get (j := 6) rfl hW.2.1)
      have hF := Lib.hid hF
      clear hA
      go_simp
      exact hK.out _ _ ⟨hF.out.zb, hF.out.zq, hF.out.zt.step rfl rfl⟩
    refine FSteps.yes3 (bv := true) hz rfl (dv := [7, 2]) (by kernel_rfl) rfl (by kernel_rfl) (by kernel_rfl) (fun D s W hW hF => (hF.zt.get (j := 2) rfl hW.2.1)) (by kernel_rfl) (by kernel_rfl) (fun D s W bA kK hD hW hF hA hK => ?_) ?_
    · have x50 := hA.i 50 _ rfl rfl (hF.zt.get (j := 7) rfl hW.1)
      have hF := Lib.hid hF
      clear hA
      have hd8 : ((bits .andNot .i64 a.k b.k) == 0) = true := beq_iff_eq.2 (by exact hmk.out)
      go_simp
      exact hK.out _ _ ⟨hF.out.zb, hF.out.zq, hF.out.zt.step rfl rfl⟩
    refine FSteps.op3 hz rfl (dv := [2, 8]) (by kernel_rfl) (by kernel_rfl) (by kernel_rfl) (fun D s W bA kK hD hW hF hA hK => ?_) ?_
    · have x45 := hA.i 45 _ rfl rfl (hF.zt.get (j := 2) rfl hW.1)
      have x51 := hA.i 51 _ rfl rfl (hF.zt.get (j := 8) rfl hW.2.1)
      have hF := Lib.hid hF
      clear hA
      go_simp
      exact hK.out _ _ ⟨hF.out.zb, hF.out.zq, hF.out.zt.step rfl rfl⟩
    refine FSteps.op3 hz rfl (dv := [0, 9]) (by kernel_rfl) (by kernel_rfl) (by kernel_rfl) (fun D s W bA kK hD hW hF hA hK => ?_) ?_
    · have x43 := hA.i 43 _ rfl rfl (hF.zt.get (j := 0) rfl hW.1)
      have x52 := hA.i 52 _ rfl rfl (hF.zt.get (j := 9) rfl hW.2.1)
      have hF := Lib.hid hF
      clear hA
      have hbb : (true != true) = false := rfl
      go_simp
      exact hK.out _ _ ⟨hF.out.zb, hF.out.zq, hF.out.zt.step rfl rfl⟩
    refine FSteps.op3 hz rfl (dv := [10, 2]) (by kernel_rfl) (by kernel_rfl) (by kernel_rfl) (fun D s W bA kK hD hW hF hA hK => ?_) ?_
    · have x53 := hA.i 53 _ rfl rfl (hF.zt.get (j := 10) rfl hW.1)
      have hF := Lib.hid hF
      clear hA
      go_simp
      exact hK.out _ _ ⟨hF.out.zb, hF.out.zq, hF.out.zt.step rfl rfl⟩
    refine FSteps.yes3 (bv := false) hz rfl (dv := [11]) (by kernel_rfl) rfl (by kernel_rfl) (by kernel_rfl) (fun D s W hW hF => (hF.zt.get (j := 11) rfl hW.1)) (by kernel_rfl) (by kernel_rfl) (fun D s W bA kK hD hW hF hA hK => ?_) ?_
    · have x8 := hA.o 8 _ rfl u8
      obtain ⟨⟨c0, z0⟩, -, -, -⟩ := hF.zq.rules
      have hF := Lib.hid hF
      clear hA
      go_simp
      exact hK.out _ _ ⟨hF.out.zb, hF.out.zq, hF.out.zt.step rfl rfl⟩
    refine FSteps.yes3 (bv := false) hz rfl (dv := [11]) (by kernel_rfl) rfl (by kernel_rfl) (by kernel_rfl) (fun D s W hW hF => (hF.zt.get (j := 11) rfl hW.1)) (by kernel_rfl) (by kernel_rfl) (fun D s W bA kK hD hW hF hA hK => ?_) ?_
    · have x8 := hA.o 8 _ rfl u8
      obtain ⟨⟨c0, z0⟩, -, -, -⟩ := hF.zq.rules
      have hF := Lib.hid hF
      clear hA
      go_simp
      exact hK.out _ _ ⟨hF.out.zb, hF.out.zq, hF.out.zt.step rfl rfl⟩
    refine FSteps.yes3 (bv := false) hz rfl (dv := [12, 13, 11, 11]) (by kernel_rfl) rfl (by kernel_rfl) (by kernel_rfl) (fun D s W hW hF => (hF.zt.get (j := 11) rfl hW.2.2.1)) (by kernel_rfl) (by kernel_rfl) (fun D s W bA kK hD hW hF hA hK => ?_) ?_
    · have x55 := hA.i 55 _ rfl rfl (hF.zt.get (j := 12) rfl hW.1)
      have x56 := hA.i 56 _ rfl rfl (hF.zt.get (j := 13) rfl hW.2.1)
      have hF := Lib.hid hF
      clear hA
      go_simp
      (go_at_call 18; ((with_reducible_and_instances refine (KS.out _).mono ?_)); rintro e W1 ⟨rfl, hb⟩; (try unfold abVal))
      (try go_wp2_with fail)
      exact hK.out _ _ ⟨hF.out.zb.on hb, Bks.on hb hF.out.zq, hF.out.zt.step rfl rfl⟩
    refine FSteps.yes3 (bv := false) hz rfl (dv := [14, 11]) (by kernel_rfl) rfl (by kernel_rfl) (by kernel_rfl) (fun D s W hW hF => (hF.zt.get (j := 11) rfl hW.2.1)) (by kernel_rfl) (by kernel_rfl) (fun D s W bA kK hD hW hF hA hK => ?_) ?_
    · have x57 := hA.i 57 _ rfl rfl (hF.zt.get (j := 14) rfl hW.1)
      have hF := Lib.hid hF
      clear hA
      go_simp
      exact hK.out _ _ ⟨hF.out.zb, hF.out.zq, hF.out.zt.step rfl rfl⟩
    refine FSteps.op3 hz rfl (dv := [11, 15]) (by kernel_rfl) (by kernel_rfl) (by kernel_rfl) (fun D s W bA kK hD hW hF hA hK => ?_) ?_
    · have x54 := hA.i 54 _ rfl rfl (hF.zt.get (j := 11) rfl hW.1)
      have x58 := hA.i 58 _ rfl rfl (hF.zt.get (j := 15) rfl hW.2.1)
      have hF := Lib.hid hF
      clear hA
      go_simp
      exact hK.out _ _ ⟨hF.out.zb, hF.out.zq, hF.out.zt.step rfl rfl⟩
    refine FSteps.op3 hz rfl (dv := [16, 14]) (by kernel_rfl) (by kernel_rfl) (by kernel_rfl) (fun D s W bA kK hD hW hF hA hK => ?_) ?_
    · have x59 := hA.i 59 _ rfl rfl (hF.zt.get (j := 16) rfl hW.1)
      have hF := Lib.hid hF
      clear hA
      go_simp
      exact hK.out _ _ ⟨hF.out.zb, hF.out.zq, hF.out.zt.step rfl rfl⟩
    refine FSteps.yes3 (bv := false) hz rfl (dv := [17]) (by kernel_rfl) rfl (by kernel_rfl) (by kernel_rfl) (fun D s W hW hF => (hF.zt.get (j := 17) rfl hW.1)) (by kernel_rfl) (by kernel_rfl) (fun D s W bA kK hD hW hF hA hK => ?_) ?_
    · have x11 := hA.o 11 _ rfl u11
      have hF := Lib.hid hF
      clear hA
      go_simp
      exact hK.out _ _ ⟨hF.out.zb, hF.out.zq, hF.out.zt.step rfl rfl⟩
    refine FSteps.yes3 (bv := false) hz rfl (dv := [18, 17, 17]) (by kernel_rfl) rfl (by kernel_rfl) (by kernel_rfl) (fun D s W hW hF => (hF.zt.get (j := 17) rfl hW.2.1)) (by kernel_rfl) (by kernel_rfl) (fun D s W bA kK hD hW hF hA hK => ?_) ?_
    · have x61 := hA.i 61 _ rfl rfl (hF.zt.get (j := 18) rfl hW.1)
      have hF := Lib.hid hF
      clear hA
      go_simp
      exact hK.out _ _ ⟨hF.out.zb, hF.out.zq, hF.out.zt.step rfl rfl⟩
    refine FSteps.yes3 (bv := true) hz rfl (dv := [19]) (by kernel_rfl) rfl (by kernel_rfl) (by kernel_rfl) (fun D s W hW hF => (hF.zt.get (j := 19) rfl hW.1)) (by kernel_rfl) (by kernel_rfl) (fun D s W bA kK hD hW hF hA hK => ?_) ?_
    · have x9 := hA.o 9 _ rfl u9
      obtain ⟨-, ⟨c1, z1⟩, -, -⟩ := hF.zq.rules
      have hF := Lib.hid hF
      clear hA
      go_simp
      exact hK.out _ _ ⟨hF.out.zb, hF.out.zq, hF.out.zt.step rfl rfl⟩
    refine FSteps.yes3 (bv := true) hz rfl (dv := [19]) (by kernel_rfl) rfl (by kernel_rfl) (by kernel_rfl) (fun D s W hW hF => (hF.zt.get (j := 19) rfl hW.1)) (by kernel_rfl) (by kernel_rfl) (fun D s W bA kK hD hW hF hA hK => ?_) ?_
    · have x8 := hA.o 8 _ rfl u8
      obtain ⟨⟨c0, z0⟩, -, -, -⟩ := hF.zq.rules
      have hF := Lib.hid hF
      clear hA
      go_simp
      exact hK.out _ _ ⟨hF.out.zb, hF.out.zq, hF.out.zt.step rfl rfl⟩
    refine FSteps.yes3 (bv := true) hz rfl (dv := [20, 21, 19, 19]) (by kernel_rfl) rfl (by kernel_rfl) (by kernel_rfl) (fun D s W hW hF => (hF.zt.get (j := 19) rfl hW.2.2.1)) (by kernel_rfl) (by kernel_rfl) (fun D s W bA kK hD hW hF hA hK => ?_) ?_
    · have x63 := hA.i 63 _ rfl rfl (hF.zt.get (j := 20) rfl hW.1)
      have x64 := hA.i 64 _ rfl rfl (hF.zt.get (j := 21) rfl hW.2.1)
      have hF := Lib.hid hF
      clear hA
      go_simp
      (go_at_call 18; ((with_reducible_and_instances refine (KB.out _).mono ?_)); rintro e W1 ⟨rfl, hb⟩; (try unfold abVal))
      (try go_wp2_with fail)
      exact hK.out _ _ ⟨hF.out.zb.on hb, Bks.on hb hF.out.zq, hF.out.zt.step rfl rfl⟩
    refine FSteps.yes3 (bv := false) hz rfl (dv := [19, 22, 17]) (by kernel_rfl) rfl (by kernel_rfl) (by kernel_rfl) (fun D s W hW hF => (hF.zt.get (j := 17) rfl hW.2.2.1)) (by kernel_rfl) (by kernel_rfl) (fun D s W bA kK hD hW hF hA hK => ?_) ?_
    · have x62 := hA.i 62 _ rfl rfl (hF.zt.get (j := 19) rfl hW.1)
      have x65 := hA.i 65 _ rfl rfl (hF.zt.get (j := 22) rfl hW.2.1)
      have hF := Lib.hid hF
      clear hA
      go_simp
      exact hK.out _ _ ⟨hF.out.zb, hF.out.zq, hF.out.zt.step rfl rfl⟩
    refine FSteps.yes3 (bv := false) hz rfl (dv := [23, 22, 17]) (by kernel_rfl) rfl (by kernel_rfl) (by kernel_rfl) (fun D s W hW hF => (hF.zt.get (j := 17) rfl hW.2.2.1)) (by kernel_rfl) (by kernel_rfl) (fun D s W bA kK hD hW hF hA hK => ?_) ?_
    · have x66 := hA.i 66 _ rfl rfl (hF.zt.get (j := 23) rfl hW.1)
      have hF := Lib.hid hF
      clear hA
      go_simp
      exact hK.out _ _ ⟨hF.out.zb, hF.out.zq, hF.out.zt.step rfl rfl⟩
    refine FSteps.no3 (bv := true) hz rfl (dv := [24]) (by kernel_rfl) rfl (by kernel_rfl) (by kernel_rfl) (fun D s W hW hF => (hF.zt.get (j := 24) rfl hW.1)) (by kernel_rfl) (by kernel_rfl) (fun D s W hD hF => ⟨hF.zb, hF.zq, hF.zt.step rfl rfl⟩) ?_
    refine FSteps.no3 (bv := true) hz rfl (dv := [24]) (by kernel_rfl) rfl (by kernel_rfl) (by kernel_rfl) (fun D s W hW hF => (hF.zt.get (j := 24) rfl hW.1)) (by kernel_rfl) (by kernel_rfl) (fun D s W hD hF => ⟨hF.zb, hF.zq, hF.zt.step rfl rfl⟩) ?_
    refine FSteps.no3 (bv := true) hz rfl (dv := [25, 26, 24]) (by kernel_rfl) rfl (by kernel_rfl) (by kernel_rfl) (fun D s W hW hF => (hF.zt.get (j := 24) rfl hW.2.2.1)) (by kernel_rfl) (by kernel_rfl) (fun D s W hD hF => ⟨hF.zb, hF.zq, hF.zt.step rfl rfl⟩) ?_
    refine FSteps.yes3 (bv := false) hz rfl (dv := [24, 27, 17]) (by kernel_rfl) rfl (by kernel_rfl) (by kernel_rfl) (fun D s W hW hF => (hF.zt.get (j := 17) rfl hW.2.2.1)) (by kernel_rfl) (by kernel_rfl) (fun D s W bA kK hD hW hF hA hK => ?_) ?_
    · have x67 := hA.i 67 _ rfl rfl (hF.zt.get (j := 24) rfl hW.1)
      have x70 := hA.i 70 _ rfl rfl (hF.zt.get (j := 27) rfl hW.2.1)
      have hF := Lib.hid hF
      clear hA
      go_simp
      exact hK.out _ _ ⟨hF.out.zb, hF.out.zq, hF.out.zt.step rfl rfl⟩
    refine FSteps.op3 hz rfl (dv := [17, 28]) (by kernel_rfl) (by kernel_rfl) (by kernel_rfl) (fun D s W bA kK hD hW hF hA hK => ?_) ?_
    · have x60 := hA.i 60 _ rfl rfl (hF.zt.get (j := 17) rfl hW.1)
      have x71 := hA.i 71 _ rfl rfl (hF.zt.get (j := 28) rfl hW.2.1)
      have hF := Lib.hid hF
      clear hA
      go_simp
      exact hK.out _ _ ⟨hF.out.zb, hF.out.zq, hF.out.zt.step rfl rfl⟩
    exact FSteps.nil
    intro D s W aF10 hD hF hz' df' hA
    obtain ⟨d0, d1, d2, d3, d4, d5, d6, d7, d8, d9, d10, d11, d12, d13, d14, d15, d16, d17, d18, d19, d20, d21, d22, d23, d24, d25, d26, d27, d28, d29, -⟩ := hD
    clear u11 u12
    replace u6 : Sl aF10 6 _ := hA.o 6 _ rfl u6
    replace u7 : Sl aF10 7 _ := hA.o 7 _ rfl u7
    replace u8 : Sl aF10 8 _ := hA.o 8 _ rfl u8
    replace u9 : Sl aF10 9 _ := hA.o 9 _ rfl u9
    replace u10 : Sl aF10 10 _ := hA.o 10 _ rfl u10
    have u72 : Sl aF10 72 _ := hA.i 72 _ rfl rfl (hF.zt.get (j := 29) rfl d29)
    have hM := hF.zb
    have hB := hF.zq
    have hB : Bks W [(n4_4, #[Value.int .i64 a.lo, Value.int .i64 a.hi, Value.int .i64 a.m, Value.int .i64 a.r, Value.int .i64 a.k], 27), (n4_5, #[Value.int .i64 b.lo, Value.int .i64 b.hi, Value.int .i64 b.m, Value.int .i64 b.r, Value.int .i64 b.k], 27), (n5_2, #[Value.int .i64 c.lo, Value.int .i64 c.hi, Value.int .i64 c.m, Value.int .i64 c.r, Value.int .i64 c.k], 27)] := ⟨hB.1, hB.2.1, hB.2.2.1, trivial⟩
    clear hF hA hz df d0 d1 d2 d3 d4 d5 d6 d7 d8 d9 d10 d11 d12 d13 d14 d15 d16 d17 d18 d19 d20 d21 d22 d23 d24 d25 d26 d27 d28 d29 hU
    have hz := hz'; have df := df'; clear hz' df'
    clear aF9
    show Code.wp _ _ _ _ _
    refine cond_f u72 ?_
    refine wp_skip ?_
    show Code.wp _ _ _ _ _
    exact order_t10 x0 x1 x2 x3 y0 y1 y2 y3 z0 z1 z2 z3 s1 k0 k1 k2 a b c big w1 w2 w3 w4 zf zg  w KJ KO1 KO2 KOL KP1 KP2 KPL KQ1 KQ2 KQL aF10 W n4_4 n4_5 n5_2  hz df u6 u7 u8 u9 u10 hM.b ⟨hB.1, hB.2.1, hB.2.2.1, trivial⟩
  · subst hq0 hq1 hq2 hu; obtain rfl : t = true := by (rw [beq_iff_eq.2 hmk] at hq; simpa using hq)
    have hE := Lib.hid (hab rfl rfl)
    replace hmk := Lib.hid hmk
    clear hq
    try clear hab
    refine wp_seq ?_
    obtain ⟨m11, hM, hU, hwm⟩ := start_region hM.b hB
    refine region_go (F := order_t7_r7_11 x0 x1 x2 x3 y0 y1 y2 y3 z0 z1 z2 z3 s1 k0 k1 k2 a b c big w1 w2 w3 w4 zf zg n4_4 n4_5 n5_2 w m11) [27, 28, 29, 30, 31, 32, 33, 34, 35, 36, 37, 38, 39, 40, 41, 42, 12] [0, 1, 2, 3, 4, 5, 6, 7, 8, 9, 10, 11, 12, 13, 14, 15, 16] hz df (by kernel_rfl) (by kernel_rfl) (by kernel_rfl) (fun s hs0 => ⟨hM.drew, Bks.drew hB, Vals.none s _⟩) ?_ ?_
    refine FSteps.op3 hz rfl (dv := []) (by kernel_rfl) (by kernel_rfl) (by kernel_rfl) (fun D s W bA kK hD hW hF hA hK => ?_) ?_
    · have x9 := hA.o 9 _ rfl u9
      obtain ⟨-, ⟨c1, z1⟩, -, -⟩ := hF.zq.rules
      have hF := Lib.hid hF
      clear hA
      go_simp
      exact hK.out _ _ ⟨hF.out.zb, hF.out.zq, hF.out.zt.step rfl rfl⟩
    refine FSteps.op3 hz rfl (dv := []) (by kernel_rfl) (by kernel_rfl) (by kernel_rfl) (fun D s W bA kK hD hW hF hA hK => ?_) ?_
    · have x8 := hA.o 8 _ rfl u8
      obtain ⟨⟨c0, z0⟩, -, -, -⟩ := hF.zq.rules
      have hF := Lib.hid hF
      clear hA
      go_simp
      exact hK.out _ _ ⟨hF.out.zb, hF.out.zq, hF.out.zt.step rfl rfl⟩
    refine FSteps.op3 hz rfl (dv := [1]) (by kernel_rfl) (by kernel_rfl) (by kernel_rfl) (fun D s W bA kK hD hW hF hA hK => ?_) ?_
    · have x28 := hA.i 28 _ rfl rfl (hF.zt.get (j := 1) rfl hW.1)
      have hF := Lib.hid hF
      clear hA
      go_simp
      (go_at_call 12; ((with_reducible_and_instances refine (KA0.out _).mono ?_)); rintro e W1 ⟨rfl, hb⟩; (try unfold abVal))
      (try go_wp2_with fail)
      exact hK.out _ _ ⟨hF.out.zb.on hb, Bks.on hb hF.out.zq, hF.out.zt.step rfl rfl⟩
    refine FSteps.op3 hz rfl (dv := [0, 2, 2]) (by kernel_rfl) (by kernel_rfl) (by kernel_rfl) (fun D s W bA kK hD hW hF hA hK => ?_) ?_
    · have x27 := hA.i 27 _ rfl rfl (hF.zt.get (j := 0) rfl hW.1)
      have x29 := hA.i 29 _ rfl rfl (hF.zt.get (j := 2) rfl hW.2.1)
      have hF := Lib.hid hF
      clear hA
      go_simp
      (go_at_call 13; ((with_reducible_and_instances refine (KH0.out _).mono ?_)); rintro e W1 ⟨rfl, hb⟩; (try unfold abVal))
      (try go_wp2_with fail)
      exact hK.out _ _ ⟨hF.out.zb.on hb, Bks.on hb hF.out.zq, hF.out.zt.step rfl rfl⟩
    refine FSteps.op3 hz rfl (dv := [3, 3]) (by kernel_rfl) (by kernel_rfl) (by kernel_rfl) (fun D s W bA kK hD hW hF hA hK => ?_) ?_
    · have x30 := hA.i 30 _ rfl rfl (hF.zt.get (j := 3) rfl hW.1)
      have hF := Lib.hid hF
      clear hA
      go_simp
      exact hK.out _ _ ⟨hF.out.zb, hF.out.zq, hF.out.zt.step rfl rfl⟩
    refine FSteps.yes3 (bv := true) hz rfl (dv := [4]) (by kernel_rfl) rfl (by kernel_rfl) (by kernel_rfl) (fun D s W hW hF => (hF.zt.get (j := 4) rfl hW.1)) (by kernel_rfl) (by kernel_rfl) (fun D s W bA kK hD hW hF hA hK => ?_) ?_
    · have x9 := hA.o 9 _ rfl u9
      obtain ⟨-, ⟨c1, z1⟩, -, -⟩ := hF.zq.rules
      have hF := Lib.hid hF
      clear hA
      go_simp
      exact hK.out _ _ ⟨hF.out.zb, hF.out.zq, hF.out.zt.step rfl rfl⟩
    refine FSteps.yes3 (bv := true) hz rfl (dv := [4]) (by kernel_rfl) rfl (by kernel_rfl) (by kernel_rfl) (fun D s W hW hF => (hF.zt.get (j := 4) rfl hW.1)) (by kernel_rfl) (by kernel_rfl) (fun D s W bA kK hD hW hF hA hK => ?_) ?_
    · have x8 := hA.o 8 _ rfl u8
      obtain ⟨⟨c0, z0⟩, -, -, -⟩ := hF.zq.rules
      have hF := Lib.hid hF
      clear hA
      go_simp
      exact hK.out _ _ ⟨hF.out.zb, hF.out.zq, hF.out.zt.step rfl rfl⟩
    refine FSteps.yes3 (bv := true) hz rfl (dv := [6, 4, 4]) (by kernel_rfl) rfl (by kernel_rfl) (by kernel_rfl) (fun D s W hW hF => (hF.zt.get (j := 4) rfl hW.2.1)) (by kernel_rfl) (by kernel_rfl) (fun D s W bA kK hD hW hF hA hK => ?_) ?_
    · have x33 := hA.i 33 _ rfl rfl (hF.zt.get (j := 6) rfl hW.1)
      have hF := Lib.hid hF
      clear hA
      go_simp
      (go_at_call 12; ((with_reducible_and_instances refine (KA1.out _).mono ?_)); rintro e W1 ⟨rfl, hb⟩; (try unfold abVal))
      (try go_wp2_with fail)
      exact hK.out _ _ ⟨hF.out.zb.on hb, Bks.on hb hF.out.zq, hF.out.zt.step rfl rfl⟩
    refine FSteps.yes3 (bv := true) hz rfl (dv := [5, 7, 7, 4]) (by kernel_rfl) rfl (by kernel_rfl) (by kernel_rfl) (fun D s W hW hF => (hF.zt.get (j := 4) rfl hW.2.2.2.1)) (by kernel_rfl) (by kernel_rfl) (fun D s W bA kK hD hW hF hA hK => ?_) ?_
    · have x32 := hA.i 32 _ rfl rfl (hF.zt.get (j := 5) rfl hW.1)
      have x34 := hA.i 34 _ rfl rfl (hF.zt.get (j := 7) rfl hW.2.1)
      have hF := Lib.hid hF
      clear hA
      go_simp
      (go_at_call 13; ((with_reducible_and_instances refine (KH1.out _).mono ?_)); rintro e W1 ⟨rfl, hb⟩; (try unfold abVal))
      (try go_wp2_with fail)
      exact hK.out _ _ ⟨hF.out.zb.on hb, Bks.on hb hF.out.zq, hF.out.zt.step rfl rfl⟩
    refine FSteps.op3 hz rfl (dv := [4, 8]) (by kernel_rfl) (by kernel_rfl) (by kernel_rfl) (fun D s W bA kK hD hW hF hA hK => ?_) ?_
    · have x31 := hA.i 31 _ rfl rfl (hF.zt.get (j := 4) rfl hW.1)
      have x35 := hA.i 35 _ rfl rfl (hF.zt.get (j := 8) rfl hW.2.1)
      have hF := Lib.hid hF
      clear hA
      go_simp
      exact hK.out _ _ ⟨hF.out.zb, hF.out.zq, hF.out.zt.step rfl rfl⟩
    refine FSteps.op3 hz rfl (dv := [9, 8]) (by kernel_rfl) (by kernel_rfl) (by kernel_rfl) (fun D s W bA kK hD hW hF hA hK => ?_) ?_
    · have x36 := hA.i 36 _ rfl rfl (hF.zt.get (j := 9) rfl hW.1)
      have hF := Lib.hid hF
      clear hA
      go_simp
      exact hK.out _ _ ⟨hF.out.zb, hF.out.zq, hF.out.zt.step rfl rfl⟩
    refine FSteps.yes3 (bv := true) hz rfl (dv := [10]) (by kernel_rfl) rfl (by kernel_rfl) (by kernel_rfl) (fun D s W hW hF => (hF.zt.get (j := 10) rfl hW.1)) (by kernel_rfl) (by kernel_rfl) (fun D s W bA kK hD hW hF hA hK => ?_) ?_
    · have x9 := hA.o 9 _ rfl u9
      obtain ⟨-, ⟨c1, z1⟩, -, -⟩ := hF.zq.rules
      have hF := Lib.hid hF
      clear hA
      go_simp
      exact hK.out _ _ ⟨hF.out.zb, hF.out.zq, hF.out.zt.step rfl rfl⟩
    refine FSteps.yes3 (bv := true) hz rfl (dv := [10]) (by kernel_rfl) rfl (by kernel_rfl) (by kernel_rfl) (fun D s W hW hF => (hF.zt.get (j := 10) rfl hW.1)) (by kernel_rfl) (by kernel_rfl) (fun D s W bA kK hD hW hF hA hK => ?_) ?_
    · have x8 := hA.o 8 _ rfl u8
      obtain ⟨⟨c0, z0⟩, -, -, -⟩ := hF.zq.rules
      have hF := Lib.hid hF
      clear hA
      go_simp
      exact hK.out _ _ ⟨hF.out.zb, hF.out.zq, hF.out.zt.step rfl rfl⟩
    refine FSteps.yes3 (bv := true) hz rfl (dv := [12, 10, 10]) (by kernel_rfl) rfl (by kernel_rfl) (by kernel_rfl) (fun D s W hW hF => (hF.zt.get (j := 10) rfl hW.2.1)) (by kernel_rfl) (by kernel_rfl) (fun D s W bA kK hD hW hF hA hK => ?_) ?_
    · have x39 := hA.i 39 _ rfl rfl (hF.zt.get (j := 12) rfl hW.1)
      have hF := Lib.hid hF
      clear hA
      go_simp
      (go_at_call 12; ((with_reducible_and_instances refine (KA2.out _).mono ?_)); rintro e W1 ⟨rfl, hb⟩; (try unfold abVal))
      (try go_wp2_with fail)
      exact hK.out _ _ ⟨hF.out.zb.on hb, Bks.on hb hF.out.zq, hF.out.zt.step rfl rfl⟩
    refine FSteps.yes3 (bv := true) hz rfl (dv := [11, 13, 13, 10]) (by kernel_rfl) rfl (by kernel_rfl) (by kernel_rfl) (fun D s W hW hF => (hF.zt.get (j := 10) rfl hW.2.2.2.1)) (by kernel_rfl) (by kernel_rfl) (fun D s W bA kK hD hW hF hA hK => ?_) ?_
    · have x38 := hA.i 38 _ rfl rfl (hF.zt.get (j := 11) rfl hW.1)
      have x40 := hA.i 40 _ rfl rfl (hF.zt.get (j := 13) rfl hW.2.1)
      have hF := Lib.hid hF
      clear hA
      go_simp
      (go_at_call 13; ((with_reducible_and_instances refine (KH2.out _).mono ?_)); rintro e W1 ⟨rfl, hb⟩; (try unfold abVal))
      (try go_wp2_with fail)
      exact hK.out _ _ ⟨hF.out.zb.on hb, Bks.on hb hF.out.zq, hF.out.zt.step rfl rfl⟩
    refine FSteps.op3 hz rfl (dv := [10, 14]) (by kernel_rfl) (by kernel_rfl) (by kernel_rfl) (fun D s W bA kK hD hW hF hA hK => ?_) ?_
    · have x37 := hA.i 37 _ rfl rfl (hF.zt.get (j := 10) rfl hW.1)
      have x41 := hA.i 41 _ rfl rfl (hF.zt.get (j := 14) rfl hW.2.1)
      have hF := Lib.hid hF
      clear hA
      go_simp
      exact hK.out _ _ ⟨hF.out.zb, hF.out.zq, hF.out.zt.step rfl rfl⟩
    refine FSteps.op3 hz rfl (dv := [15, 14, 0, 1, 2, 3, 4, 5, 6, 7, 8, 9, 10, 11, 12, 13, 14, 15]) (by kernel_rfl) (by kernel_rfl) (by kernel_rfl) (fun D s W bA kK hD hW hF hA hK => ?_) ?_
    · have x42 := hA.i 42 _ rfl rfl (hF.zt.get (j := 15) rfl hW.1)
      have hF := Lib.hid hF
      clear hA
      go_simp
      exact hK.out _ _ ⟨hF.out.zb, hF.out.zq, hF.out.zt.step rfl rfl⟩
    exact FSteps.nil
    intro D s W aF11 hD hF hz' df' hA
    obtain ⟨d0, d1, d2, d3, d4, d5, d6, d7, d8, d9, d10, d11, d12, d13, d14, d15, d16, -⟩ := hD
    replace u6 : Sl aF11 6 _ := hA.o 6 _ rfl u6
    replace u7 : Sl aF11 7 _ := hA.o 7 _ rfl u7
    replace u8 : Sl aF11 8 _ := hA.o 8 _ rfl u8
    replace u9 : Sl aF11 9 _ := hA.o 9 _ rfl u9
    replace u10 : Sl aF11 10 _ := hA.o 10 _ rfl u10
    replace u11 : Sl aF11 11 _ := hA.o 11 _ rfl u11
    have u12 : Sl aF11 12 _ := hA.i 12 _ rfl rfl (hF.zt.get (j := 16) rfl d16)
    have hM := hF.zb
    have hB := hF.zq
    have hB : Bks W [(n4_4, #[Value.int .i64 a.lo, Value.int .i64 a.hi, Value.int .i64 a.m, Value.int .i64 a.r, Value.int .i64 a.k], 27), (n4_5, #[Value.int .i64 b.lo, Value.int .i64 b.hi, Value.int .i64 b.m, Value.int .i64 b.r, Value.int .i64 b.k], 27), (n5_2, #[Value.int .i64 c.lo, Value.int .i64 c.hi, Value.int .i64 c.m, Value.int .i64 c.r, Value.int .i64 c.k], 27)] := ⟨hB.1, hB.2.1, hB.2.2.1, trivial⟩
    clear hF hA hz df d0 d1 d2 d3 d4 d5 d6 d7 d8 d9 d10 d11 d12 d13 d14 d15 d16 hU
    have hz := hz'; have df := df'; clear hz' df'
    clear aF
    show Code.wp _ _ _ _ _
    refine wp_seq ?_
    refine wp_seq ?_
    obtain ⟨m12, hM, hU, hwm⟩ := start_region hM.b hB
    refine region_run (F := order_t7_r8_12 x0 x1 x2 x3 y0 y1 y2 y3 z0 z1 z2 z3 s1 k0 k1 k2 a b c big w1 w2 w3 w4 zf zg n4_4 n4_5 n5_2 w m12) [43, 44, 45, 46, 47, 48, 49, 50, 51, 52, 53, 54, 55, 56, 57, 58, 59, 60, 61, 62, 63, 64, 65, 66, 67, 68, 69, 70, 71, 72] [0, 1, 2, 3, 4, 5, 6, 7, 8, 9, 10, 11, 12, 13, 14, 15, 16, 17, 18, 19, 20, 21, 22, 23, 24, 25, 26, 27, 28, 29] hz df (by kernel_rfl) (by kernel_rfl) (fun s hs0 => ⟨hM, hB, Vals.none s _⟩) ?_ ?_
    refine FSteps.op3 hz rfl (dv := []) (by kernel_rfl) (by kernel_rfl) (by kernel_rfl) (fun D s W bA kK hD hW hF hA hK => ?_) ?_
    · have x11 := hA.o 11 _ rfl u11
      have hF := Lib.hid hF
      clear hA
      go_simp
      exact hK.out _ _ ⟨hF.out.zb, hF.out.zq, hF.out.zt.step rfl rfl⟩
    refine FSteps.op3 hz rfl (dv := []) (by kernel_rfl) (by kernel_rfl) (by kernel_rfl) (fun D s W bA kK hD hW hF hA hK => ?_) ?_
    · have x12 := hA.o 12 _ rfl u12
      have hF := Lib.hid hF
      clear hA
      go_simp
      exact hK.out _ _ ⟨hF.out.zb, hF.out.zq, hF.out.zt.step rfl rfl⟩
    refine FSteps.op3 hz rfl (dv := [1]) (by kernel_rfl) (by kernel_rfl) (by kernel_rfl) (fun D s W bA kK hD hW hF hA hK => ?_) ?_
    · have x44 := hA.i 44 _ rfl rfl (hF.zt.get (j := 1) rfl hW.1)
      have hF := Lib.hid hF
      clear hA
      go_simp
      exact hK.out _ _ ⟨hF.out.zb, hF.out.zq, hF.out.zt.step rfl rfl⟩
    refine FSteps.yes3 (bv := true) hz rfl (dv := [2]) (by kernel_rfl) rfl (by kernel_rfl) (by kernel_rfl) (fun D s W hW hF => (hF.zt.get (j := 2) rfl hW.1)) (by kernel_rfl) (by kernel_rfl) (fun D s W bA kK hD hW hF hA hK => ?_) ?_
    · have x8 := hA.o 8 _ rfl u8
      have hF := Lib.hid hF
      clear hA
      go_simp
      exact hK.out _ _ ⟨hF.out.zb, hF.out.zq, hF.out.zt.step rfl rfl⟩
    refine FSteps.yes3 (bv := true) hz rfl (dv := [3, 2]) (by kernel_rfl) rfl (by kernel_rfl) (by kernel_rfl) (fun D s W hW hF => (hF.zt.get (j := 2) rfl hW.2.1)) (by kernel_rfl) (by kernel_rfl) (fun D s W bA kK hD hW hF hA hK => ?_) ?_
    · have x46 := hA.i 46 _ rfl rfl (hF.zt.get (j := 3) rfl hW.1)
      obtain ⟨⟨c0, z0⟩, -, -, -⟩ := hF.zq.rules
      have hF := Lib.hid hF
      clear hA
      go_simp
      exact hK.out _ _ ⟨hF.out.zb, hF.out.zq, hF.out.zt.step rfl rfl⟩
    refine FSteps.yes3 (bv := true) hz rfl (dv := [2]) (by kernel_rfl) rfl (by kernel_rfl) (by kernel_rfl) (fun D s W hW hF => (hF.zt.get (j := 2) rfl hW.1)) (by kernel_rfl) (by kernel_rfl) (fun D s W bA kK hD hW hF hA hK => ?_) ?_
    · have x9 := hA.o 9 _ rfl u9
      have hF := Lib.hid hF
      clear hA
      go_simp
      exact hK.out _ _ ⟨hF.out.zb, hF.out.zq, hF.out.zt.step rfl rfl⟩
    refine FSteps.yes3 (bv := true) hz rfl (dv := [5, 2]) (by kernel_rfl) rfl (by kernel_rfl) (by kernel_rfl) (fun D s W hW hF => (hF.zt.get (j := 2) rfl hW.2.1)) (by kernel_rfl) (by kernel_rfl) (fun D s W bA kK hD hW hF hA hK => ?_) ?_
    · have x48 := hA.i 48 _ rfl rfl (hF.zt.get (j := 5) rfl hW.1)
      obtain ⟨-, ⟨c1, z1⟩, -, -⟩ := hF.zq.rules
      have hF := Lib.hid hF
      clear hA
      go_simp
      exact hK.out _ _ ⟨hF.out.zb, hF.out.zq, hF.out.zt.step rfl rfl⟩
    refine FSteps.yes3 (bv := true) hz rfl (dv := [4, 6, 2]) (by kernel_rfl) rfl (by kernel_rfl) (by kernel_rfl) (fun D s W hW hF => (hF.zt.get (j := 2) rfl hW.2.2.1)) (by kernel_rfl) (by kernel_rfl) (fun D s W bA kK hD hW hF hA hK => ?_) ?_
    · have x47 := hA.i 47 _ rfl rfl (hF.zt.get (j := 4) rfl hW.1)
      have x49 := hA.i 49 _ rfl rfl (hF.zt.get (j := 6) rfl hW.2.1)
      have hF := Lib.hid hF
      clear hA
      go_simp
      exact hK.out _ _ ⟨hF.out.zb, hF.out.zq, hF.out.zt.step rfl rfl⟩
    refine FSteps.yes3 (bv := true) hz rfl (dv := [7, 2]) (by kernel_rfl) rfl (by kernel_rfl) (by kernel_rfl) (fun D s W hW hF => (hF.zt.get (j := 2) rfl hW.2.1)) (by kernel_rfl) (by kernel_rfl) (fun D s W bA kK hD hW hF hA hK => ?_) ?_
    · have x50 := hA.i 50 _ rfl rfl (hF.zt.get (j := 7) rfl hW.1)
      have hF := Lib.hid hF
      clear hA
      have hd8 : ((bits .andNot .i64 a.k b.k) == 0) = true := beq_iff_eq.2 (by exact hmk.out)
      go_simp
      exact hK.out _ _ ⟨hF.out.zb, hF.out.zq, hF.out.zt.step rfl rfl⟩
    refine FSteps.op3 hz rfl (dv := [2, 8]) (by kernel_rfl) (by kernel_rfl) (by kernel_rfl) (fun D s W bA kK hD hW hF hA hK => ?_) ?_
    · have x45 := hA.i 45 _ rfl rfl (hF.zt.get (j := 2) rfl hW.1)
      have x51 := hA.i 51 _ rfl rfl (hF.zt.get (j := 8) rfl hW.2.1)
      have hF := Lib.hid hF
      clear hA
      go_simp
      exact hK.out _ _ ⟨hF.out.zb, hF.out.zq, hF.out.zt.step rfl rfl⟩
    refine FSteps.op3 hz rfl (dv := [0, 9]) (by kernel_rfl) (by kernel_rfl) (by kernel_rfl) (fun D s W bA kK hD hW hF hA hK => ?_) ?_
    · have x43 := hA.i 43 _ rfl rfl (hF.zt.get (j := 0) rfl hW.1)
      have x52 := hA.i 52 _ rfl rfl (hF.zt.get (j := 9) rfl hW.2.1)
      have hF := Lib.hid hF
      clear hA
      have hbb : (true != true) = false := rfl
      go_simp
      exact hK.out _ _ ⟨hF.out.zb, hF.out.zq, hF.out.zt.step rfl rfl⟩
    refine FSteps.op3 hz rfl (dv := [10, 2]) (by kernel_rfl) (by kernel_rfl) (by kernel_rfl) (fun D s W bA kK hD hW hF hA hK => ?_) ?_
    · have x53 := hA.i 53 _ rfl rfl (hF.zt.get (j := 10) rfl hW.1)
      have hF := Lib.hid hF
      clear hA
      go_simp
      exact hK.out _ _ ⟨hF.out.zb, hF.out.zq, hF.out.zt.step rfl rfl⟩
    refine FSteps.yes3 (bv := false) hz rfl (dv := [11]) (by kernel_rfl) rfl (by kernel_rfl) (by kernel_rfl) (fun D s W hW hF => (hF.zt.get (j := 11) rfl hW.1)) (by kernel_rfl) (by kernel_rfl) (fun D s W bA kK hD hW hF hA hK => ?_) ?_
    · have x8 := hA.o 8 _ rfl u8
      obtain ⟨⟨c0, z0⟩, -, -, -⟩ := hF.zq.rules
      have hF := Lib.hid hF
      clear hA
      go_simp
      exact hK.out _ _ ⟨hF.out.zb, hF.out.zq, hF.out.zt.step rfl rfl⟩
    refine FSteps.yes3 (bv := false) hz rfl (dv := [11]) (by kernel_rfl) rfl (by kernel_rfl) (by kernel_rfl) (fun D s W hW hF => (hF.zt.get (j := 11) rfl hW.1)) (by kernel_rfl) (by kernel_rfl) (fun D s W bA kK hD hW hF hA hK => ?_) ?_
    · have x8 := hA.o 8 _ rfl u8
      obtain ⟨⟨c0, z0⟩, -, -, -⟩ := hF.zq.rules
      have hF := Lib.hid hF
      clear hA
      go_simp
      exact hK.out _ _ ⟨hF.out.zb, hF.out.zq, hF.out.zt.step rfl rfl⟩
    refine FSteps.yes3 (bv := false) hz rfl (dv := [12, 13, 11, 11]) (by kernel_rfl) rfl (by kernel_rfl) (by kernel_rfl) (fun D s W hW hF => (hF.zt.get (j := 11) rfl hW.2.2.1)) (by kernel_rfl) (by kernel_rfl) (fun D s W bA kK hD hW hF hA hK => ?_) ?_
    · have x55 := hA.i 55 _ rfl rfl (hF.zt.get (j := 12) rfl hW.1)
      have x56 := hA.i 56 _ rfl rfl (hF.zt.get (j := 13) rfl hW.2.1)
      have hF := Lib.hid hF
      clear hA
      go_simp
      (go_at_call 18; ((with_reducible_and_instances refine (KS.out _).mono ?_)); rintro e W1 ⟨rfl, hb⟩; (try unfold abVal))
      (try go_wp2_with fail)
      exact hK.out _ _ ⟨hF.out.zb.on hb, Bks.on hb hF.out.zq, hF.out.zt.step rfl rfl⟩
    refine FSteps.yes3 (bv := false) hz rfl (dv := [14, 11]) (by kernel_rfl) rfl (by kernel_rfl) (by kernel_rfl) (fun D s W hW hF => (hF.zt.get (j := 11) rfl hW.2.1)) (by kernel_rfl) (by kernel_rfl) (fun D s W bA kK hD hW hF hA hK => ?_) ?_
    · have x57 := hA.i 57 _ rfl rfl (hF.zt.get (j := 14) rfl hW.1)
      have hF := Lib.hid hF
      clear hA
      go_simp
      exact hK.out _ _ ⟨hF.out.zb, hF.out.zq, hF.out.zt.step rfl rfl⟩
    refine FSteps.op3 hz rfl (dv := [11, 15]) (by kernel_rfl) (by kernel_rfl) (by kernel_rfl) (fun D s W bA kK hD hW hF hA hK => ?_) ?_
    · have x54 := hA.i 54 _ rfl rfl (hF.zt.get (j := 11) rfl hW.1)
      have x58 := hA.i 58 _ rfl rfl (hF.zt.get (j := 15) rfl hW.2.1)
      have hF := Lib.hid hF
      clear hA
      go_simp
      exact hK.out _ _ ⟨hF.out.zb, hF.out.zq, hF.out.zt.step rfl rfl⟩
    refine FSteps.op3 hz rfl (dv := [16, 14]) (by kernel_rfl) (by kernel_rfl) (by kernel_rfl) (fun D s W bA kK hD hW hF hA hK => ?_) ?_
    · have x59 := hA.i 59 _ rfl rfl (hF.zt.get (j := 16) rfl hW.1)
      have hF := Lib.hid hF
      clear hA
      go_simp
      exact hK.out _ _ ⟨hF.out.zb, hF.out.zq, hF.out.zt.step rfl rfl⟩
    refine FSteps.yes3 (bv := false) hz rfl (dv := [17]) (by kernel_rfl) rfl (by kernel_rfl) (by kernel_rfl) (fun D s W hW hF => (hF.zt.get (j := 17) rfl hW.1)) (by kernel_rfl) (by kernel_rfl) (fun D s W bA kK hD hW hF hA hK => ?_) ?_
    · have x11 := hA.o 11 _ rfl u11
      have hF := Lib.hid hF
      clear hA
      go_simp
      exact hK.out _ _ ⟨hF.out.zb, hF.out.zq, hF.out.zt.step rfl rfl⟩
    refine FSteps.yes3 (bv := false) hz rfl (dv := [18, 17, 17]) (by kernel_rfl) rfl (by kernel_rfl) (by kernel_rfl) (fun D s W hW hF => (hF.zt.get (j := 17) rfl hW.2.1)) (by kernel_rfl) (by kernel_rfl) (fun D s W bA kK hD hW hF hA hK => ?_) ?_
    · have x61 := hA.i 61 _ rfl rfl (hF.zt.get (j := 18) rfl hW.1)
      have hF := Lib.hid hF
      clear hA
      go_simp
      exact hK.out _ _ ⟨hF.out.zb, hF.out.zq, hF.out.zt.step rfl rfl⟩
    refine FSteps.yes3 (bv := true) hz rfl (dv := [19]) (by kernel_rfl) rfl (by kernel_rfl) (by kernel_rfl) (fun D s W hW hF => (hF.zt.get (j := 19) rfl hW.1)) (by kernel_rfl) (by kernel_rfl) (fun D s W bA kK hD hW hF hA hK => ?_) ?_
    · have x9 := hA.o 9 _ rfl u9
      obtain ⟨-, ⟨c1, z1⟩, -, -⟩ := hF.zq.rules
      have hF := Lib.hid hF
      clear hA
      go_simp
      exact hK.out _ _ ⟨hF.out.zb, hF.out.zq, hF.out.zt.step rfl rfl⟩
    refine FSteps.yes3 (bv := true) hz rfl (dv := [19]) (by kernel_rfl) rfl (by kernel_rfl) (by kernel_rfl) (fun D s W hW hF => (hF.zt.get (j := 19) rfl hW.1)) (by kernel_rfl) (by kernel_rfl) (fun D s W bA kK hD hW hF hA hK => ?_) ?_
    · have x8 := hA.o 8 _ rfl u8
      obtain ⟨⟨c0, z0⟩, -, -, -⟩ := hF.zq.rules
      have hF := Lib.hid hF
      clear hA
      go_simp
      exact hK.out _ _ ⟨hF.out.zb, hF.out.zq, hF.out.zt.step rfl rfl⟩
    refine FSteps.yes3 (bv := true) hz rfl (dv := [20, 21, 19, 19]) (by kernel_rfl) rfl (by kernel_rfl) (by kernel_rfl) (fun D s W hW hF => (hF.zt.get (j := 19) rfl hW.2.2.1)) (by kernel_rfl) (by kernel_rfl) (fun D s W bA kK hD hW hF hA hK => ?_) ?_
    · have x63 := hA.i 63 _ rfl rfl (hF.zt.get (j := 20) rfl hW.1)
      have x64 := hA.i 64 _ rfl rfl (hF.zt.get (j := 21) rfl hW.2.1)
      have hF := Lib.hid hF
      clear hA
      go_simp
      (go_at_call 18; ((with_reducible_and_instances refine (KB.out _).mono ?_)); rintro e W1 ⟨rfl, hb⟩; (try unfold abVal))
      (try go_wp2_with fail)
      exact hK.out _ _ ⟨hF.out.zb.on hb, Bks.on hb hF.out.zq, hF.out.zt.step rfl rfl⟩
    refine FSteps.yes3 (bv := false) hz rfl (dv := [19, 22, 17]) (by kernel_rfl) rfl (by kernel_rfl) (by kernel_rfl) (fun D s W hW hF => (hF.zt.get (j := 17) rfl hW.2.2.1)) (by kernel_rfl) (by kernel_rfl) (fun D s W bA kK hD hW hF hA hK => ?_) ?_
    · have x62 := hA.i 62 _ rfl rfl (hF.zt.get (j := 19) rfl hW.1)
      have x65 := hA.i 65 _ rfl rfl (hF.zt.get (j := 22) rfl hW.2.1)
      have hF := Lib.hid hF
      clear hA
      go_simp
      exact hK.out _ _ ⟨hF.out.zb, hF.out.zq, hF.out.zt.step rfl rfl⟩
    refine FSteps.yes3 (bv := false) hz rfl (dv := [23, 22, 17]) (by kernel_rfl) rfl (by kernel_rfl) (by kernel_rfl) (fun D s W hW hF => (hF.zt.get (j := 17) rfl hW.2.2.1)) (by kernel_rfl) (by kernel_rfl) (fun D s W bA kK hD hW hF hA hK => ?_) ?_
    · have x66 := hA.i 66 _ rfl rfl (hF.zt.get (j := 23) rfl hW.1)
      have hF := Lib.hid hF
      clear hA
      go_simp
      exact hK.out _ _ ⟨hF.out.zb, hF.out.zq, hF.out.zt.step rfl rfl⟩
    refine FSteps.yes3 (bv := true) hz rfl (dv := [24]) (by kernel_rfl) rfl (by kernel_rfl) (by kernel_rfl) (fun D s W hW hF => (hF.zt.get (j := 24) rfl hW.1)) (by kernel_rfl) (by kernel_rfl) (fun D s W bA kK hD hW hF hA hK => ?_) ?_
    · have x8 := hA.o 8 _ rfl u8
      obtain ⟨⟨c0, z0⟩, -, -, -⟩ := hF.zq.rules
      have hF := Lib.hid hF
      clear hA
      go_simp
      exact hK.out _ _ ⟨hF.out.zb, hF.out.zq, hF.out.zt.step rfl rfl⟩
    refine FSteps.yes3 (bv := true) hz rfl (dv := [24]) (by kernel_rfl) rfl (by kernel_rfl) (by kernel_rfl) (fun D s W hW hF => (hF.zt.get (j := 24) rfl hW.1)) (by kernel_rfl) (by kernel_rfl) (fun D s W bA kK hD hW hF hA hK => ?_) ?_
    · have x9 := hA.o 9 _ rfl u9
      obtain ⟨-, ⟨c1, z1⟩, -, -⟩ := hF.zq.rules
      have hF := Lib.hid hF
      clear hA
      go_simp
      exact hK.out _ _ ⟨hF.out.zb, hF.out.zq, hF.out.zt.step rfl rfl⟩
    refine FSteps.yes3 (bv := true) hz rfl (dv := [25, 26, 24]) (by kernel_rfl) rfl (by kernel_rfl) (by kernel_rfl) (fun D s W hW hF => (hF.zt.get (j := 24) rfl hW.2.2.1)) (by kernel_rfl) (by kernel_rfl) (fun D s W bA kK hD hW hF hA hK => ?_) ?_
    · have x68 := hA.i 68 _ rfl rfl (hF.zt.get (j := 25) rfl hW.1)
      have x69 := hA.i 69 _ rfl rfl (hF.zt.get (j := 26) rfl hW.2.1)
      have hF := Lib.hid hF
      clear hA
      have hne := ab_neq a b; rw [decide_eq_true hE.out] at hne; simp only [Bool.not_true] at hne
      go_simp
      exact hK.out _ _ ⟨hF.out.zb, hF.out.zq, hF.out.zt.step rfl rfl⟩
    refine FSteps.yes3 (bv := false) hz rfl (dv := [24, 27, 17]) (by kernel_rfl) rfl (by kernel_rfl) (by kernel_rfl) (fun D s W hW hF => (hF.zt.get (j := 17) rfl hW.2.2.1)) (by kernel_rfl) (by kernel_rfl) (fun D s W bA kK hD hW hF hA hK => ?_) ?_
    · have x67 := hA.i 67 _ rfl rfl (hF.zt.get (j := 24) rfl hW.1)
      have x70 := hA.i 70 _ rfl rfl (hF.zt.get (j := 27) rfl hW.2.1)
      have hF := Lib.hid hF
      clear hA
      go_simp
      exact hK.out _ _ ⟨hF.out.zb, hF.out.zq, hF.out.zt.step rfl rfl⟩
    refine FSteps.op3 hz rfl (dv := [17, 28]) (by kernel_rfl) (by kernel_rfl) (by kernel_rfl) (fun D s W bA kK hD hW hF hA hK => ?_) ?_
    · have x60 := hA.i 60 _ rfl rfl (hF.zt.get (j := 17) rfl hW.1)
      have x71 := hA.i 71 _ rfl rfl (hF.zt.get (j := 28) rfl hW.2.1)
      have hF := Lib.hid hF
      clear hA
      go_simp
      exact hK.out _ _ ⟨hF.out.zb, hF.out.zq, hF.out.zt.step rfl rfl⟩
    exact FSteps.nil
    intro D s W aF12 hD hF hz' df' hA
    obtain ⟨d0, d1, d2, d3, d4, d5, d6, d7, d8, d9, d10, d11, d12, d13, d14, d15, d16, d17, d18, d19, d20, d21, d22, d23, d24, d25, d26, d27, d28, d29, -⟩ := hD
    clear u11 u12
    replace u6 : Sl aF12 6 _ := hA.o 6 _ rfl u6
    replace u7 : Sl aF12 7 _ := hA.o 7 _ rfl u7
    replace u8 : Sl aF12 8 _ := hA.o 8 _ rfl u8
    replace u9 : Sl aF12 9 _ := hA.o 9 _ rfl u9
    replace u10 : Sl aF12 10 _ := hA.o 10 _ rfl u10
    have u72 : Sl aF12 72 _ := hA.i 72 _ rfl rfl (hF.zt.get (j := 29) rfl d29)
    have hM := hF.zb
    have hB := hF.zq
    have hB : Bks W [(n4_4, #[Value.int .i64 a.lo, Value.int .i64 a.hi, Value.int .i64 a.m, Value.int .i64 a.r, Value.int .i64 a.k], 27), (n4_5, #[Value.int .i64 b.lo, Value.int .i64 b.hi, Value.int .i64 b.m, Value.int .i64 b.r, Value.int .i64 b.k], 27), (n5_2, #[Value.int .i64 c.lo, Value.int .i64 c.hi, Value.int .i64 c.m, Value.int .i64 c.r, Value.int .i64 c.k], 27)] := ⟨hB.1, hB.2.1, hB.2.2.1, trivial⟩
    clear hF hA hz df d0 d1 d2 d3 d4 d5 d6 d7 d8 d9 d10 d11 d12 d13 d14 d15 d16 d17 d18 d19 d20 d21 d22 d23 d24 d25 d26 d27 d28 d29 hU
    have hz := hz'; have df := df'; clear hz' df'
    clear aF11
    show Code.wp _ _ _ _ _
    refine cond_f u72 ?_
    refine wp_skip ?_
    show Code.wp _ _ _ _ _
    exact order_t10 x0 x1 x2 x3 y0 y1 y2 y3 z0 z1 z2 z3 s1 k0 k1 k2 a b c big w1 w2 w3 w4 zf zg  w KJ KO1 KO2 KOL KP1 KP2 KPL KQ1 KQ2 KQL aF12 W n4_4 n4_5 n5_2  hz df u6 u7 u8 u9 u10 hM.b ⟨hB.1, hB.2.1, hB.2.2.1, trivial⟩

set_option maxRecDepth 100000 in
set_option maxHeartbeats 4000000 in
theorem order_law (x0 x1 x2 x3 y0 y1 y2 y3 z0 z1 z2 z3 s1 k0 k1 k2 : Int) (a b c big w1 w2 w3 w4 : Ab) (zf zg : Int → Ab) (q0 q1 q2 t u : Bool) (w : World) 
    (Gx : Hid (∀ w, Calls Try.prog 11 #[Value.agg #[Value.int .i64 x0, Value.int .i64 x1, Value.int .i64 x2, Value.int .i64 x3]] w fun e w' => e = .returned (abVal a) ∧ Below w.heap.size w w'))
    (Gy : Hid (∀ w, Calls Try.prog 11 #[Value.agg #[Value.int .i64 y0, Value.int .i64 y1, Value.int .i64 y2, Value.int .i64 y3]] w fun e w' => e = .returned (abVal b) ∧ Below w.heap.size w w'))
    (Gz : Hid (∀ w, Calls Try.prog 11 #[Value.agg #[Value.int .i64 z0, Value.int .i64 z1, Value.int .i64 z2, Value.int .i64 z3]] w fun e w' => e = .returned (abVal c) ∧ Below w.heap.size w w'))
    (KA0 : Hid (∀ w, Calls Try.prog 12 #[Value.agg #[Value.int .i64 a.lo, Value.int .i64 a.hi, Value.int .i64 a.m, Value.int .i64 a.r, Value.int .i64 a.k], .int .i64 0, .int .i64 255] w fun e w' => e = .returned (Value.agg #[Value.int .i64 a.lo, Value.int .i64 k0]) ∧ Below w.heap.size w w'))
    (KA1 : Hid (∀ w, Calls Try.prog 12 #[Value.agg #[Value.int .i64 a.lo, Value.int .i64 a.hi, Value.int .i64 a.m, Value.int .i64 a.r, Value.int .i64 a.k], .int .i64 1, .int .i64 255] w fun e w' => e = .returned (Value.agg #[Value.int .i64 s1, Value.int .i64 k1]) ∧ Below w.heap.size w w'))
    (KA2 : Hid (∀ w, Calls Try.prog 12 #[Value.agg #[Value.int .i64 a.lo, Value.int .i64 a.hi, Value.int .i64 a.m, Value.int .i64 a.r, Value.int .i64 a.k], .int .i64 (-1), .int .i64 255] w fun e w' => e = .returned (Value.agg #[Value.int .i64 a.hi, Value.int .i64 k2]) ∧ Below w.heap.size w w'))
    (KH0 : Hid (∀ w, Calls Try.prog 13 #[Value.agg #[Value.int .i64 b.lo, Value.int .i64 b.hi, Value.int .i64 b.m, Value.int .i64 b.r, Value.int .i64 b.k], Value.agg #[Value.int .i64 a.lo, Value.int .i64 k0]] w fun e w' => e = .returned (.bool q0) ∧ Below w.heap.size w w'))
    (KH1 : Hid (∀ w, Calls Try.prog 13 #[Value.agg #[Value.int .i64 b.lo, Value.int .i64 b.hi, Value.int .i64 b.m, Value.int .i64 b.r, Value.int .i64 b.k], Value.agg #[Value.int .i64 s1, Value.int .i64 k1]] w fun e w' => e = .returned (.bool q1) ∧ Below w.heap.size w w'))
    (KH2 : Hid (∀ w, Calls Try.prog 13 #[Value.agg #[Value.int .i64 b.lo, Value.int .i64 b.hi, Value.int .i64 b.m, Value.int .i64 b.r, Value.int .i64 b.k], Value.agg #[Value.int .i64 a.hi, Value.int .i64 k2]] w fun e w' => e = .returned (.bool q2) ∧ Below w.heap.size w w'))
    (KL : Hid (∀ w, Calls Try.prog 18 #[Value.agg #[Value.int .i64 a.lo, Value.int .i64 a.hi, Value.int .i64 a.m, Value.int .i64 a.r, Value.int .i64 a.k], Value.agg #[Value.int .i64 b.lo, Value.int .i64 b.hi, Value.int .i64 b.m, Value.int .i64 b.r, Value.int .i64 b.k]] w fun e w' => e = .returned (.bool t) ∧ Below w.heap.size w w'))
    (KS : Hid (∀ w, Calls Try.prog 18 #[Value.agg #[Value.int .i64 a.lo, Value.int .i64 a.hi, Value.int .i64 a.m, Value.int .i64 a.r, Value.int .i64 a.k], Value.agg #[Value.int .i64 a.lo, Value.int .i64 a.hi, Value.int .i64 a.m, Value.int .i64 a.r, Value.int .i64 a.k]] w fun e w' => e = .returned (.bool true) ∧ Below w.heap.size w w'))
    (KB : Hid (∀ w, Calls Try.prog 18 #[Value.agg #[Value.int .i64 b.lo, Value.int .i64 b.hi, Value.int .i64 b.m, Value.int .i64 b.r, Value.int .i64 b.k], Value.agg #[Value.int .i64 a.lo, Value.int .i64 a.hi, Value.int .i64 a.m, Value.int .i64 a.r, Value.int .i64 a.k]] w fun e w' => e = .returned (.bool u) ∧ Below w.heap.size w w'))
    (KJ : Hid (∀ w, Calls Try.prog 17 #[Value.agg #[Value.int .i64 a.lo, Value.int .i64 a.hi, Value.int .i64 a.m, Value.int .i64 a.r, Value.int .i64 a.k], Value.agg #[Value.int .i64 b.lo, Value.int .i64 b.hi, Value.int .i64 b.m, Value.int .i64 b.r, Value.int .i64 b.k]] w fun e w' => e = .returned (abVal big) ∧ Below w.heap.size w w'))
    (KO1 : Hid (∀ op, 4 ≤ op → op ≤ 6 → ∀ w, Calls Try.prog 14 #[.int .i64 op, Value.agg #[Value.int .i64 a.lo, Value.int .i64 a.hi, Value.int .i64 a.m, Value.int .i64 a.r, Value.int .i64 a.k], Value.agg #[Value.int .i64 c.lo, Value.int .i64 c.hi, Value.int .i64 c.m, Value.int .i64 c.r, Value.int .i64 c.k]] w fun e w' => e = .returned (abVal (zf op)) ∧ Below w.heap.size w w'))
    (KO2 : Hid (∀ op, 4 ≤ op → op ≤ 6 → ∀ w, Calls Try.prog 14 #[.int .i64 op, Value.agg #[Value.int .i64 big.lo, Value.int .i64 big.hi, Value.int .i64 big.m, Value.int .i64 big.r, Value.int .i64 big.k], Value.agg #[Value.int .i64 c.lo, Value.int .i64 c.hi, Value.int .i64 c.m, Value.int .i64 c.r, Value.int .i64 c.k]] w fun e w' => e = .returned (abVal (zg op)) ∧ Below w.heap.size w w'))
    (KOL : Hid (∀ op, 4 ≤ op → op ≤ 6 → ∀ w, Calls Try.prog 18 #[Value.agg #[Value.int .i64 (zf op).lo, Value.int .i64 (zf op).hi, Value.int .i64 (zf op).m, Value.int .i64 (zf op).r, Value.int .i64 (zf op).k], Value.agg #[Value.int .i64 (zg op).lo, Value.int .i64 (zg op).hi, Value.int .i64 (zg op).m, Value.int .i64 (zg op).r, Value.int .i64 (zg op).k]] w fun e w' => e = .returned (.bool true) ∧ Below w.heap.size w w'))
    (KP1 : Hid (∀ w, Calls Try.prog 14 #[.int .i64 9, Value.agg #[Value.int .i64 a.lo, Value.int .i64 a.hi, Value.int .i64 a.m, Value.int .i64 a.r, Value.int .i64 a.k], Value.agg #[Value.int .i64 c.lo, Value.int .i64 c.hi, Value.int .i64 c.m, Value.int .i64 c.r, Value.int .i64 c.k]] w fun e w' => e = .returned (abVal w1) ∧ Below w.heap.size w w'))
    (KP2 : Hid (∀ w, Calls Try.prog 14 #[.int .i64 9, Value.agg #[Value.int .i64 big.lo, Value.int .i64 big.hi, Value.int .i64 big.m, Value.int .i64 big.r, Value.int .i64 big.k], Value.agg #[Value.int .i64 c.lo, Value.int .i64 c.hi, Value.int .i64 c.m, Value.int .i64 c.r, Value.int .i64 c.k]] w fun e w' => e = .returned (abVal w2) ∧ Below w.heap.size w w'))
    (KPL : Hid (∀ w, Calls Try.prog 18 #[Value.agg #[Value.int .i64 w1.lo, Value.int .i64 w1.hi, Value.int .i64 w1.m, Value.int .i64 w1.r, Value.int .i64 w1.k], Value.agg #[Value.int .i64 w2.lo, Value.int .i64 w2.hi, Value.int .i64 w2.m, Value.int .i64 w2.r, Value.int .i64 w2.k]] w fun e w' => e = .returned (.bool true) ∧ Below w.heap.size w w'))
    (KQ1 : Hid (∀ w, Calls Try.prog 14 #[.int .i64 10, Value.agg #[Value.int .i64 c.lo, Value.int .i64 c.hi, Value.int .i64 c.m, Value.int .i64 c.r, Value.int .i64 c.k], Value.agg #[Value.int .i64 a.lo, Value.int .i64 a.hi, Value.int .i64 a.m, Value.int .i64 a.r, Value.int .i64 a.k]] w fun e w' => e = .returned (abVal w3) ∧ Below w.heap.size w w'))
    (KQ2 : Hid (∀ w, Calls Try.prog 14 #[.int .i64 10, Value.agg #[Value.int .i64 c.lo, Value.int .i64 c.hi, Value.int .i64 c.m, Value.int .i64 c.r, Value.int .i64 c.k], Value.agg #[Value.int .i64 big.lo, Value.int .i64 big.hi, Value.int .i64 big.m, Value.int .i64 big.r, Value.int .i64 big.k]] w fun e w' => e = .returned (abVal w4) ∧ Below w.heap.size w w'))
    (KQL : Hid (∀ w, Calls Try.prog 18 #[Value.agg #[Value.int .i64 w3.lo, Value.int .i64 w3.hi, Value.int .i64 w3.m, Value.int .i64 w3.r, Value.int .i64 w3.k], Value.agg #[Value.int .i64 w4.lo, Value.int .i64 w4.hi, Value.int .i64 w4.m, Value.int .i64 w4.r, Value.int .i64 w4.k]] w fun e w' => e = .returned (.bool true) ∧ Below w.heap.size w w'))
    (hq : t = (((q0 && q1) && q2) && (bits .andNot .i64 a.k b.k == 0)))
    (hab : t = true → u = true → a = b) :
    Calls Try.prog 5 #[Value.agg #[Value.int .i64 x0, Value.int .i64 x1, Value.int .i64 x2, Value.int .i64 x3], Value.agg #[Value.int .i64 y0, Value.int .i64 y1, Value.int .i64 y2, Value.int .i64 y3], Value.agg #[Value.int .i64 z0, Value.int .i64 z1, Value.int .i64 z2, Value.int .i64 z3]] w fun e w' => e = .returned (Value.bool true) ∧ Below w.heap.size w w' := by
  have KE := Lib.hid spexamples
  replace hq := Lib.hid hq; replace hab := Lib.hid hab
  refine calls_go Try.func5 rfl 109 rfl rfl (fun aF hz df hu => ?_)
  have u0 : Sl aF 0 (Value.agg #[Value.int .i64 x0, Value.int .i64 x1, Value.int .i64 x2, Value.int .i64 x3]) := hu 0 _ rfl
  have u1 : Sl aF 1 (Value.agg #[Value.int .i64 y0, Value.int .i64 y1, Value.int .i64 y2, Value.int .i64 y3]) := hu 1 _ rfl
  have u2 : Sl aF 2 (Value.agg #[Value.int .i64 z0, Value.int .i64 z1, Value.int .i64 z2, Value.int .i64 z3]) := hu 2 _ rfl
  clear hu
  have hM : Mk0 w w.heap.size w := ⟨Below.refl _ _, Nat.le_refl _⟩
  have hB : Bks w [] := trivial
  refine wp_seq ?_
  obtain ⟨m1, hM, hU, hwm⟩ := start_region hM.b hB
  refine region_run (F := order_law_r0_1 x0 x1 x2 x3 y0 y1 y2 y3 z0 z1 z2 z3 s1 k0 k1 k2 a b c big w1 w2 w3 w4 zf zg q0 q1 q2 t u w m1) [3, 4, 5, 6] [0, 1, 2, 3] hz df (by kernel_rfl) (by kernel_rfl) (fun s hs0 => ⟨hM, hB, Vals.none s _, fun h => no_of' h, fun h => no_of' h, fun h => no_of' h, fun h => no_of' h, fun h => no_of' h, fun h => no_of' h, fun h => no_of' h, fun h => no_of' h, fun h => no_of' h, fun h => no_of' h, fun h => no_of' h, fun h => no_of' h⟩) ?_ ?_
  refine FSteps.op3 hz rfl (dv := []) (by kernel_rfl) (by kernel_rfl) (by kernel_rfl) (fun D s W bA kK hD hW hF hA hK => ?_) ?_
  · have x0 := hA.o 0 _ rfl u0
    have hF := Lib.hid hF
    clear hA
    go_simp
    exact hK.out _ _ ⟨hF.out.zb.al _, Bks.al _ hF.out.zq, hF.out.zt.skip rfl, fun _ => rfl, hF.out.v1, hF.out.v2, fun _ => Bk.new _ _ _, fun _ => hF.out.zb.g, fun h1 => (hF.out.k1_0 h1).al _, hF.out.g1, fun h1 => (hF.out.k2_0 h1).al _, hF.out.g2, fun _ h => Nat.ne_of_gt ((hF.out.k1_0 h).lt), fun _ h => Nat.ne_of_gt ((hF.out.k2_0 h).lt), hF.out.e1_2⟩
  refine FSteps.op3 hz rfl (dv := []) (by kernel_rfl) (by kernel_rfl) (by kernel_rfl) (fun D s W bA kK hD hW hF hA hK => ?_) ?_
  · have x1 := hA.o 1 _ rfl u1
    have hF := Lib.hid hF
    clear hA
    go_simp
    exact hK.out _ _ ⟨hF.out.zb.al _, Bks.al _ hF.out.zq, hF.out.zt.skip rfl, hF.out.v0, fun _ => rfl, hF.out.v2, fun h1 => (hF.out.k0_0 h1).al _, hF.out.g0, fun _ => Bk.new _ _ _, fun _ => hF.out.zb.g, fun h1 => (hF.out.k2_0 h1).al _, hF.out.g2, fun h _ => Nat.ne_of_lt ((hF.out.k0_0 h).lt), hF.out.e0_2, fun _ h => Nat.ne_of_gt ((hF.out.k2_0 h).lt)⟩
  refine FSteps.op3 hz rfl (dv := []) (by kernel_rfl) (by kernel_rfl) (by kernel_rfl) (fun D s W bA kK hD hW hF hA hK => ?_) ?_
  · have x2 := hA.o 2 _ rfl u2
    have hF := Lib.hid hF
    clear hA
    go_simp
    exact hK.out _ _ ⟨hF.out.zb.al _, Bks.al _ hF.out.zq, hF.out.zt.skip rfl, hF.out.v0, hF.out.v1, fun _ => rfl, fun h1 => (hF.out.k0_0 h1).al _, hF.out.g0, fun h1 => (hF.out.k1_0 h1).al _, hF.out.g1, fun _ => Bk.new _ _ _, fun _ => hF.out.zb.g, hF.out.e0_1, fun h _ => Nat.ne_of_lt ((hF.out.k0_0 h).lt), fun h _ => Nat.ne_of_lt ((hF.out.k1_0 h).lt)⟩
  refine FSteps.op3 hz rfl (dv := []) (by kernel_rfl) (by kernel_rfl) (by kernel_rfl) (fun D s W bA kK hD hW hF hA hK => ?_) ?_
  · have hF := Lib.hid hF
    clear hA
    go_simp
    exact hK.out _ _ ⟨hF.out.zb, hF.out.zq, hF.out.zt.step rfl rfl, hF.out.v0, hF.out.v1, hF.out.v2, hF.out.k0_0, hF.out.g0, hF.out.k1_0, hF.out.g1, hF.out.k2_0, hF.out.g2, hF.out.e0_1, hF.out.e0_2, hF.out.e1_2⟩
  exact FSteps.nil
  intro D s W aF1 hD hF hz' df' hA
  obtain ⟨d0, d1, d2, d3, -⟩ := hD
  clear u0 u1 u2
  have u3 : Sl aF1 3 _ := hA.i 3 _ rfl rfl (hF.v0 d0)
  have u4 : Sl aF1 4 _ := hA.i 4 _ rfl rfl (hF.v1 d1)
  have u5 : Sl aF1 5 _ := hA.i 5 _ rfl rfl (hF.v2 d2)
  have u6 : Sl aF1 6 _ := hA.i 6 _ rfl rfl (hF.zt.get (j := 3) rfl d3)
  have hkX0 := hF.k0_0 d0
  have hgX0 := hF.g0 d0
  have hkX1 := hF.k1_0 d1
  have hgX1 := hF.g1 d1
  have hkX2 := hF.k2_0 d2
  have hgX2 := hF.g2 d2
  have heX0_1 := hF.e0_1 d0 d1
  have heX0_2 := hF.e0_2 d0 d2
  have heX1_2 := hF.e1_2 d1 d2
  have hM := hF.zb
  have hB := hF.zq
  generalize pblk (s 3) = n1_0 at hkX0 hgX0 hkX1 hgX1 hkX2 hgX2 heX0_1 heX0_2 heX1_2 u3 u4 u5 u6
  generalize pblk (s 4) = n1_1 at hkX0 hgX0 hkX1 hgX1 hkX2 hgX2 heX0_1 heX0_2 heX1_2 u3 u4 u5 u6
  generalize pblk (s 5) = n1_2 at hkX0 hgX0 hkX1 hgX1 hkX2 hgX2 heX0_1 heX0_2 heX1_2 u3 u4 u5 u6
  have hB : Bks W [(n1_0, #[Value.int .i64 x0, Value.int .i64 x1, Value.int .i64 x2, Value.int .i64 x3], 23), (n1_1, #[Value.int .i64 y0, Value.int .i64 y1, Value.int .i64 y2, Value.int .i64 y3], 23), (n1_2, #[Value.int .i64 z0, Value.int .i64 z1, Value.int .i64 z2, Value.int .i64 z3], 23)] := ⟨hkX0, hkX1, hkX2, trivial⟩
  clear hF hA hz df d0 d1 d2 d3 hU
  have hz := hz'; have df := df'; clear hz' df'
  clear aF
  show Code.wp _ _ _ _ _
  refine wp_seq ?_
  obtain ⟨m2, hM, hU, hwm⟩ := start_region hM.b hB
  refine region_run (F := order_law_r1_2 x0 x1 x2 x3 y0 y1 y2 y3 z0 z1 z2 z3 s1 k0 k1 k2 a b c big w1 w2 w3 w4 zf zg q0 q1 q2 t u n1_0 n1_1 n1_2 w m2) [15, 7] [0, 1] hz df (by kernel_rfl) (by kernel_rfl) (fun s hs0 => ⟨hM, hB, Vals.none s _⟩) ?_ ?_
  refine FSteps.op3 hz rfl (dv := []) (by kernel_rfl) (by kernel_rfl) (by kernel_rfl) (fun D s W bA kK hD hW hF hA hK => ?_) ?_
  · have hF := Lib.hid hF
    clear hA
    go_simp
    (go_at_call 10; ((with_reducible_and_instances refine (KE.out _).mono ?_)); rintro e W1 ⟨rfl, hb⟩; (try unfold abVal))
    (try go_wp2_with fail)
    exact hK.out _ _ ⟨hF.out.zb.on hb, Bks.on hb hF.out.zq, hF.out.zt.step rfl rfl⟩
  refine FSteps.op3 hz rfl (dv := [0, 0, 0]) (by kernel_rfl) (by kernel_rfl) (by kernel_rfl) (fun D s W bA kK hD hW hF hA hK => ?_) ?_
  · have x15 := hA.i 15 _ rfl rfl (hF.zt.get (j := 0) rfl hW.1)
    have hF := Lib.hid hF
    clear hA
    go_simp
    exact hK.out _ _ ⟨hF.out.zb, hF.out.zq, hF.out.zt.step rfl rfl⟩
  exact FSteps.nil
  intro D s W aF2 hD hF hz' df' hA
  obtain ⟨d0, d1, -⟩ := hD
  replace u3 : Sl aF2 3 _ := hA.o 3 _ rfl u3
  replace u4 : Sl aF2 4 _ := hA.o 4 _ rfl u4
  replace u5 : Sl aF2 5 _ := hA.o 5 _ rfl u5
  replace u6 : Sl aF2 6 _ := hA.o 6 _ rfl u6
  have u7 : Sl aF2 7 _ := hA.i 7 _ rfl rfl (hF.zt.get (j := 1) rfl d1)
  have hM := hF.zb
  have hB := hF.zq
  have hB : Bks W [(n1_0, #[Value.int .i64 x0, Value.int .i64 x1, Value.int .i64 x2, Value.int .i64 x3], 23), (n1_1, #[Value.int .i64 y0, Value.int .i64 y1, Value.int .i64 y2, Value.int .i64 y3], 23), (n1_2, #[Value.int .i64 z0, Value.int .i64 z1, Value.int .i64 z2, Value.int .i64 z3], 23)] := ⟨hB.1, hB.2.1, hB.2.2.1, trivial⟩
  clear hF hA hz df d0 d1 hU
  have hz := hz'; have df := df'; clear hz' df'
  clear aF1
  show Code.wp _ _ _ _ _
  refine wp_seq ?_
  refine wp_seq ?_
  obtain ⟨m3, hM, hU, hwm⟩ := start_region hM.b hB
  refine region_run (F := order_law_r2_3 x0 x1 x2 x3 y0 y1 y2 y3 z0 z1 z2 z3 s1 k0 k1 k2 a b c big w1 w2 w3 w4 zf zg q0 q1 q2 t u n1_0 n1_1 n1_2 w m3) [16, 17] [0, 1] hz df (by kernel_rfl) (by kernel_rfl) (fun s hs0 => ⟨hM, hB, Vals.none s _⟩) ?_ ?_
  refine FSteps.op3 hz rfl (dv := []) (by kernel_rfl) (by kernel_rfl) (by kernel_rfl) (fun D s W bA kK hD hW hF hA hK => ?_) ?_
  · have x7 := hA.o 7 _ rfl u7
    have hF := Lib.hid hF
    clear hA
    go_simp
    exact hK.out _ _ ⟨hF.out.zb, hF.out.zq, hF.out.zt.step rfl rfl⟩
  refine FSteps.op3 hz rfl (dv := [0]) (by kernel_rfl) (by kernel_rfl) (by kernel_rfl) (fun D s W bA kK hD hW hF hA hK => ?_) ?_
  · have x16 := hA.i 16 _ rfl rfl (hF.zt.get (j := 0) rfl hW.1)
    have hF := Lib.hid hF
    clear hA
    go_simp
    exact hK.out _ _ ⟨hF.out.zb, hF.out.zq, hF.out.zt.step rfl rfl⟩
  exact FSteps.nil
  intro D s W aF3 hD hF hz' df' hA
  obtain ⟨d0, d1, -⟩ := hD
  replace u3 : Sl aF3 3 _ := hA.o 3 _ rfl u3
  replace u4 : Sl aF3 4 _ := hA.o 4 _ rfl u4
  replace u5 : Sl aF3 5 _ := hA.o 5 _ rfl u5
  replace u6 : Sl aF3 6 _ := hA.o 6 _ rfl u6
  replace u7 : Sl aF3 7 _ := hA.o 7 _ rfl u7
  have u17 : Sl aF3 17 _ := hA.i 17 _ rfl rfl (hF.zt.get (j := 1) rfl d1)
  have hM := hF.zb
  have hB := hF.zq
  have hB : Bks W [(n1_0, #[Value.int .i64 x0, Value.int .i64 x1, Value.int .i64 x2, Value.int .i64 x3], 23), (n1_1, #[Value.int .i64 y0, Value.int .i64 y1, Value.int .i64 y2, Value.int .i64 y3], 23), (n1_2, #[Value.int .i64 z0, Value.int .i64 z1, Value.int .i64 z2, Value.int .i64 z3], 23)] := ⟨hB.1, hB.2.1, hB.2.2.1, trivial⟩
  clear hF hA hz df d0 d1 hU
  have hz := hz'; have df := df'; clear hz' df'
  clear aF2
  show Code.wp _ _ _ _ _
  refine cond_f u17 ?_
  refine wp_skip ?_
  show Code.wp _ _ _ _ _
  refine wp_seq ?_
  obtain ⟨m4, hM, hU, hwm⟩ := start_region hM.b hB
  refine region_go (F := order_law_r4_4 x0 x1 x2 x3 y0 y1 y2 y3 z0 z1 z2 z3 s1 k0 k1 k2 a b c big w1 w2 w3 w4 zf zg q0 q1 q2 t u n1_0 n1_1 n1_2 w m4) [18, 19, 20, 21, 8, 9] [0, 1, 2, 3, 4, 5, 6, 7] hz df (by kernel_rfl) (by kernel_rfl) (by kernel_rfl) (fun s hs0 => ⟨hM.drew, Bks.drew hB, Vals.none s _, fun h => no_of' h, fun h => no_of' h, fun h => no_of' h, fun h => no_of' h, fun h => no_of' h, fun h => no_of' h, fun h => no_of' h, fun h => no_of' h, fun h => no_of' h, fun h => no_of' h, fun h => no_of' h⟩) ?_ ?_
  refine FSteps.op3 hz rfl (dv := []) (by kernel_rfl) (by kernel_rfl) (by kernel_rfl) (fun D s W bA kK hD hW hF hA hK => ?_) ?_
  · have x3 := hA.o 3 _ rfl u3
    obtain ⟨⟨c0, z0⟩, -, -, -⟩ := hF.zq.rules
    have hF := Lib.hid hF
    clear hA
    go_simp
    exact hK.out _ _ ⟨hF.out.zb, hF.out.zq, hF.out.zt.step rfl rfl, hF.out.v4, hF.out.v5, hF.out.k4_0, hF.out.k4_1, hF.out.c4_1, hF.out.g4, hF.out.k5_0, hF.out.k5_1, hF.out.c5_1, hF.out.g5, hF.out.e4_5⟩
  refine FSteps.op3 hz rfl (dv := [0]) (by kernel_rfl) (by kernel_rfl) (by kernel_rfl) (fun D s W bA kK hD hW hF hA hK => ?_) ?_
  · have x18 := hA.i 18 _ rfl rfl (hF.zt.get (j := 0) rfl hW.1)
    have hF := Lib.hid hF
    clear hA
    go_simp
    (go_at_call 11; ((with_reducible_and_instances refine (Gx.out _).mono ?_)); rintro e W1 ⟨rfl, hb⟩; (try unfold abVal))
    (try go_wp2_with fail)
    exact hK.out _ _ ⟨hF.out.zb.on hb, Bks.on hb hF.out.zq, hF.out.zt.step rfl rfl, hF.out.v4, hF.out.v5, fun h1 h2 => (hF.out.k4_0 h1 h2).on hb, fun h1 => (hF.out.k4_1 h1).on hb, hF.out.c4_1, hF.out.g4, fun h1 h2 => (hF.out.k5_0 h1 h2).on hb, fun h1 => (hF.out.k5_1 h1).on hb, hF.out.c5_1, hF.out.g5, hF.out.e4_5⟩
  refine FSteps.op3 hz rfl (dv := []) (by kernel_rfl) (by kernel_rfl) (by kernel_rfl) (fun D s W bA kK hD hW hF hA hK => ?_) ?_
  · have x4 := hA.o 4 _ rfl u4
    obtain ⟨-, ⟨c1, z1⟩, -, -⟩ := hF.zq.rules
    have hF := Lib.hid hF
    clear hA
    go_simp
    exact hK.out _ _ ⟨hF.out.zb, hF.out.zq, hF.out.zt.step rfl rfl, hF.out.v4, hF.out.v5, hF.out.k4_0, hF.out.k4_1, hF.out.c4_1, hF.out.g4, hF.out.k5_0, hF.out.k5_1, hF.out.c5_1, hF.out.g5, hF.out.e4_5⟩
  refine FSteps.op3 hz rfl (dv := [2, 1]) (by kernel_rfl) (by kernel_rfl) (by kernel_rfl) (fun D s W bA kK hD hW hF hA hK => ?_) ?_
  · have x20 := hA.i 20 _ rfl rfl (hF.zt.get (j := 2) rfl hW.1)
    have hF := Lib.hid hF
    clear hA
    go_simp
    (go_at_call 11; ((with_reducible_and_instances refine (Gy.out _).mono ?_)); rintro e W1 ⟨rfl, hb⟩; (try unfold abVal))
    (try go_wp2_with fail)
    exact hK.out _ _ ⟨hF.out.zb.on hb, Bks.on hb hF.out.zq, hF.out.zt.step rfl rfl, hF.out.v4, hF.out.v5, fun h1 h2 => (hF.out.k4_0 h1 h2).on hb, fun h1 => (hF.out.k4_1 h1).on hb, hF.out.c4_1, hF.out.g4, fun h1 h2 => (hF.out.k5_0 h1 h2).on hb, fun h1 => (hF.out.k5_1 h1).on hb, hF.out.c5_1, hF.out.g5, hF.out.e4_5⟩
  refine FSteps.op3 hz rfl (dv := []) (by kernel_rfl) (by kernel_rfl) (by kernel_rfl) (fun D s W bA kK hD hW hF hA hK => ?_) ?_
  · have hF := Lib.hid hF
    clear hA
    go_simp
    exact hK.out _ _ ⟨hF.out.zb.al _, Bks.al _ hF.out.zq, hF.out.zt.skip rfl, fun _ => rfl, hF.out.v5, fun _ _ => Bk.new _ _ _, fun h1 => absurd (hF.out.c4_1 h1) (by rw [hD]; decide), fun _ => rfl, fun _ => hF.out.zb.g, fun h1 h2 => (hF.out.k5_0 h1 h2).al _, fun h1 => (hF.out.k5_1 h1).al _, hF.out.c5_1, hF.out.g5, fun _ h => Nat.ne_of_gt (lt_of_either (hF.out.k5_0 h) hF.out.k5_1)⟩
  refine FSteps.op3 hz rfl (dv := []) (by kernel_rfl) (by kernel_rfl) (by kernel_rfl) (fun D s W bA kK hD hW hF hA hK => ?_) ?_
  · have hF := Lib.hid hF
    clear hA
    go_simp
    exact hK.out _ _ ⟨hF.out.zb.al _, Bks.al _ hF.out.zq, hF.out.zt.skip rfl, hF.out.v4, fun _ => rfl, fun h1 h2 => (hF.out.k4_0 h1 h2).al _, fun h1 => (hF.out.k4_1 h1).al _, hF.out.c4_1, hF.out.g4, fun _ _ => Bk.new _ _ _, fun h1 => absurd (hF.out.c5_1 h1) (by rw [hD]; decide), fun _ => rfl, fun _ => hF.out.zb.g, fun h _ => Nat.ne_of_lt (lt_of_either (hF.out.k4_0 h) hF.out.k4_1)⟩
  refine FSteps.op3 hz rfl (dv := [4, 1, 3, 0, 1, 4, 5]) (by kernel_rfl) (by kernel_rfl) (by kernel_rfl) (fun D s W bA kK hD hW hF hA hK => ?_) ?_
  · have x8 := hA.i 8 _ rfl rfl (hF.v4 hW.1)
    have x19 := hA.i 19 _ rfl rfl (hF.zt.get (j := 1) rfl hW.2.1)
    have kk := hF.k4_0 hW.1 hD
    have hge := Nat.le_trans hwm (hF.g4 hW.1); have hge2 := hF.g4 hW.1
    have kc := kk.cell; have kf := kk.free
    have hF := Lib.hid hF
    have kk := Lib.hid kk; have hge := Lib.hid hge; have hge2 := Lib.hid hge2
    clear hA
    go_simp
    exact hK.out undef _ ⟨hF.out.zb.sAll (hge.out) 0 [Value.int .i64 a.lo, Value.int .i64 a.hi, Value.int .i64 a.m, Value.int .i64 a.r, Value.int .i64 a.k], Bks.oAll [Value.int .i64 a.lo, Value.int .i64 a.hi, Value.int .i64 a.m, Value.int .i64 a.r, Value.int .i64 a.k] 0 (Under.outside hge2.out hU) hF.out.zq, hF.out.zt.skip rfl, hF.out.v4, hF.out.v5, fun h1 h2 => no_of h2, fun _ => kk.out.full [Value.int .i64 a.lo, Value.int .i64 a.hi, Value.int .i64 a.m, Value.int .i64 a.r, Value.int .i64 a.k] rfl, fun _ => hW.1, hF.out.g4, fun h1 h2 => Bk.oAll ((hF.out.e4_5 hW.1 h1).symm) [Value.int .i64 a.lo, Value.int .i64 a.hi, Value.int .i64 a.m, Value.int .i64 a.r, Value.int .i64 a.k] 0 (hF.out.k5_0 h1 h2), fun h1 => Bk.oAll ((hF.out.e4_5 hW.1 (hF.out.c5_1 h1)).symm) [Value.int .i64 a.lo, Value.int .i64 a.hi, Value.int .i64 a.m, Value.int .i64 a.r, Value.int .i64 a.k] 0 (hF.out.k5_1 h1), hF.out.c5_1, hF.out.g5, hF.out.e4_5⟩
  refine FSteps.op3 hz rfl (dv := [5, 3, 6, 0, 1, 2, 3, 4, 5, 6]) (by kernel_rfl) (by kernel_rfl) (by kernel_rfl) (fun D s W bA kK hD hW hF hA hK => ?_) ?_
  · have x9 := hA.i 9 _ rfl rfl (hF.v5 hW.1)
    have x21 := hA.i 21 _ rfl rfl (hF.zt.get (j := 3) rfl hW.2.1)
    have kk := hF.k5_0 hW.1 hD
    have hge := Nat.le_trans hwm (hF.g5 hW.1); have hge2 := hF.g5 hW.1
    have kc := kk.cell; have kf := kk.free
    have hF := Lib.hid hF
    have kk := Lib.hid kk; have hge := Lib.hid hge; have hge2 := Lib.hid hge2
    clear hA
    go_simp
    exact hK.out undef _ ⟨hF.out.zb.sAll (hge.out) 0 [Value.int .i64 b.lo, Value.int .i64 b.hi, Value.int .i64 b.m, Value.int .i64 b.r, Value.int .i64 b.k], Bks.oAll [Value.int .i64 b.lo, Value.int .i64 b.hi, Value.int .i64 b.m, Value.int .i64 b.r, Value.int .i64 b.k] 0 (Under.outside hge2.out hU) hF.out.zq, hF.out.zt.skip rfl, hF.out.v4, hF.out.v5, fun h1 h2 => Bk.oAll (hF.out.e4_5 h1 hW.1) [Value.int .i64 b.lo, Value.int .i64 b.hi, Value.int .i64 b.m, Value.int .i64 b.r, Value.int .i64 b.k] 0 (hF.out.k4_0 h1 h2), fun h1 => Bk.oAll (hF.out.e4_5 (hF.out.c4_1 h1) hW.1) [Value.int .i64 b.lo, Value.int .i64 b.hi, Value.int .i64 b.m, Value.int .i64 b.r, Value.int .i64 b.k] 0 (hF.out.k4_1 h1), hF.out.c4_1, hF.out.g4, fun h1 h2 => no_of h2, fun _ => kk.out.full [Value.int .i64 b.lo, Value.int .i64 b.hi, Value.int .i64 b.m, Value.int .i64 b.r, Value.int .i64 b.k] rfl, fun _ => hW.1, hF.out.g5, hF.out.e4_5⟩
  exact FSteps.nil
  intro D s W aF4 hD hF hz' df' hA
  obtain ⟨d0, d1, d2, d3, d4, d5, d6, d7, -⟩ := hD
  clear u3 u4 u17
  replace u5 : Sl aF4 5 _ := hA.o 5 _ rfl u5
  replace u6 : Sl aF4 6 _ := hA.o 6 _ rfl u6
  replace u7 : Sl aF4 7 _ := hA.o 7 _ rfl u7
  have u8 : Sl aF4 8 _ := hA.i 8 _ rfl rfl (hF.v4 d4)
  have u9 : Sl aF4 9 _ := hA.i 9 _ rfl rfl (hF.v5 d5)
  have hkX4 := hF.k4_1 d6
  have hgX4 := hF.g4 d4
  have hkX5 := hF.k5_1 d7
  have hgX5 := hF.g5 d5
  have heX4_5 := hF.e4_5 d4 d5
  have hM := hF.zb
  have hB := hF.zq
  generalize pblk (s 8) = n4_4 at hkX4 hgX4 hkX5 hgX5 heX4_5 u8 u9
  generalize pblk (s 9) = n4_5 at hkX4 hgX4 hkX5 hgX5 heX4_5 u8 u9
  have hB : Bks W [(n1_2, #[Value.int .i64 z0, Value.int .i64 z1, Value.int .i64 z2, Value.int .i64 z3], 23), (n4_4, #[Value.int .i64 a.lo, Value.int .i64 a.hi, Value.int .i64 a.m, Value.int .i64 a.r, Value.int .i64 a.k], 27), (n4_5, #[Value.int .i64 b.lo, Value.int .i64 b.hi, Value.int .i64 b.m, Value.int .i64 b.r, Value.int .i64 b.k], 27)] := ⟨hB.2.2.1, hkX4, hkX5, trivial⟩
  clear hF hA hz df d0 d1 d2 d3 d4 d5 d6 d7 hU
  have hz := hz'; have df := df'; clear hz' df'
  clear aF3
  show Code.wp _ _ _ _ _
  refine wp_seq ?_
  obtain ⟨m5, hM, hU, hwm⟩ := start_region hM.b hB
  refine region_run (F := order_law_r5_5 x0 x1 x2 x3 y0 y1 y2 y3 z0 z1 z2 z3 s1 k0 k1 k2 a b c big w1 w2 w3 w4 zf zg q0 q1 q2 t u n1_2 n4_4 n4_5 w m5) [22, 23, 10] [0, 1, 2, 3] hz df (by kernel_rfl) (by kernel_rfl) (fun s hs0 => ⟨hM, hB, Vals.none s _, fun h => no_of' h, fun h => no_of' h, fun h => no_of' h, fun h => no_of' h, fun h => no_of' h⟩) ?_ ?_
  refine FSteps.op3 hz rfl (dv := []) (by kernel_rfl) (by kernel_rfl) (by kernel_rfl) (fun D s W bA kK hD hW hF hA hK => ?_) ?_
  · have x5 := hA.o 5 _ rfl u5
    obtain ⟨⟨c0, z0⟩, -, -, -⟩ := hF.zq.rules
    have hF := Lib.hid hF
    clear hA
    go_simp
    exact hK.out _ _ ⟨hF.out.zb, hF.out.zq, hF.out.zt.step rfl rfl, hF.out.v2, hF.out.k2_0, hF.out.k2_1, hF.out.c2_1, hF.out.g2⟩
  refine FSteps.op3 hz rfl (dv := [0]) (by kernel_rfl) (by kernel_rfl) (by kernel_rfl) (fun D s W bA kK hD hW hF hA hK => ?_) ?_
  · have x22 := hA.i 22 _ rfl rfl (hF.zt.get (j := 0) rfl hW.1)
    have hF := Lib.hid hF
    clear hA
    go_simp
    (go_at_call 11; ((with_reducible_and_instances refine (Gz.out _).mono ?_)); rintro e W1 ⟨rfl, hb⟩; (try unfold abVal))
    (try go_wp2_with fail)
    exact hK.out _ _ ⟨hF.out.zb.on hb, Bks.on hb hF.out.zq, hF.out.zt.step rfl rfl, hF.out.v2, fun h1 h2 => (hF.out.k2_0 h1 h2).on hb, fun h1 => (hF.out.k2_1 h1).on hb, hF.out.c2_1, hF.out.g2⟩
  refine FSteps.op3 hz rfl (dv := []) (by kernel_rfl) (by kernel_rfl) (by kernel_rfl) (fun D s W bA kK hD hW hF hA hK => ?_) ?_
  · have hF := Lib.hid hF
    clear hA
    go_simp
    exact hK.out _ _ ⟨hF.out.zb.al _, Bks.al _ hF.out.zq, hF.out.zt.skip rfl, fun _ => rfl, fun _ _ => Bk.new _ _ _, fun h1 => absurd (hF.out.c2_1 h1) (by rw [hD]; decide), fun _ => rfl, fun _ => hF.out.zb.g⟩
  refine FSteps.op3 hz rfl (dv := [2, 1, 1, 0, 1, 2]) (by kernel_rfl) (by kernel_rfl) (by kernel_rfl) (fun D s W bA kK hD hW hF hA hK => ?_) ?_
  · have x10 := hA.i 10 _ rfl rfl (hF.v2 hW.1)
    have x23 := hA.i 23 _ rfl rfl (hF.zt.get (j := 1) rfl hW.2.1)
    have kk := hF.k2_0 hW.1 hD
    have hge := Nat.le_trans hwm (hF.g2 hW.1); have hge2 := hF.g2 hW.1
    have kc := kk.cell; have kf := kk.free
    have hF := Lib.hid hF
    have kk := Lib.hid kk; have hge := Lib.hid hge; have hge2 := Lib.hid hge2
    clear hA
    go_simp
    exact hK.out undef _ ⟨hF.out.zb.sAll (hge.out) 0 [Value.int .i64 c.lo, Value.int .i64 c.hi, Value.int .i64 c.m, Value.int .i64 c.r, Value.int .i64 c.k], Bks.oAll [Value.int .i64 c.lo, Value.int .i64 c.hi, Value.int .i64 c.m, Value.int .i64 c.r, Value.int .i64 c.k] 0 (Under.outside hge2.out hU) hF.out.zq, hF.out.zt.skip rfl, hF.out.v2, fun h1 h2 => no_of h2, fun _ => kk.out.full [Value.int .i64 c.lo, Value.int .i64 c.hi, Value.int .i64 c.m, Value.int .i64 c.r, Value.int .i64 c.k] rfl, fun _ => hW.1, hF.out.g2⟩
  exact FSteps.nil
  intro D s W aF5 hD hF hz' df' hA
  obtain ⟨d0, d1, d2, d3, -⟩ := hD
  clear u5
  replace u6 : Sl aF5 6 _ := hA.o 6 _ rfl u6
  replace u7 : Sl aF5 7 _ := hA.o 7 _ rfl u7
  replace u8 : Sl aF5 8 _ := hA.o 8 _ rfl u8
  replace u9 : Sl aF5 9 _ := hA.o 9 _ rfl u9
  have u10 : Sl aF5 10 _ := hA.i 10 _ rfl rfl (hF.v2 d2)
  have hkX2 := hF.k2_1 d3
  have hgX2 := hF.g2 d2
  have hM := hF.zb
  have hB := hF.zq
  generalize pblk (s 10) = n5_2 at hkX2 hgX2 u10
  have hB : Bks W [(n4_4, #[Value.int .i64 a.lo, Value.int .i64 a.hi, Value.int .i64 a.m, Value.int .i64 a.r, Value.int .i64 a.k], 27), (n4_5, #[Value.int .i64 b.lo, Value.int .i64 b.hi, Value.int .i64 b.m, Value.int .i64 b.r, Value.int .i64 b.k], 27), (n5_2, #[Value.int .i64 c.lo, Value.int .i64 c.hi, Value.int .i64 c.m, Value.int .i64 c.r, Value.int .i64 c.k], 27)] := ⟨hB.2.1, hB.2.2.1, hkX2, trivial⟩
  clear hF hA hz df d0 d1 d2 d3 hU
  have hz := hz'; have df := df'; clear hz' df'
  clear aF4
  show Code.wp _ _ _ _ _
  refine wp_seq ?_
  obtain ⟨m6, hM, hU, hwm⟩ := start_region hM.b hB
  refine region_run (F := order_law_r6_6 x0 x1 x2 x3 y0 y1 y2 y3 z0 z1 z2 z3 s1 k0 k1 k2 a b c big w1 w2 w3 w4 zf zg q0 q1 q2 t u n4_4 n4_5 n5_2 w m6) [24, 25, 26, 11] [0, 1, 2, 3] hz df (by kernel_rfl) (by kernel_rfl) (fun s hs0 => ⟨hM, hB, Vals.none s _⟩) ?_ ?_
  refine FSteps.op3 hz rfl (dv := []) (by kernel_rfl) (by kernel_rfl) (by kernel_rfl) (fun D s W bA kK hD hW hF hA hK => ?_) ?_
  · have x8 := hA.o 8 _ rfl u8
    obtain ⟨⟨c0, z0⟩, -, -, -⟩ := hF.zq.rules
    have hF := Lib.hid hF
    clear hA
    go_simp
    exact hK.out _ _ ⟨hF.out.zb, hF.out.zq, hF.out.zt.step rfl rfl⟩
  refine FSteps.op3 hz rfl (dv := []) (by kernel_rfl) (by kernel_rfl) (by kernel_rfl) (fun D s W bA kK hD hW hF hA hK => ?_) ?_
  · have x9 := hA.o 9 _ rfl u9
    obtain ⟨-, ⟨c1, z1⟩, -, -⟩ := hF.zq.rules
    have hF := Lib.hid hF
    clear hA
    go_simp
    exact hK.out _ _ ⟨hF.out.zb, hF.out.zq, hF.out.zt.step rfl rfl⟩
  refine FSteps.op3 hz rfl (dv := [0, 1]) (by kernel_rfl) (by kernel_rfl) (by kernel_rfl) (fun D s W bA kK hD hW hF hA hK => ?_) ?_
  · have x24 := hA.i 24 _ rfl rfl (hF.zt.get (j := 0) rfl hW.1)
    have x25 := hA.i 25 _ rfl rfl (hF.zt.get (j := 1) rfl hW.2.1)
    have hF := Lib.hid hF
    clear hA
    go_simp
    (go_at_call 18; ((with_reducible_and_instances refine (KL.out _).mono ?_)); rintro e W1 ⟨rfl, hb⟩; (try unfold abVal))
    (try go_wp2_with fail)
    exact hK.out _ _ ⟨hF.out.zb.on hb, Bks.on hb hF.out.zq, hF.out.zt.step rfl rfl⟩
  refine FSteps.op3 hz rfl (dv := [2, 2, 0, 1, 2]) (by kernel_rfl) (by kernel_rfl) (by kernel_rfl) (fun D s W bA kK hD hW hF hA hK => ?_) ?_
  · have x26 := hA.i 26 _ rfl rfl (hF.zt.get (j := 2) rfl hW.1)
    have hF := Lib.hid hF
    clear hA
    go_simp
    exact hK.out _ _ ⟨hF.out.zb, hF.out.zq, hF.out.zt.step rfl rfl⟩
  exact FSteps.nil
  intro D s W aF6 hD hF hz' df' hA
  obtain ⟨d0, d1, d2, d3, -⟩ := hD
  replace u6 : Sl aF6 6 _ := hA.o 6 _ rfl u6
  replace u7 : Sl aF6 7 _ := hA.o 7 _ rfl u7
  replace u8 : Sl aF6 8 _ := hA.o 8 _ rfl u8
  replace u9 : Sl aF6 9 _ := hA.o 9 _ rfl u9
  replace u10 : Sl aF6 10 _ := hA.o 10 _ rfl u10
  have u11 : Sl aF6 11 _ := hA.i 11 _ rfl rfl (hF.zt.get (j := 3) rfl d3)
  have hM := hF.zb
  have hB := hF.zq
  have hB : Bks W [(n4_4, #[Value.int .i64 a.lo, Value.int .i64 a.hi, Value.int .i64 a.m, Value.int .i64 a.r, Value.int .i64 a.k], 27), (n4_5, #[Value.int .i64 b.lo, Value.int .i64 b.hi, Value.int .i64 b.m, Value.int .i64 b.r, Value.int .i64 b.k], 27), (n5_2, #[Value.int .i64 c.lo, Value.int .i64 c.hi, Value.int .i64 c.m, Value.int .i64 c.r, Value.int .i64 c.k], 27)] := ⟨hB.1, hB.2.1, hB.2.2.1, trivial⟩
  clear hF hA hz df d0 d1 d2 d3 hU
  have hz := hz'; have df := df'; clear hz' df'
  clear aF5
  show Code.wp _ _ _ _ _
  exact order_t7 x0 x1 x2 x3 y0 y1 y2 y3 z0 z1 z2 z3 s1 k0 k1 k2 a b c big w1 w2 w3 w4 zf zg q0 q1 q2 t u  w KA0 KA1 KA2 KH0 KH1 KH2 KS KB KJ KO1 KO2 KOL KP1 KP2 KPL KQ1 KQ2 KQL hq.out hab.out aF6 W n4_4 n4_5 n5_2  hz df u6 u7 u8 u9 u10 u11 hM.b ⟨hB.1, hB.2.1, hB.2.2.1, trivial⟩


end Go.Proofs.Ytlokjiniigfaiaa
