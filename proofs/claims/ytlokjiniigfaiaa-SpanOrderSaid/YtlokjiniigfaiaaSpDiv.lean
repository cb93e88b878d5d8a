/- Contracts of div and rem of span's pair, at sets that are right. -/
import Derived.Test.YtlokjiniigfaiaaSpPm
set_option linter.unusedVariables false
set_option linter.unusedSimpArgs false
namespace Go.Proofs.Ytlokjiniigfaiaa
open Go.ChangeShapes Go.WideShapes Go.ChangeAt Go.RowKit

theorem tdiv_bd {x y : Int} (hx : -2147483648 ≤ x ∧ x ≤ 2147483647) : -2147483648 ≤ x.tdiv y ∧ x.tdiv y ≤ 2147483648 := by
  have h1 := Int.natAbs_tdiv_le_natAbs x y
  omega
def clampS (lo hi k : Int) : Ab := if (-2147483648 ≤ lo ∧ lo ≤ 2147483647) ∧ (-2147483648 ≤ hi ∧ hi ≤ 2147483647) then byS lo hi 1 k else byS (-2147483648) 2147483647 1 k
theorem value_is' {a : Int} {q : Bool} (h : decide (-2147483648 ≤ a ∧ a ≤ 2147483647) = q) : Hid (∀ w, Calls Try.prog 101 #[.int .i64 a] w fun e w' => e = .returned (.bool q) ∧ Below w.heap.size w w') :=
  Lib.hid fun w => (value_b a w).mono fun e w' hh => ⟨by rw [hh.1, h], hh.2⟩

structure pdiv_1_r0_1 (a b : Ab) (k : Int) (w : World) (m1 : Nat) (D : Nat → Bool) (s : Nat → Value) (W : World) : Prop where
  zb : Mk0 w m1 W
  zq : Bks W []
  zt : Vals D s []
  v0 : D 0 = true → s 1 = (Value.pointer (some ⟨pblk (s 1), 0, none⟩))
  v1 : D 1 = true → s 2 = (Value.pointer (some ⟨pblk (s 2), 0, none⟩))
  k0_0 : D 0 = true → Bk W (pblk (s 1)) #[Value.int .i64 a.lo, Value.int .i64 a.hi, Value.int .i64 a.m, Value.int .i64 a.r, Value.int .i64 a.k, Value.int .i64 b.lo, Value.int .i64 b.hi, Value.int .i64 b.m, Value.int .i64 b.r, Value.int .i64 b.k, Value.int .i64 k] 72
  g0 : D 0 = true → m1 ≤ (pblk (s 1))
  k1_0 : D 1 = true → Bk W (pblk (s 2)) #[Value.int .i64 0, Value.int .i64 0, Value.int .i64 0, Value.int .i64 0, Value.int .i64 0] 27
  g1 : D 1 = true → m1 ≤ (pblk (s 2))
  e0_1 : D 0 = true → D 1 = true → pblk (s 1) ≠ pblk (s 2)

structure pdiv_1_r1_2 (a b : Ab) (k : Int) (n1_0 n1_1 : Nat) (w : World) (m2 : Nat) (D : Nat → Bool) (s : Nat → Value) (W : World) : Prop where
  zb : Mk0 w m2 W
  zq : Bks W [(n1_0, #[Value.int .i64 a.lo, Value.int .i64 a.hi, Value.int .i64 a.m, Value.int .i64 a.r, Value.int .i64 a.k, Value.int .i64 b.lo, Value.int .i64 b.hi, Value.int .i64 b.m, Value.int .i64 b.r, Value.int .i64 b.k, Value.int .i64 k], 72), (n1_1, #[Value.int .i64 0, Value.int .i64 0, Value.int .i64 0, Value.int .i64 0, Value.int .i64 0], 27)]
  zt : Vals D s [(0, 7, Value.pointer (some ⟨n1_0, 0, none⟩)), (1, 8, Value.agg #[Value.int .i64 a.lo, Value.int .i64 a.hi, Value.int .i64 a.m, Value.int .i64 a.r, Value.int .i64 a.k]), (2, 9, Value.pointer (some ⟨n1_0, 5, none⟩)), (3, 10, Value.agg #[Value.int .i64 b.lo, Value.int .i64 b.hi, Value.int .i64 b.m, Value.int .i64 b.r, Value.int .i64 b.k])]
  v4 : D 4 = true → s 3 = (Value.pointer (some ⟨pblk (s 3), 0, none⟩))
  v5 : D 5 = true → s 4 = (Value.pointer (some ⟨pblk (s 4), 0, none⟩))
  k4_0 : D 4 = true → D 6 = false → Bk W (pblk (s 3)) #[Value.int .i64 0, Value.int .i64 0, Value.int .i64 0, Value.int .i64 0, Value.int .i64 0] 27
  k4_1 : D 6 = true → Bk W (pblk (s 3)) #[Value.int .i64 a.lo, Value.int .i64 a.hi, Value.int .i64 a.m, Value.int .i64 a.r, Value.int .i64 a.k] 27
  c4_1 : D 6 = true → D 4 = true
  g4 : D 4 = true → m2 ≤ (pblk (s 3))
  k5_0 : D 5 = true → D 7 = false → Bk W (pblk (s 4)) #[Value.int .i64 0, Value.int .i64 0, Value.int .i64 0, Value.int .i64 0, Value.int .i64 0] 27
  k5_1 : D 7 = true → Bk W (pblk (s 4)) #[Value.int .i64 b.lo, Value.int .i64 b.hi, Value.int .i64 b.m, Value.int .i64 b.r, Value.int .i64 b.k] 27
  c5_1 : D 7 = true → D 5 = true
  g5 : D 5 = true → m2 ≤ (pblk (s 4))
  e4_5 : D 4 = true → D 5 = true → pblk (s 3) ≠ pblk (s 4)

structure pdiv_1_r2_3 (a b : Ab) (k : Int) (n1_0 n1_1 n2_4 n2_5 : Nat) (w : World) (m3 : Nat) (D : Nat → Bool) (s : Nat → Value) (W : World) : Prop where
  zb : Mk0 w m3 W
  zq : Bks W [(n1_0, #[Value.int .i64 a.lo, Value.int .i64 a.hi, Value.int .i64 a.m, Value.int .i64 a.r, Value.int .i64 a.k, Value.int .i64 b.lo, Value.int .i64 b.hi, Value.int .i64 b.m, Value.int .i64 b.r, Value.int .i64 b.k, Value.int .i64 k], 72), (n1_1, #[Value.int .i64 0, Value.int .i64 0, Value.int .i64 0, Value.int .i64 0, Value.int .i64 0], 27), (n2_4, #[Value.int .i64 a.lo, Value.int .i64 a.hi, Value.int .i64 a.m, Value.int .i64 a.r, Value.int .i64 a.k], 27), (n2_5, #[Value.int .i64 b.lo, Value.int .i64 b.hi, Value.int .i64 b.m, Value.int .i64 b.r, Value.int .i64 b.k], 27)]
  zt : Vals D s [(0, 11, Value.pointer (some ⟨n2_4, 1, none⟩)), (1, 12, Value.int .i64 a.hi), (2, 5, Value.int .i64 0), (3, 6, Value.int .i64 a.hi)]

structure pdiv_1_r3_4 (a b : Ab) (k : Int) (n1_0 n1_1 n2_4 n2_5 : Nat) (w : World) (m4 : Nat) (D : Nat → Bool) (s : Nat → Value) (W : World) : Prop where
  zb : Mk0 w m4 W
  zq : Bks W [(n1_0, #[Value.int .i64 a.lo, Value.int .i64 a.hi, Value.int .i64 a.m, Value.int .i64 a.r, Value.int .i64 a.k, Value.int .i64 b.lo, Value.int .i64 b.hi, Value.int .i64 b.m, Value.int .i64 b.r, Value.int .i64 b.k, Value.int .i64 k], 72), (n1_1, #[Value.int .i64 0, Value.int .i64 0, Value.int .i64 0, Value.int .i64 0, Value.int .i64 0], 27), (n2_4, #[Value.int .i64 a.lo, Value.int .i64 a.hi, Value.int .i64 a.m, Value.int .i64 a.r, Value.int .i64 a.k], 27), (n2_5, #[Value.int .i64 b.lo, Value.int .i64 b.hi, Value.int .i64 b.m, Value.int .i64 b.r, Value.int .i64 b.k], 27)]
  zt : Vals D s [(0, 13, Value.agg #[Value.int .i64 b.lo, Value.int .i64 b.hi, Value.int .i64 b.m, Value.int .i64 b.r, Value.int .i64 b.k]), (1, 14, Value.int .i64 (stepS b)), (2, 15, Value.bool true), (3, 16, Value.bool true), (4, 17, Value.pointer (some ⟨n2_5, 0, none⟩)), (5, 18, Value.int .i64 b.lo), (6, 19, Value.bool true), (7, 20, Value.bool true)]

structure pdiv_1_r4_5 (a b : Ab) (k : Int) (n1_0 n1_1 n2_4 n2_5 : Nat) (w : World) (m5 : Nat) (D : Nat → Bool) (s : Nat → Value) (W : World) : Prop where
  zb : Mk0 w m5 W
  zq : Bks W [(n1_0, #[Value.int .i64 a.lo, Value.int .i64 a.hi, Value.int .i64 a.m, Value.int .i64 a.r, Value.int .i64 a.k, Value.int .i64 b.lo, Value.int .i64 b.hi, Value.int .i64 b.m, Value.int .i64 b.r, Value.int .i64 b.k, Value.int .i64 k], 72), (n1_1, #[Value.int .i64 0, Value.int .i64 0, Value.int .i64 0, Value.int .i64 0, Value.int .i64 0], 27), (n2_4, #[Value.int .i64 a.lo, Value.int .i64 a.hi, Value.int .i64 a.m, Value.int .i64 a.r, Value.int .i64 a.k], 27), (n2_5, #[Value.int .i64 b.lo, Value.int .i64 b.hi, Value.int .i64 b.m, Value.int .i64 b.r, Value.int .i64 b.k], 27)]
  zt : Vals D s [(0, 21, Value.pointer (some ⟨n2_4, 0, none⟩)), (1, 22, Value.int .i64 a.lo), (2, 23, Value.pointer (some ⟨n2_5, 0, none⟩)), (3, 24, Value.int .i64 b.lo), (4, 25, Value.int .i64 (a.lo.tdiv b.lo)), (5, 26, Value.pointer (some ⟨n2_4, 1, none⟩)), (6, 27, Value.int .i64 a.hi), (7, 28, Value.pointer (some ⟨n2_5, 0, none⟩)), (8, 29, Value.int .i64 b.lo), (9, 30, Value.int .i64 (a.hi.tdiv b.lo)), (10, 31, Value.int .i64 (min (a.lo.tdiv b.lo) (a.hi.tdiv b.lo))), (11, 32, Value.pointer (some ⟨n2_4, 0, none⟩)), (12, 33, Value.int .i64 a.lo), (13, 34, Value.pointer (some ⟨n2_5, 0, none⟩)), (14, 35, Value.int .i64 b.lo), (15, 36, Value.int .i64 (a.lo.tdiv b.lo)), (16, 37, Value.pointer (some ⟨n2_4, 1, none⟩)), (17, 38, Value.int .i64 a.hi), (18, 39, Value.pointer (some ⟨n2_5, 0, none⟩)), (19, 40, Value.int .i64 b.lo), (20, 41, Value.int .i64 (a.hi.tdiv b.lo)), (21, 42, Value.int .i64 (max (a.lo.tdiv b.lo) (a.hi.tdiv b.lo))), (22, 5, Value.int .i64 (min (a.lo.tdiv b.lo) (a.hi.tdiv b.lo))), (23, 6, Value.int .i64 (max (a.lo.tdiv b.lo) (a.hi.tdiv b.lo)))]

structure pdiv_tail_r8_1 (a b : Ab) (k : Int) (lo hi : Int) (n1_0 n1_1 : Nat) (w : World) (m1 : Nat) (D : Nat → Bool) (s : Nat → Value) (W : World) : Prop where
  zb : Mk0 w m1 W
  zq : Bks W [(n1_0, #[Value.int .i64 a.lo, Value.int .i64 a.hi, Value.int .i64 a.m, Value.int .i64 a.r, Value.int .i64 a.k, Value.int .i64 b.lo, Value.int .i64 b.hi, Value.int .i64 b.m, Value.int .i64 b.r, Value.int .i64 b.k, Value.int .i64 k], 72), (n1_1, #[Value.int .i64 0, Value.int .i64 0, Value.int .i64 0, Value.int .i64 0, Value.int .i64 0], 27)]
  zt : Vals D s [(0, 60, Value.int .i64 lo), (1, 61, Value.bool true), (2, 62, Value.bool false), (3, 63, Value.bool false), (4, 64, Value.int .i64 hi), (5, 65, Value.bool true), (6, 66, Value.bool false), (7, 67, Value.bool false)]

structure pdiv_tail_r10_2 (a b : Ab) (k : Int) (lo hi : Int) (n1_0 n1_1 : Nat) (w : World) (m2 : Nat) (D : Nat → Bool) (s : Nat → Value) (W : World) : Prop where
  zb : Mk0 w m2 W
  zq : Bks W [(n1_0, #[Value.int .i64 a.lo, Value.int .i64 a.hi, Value.int .i64 a.m, Value.int .i64 a.r, Value.int .i64 a.k, Value.int .i64 b.lo, Value.int .i64 b.hi, Value.int .i64 b.m, Value.int .i64 b.r, Value.int .i64 b.k, Value.int .i64 k], 72)]
  zt : Vals D s [(0, 71, Value.int .i64 lo), (1, 72, Value.int .i64 hi), (2, 73, Value.pointer (some ⟨n1_0, 10, none⟩)), (3, 74, Value.int .i64 k), (4, 75, Value.agg #[Value.int .i64 (byS lo hi 1 k).lo, Value.int .i64 (byS lo hi 1 k).hi, Value.int .i64 (byS lo hi 1 k).m, Value.int .i64 (byS lo hi 1 k).r, Value.int .i64 (byS lo hi 1 k).k])]
  kL0_0 : D 5 = false → Bk W n1_1 #[Value.int .i64 0, Value.int .i64 0, Value.int .i64 0, Value.int .i64 0, Value.int .i64 0] 27
  kL0_1 : D 5 = true → Bk W n1_1 #[Value.int .i64 (byS lo hi 1 k).lo, Value.int .i64 (byS lo hi 1 k).hi, Value.int .i64 (byS lo hi 1 k).m, Value.int .i64 (byS lo hi 1 k).r, Value.int .i64 (byS lo hi 1 k).k] 27

structure pdiv_tail_r8_3 (a b : Ab) (k : Int) (lo hi : Int) (n1_0 n1_1 : Nat) (w : World) (m3 : Nat) (D : Nat → Bool) (s : Nat → Value) (W : World) : Prop where
  zb : Mk0 w m3 W
  zq : Bks W [(n1_0, #[Value.int .i64 a.lo, Value.int .i64 a.hi, Value.int .i64 a.m, Value.int .i64 a.r, Value.int .i64 a.k, Value.int .i64 b.lo, Value.int .i64 b.hi, Value.int .i64 b.m, Value.int .i64 b.r, Value.int .i64 b.k, Value.int .i64 k], 72), (n1_1, #[Value.int .i64 0, Value.int .i64 0, Value.int .i64 0, Value.int .i64 0, Value.int .i64 0], 27)]
  zt : Vals D s [(0, 60, Value.int .i64 lo), (1, 61, Value.bool true), (2, 62, Value.bool false), (3, 63, Value.bool false), (4, 64, Value.int .i64 hi), (5, 65, Value.bool false), (6, 66, Value.bool true), (7, 67, Value.bool true)]

structure pdiv_tail_r9_4 (a b : Ab) (k : Int) (lo hi : Int) (n1_0 n1_1 : Nat) (w : World) (m4 : Nat) (D : Nat → Bool) (s : Nat → Value) (W : World) : Prop where
  zb : Mk0 w m4 W
  zq : Bks W [(n1_0, #[Value.int .i64 a.lo, Value.int .i64 a.hi, Value.int .i64 a.m, Value.int .i64 a.r, Value.int .i64 a.k, Value.int .i64 b.lo, Value.int .i64 b.hi, Value.int .i64 b.m, Value.int .i64 b.r, Value.int .i64 b.k, Value.int .i64 k], 72)]
  zt : Vals D s [(0, 68, Value.pointer (some ⟨n1_0, 10, none⟩)), (1, 69, Value.int .i64 k), (2, 70, Value.agg #[Value.int .i64 (byS (-2147483648) 2147483647 1 k).lo, Value.int .i64 (byS (-2147483648) 2147483647 1 k).hi, Value.int .i64 (byS (-2147483648) 2147483647 1 k).m, Value.int .i64 (byS (-2147483648) 2147483647 1 k).r, Value.int .i64 (byS (-2147483648) 2147483647 1 k).k])]
  kL0_0 : D 3 = false → Bk W n1_1 #[Value.int .i64 0, Value.int .i64 0, Value.int .i64 0, Value.int .i64 0, Value.int .i64 0] 27
  kL0_1 : D 3 = true → Bk W n1_1 #[Value.int .i64 (byS (-2147483648) 2147483647 1 k).lo, Value.int .i64 (byS (-2147483648) 2147483647 1 k).hi, Value.int .i64 (byS (-2147483648) 2147483647 1 k).m, Value.int .i64 (byS (-2147483648) 2147483647 1 k).r, Value.int .i64 (byS (-2147483648) 2147483647 1 k).k] 27

structure pdiv_tail_r8_5 (a b : Ab) (k : Int) (lo hi : Int) (n1_0 n1_1 : Nat) (w : World) (m5 : Nat) (D : Nat → Bool) (s : Nat → Value) (W : World) : Prop where
  zb : Mk0 w m5 W
  zq : Bks W [(n1_0, #[Value.int .i64 a.lo, Value.int .i64 a.hi, Value.int .i64 a.m, Value.int .i64 a.r, Value.int .i64 a.k, Value.int .i64 b.lo, Value.int .i64 b.hi, Value.int .i64 b.m, Value.int .i64 b.r, Value.int .i64 b.k, Value.int .i64 k], 72), (n1_1, #[Value.int .i64 0, Value.int .i64 0, Value.int .i64 0, Value.int .i64 0, Value.int .i64 0], 27)]
  zt : Vals D s [(0, 60, Value.int .i64 lo), (1, 61, Value.bool false), (2, 62, Value.bool true), (3, 63, Value.bool true), (4, 64, undef), (5, 65, undef), (6, 66, undef), (7, 67, Value.bool true)]

structure pdiv_tail_r9_6 (a b : Ab) (k : Int) (lo hi : Int) (n1_0 n1_1 : Nat) (w : World) (m6 : Nat) (D : Nat → Bool) (s : Nat → Value) (W : World) : Prop where
  zb : Mk0 w m6 W
  zq : Bks W [(n1_0, #[Value.int .i64 a.lo, Value.int .i64 a.hi, Value.int .i64 a.m, Value.int .i64 a.r, Value.int .i64 a.k, Value.int .i64 b.lo, Value.int .i64 b.hi, Value.int .i64 b.m, Value.int .i64 b.r, Value.int .i64 b.k, Value.int .i64 k], 72)]
  zt : Vals D s [(0, 68, Value.pointer (some ⟨n1_0, 10, none⟩)), (1, 69, Value.int .i64 k), (2, 70, Value.agg #[Value.int .i64 (byS (-2147483648) 2147483647 1 k).lo, Value.int .i64 (byS (-2147483648) 2147483647 1 k).hi, Value.int .i64 (byS (-2147483648) 2147483647 1 k).m, Value.int .i64 (byS (-2147483648) 2147483647 1 k).r, Value.int .i64 (byS (-2147483648) 2147483647 1 k).k])]
  kL0_0 : D 3 = false → Bk W n1_1 #[Value.int .i64 0, Value.int .i64 0, Value.int .i64 0, Value.int .i64 0, Value.int .i64 0] 27
  kL0_1 : D 3 = true → Bk W n1_1 #[Value.int .i64 (byS (-2147483648) 2147483647 1 k).lo, Value.int .i64 (byS (-2147483648) 2147483647 1 k).hi, Value.int .i64 (byS (-2147483648) 2147483647 1 k).m, Value.int .i64 (byS (-2147483648) 2147483647 1 k).r, Value.int .i64 (byS (-2147483648) 2147483647 1 k).k] 27

set_option maxRecDepth 100000 in
set_option maxHeartbeats 4000000 in
theorem pdiv_tail {a b : Ab} (k : Int) (lo : Int) (hi : Int) (w : World) (hlh : lo ≤ hi) (hl : -4611686018427387904 ≤ lo) (hh : hi ≤ 4611686018427387904) (aF : Act) (W : World) (n1_0 n1_1 : Nat) (hw_n1_1 : w.heap.size ≤ n1_1) (hne_n1_0_n1_1 : n1_0 ≠ n1_1) (hz : aF.tmps.size = 76) (df : aF.defers = []) (u1 : Sl aF 1 (Value.pointer (some ⟨n1_0, 0, none⟩))) (u2 : Sl aF 2 (Value.pointer (some ⟨n1_1, 0, none⟩))) (u5 : Sl aF 5 (Value.int .i64 lo)) (u6 : Sl aF 6 (Value.int .i64 hi)) (hb0 : Below w.heap.size w W)
    (hB : Bks W [(n1_0, #[Value.int .i64 a.lo, Value.int .i64 a.hi, Value.int .i64 a.m, Value.int .i64 a.r, Value.int .i64 a.k, Value.int .i64 b.lo, Value.int .i64 b.hi, Value.int .i64 b.m, Value.int .i64 b.r, Value.int .i64 b.k, Value.int .i64 k], 72), (n1_1, #[Value.int .i64 0, Value.int .i64 0, Value.int .i64 0, Value.int .i64 0, Value.int .i64 0], 27)]) :
    Code.wp Try.prog (cAt (codeOf Try.f77) [true, true, true, true]) (bodyPost Try.prog Try.f77 fun e w' => e = .returned (Value.agg #[Value.int .i64 (clampS lo hi k).lo, Value.int .i64 (clampS lo hi k).hi, Value.int .i64 (clampS lo hi k).m, Value.int .i64 (clampS lo hi k).r, Value.int .i64 (clampS lo hi k).k]) ∧ Below w.heap.size w w') aF W := by
  have hM : Mk0 w W.heap.size W := ⟨hb0, Nat.le_refl _⟩
  rcases (show ((-2147483648 ≤ lo ∧ lo ≤ 2147483647) ∧ (-2147483648 ≤ hi ∧ hi ≤ 2147483647)) ∨ ((-2147483648 ≤ lo ∧ lo ≤ 2147483647) ∧ ¬ (-2147483648 ≤ hi ∧ hi ≤ 2147483647)) ∨ ¬ (-2147483648 ≤ lo ∧ lo ≤ 2147483647) by omega) with hq | hq | hq
  · rw [show clampS lo hi k = byS lo hi 1 k from if_pos hq]
    have VL := value_is' (a := lo) (q := true) (by simp; omega)
    have VH := value_is' (a := hi) (q := true) (by simp; omega)
    have GY := by_G lo hi 1 k (by omega) (by omega) (by omega) (by omega) (by omega) (by omega)
    clear hq
    refine wp_seq ?_
    refine wp_seq ?_
    obtain ⟨m1, hM, hU, hwm⟩ := start_region hM.b hB
    refine region_run (F := pdiv_tail_r8_1 a b k lo hi n1_0 n1_1 w m1) [60, 61, 62, 63, 64, 65, 66, 67] [0, 1, 2, 3, 4, 5, 6, 7] hz df (by kernel_rfl) (by kernel_rfl) (fun s hs0 => ⟨hM, hB, Vals.none s _⟩) ?_ ?_
    refine FSteps.op3 hz rfl (dv := []) (by kernel_rfl) (by kernel_rfl) (by kernel_rfl) (fun D s W bA kK hD hW hF hA hK => ?_) ?_
    · have x5 := hA.o 5 _ rfl u5
      have hF := Lib.hid hF
      clear hA
      go_simp
      exact hK.out _ _ ⟨hF.out.zb, hF.out.zq, hF.out.zt.step rfl rfl⟩
    refine FSteps.op3 hz rfl (dv := [0]) (by kernel_rfl) (by kernel_rfl) (by kernel_rfl) (fun D s W bA kK hD hW hF hA hK => ?_) ?_
    · have x60 := hA.i 60 _ rfl rfl (hF.zt.get (j := 0) rfl hW.1)
      have hF := Lib.hid hF
      clear hA
      go_simp
      (go_at_call 101; ((with_reducible_and_instances refine (VL.out _).mono ?_)); rintro e W1 ⟨rfl, hb⟩; (try unfold abVal))
      (try go_wp2_with fail)
      exact hK.out _ _ ⟨hF.out.zb.on hb, Bks.on hb hF.out.zq, hF.out.zt.step rfl rfl⟩
    refine FSteps.op3 hz rfl (dv := [1]) (by kernel_rfl) (by kernel_rfl) (by kernel_rfl) (fun D s W bA kK hD hW hF hA hK => ?_) ?_
    · have x61 := hA.i 61 _ rfl rfl (hF.zt.get (j := 1) rfl hW.1)
      have hF := Lib.hid hF
      clear hA
      go_simp
      exact hK.out _ _ ⟨hF.out.zb, hF.out.zq, hF.out.zt.step rfl rfl⟩
    refine FSteps.op3 hz rfl (dv := [2, 1]) (by kernel_rfl) (by kernel_rfl) (by kernel_rfl) (fun D s W bA kK hD hW hF hA hK => ?_) ?_
    · have x62 := hA.i 62 _ rfl rfl (hF.zt.get (j := 2) rfl hW.1)
      have hF := Lib.hid hF
      clear hA
      go_simp
      exact hK.out _ _ ⟨hF.out.zb, hF.out.zq, hF.out.zt.step rfl rfl⟩
    refine FSteps.yes3 (bv := false) hz rfl (dv := [3]) (by kernel_rfl) rfl (by kernel_rfl) (by kernel_rfl) (fun D s W hW hF => (hF.zt.get (j := 3) rfl hW.1)) (by kernel_rfl) (by kernel_rfl) (fun D s W bA kK hD hW hF hA hK => ?_) ?_
    · have x6 := hA.o 6 _ rfl u6
      have hF := Lib.hid hF
      clear hA
      go_simp
      exact hK.out _ _ ⟨hF.out.zb, hF.out.zq, hF.out.zt.step rfl rfl⟩
    refine FSteps.yes3 (bv := false) hz rfl (dv := [4, 3, 3]) (by kernel_rfl) rfl (by kernel_rfl) (by kernel_rfl) (fun D s W hW hF => (hF.zt.get (j := 3) rfl hW.2.1)) (by kernel_rfl) (by kernel_rfl) (fun D s W bA kK hD hW hF hA hK => ?_) ?_
    · have x64 := hA.i 64 _ rfl rfl (hF.zt.get (j := 4) rfl hW.1)
      have hF := Lib.hid hF
      clear hA
      go_simp
      (go_at_call 101; ((with_reducible_and_instances refine (VH.out _).mono ?_)); rintro e W1 ⟨rfl, hb⟩; (try unfold abVal))
      (try go_wp2_with fail)
      exact hK.out _ _ ⟨hF.out.zb.on hb, Bks.on hb hF.out.zq, hF.out.zt.step rfl rfl⟩
    refine FSteps.yes3 (bv := false) hz rfl (dv := [5, 3]) (by kernel_rfl) rfl (by kernel_rfl) (by kernel_rfl) (fun D s W hW hF => (hF.zt.get (j := 3) rfl hW.2.1)) (by kernel_rfl) (by kernel_rfl) (fun D s W bA kK hD hW hF hA hK => ?_) ?_
    · have x65 := hA.i 65 _ rfl rfl (hF.zt.get (j := 5) rfl hW.1)
      have hF := Lib.hid hF
      clear hA
      go_simp
      exact hK.out _ _ ⟨hF.out.zb, hF.out.zq, hF.out.zt.step rfl rfl⟩
    refine FSteps.op3 hz rfl (dv := [3, 6]) (by kernel_rfl) (by kernel_rfl) (by kernel_rfl) (fun D s W bA kK hD hW hF hA hK => ?_) ?_
    · have x63 := hA.i 63 _ rfl rfl (hF.zt.get (j := 3) rfl hW.1)
      have x66 := hA.i 66 _ rfl rfl (hF.zt.get (j := 6) rfl hW.2.1)
      have hF := Lib.hid hF
      clear hA
      go_simp
      exact hK.out _ _ ⟨hF.out.zb, hF.out.zq, hF.out.zt.step rfl rfl⟩
    exact FSteps.nil
    intro D s W aF1 hD hF hz' df' hA
    obtain ⟨d0, d1, d2, d3, d4, d5, d6, d7, -⟩ := hD
    replace u1 : Sl aF1 1 _ := hA.o 1 _ rfl u1
    replace u2 : Sl aF1 2 _ := hA.o 2 _ rfl u2
    replace u5 : Sl aF1 5 _ := hA.o 5 _ rfl u5
    replace u6 : Sl aF1 6 _ := hA.o 6 _ rfl u6
    have u67 : Sl aF1 67 _ := hA.i 67 _ rfl rfl (hF.zt.get (j := 7) rfl d7)
    have hM := hF.zb
    have hB := hF.zq
    have hB : Bks W [(n1_0, #[Value.int .i64 a.lo, Value.int .i64 a.hi, Value.int .i64 a.m, Value.int .i64 a.r, Value.int .i64 a.k, Value.int .i64 b.lo, Value.int .i64 b.hi, Value.int .i64 b.m, Value.int .i64 b.r, Value.int .i64 b.k, Value.int .i64 k], 72), (n1_1, #[Value.int .i64 0, Value.int .i64 0, Value.int .i64 0, Value.int .i64 0, Value.int .i64 0], 27)] := ⟨hB.1, hB.2.1, trivial⟩
    clear hF hA hz df d0 d1 d2 d3 d4 d5 d6 d7 hU
    have hz := hz'; have df := df'; clear hz' df'
    clear aF
    show Code.wp _ _ _ _ _
    refine cond_f u67 ?_
    refine wp_skip ?_
    show Code.wp _ _ _ _ _
    refine wp_seq ?_
    obtain ⟨m2, hM, hU, hwm⟩ := start_region hM.b hB
    obtain ⟨hk_0, hk_1, -⟩ := hB
    obtain ⟨hl_0, hl_1, -⟩ := hU
    have hB : Bks _ [(n1_0, #[Value.int .i64 a.lo, Value.int .i64 a.hi, Value.int .i64 a.m, Value.int .i64 a.r, Value.int .i64 a.k, Value.int .i64 b.lo, Value.int .i64 b.hi, Value.int .i64 b.m, Value.int .i64 b.r, Value.int .i64 b.k, Value.int .i64 k], 72)] := ⟨hk_0, trivial⟩
    have hU : Under m2 [(n1_0, #[Value.int .i64 a.lo, Value.int .i64 a.hi, Value.int .i64 a.m, Value.int .i64 a.r, Value.int .i64 a.k, Value.int .i64 b.lo, Value.int .i64 b.hi, Value.int .i64 b.m, Value.int .i64 b.r, Value.int .i64 b.k, Value.int .i64 k], 72)] := ⟨hl_0, trivial⟩
    refine region_run (F := pdiv_tail_r10_2 a b k lo hi n1_0 n1_1 w m2) [71, 72, 73, 74, 75] [0, 1, 2, 3, 4, 5] hz df (by kernel_rfl) (by kernel_rfl) (fun s hs0 => ⟨hM, hB, Vals.none s _, fun _ => hk_1, fun h => no_of' h⟩) ?_ ?_
    refine FSteps.op3 hz rfl (dv := []) (by kernel_rfl) (by kernel_rfl) (by kernel_rfl) (fun D s W bA kK hD hW hF hA hK => ?_) ?_
    · have x5 := hA.o 5 _ rfl u5
      have hF := Lib.hid hF
      clear hA
      go_simp
      exact hK.out _ _ ⟨hF.out.zb, hF.out.zq, hF.out.zt.step rfl rfl, hF.out.kL0_0, hF.out.kL0_1⟩
    refine FSteps.op3 hz rfl (dv := []) (by kernel_rfl) (by kernel_rfl) (by kernel_rfl) (fun D s W bA kK hD hW hF hA hK => ?_) ?_
    · have x6 := hA.o 6 _ rfl u6
      have hF := Lib.hid hF
      clear hA
      go_simp
      exact hK.out _ _ ⟨hF.out.zb, hF.out.zq, hF.out.zt.step rfl rfl, hF.out.kL0_0, hF.out.kL0_1⟩
    refine FSteps.op3 hz rfl (dv := []) (by kernel_rfl) (by kernel_rfl) (by kernel_rfl) (fun D s W bA kK hD hW hF hA hK => ?_) ?_
    · have x1 := hA.o 1 _ rfl u1
      have hF := Lib.hid hF
      clear hA
      go_simp
      exact hK.out _ _ ⟨hF.out.zb, hF.out.zq, hF.out.zt.step rfl rfl, hF.out.kL0_0, hF.out.kL0_1⟩
    refine FSteps.op3 hz rfl (dv := [2]) (by kernel_rfl) (by kernel_rfl) (by kernel_rfl) (fun D s W bA kK hD hW hF hA hK => ?_) ?_
    · have x73 := hA.i 73 _ rfl rfl (hF.zt.get (j := 2) rfl hW.1)
      obtain ⟨⟨c0, z0⟩, -⟩ := hF.zq.rules
      have hF := Lib.hid hF
      clear hA
      go_simp
      exact hK.out _ _ ⟨hF.out.zb, hF.out.zq, hF.out.zt.step rfl rfl, hF.out.kL0_0, hF.out.kL0_1⟩
    refine FSteps.op3 hz rfl (dv := [0, 1, 3]) (by kernel_rfl) (by kernel_rfl) (by kernel_rfl) (fun D s W bA kK hD hW hF hA hK => ?_) ?_
    · have x71 := hA.i 71 _ rfl rfl (hF.zt.get (j := 0) rfl hW.1)
      have x72 := hA.i 72 _ rfl rfl (hF.zt.get (j := 1) rfl hW.2.1)
      have x74 := hA.i 74 _ rfl rfl (hF.zt.get (j := 3) rfl hW.2.2.1)
      have hF := Lib.hid hF
      clear hA
      go_simp
      (go_at_call 46; ((with_reducible_and_instances refine (GY.out _).mono ?_)); rintro e W1 ⟨rfl, hb⟩; (try unfold abVal))
      (try go_wp2_with fail)
      exact hK.out _ _ ⟨hF.out.zb.on hb, Bks.on hb hF.out.zq, hF.out.zt.step rfl rfl, fun h2 => (hF.out.kL0_0 h2).on hb, fun h1 => (hF.out.kL0_1 h1).on hb⟩
    refine FSteps.op3 hz rfl (dv := [4, 4, 0, 1, 2, 3, 4]) (by kernel_rfl) (by kernel_rfl) (by kernel_rfl) (fun D s W bA kK hD hW hF hA hK => ?_) ?_
    · have x2 := hA.o 2 _ rfl u2
      have x75 := hA.i 75 _ rfl rfl (hF.zt.get (j := 4) rfl hW.1)
      have kk := hF.kL0_0 hD
      have kc := kk.cell; have kf := kk.free
      have hF := Lib.hid hF
      have kk := Lib.hid kk
      clear hA
      go_simp
      exact hK.out undef _ ⟨hF.out.zb.sAll (hw_n1_1) 0 [Value.int .i64 (byS lo hi 1 k).lo, Value.int .i64 (byS lo hi 1 k).hi, Value.int .i64 (byS lo hi 1 k).m, Value.int .i64 (byS lo hi 1 k).r, Value.int .i64 (byS lo hi 1 k).k], Bks.oAll [Value.int .i64 (byS lo hi 1 k).lo, Value.int .i64 (byS lo hi 1 k).hi, Value.int .i64 (byS lo hi 1 k).m, Value.int .i64 (byS lo hi 1 k).r, Value.int .i64 (byS lo hi 1 k).k] 0 (⟨(by omega), trivial⟩) hF.out.zq, hF.out.zt.skip rfl, fun h2 => no_of h2, fun _ => kk.out.full [Value.int .i64 (byS lo hi 1 k).lo, Value.int .i64 (byS lo hi 1 k).hi, Value.int .i64 (byS lo hi 1 k).m, Value.int .i64 (byS lo hi 1 k).r, Value.int .i64 (byS lo hi 1 k).k] rfl⟩
    exact FSteps.nil
    intro D s W aF2 hD hF hz' df' hA
    obtain ⟨d0, d1, d2, d3, d4, d5, -⟩ := hD
    clear u1 u5 u6 u67
    replace u2 : Sl aF2 2 _ := hA.o 2 _ rfl u2
    have hkXL0 := hF.kL0_1 d5
    have hM := hF.zb
    have hB := hF.zq
    have hB : Bks W [(n1_1, #[Value.int .i64 (byS lo hi 1 k).lo, Value.int .i64 (byS lo hi 1 k).hi, Value.int .i64 (byS lo hi 1 k).m, Value.int .i64 (byS lo hi 1 k).r, Value.int .i64 (byS lo hi 1 k).k], 27)] := ⟨hkXL0, trivial⟩
    clear hF hA hz df d0 d1 d2 d3 d4 d5 
    have hz := hz'; have df := df'; clear hz' df'
    clear aF1
    show Code.wp _ _ _ _ _
    refine wp_ret ?_
    show bodyPost _ _ _ _ _ _
    have hB2 := hB.rules
    obtain ⟨⟨c0, z0⟩, -⟩ := hB2
    unfold Sl at u2
    refine end_go df (v := (Value.agg #[Value.int .i64 (byS lo hi 1 k).lo, Value.int .i64 (byS lo hi 1 k).hi, Value.int .i64 (byS lo hi 1 k).m, Value.int .i64 (byS lo hi 1 k).r, Value.int .i64 (byS lo hi 1 k).k])) (by simp [results, Try.results77, go_sem, u2, c0]) ⟨rfl, hM.b⟩
  · rw [show clampS lo hi k = byS (-2147483648) 2147483647 1 k from if_neg (fun h => hq.2 h.2)]
    have VL := value_is' (a := lo) (q := true) (by simp; omega)
    have VH := value_is' (a := hi) (q := false) (by simp; omega)
    clear hq
    refine wp_seq ?_
    refine wp_seq ?_
    obtain ⟨m3, hM, hU, hwm⟩ := start_region hM.b hB
    refine region_run (F := pdiv_tail_r8_3 a b k lo hi n1_0 n1_1 w m3) [60, 61, 62, 63, 64, 65, 66, 67] [0, 1, 2, 3, 4, 5, 6, 7] hz df (by kernel_rfl) (by kernel_rfl) (fun s hs0 => ⟨hM, hB, Vals.none s _⟩) ?_ ?_
    refine FSteps.op3 hz rfl (dv := []) (by kernel_rfl) (by kernel_rfl) (by kernel_rfl) (fun D s W bA kK hD hW hF hA hK => ?_) ?_
    · have x5 := hA.o 5 _ rfl u5
      have hF := Lib.hid hF
      clear hA
      go_simp
      exact hK.out _ _ ⟨hF.out.zb, hF.out.zq, hF.out.zt.step rfl rfl⟩
    refine FSteps.op3 hz rfl (dv := [0]) (by kernel_rfl) (by kernel_rfl) (by kernel_rfl) (fun D s W bA kK hD hW hF hA hK => ?_) ?_
    · have x60 := hA.i 60 _ rfl rfl (hF.zt.get (j := 0) rfl hW.1)
      have hF := Lib.hid hF
      clear hA
      go_simp
      (go_at_call 101; ((with_reducible_and_instances refine (VL.out _).mono ?_)); rintro e W1 ⟨rfl, hb⟩; (try unfold abVal))
      (try go_wp2_with fail)
      exact hK.out _ _ ⟨hF.out.zb.on hb, Bks.on hb hF.out.zq, hF.out.zt.step rfl rfl⟩
    refine FSteps.op3 hz rfl (dv := [1]) (by kernel_rfl) (by kernel_rfl) (by kernel_rfl) (fun D s W bA kK hD hW hF hA hK => ?_) ?_
    · have x61 := hA.i 61 _ rfl rfl (hF.zt.get (j := 1) rfl hW.1)
      have hF := Lib.hid hF
      clear hA
      go_simp
      exact hK.out _ _ ⟨hF.out.zb, hF.out.zq, hF.out.zt.step rfl rfl⟩
    refine FSteps.op3 hz rfl (dv := [2, 1]) (by kernel_rfl) (by kernel_rfl) (by kernel_rfl) (fun D s W bA kK hD hW hF hA hK => ?_) ?_
    · have x62 := hA.i 62 _ rfl rfl (hF.zt.get (j := 2) rfl hW.1)
      have hF := Lib.hid hF
      clear hA
      go_simp
      exact hK.out _ _ ⟨hF.out.zb, hF.out.zq, hF.out.zt.step rfl rfl⟩
    refine FSteps.yes3 (bv := false) hz rfl (dv := [3]) (by kernel_rfl) rfl (by kernel_rfl) (by kernel_rfl) (fun D s W hW hF => (hF.zt.get (j := 3) rfl hW.1)) (by kernel_rfl) (by kernel_rfl) (fun D s W bA kK hD hW hF hA hK => ?_) ?_
    · have x6 := hA.o 6 _ rfl u6
      have hF := Lib.hid hF
      clear hA
      go_simp
      exact hK.out _ _ ⟨hF.out.zb, hF.out.zq, hF.out.zt.step rfl rfl⟩
    refine FSteps.yes3 (bv := false) hz rfl (dv := [4, 3, 3]) (by kernel_rfl) rfl (by kernel_rfl) (by kernel_rfl) (fun D s W hW hF => (hF.zt.get (j := 3) rfl hW.2.1)) (by kernel_rfl) (by kernel_rfl) (fun D s W bA kK hD hW hF hA hK => ?_) ?_
    · have x64 := hA.i 64 _ rfl rfl (hF.zt.get (j := 4) rfl hW.1)
      have hF := Lib.hid hF
      clear hA
      go_simp
      (go_at_call 101; ((with_reducible_and_instances refine (VH.out _).mono ?_)); rintro e W1 ⟨rfl, hb⟩; (try unfold abVal))
      (try go_wp2_with fail)
      exact hK.out _ _ ⟨hF.out.zb.on hb, Bks.on hb hF.out.zq, hF.out.zt.step rfl rfl⟩
    refine FSteps.yes3 (bv := false) hz rfl (dv := [5, 3]) (by kernel_rfl) rfl (by kernel_rfl) (by kernel_rfl) (fun D s W hW hF => (hF.zt.get (j := 3) rfl hW.2.1)) (by kernel_rfl) (by kernel_rfl) (fun D s W bA kK hD hW hF hA hK => ?_) ?_
    · have x65 := hA.i 65 _ rfl rfl (hF.zt.get (j := 5) rfl hW.1)
      have hF := Lib.hid hF
      clear hA
      go_simp
      exact hK.out _ _ ⟨hF.out.zb, hF.out.zq, hF.out.zt.step rfl rfl⟩
    refine FSteps.op3 hz rfl (dv := [3, 6]) (by kernel_rfl) (by kernel_rfl) (by kernel_rfl) (fun D s W bA kK hD hW hF hA hK => ?_) ?_
    · have x63 := hA.i 63 _ rfl rfl (hF.zt.get (j := 3) rfl hW.1)
      have x66 := hA.i 66 _ rfl rfl (hF.zt.get (j := 6) rfl hW.2.1)
      have hF := Lib.hid hF
      clear hA
      go_simp
      exact hK.out _ _ ⟨hF.out.zb, hF.out.zq, hF.out.zt.step rfl rfl⟩
    exact FSteps.nil
    intro D s W aF3 hD hF hz' df' hA
    obtain ⟨d0, d1, d2, d3, d4, d5, d6, d7, -⟩ := hD
    replace u1 : Sl aF3 1 _ := hA.o 1 _ rfl u1
    replace u2 : Sl aF3 2 _ := hA.o 2 _ rfl u2
    replace u5 : Sl aF3 5 _ := hA.o 5 _ rfl u5
    replace u6 : Sl aF3 6 _ := hA.o 6 _ rfl u6
    have u67 : Sl aF3 67 _ := hA.i 67 _ rfl rfl (hF.zt.get (j := 7) rfl d7)
    have hM := hF.zb
    have hB := hF.zq
    have hB : Bks W [(n1_0, #[Value.int .i64 a.lo, Value.int .i64 a.hi, Value.int .i64 a.m, Value.int .i64 a.r, Value.int .i64 a.k, Value.int .i64 b.lo, Value.int .i64 b.hi, Value.int .i64 b.m, Value.int .i64 b.r, Value.int .i64 b.k, Value.int .i64 k], 72), (n1_1, #[Value.int .i64 0, Value.int .i64 0, Value.int .i64 0, Value.int .i64 0, Value.int .i64 0], 27)] := ⟨hB.1, hB.2.1, trivial⟩
    clear hF hA hz df d0 d1 d2 d3 d4 d5 d6 d7 hU
    have hz := hz'; have df := df'; clear hz' df'
    clear aF
    show Code.wp _ _ _ _ _
    refine cond_t u67 ?_
    refine wp_seq ?_
    obtain ⟨m4, hM, hU, hwm⟩ := start_region hM.b hB
    obtain ⟨hk_0, hk_1, -⟩ := hB
    obtain ⟨hl_0, hl_1, -⟩ := hU
    have hB : Bks _ [(n1_0, #[Value.int .i64 a.lo, Value.int .i64 a.hi, Value.int .i64 a.m, Value.int .i64 a.r, Value.int .i64 a.k, Value.int .i64 b.lo, Value.int .i64 b.hi, Value.int .i64 b.m, Value.int .i64 b.r, Value.int .i64 b.k, Value.int .i64 k], 72)] := ⟨hk_0, trivial⟩
    have hU : Under m4 [(n1_0, #[Value.int .i64 a.lo, Value.int .i64 a.hi, Value.int .i64 a.m, Value.int .i64 a.r, Value.int .i64 a.k, Value.int .i64 b.lo, Value.int .i64 b.hi, Value.int .i64 b.m, Value.int .i64 b.r, Value.int .i64 b.k, Value.int .i64 k], 72)] := ⟨hl_0, trivial⟩
    refine region_run (F := pdiv_tail_r9_4 a b k lo hi n1_0 n1_1 w m4) [68, 69, 70] [0, 1, 2, 3] hz df (by kernel_rfl) (by kernel_rfl) (fun s hs0 => ⟨hM, hB, Vals.none s _, fun _ => hk_1, fun h => no_of' h⟩) ?_ ?_
    refine FSteps.op3 hz rfl (dv := []) (by kernel_rfl) (by kernel_rfl) (by kernel_rfl) (fun D s W bA kK hD hW hF hA hK => ?_) ?_
    · have x1 := hA.o 1 _ rfl u1
      have hF := Lib.hid hF
      clear hA
      go_simp
      exact hK.out _ _ ⟨hF.out.zb, hF.out.zq, hF.out.zt.step rfl rfl, hF.out.kL0_0, hF.out.kL0_1⟩
    refine FSteps.op3 hz rfl (dv := [0]) (by kernel_rfl) (by kernel_rfl) (by kernel_rfl) (fun D s W bA kK hD hW hF hA hK => ?_) ?_
    · have x68 := hA.i 68 _ rfl rfl (hF.zt.get (j := 0) rfl hW.1)
      obtain ⟨⟨c0, z0⟩, -⟩ := hF.zq.rules
      have hF := Lib.hid hF
      clear hA
      go_simp
      exact hK.out _ _ ⟨hF.out.zb, hF.out.zq, hF.out.zt.step rfl rfl, hF.out.kL0_0, hF.out.kL0_1⟩
    refine FSteps.op3 hz rfl (dv := [1]) (by kernel_rfl) (by kernel_rfl) (by kernel_rfl) (fun D s W bA kK hD hW hF hA hK => ?_) ?_
    · have x69 := hA.i 69 _ rfl rfl (hF.zt.get (j := 1) rfl hW.1)
      have hF := Lib.hid hF
      clear hA
      go_simp
      (go_at_call 32; ((with_reducible_and_instances refine (all_is k _).mono ?_)); rintro e W1 ⟨rfl, hb⟩; (try unfold abVal))
      (try go_wp2_with fail)
      exact hK.out _ _ ⟨hF.out.zb.on hb, Bks.on hb hF.out.zq, hF.out.zt.step rfl rfl, fun h2 => (hF.out.kL0_0 h2).on hb, fun h1 => (hF.out.kL0_1 h1).on hb⟩
    refine FSteps.op3 hz rfl (dv := [2, 2, 0, 1, 2]) (by kernel_rfl) (by kernel_rfl) (by kernel_rfl) (fun D s W bA kK hD hW hF hA hK => ?_) ?_
    · have x2 := hA.o 2 _ rfl u2
      have x70 := hA.i 70 _ rfl rfl (hF.zt.get (j := 2) rfl hW.1)
      have kk := hF.kL0_0 hD
      have kc := kk.cell; have kf := kk.free
      have hF := Lib.hid hF
      have kk := Lib.hid kk
      clear hA
      go_simp
      exact hK.out undef _ ⟨hF.out.zb.sAll (hw_n1_1) 0 [Value.int .i64 (byS (-2147483648) 2147483647 1 k).lo, Value.int .i64 (byS (-2147483648) 2147483647 1 k).hi, Value.int .i64 (byS (-2147483648) 2147483647 1 k).m, Value.int .i64 (byS (-2147483648) 2147483647 1 k).r, Value.int .i64 (byS (-2147483648) 2147483647 1 k).k], Bks.oAll [Value.int .i64 (byS (-2147483648) 2147483647 1 k).lo, Value.int .i64 (byS (-2147483648) 2147483647 1 k).hi, Value.int .i64 (byS (-2147483648) 2147483647 1 k).m, Value.int .i64 (byS (-2147483648) 2147483647 1 k).r, Value.int .i64 (byS (-2147483648) 2147483647 1 k).k] 0 (⟨(by omega), trivial⟩) hF.out.zq, hF.out.zt.skip rfl, fun h2 => no_of h2, fun _ => kk.out.full [Value.int .i64 (byS (-2147483648) 2147483647 1 k).lo, Value.int .i64 (byS (-2147483648) 2147483647 1 k).hi, Value.int .i64 (byS (-2147483648) 2147483647 1 k).m, Value.int .i64 (byS (-2147483648) 2147483647 1 k).r, Value.int .i64 (byS (-2147483648) 2147483647 1 k).k] rfl⟩
    exact FSteps.nil
    intro D s W aF4 hD hF hz' df' hA
    obtain ⟨d0, d1, d2, d3, -⟩ := hD
    clear u67
    replace u1 : Sl aF4 1 _ := hA.o 1 _ rfl u1
    replace u2 : Sl aF4 2 _ := hA.o 2 _ rfl u2
    replace u5 : Sl aF4 5 _ := hA.o 5 _ rfl u5
    replace u6 : Sl aF4 6 _ := hA.o 6 _ rfl u6
    have hkXL0 := hF.kL0_1 d3
    have hM := hF.zb
    have hB := hF.zq
    have hB : Bks W [(n1_0, #[Value.int .i64 a.lo, Value.int .i64 a.hi, Value.int .i64 a.m, Value.int .i64 a.r, Value.int .i64 a.k, Value.int .i64 b.lo, Value.int .i64 b.hi, Value.int .i64 b.m, Value.int .i64 b.r, Value.int .i64 b.k, Value.int .i64 k], 72), (n1_1, #[Value.int .i64 (byS (-2147483648) 2147483647 1 k).lo, Value.int .i64 (byS (-2147483648) 2147483647 1 k).hi, Value.int .i64 (byS (-2147483648) 2147483647 1 k).m, Value.int .i64 (byS (-2147483648) 2147483647 1 k).r, Value.int .i64 (byS (-2147483648) 2147483647 1 k).k], 27)] := ⟨hB.1, hkXL0, trivial⟩
    clear hF hA hz df d0 d1 d2 d3 
    have hz := hz'; have df := df'; clear hz' df'
    clear aF3
    show Code.wp _ _ _ _ _
    refine wp_ret ?_
    refine then_ret ?_
    show bodyPost _ _ _ _ _ _
    have hB2 := hB.rules
    obtain ⟨⟨c0, z0⟩, ⟨c1, z1⟩, -⟩ := hB2
    unfold Sl at u2
    refine end_go df (v := (Value.agg #[Value.int .i64 (byS (-2147483648) 2147483647 1 k).lo, Value.int .i64 (byS (-2147483648) 2147483647 1 k).hi, Value.int .i64 (byS (-2147483648) 2147483647 1 k).m, Value.int .i64 (byS (-2147483648) 2147483647 1 k).r, Value.int .i64 (byS (-2147483648) 2147483647 1 k).k])) (by simp [results, Try.results77, go_sem, u2, c1]) ⟨rfl, hM.b⟩
  · rw [show clampS lo hi k = byS (-2147483648) 2147483647 1 k from if_neg (fun h => hq h.1)]
    have VL := value_is' (a := lo) (q := false) (by simp; omega)
    clear hq
    refine wp_seq ?_
    refine wp_seq ?_
    obtain ⟨m5, hM, hU, hwm⟩ := start_region hM.b hB
    refine region_run (F := pdiv_tail_r8_5 a b k lo hi n1_0 n1_1 w m5) [60, 61, 62, 63, 64, 65, 66, 67] [0, 1, 2, 3, 4, 5, 6, 7] hz df (by kernel_rfl) (by kernel_rfl) (fun s hs0 => ⟨hM, hB, Vals.none s _⟩) ?_ ?_
    refine FSteps.op3 hz rfl (dv := []) (by kernel_rfl) (by kernel_rfl) (by kernel_rfl) (fun D s W bA kK hD hW hF hA hK => ?_) ?_
    · have x5 := hA.o 5 _ rfl u5
      have hF := Lib.hid hF
      clear hA
      go_simp
      exact hK.out _ _ ⟨hF.out.zb, hF.out.zq, hF.out.zt.step rfl rfl⟩
    refine FSteps.op3 hz rfl (dv := [0]) (by kernel_rfl) (by kernel_rfl) (by kernel_rfl) (fun D s W bA kK hD hW hF hA hK => ?_) ?_
    · have x60 := hA.i 60 _ rfl rfl (hF.zt.get (j := 0) rfl hW.1)
      have hF := Lib.hid hF
      clear hA
      go_simp
      (go_at_call 101; ((with_reducible_and_instances refine (VL.out _).mono ?_)); rintro e W1 ⟨rfl, hb⟩; (try unfold abVal))
      (try go_wp2_with fail)
      exact hK.out _ _ ⟨hF.out.zb.on hb, Bks.on hb hF.out.zq, hF.out.zt.step rfl rfl⟩
    refine FSteps.op3 hz rfl (dv := [1]) (by kernel_rfl) (by kernel_rfl) (by kernel_rfl) (fun D s W bA kK hD hW hF hA hK => ?_) ?_
    · have x61 := hA.i 61 _ rfl rfl (hF.zt.get (j := 1) rfl hW.1)
      have hF := Lib.hid hF
      clear hA
      go_simp
      exact hK.out _ _ ⟨hF.out.zb, hF.out.zq, hF.out.zt.step rfl rfl⟩
    refine FSteps.op3 hz rfl (dv := [2, 1]) (by kernel_rfl) (by kernel_rfl) (by kernel_rfl) (fun D s W bA kK hD hW hF hA hK => ?_) ?_
    · have x62 := hA.i 62 _ rfl rfl (hF.zt.get (j := 2) rfl hW.1)
      have hF := Lib.hid hF
      clear hA
      go_simp
      exact hK.out _ _ ⟨hF.out.zb, hF.out.zq, hF.out.zt.step rfl rfl⟩
    refine FSteps.no3 (bv := false) hz rfl (dv := [3]) (by kernel_rfl) rfl (by kernel_rfl) (by kernel_rfl) (fun D s W hW hF => (hF.zt.get (j := 3) rfl hW.1)) (by kernel_rfl) (by kernel_rfl) (fun D s W hD hF => ⟨hF.zb, hF.zq, hF.zt.step rfl rfl⟩) ?_
    refine FSteps.no3 (bv := false) hz rfl (dv := [4, 3, 3]) (by kernel_rfl) rfl (by kernel_rfl) (by kernel_rfl) (fun D s W hW hF => (hF.zt.get (j := 3) rfl hW.2.1)) (by kernel_rfl) (by kernel_rfl) (fun D s W hD hF => ⟨hF.zb, hF.zq, hF.zt.step rfl rfl⟩) ?_
    refine FSteps.no3 (bv := false) hz rfl (dv := [5, 3]) (by kernel_rfl) rfl (by kernel_rfl) (by kernel_rfl) (fun D s W hW hF => (hF.zt.get (j := 3) rfl hW.2.1)) (by kernel_rfl) (by kernel_rfl) (fun D s W hD hF => ⟨hF.zb, hF.zq, hF.zt.step rfl rfl⟩) ?_
    refine FSteps.op3 hz rfl (dv := [3, 6]) (by kernel_rfl) (by kernel_rfl) (by kernel_rfl) (fun D s W bA kK hD hW hF hA hK => ?_) ?_
    · have x63 := hA.i 63 _ rfl rfl (hF.zt.get (j := 3) rfl hW.1)
      have x66 := hA.i 66 _ rfl rfl (hF.zt.get (j := 6) rfl hW.2.1)
      have hF := Lib.hid hF
      clear hA
      go_simp
      exact hK.out _ _ ⟨hF.out.zb, hF.out.zq, hF.out.zt.step rfl rfl⟩
    exact FSteps.nil
    intro D s W aF5 hD hF hz' df' hA
    obtain ⟨d0, d1, d2, d3, d4, d5, d6, d7, -⟩ := hD
    replace u1 : Sl aF5 1 _ := hA.o 1 _ rfl u1
    replace u2 : Sl aF5 2 _ := hA.o 2 _ rfl u2
    replace u5 : Sl aF5 5 _ := hA.o 5 _ rfl u5
    replace u6 : Sl aF5 6 _ := hA.o 6 _ rfl u6
    have u67 : Sl aF5 67 _ := hA.i 67 _ rfl rfl (hF.zt.get (j := 7) rfl d7)
    have hM := hF.zb
    have hB := hF.zq
    have hB : Bks W [(n1_0, #[Value.int .i64 a.lo, Value.int .i64 a.hi, Value.int .i64 a.m, Value.int .i64 a.r, Value.int .i64 a.k, Value.int .i64 b.lo, Value.int .i64 b.hi, Value.int .i64 b.m, Value.int .i64 b.r, Value.int .i64 b.k, Value.int .i64 k], 72), (n1_1, #[Value.int .i64 0, Value.int .i64 0, Value.int .i64 0, Value.int .i64 0, Value.int .i64 0], 27)] := ⟨hB.1, hB.2.1, trivial⟩
    clear hF hA hz df d0 d1 d2 d3 d4 d5 d6 d7 hU
    have hz := hz'; have df := df'; clear hz' df'
    clear aF
    show Code.wp _ _ _ _ _
    refine cond_t u67 ?_
    refine wp_seq ?_
    obtain ⟨m6, hM, hU, hwm⟩ := start_region hM.b hB
    obtain ⟨hk_0, hk_1, -⟩ := hB
    obtain ⟨hl_0, hl_1, -⟩ := hU
    have hB : Bks _ [(n1_0, #[Value.int .i64 a.lo, Value.int .i64 a.hi, Value.int .i64 a.m, Value.int .i64 a.r, Value.int .i64 a.k, Value.int .i64 b.lo, Value.int .i64 b.hi, Value.int .i64 b.m, Value.int .i64 b.r, Value.int .i64 b.k, Value.int .i64 k], 72)] := ⟨hk_0, trivial⟩
    have hU : Under m6 [(n1_0, #[Value.int .i64 a.lo, Value.int .i64 a.hi, Value.int .i64 a.m, Value.int .i64 a.r, Value.int .i64 a.k, Value.int .i64 b.lo, Value.int .i64 b.hi, Value.int .i64 b.m, Value.int .i64 b.r, Value.int .i64 b.k, Value.int .i64 k], 72)] := ⟨hl_0, trivial⟩
    refine region_run (F := pdiv_tail_r9_6 a b k lo hi n1_0 n1_1 w m6) [68, 69, 70] [0, 1, 2, 3] hz df (by kernel_rfl) (by kernel_rfl) (fun s hs0 => ⟨hM, hB, Vals.none s _, fun _ => hk_1, fun h => no_of' h⟩) ?_ ?_
    refine FSteps.op3 hz rfl (dv := []) (by kernel_rfl) (by kernel_rfl) (by kernel_rfl) (fun D s W bA kK hD hW hF hA hK => ?_) ?_
    · have x1 := hA.o 1 _ rfl u1
      have hF := Lib.hid hF
      clear hA
      go_simp
      exact hK.out _ _ ⟨hF.out.zb, hF.out.zq, hF.out.zt.step rfl rfl, hF.out.kL0_0, hF.out.kL0_1⟩
    refine FSteps.op3 hz rfl (dv := [0]) (by kernel_rfl) (by kernel_rfl) (by kernel_rfl) (fun D s W bA kK hD hW hF hA hK => ?_) ?_
    · have x68 := hA.i 68 _ rfl rfl (hF.zt.get (j := 0) rfl hW.1)
      obtain ⟨⟨c0, z0⟩, -⟩ := hF.zq.rules
      have hF := Lib.hid hF
      clear hA
      go_simp
      exact hK.out _ _ ⟨hF.out.zb, hF.out.zq, hF.out.zt.step rfl rfl, hF.out.kL0_0, hF.out.kL0_1⟩
    refine FSteps.op3 hz rfl (dv := [1]) (by kernel_rfl) (by kernel_rfl) (by kernel_rfl) (fun D s W bA kK hD hW hF hA hK => ?_) ?_
    · have x69 := hA.i 69 _ rfl rfl (hF.zt.get (j := 1) rfl hW.1)
      have hF := Lib.hid hF
      clear hA
      go_simp
      (go_at_call 32; ((with_reducible_and_instances refine (all_is k _).mono ?_)); rintro e W1 ⟨rfl, hb⟩; (try unfold abVal))
      (try go_wp2_with fail)
      exact hK.out _ _ ⟨hF.out.zb.on hb, Bks.on hb hF.out.zq, hF.out.zt.step rfl rfl, fun h2 => (hF.out.kL0_0 h2).on hb, fun h1 => (hF.out.kL0_1 h1).on hb⟩
    refine FSteps.op3 hz rfl (dv := [2, 2, 0, 1, 2]) (by kernel_rfl) (by kernel_rfl) (by kernel_rfl) (fun D s W bA kK hD hW hF hA hK => ?_) ?_
    · have x2 := hA.o 2 _ rfl u2
      have x70 := hA.i 70 _ rfl rfl (hF.zt.get (j := 2) rfl hW.1)
      have kk := hF.kL0_0 hD
      have kc := kk.cell; have kf := kk.free
      have hF := Lib.hid hF
      have kk := Lib.hid kk
      clear hA
      go_simp
      exact hK.out undef _ ⟨hF.out.zb.sAll (hw_n1_1) 0 [Value.int .i64 (byS (-2147483648) 2147483647 1 k).lo, Value.int .i64 (byS (-2147483648) 2147483647 1 k).hi, Value.int .i64 (byS (-2147483648) 2147483647 1 k).m, Value.int .i64 (byS (-2147483648) 2147483647 1 k).r, Value.int .i64 (byS (-2147483648) 2147483647 1 k).k], Bks.oAll [Value.int .i64 (byS (-2147483648) 2147483647 1 k).lo, Value.int .i64 (byS (-2147483648) 2147483647 1 k).hi, Value.int .i64 (byS (-2147483648) 2147483647 1 k).m, Value.int .i64 (byS (-2147483648) 2147483647 1 k).r, Value.int .i64 (byS (-2147483648) 2147483647 1 k).k] 0 (⟨(by omega), trivial⟩) hF.out.zq, hF.out.zt.skip rfl, fun h2 => no_of h2, fun _ => kk.out.full [Value.int .i64 (byS (-2147483648) 2147483647 1 k).lo, Value.int .i64 (byS (-2147483648) 2147483647 1 k).hi, Value.int .i64 (byS (-2147483648) 2147483647 1 k).m, Value.int .i64 (byS (-2147483648) 2147483647 1 k).r, Value.int .i64 (byS (-2147483648) 2147483647 1 k).k] rfl⟩
    exact FSteps.nil
    intro D s W aF6 hD hF hz' df' hA
    obtain ⟨d0, d1, d2, d3, -⟩ := hD
    clear u67
    replace u1 : Sl aF6 1 _ := hA.o 1 _ rfl u1
    replace u2 : Sl aF6 2 _ := hA.o 2 _ rfl u2
    replace u5 : Sl aF6 5 _ := hA.o 5 _ rfl u5
    replace u6 : Sl aF6 6 _ := hA.o 6 _ rfl u6
    have hkXL0 := hF.kL0_1 d3
    have hM := hF.zb
    have hB := hF.zq
    have hB : Bks W [(n1_0, #[Value.int .i64 a.lo, Value.int .i64 a.hi, Value.int .i64 a.m, Value.int .i64 a.r, Value.int .i64 a.k, Value.int .i64 b.lo, Value.int .i64 b.hi, Value.int .i64 b.m, Value.int .i64 b.r, Value.int .i64 b.k, Value.int .i64 k], 72), (n1_1, #[Value.int .i64 (byS (-2147483648) 2147483647 1 k).lo, Value.int .i64 (byS (-2147483648) 2147483647 1 k).hi, Value.int .i64 (byS (-2147483648) 2147483647 1 k).m, Value.int .i64 (byS (-2147483648) 2147483647 1 k).r, Value.int .i64 (byS (-2147483648) 2147483647 1 k).k], 27)] := ⟨hB.1, hkXL0, trivial⟩
    clear hF hA hz df d0 d1 d2 d3 
    have hz := hz'; have df := df'; clear hz' df'
    clear aF5
    show Code.wp _ _ _ _ _
    refine wp_ret ?_
    refine then_ret ?_
    show bodyPost _ _ _ _ _ _
    have hB2 := hB.rules
    obtain ⟨⟨c0, z0⟩, ⟨c1, z1⟩, -⟩ := hB2
    unfold Sl at u2
    refine end_go df (v := (Value.agg #[Value.int .i64 (byS (-2147483648) 2147483647 1 k).lo, Value.int .i64 (byS (-2147483648) 2147483647 1 k).hi, Value.int .i64 (byS (-2147483648) 2147483647 1 k).m, Value.int .i64 (byS (-2147483648) 2147483647 1 k).r, Value.int .i64 (byS (-2147483648) 2147483647 1 k).k])) (by simp [results, Try.results77, go_sem, u2, c1]) ⟨rfl, hM.b⟩

set_option maxRecDepth 100000 in
set_option maxHeartbeats 4000000 in
theorem pdiv_1 {a b : Ab} (k : Int) (w : World) (ha : Good a) (hb : Good b) (hs : stepS b = 0) (hn : b.lo ≠ 0) :
    Calls Try.prog 77 #[Value.agg #[Value.int .i64 a.lo, Value.int .i64 a.hi, Value.int .i64 a.m, Value.int .i64 a.r, Value.int .i64 a.k, Value.int .i64 b.lo, Value.int .i64 b.hi, Value.int .i64 b.m, Value.int .i64 b.r, Value.int .i64 b.k, Value.int .i64 k]] w fun e w' => e = .returned (Value.agg #[Value.int .i64 (clampS (min (a.lo.tdiv b.lo) (a.hi.tdiv b.lo)) (max (a.lo.tdiv b.lo) (a.hi.tdiv b.lo)) k).lo, Value.int .i64 (clampS (min (a.lo.tdiv b.lo) (a.hi.tdiv b.lo)) (max (a.lo.tdiv b.lo) (a.hi.tdiv b.lo)) k).hi, Value.int .i64 (clampS (min (a.lo.tdiv b.lo) (a.hi.tdiv b.lo)) (max (a.lo.tdiv b.lo) (a.hi.tdiv b.lo)) k).m, Value.int .i64 (clampS (min (a.lo.tdiv b.lo) (a.hi.tdiv b.lo)) (max (a.lo.tdiv b.lo) (a.hi.tdiv b.lo)) k).r, Value.int .i64 (clampS (min (a.lo.tdiv b.lo) (a.hi.tdiv b.lo)) (max (a.lo.tdiv b.lo) (a.hi.tdiv b.lo)) k).k]) ∧ Below w.heap.size w w' := by
  have a1 := ha.h1; have a2 := ha.h2; have a3 := ha.h3
  have b1 := hb.h1; have b2 := hb.h2; have b3 := hb.h3
  have sa := ha.step0; have sb := hb.step0
  have hn0 : ¬ b.lo = 0 := hn
  replace hs := Lib.hid hs; replace hn := Lib.hid hn
  have t1 := tdiv_bd (x := a.lo) (y := b.lo) (by omega)
  have t2 := tdiv_bd (x := a.hi) (y := b.lo) (by omega)
  refine calls_go Try.func77 rfl 76 rfl rfl (fun aF hz df hu => ?_)
  have u0 : Sl aF 0 (Value.agg #[Value.int .i64 a.lo, Value.int .i64 a.hi, Value.int .i64 a.m, Value.int .i64 a.r, Value.int .i64 a.k, Value.int .i64 b.lo, Value.int .i64 b.hi, Value.int .i64 b.m, Value.int .i64 b.r, Value.int .i64 b.k, Value.int .i64 k]) := hu 0 _ rfl
  clear hu
  have hM : Mk0 w w.heap.size w := ⟨Below.refl _ _, Nat.le_refl _⟩
  have hB : Bks w [] := trivial
  refine wp_seq ?_
  obtain ⟨m1, hM, hU, hwm⟩ := start_region hM.b hB
  refine region_run (F := pdiv_1_r0_1 a b k w m1) [1, 2] [0, 1] hz df (by kernel_rfl) (by kernel_rfl) (fun s hs0 => ⟨hM, hB, Vals.none s _, fun h => no_of' h, fun h => no_of' h, fun h => no_of' h, fun h => no_of' h, fun h => no_of' h, fun h => no_of' h, fun h => no_of' h⟩) ?_ ?_
  refine FSteps.op3 hz rfl (dv := []) (by kernel_rfl) (by kernel_rfl) (by kernel_rfl) (fun D s W bA kK hD hW hF hA hK => ?_) ?_
  · have x0 := hA.o 0 _ rfl u0
    have hF := Lib.hid hF
    clear hA
    go_simp
    exact hK.out _ _ ⟨hF.out.zb.al _, Bks.al _ hF.out.zq, hF.out.zt.skip rfl, fun _ => rfl, hF.out.v1, fun _ => Bk.new _ _ _, fun _ => hF.out.zb.g, fun h1 => (hF.out.k1_0 h1).al _, hF.out.g1, fun _ h => Nat.ne_of_gt ((hF.out.k1_0 h).lt)⟩
  refine FSteps.op3 hz rfl (dv := []) (by kernel_rfl) (by kernel_rfl) (by kernel_rfl) (fun D s W bA kK hD hW hF hA hK => ?_) ?_
  · have hF := Lib.hid hF
    clear hA
    go_simp
    exact hK.out _ _ ⟨hF.out.zb.al _, Bks.al _ hF.out.zq, hF.out.zt.skip rfl, hF.out.v0, fun _ => rfl, fun h1 => (hF.out.k0_0 h1).al _, hF.out.g0, fun _ => Bk.new _ _ _, fun _ => hF.out.zb.g, fun h _ => Nat.ne_of_lt ((hF.out.k0_0 h).lt)⟩
  exact FSteps.nil
  intro D s W aF1 hD hF hz' df' hA
  obtain ⟨d0, d1, -⟩ := hD
  clear u0
  have u1 : Sl aF1 1 _ := hA.i 1 _ rfl rfl (hF.v0 d0)
  have u2 : Sl aF1 2 _ := hA.i 2 _ rfl rfl (hF.v1 d1)
  have hkX0 := hF.k0_0 d0
  have hgX0 := hF.g0 d0
  have hkX1 := hF.k1_0 d1
  have hgX1 := hF.g1 d1
  have heX0_1 := hF.e0_1 d0 d1
  have hM := hF.zb
  have hB := hF.zq
  generalize pblk (s 1) = n1_0 at hkX0 hgX0 hkX1 hgX1 heX0_1 u1 u2
  generalize pblk (s 2) = n1_1 at hkX0 hgX0 hkX1 hgX1 heX0_1 u1 u2
  have hB : Bks W [(n1_0, #[Value.int .i64 a.lo, Value.int .i64 a.hi, Value.int .i64 a.m, Value.int .i64 a.r, Value.int .i64 a.k, Value.int .i64 b.lo, Value.int .i64 b.hi, Value.int .i64 b.m, Value.int .i64 b.r, Value.int .i64 b.k, Value.int .i64 k], 72), (n1_1, #[Value.int .i64 0, Value.int .i64 0, Value.int .i64 0, Value.int .i64 0, Value.int .i64 0], 27)] := ⟨hkX0, hkX1, trivial⟩
  have hw_n1_1 : w.heap.size ≤ n1_1 := Nat.le_trans hwm hgX1
  clear hF hA hz df d0 d1 hU
  have hz := hz'; have df := df'; clear hz' df'
  clear aF
  show Code.wp _ _ _ _ _
  refine wp_seq ?_
  obtain ⟨m2, hM, hU, hwm⟩ := start_region hM.b hB
  refine region_go (F := pdiv_1_r1_2 a b k n1_0 n1_1 w m2) [7, 8, 9, 10, 3, 4] [0, 1, 2, 3, 4, 5, 6, 7] hz df (by kernel_rfl) (by kernel_rfl) (by kernel_rfl) (fun s hs0 => ⟨hM.drew, Bks.drew hB, Vals.none s _, fun h => no_of' h, fun h => no_of' h, fun h => no_of' h, fun h => no_of' h, fun h => no_of' h, fun h => no_of' h, fun h => no_of' h, fun h => no_of' h, fun h => no_of' h, fun h => no_of' h, fun h => no_of' h⟩) ?_ ?_
  refine FSteps.op3 hz rfl (dv := []) (by kernel_rfl) (by kernel_rfl) (by kernel_rfl) (fun D s W bA kK hD hW hF hA hK => ?_) ?_
  · have x1 := hA.o 1 _ rfl u1
    have hF := Lib.hid hF
    clear hA
    go_simp
    exact hK.out _ _ ⟨hF.out.zb, hF.out.zq, hF.out.zt.step rfl rfl, hF.out.v4, hF.out.v5, hF.out.k4_0, hF.out.k4_1, hF.out.c4_1, hF.out.g4, hF.out.k5_0, hF.out.k5_1, hF.out.c5_1, hF.out.g5, hF.out.e4_5⟩
  refine FSteps.op3 hz rfl (dv := [0]) (by kernel_rfl) (by kernel_rfl) (by kernel_rfl) (fun D s W bA kK hD hW hF hA hK => ?_) ?_
  · have x7 := hA.i 7 _ rfl rfl (hF.zt.get (j := 0) rfl hW.1)
    obtain ⟨⟨c0, z0⟩, -, -⟩ := hF.zq.rules
    have hF := Lib.hid hF
    clear hA
    go_simp
    exact hK.out _ _ ⟨hF.out.zb, hF.out.zq, hF.out.zt.step rfl rfl, hF.out.v4, hF.out.v5, hF.out.k4_0, hF.out.k4_1, hF.out.c4_1, hF.out.g4, hF.out.k5_0, hF.out.k5_1, hF.out.c5_1, hF.out.g5, hF.out.e4_5⟩
  refine FSteps.op3 hz rfl (dv := []) (by kernel_rfl) (by kernel_rfl) (by kernel_rfl) (fun D s W bA kK hD hW hF hA hK => ?_) ?_
  · have x1 := hA.o 1 _ rfl u1
    have hF := Lib.hid hF
    clear hA
    go_simp
    exact hK.out _ _ ⟨hF.out.zb, hF.out.zq, hF.out.zt.step rfl rfl, hF.out.v4, hF.out.v5, hF.out.k4_0, hF.out.k4_1, hF.out.c4_1, hF.out.g4, hF.out.k5_0, hF.out.k5_1, hF.out.c5_1, hF.out.g5, hF.out.e4_5⟩
  refine FSteps.op3 hz rfl (dv := [2]) (by kernel_rfl) (by kernel_rfl) (by kernel_rfl) (fun D s W bA kK hD hW hF hA hK => ?_) ?_
  · have x9 := hA.i 9 _ rfl rfl (hF.zt.get (j := 2) rfl hW.1)
    obtain ⟨⟨c0, z0⟩, -, -⟩ := hF.zq.rules
    have hF := Lib.hid hF
    clear hA
    go_simp
    exact hK.out _ _ ⟨hF.out.zb, hF.out.zq, hF.out.zt.step rfl rfl, hF.out.v4, hF.out.v5, hF.out.k4_0, hF.out.k4_1, hF.out.c4_1, hF.out.g4, hF.out.k5_0, hF.out.k5_1, hF.out.c5_1, hF.out.g5, hF.out.e4_5⟩
  refine FSteps.op3 hz rfl (dv := []) (by kernel_rfl) (by kernel_rfl) (by kernel_rfl) (fun D s W bA kK hD hW hF hA hK => ?_) ?_
  · have hF := Lib.hid hF
    clear hA
    go_simp
    exact hK.out _ _ ⟨hF.out.zb.al _, Bks.al _ hF.out.zq, hF.out.zt.skip rfl, fun _ => rfl, hF.out.v5, fun _ _ => Bk.new _ _ _, fun h1 => absurd (hF.out.c4_1 h1) (by rw [hD]; decide), fun _ => rfl, fun _ => hF.out.zb.g, fun h1 h2 => (hF.out.k5_0 h1 h2).al _, fun h1 => (hF.out.k5_1 h1).al _, hF.out.c5_1, hF.out.g5, fun _ h => Nat.ne_of_gt (lt_of_either (hF.out.k5_0 h) hF.out.k5_1)⟩
  refine FSteps.op3 hz rfl (dv := []) (by kernel_rfl) (by kernel_rfl) (by kernel_rfl) (fun D s W bA kK hD hW hF hA hK => ?_) ?_
  · have hF := Lib.hid hF
    clear hA
    go_simp
    exact hK.out _ _ ⟨hF.out.zb.al _, Bks.al _ hF.out.zq, hF.out.zt.skip rfl, hF.out.v4, fun _ => rfl, fun h1 h2 => (hF.out.k4_0 h1 h2).al _, fun h1 => (hF.out.k4_1 h1).al _, hF.out.c4_1, hF.out.g4, fun _ _ => Bk.new _ _ _, fun h1 => absurd (hF.out.c5_1 h1) (by rw [hD]; decide), fun _ => rfl, fun _ => hF.out.zb.g, fun h _ => Nat.ne_of_lt (lt_of_either (hF.out.k4_0 h) hF.out.k4_1)⟩
  refine FSteps.op3 hz rfl (dv := [4, 1, 0, 1, 4, 5]) (by kernel_rfl) (by kernel_rfl) (by kernel_rfl) (fun D s W bA kK hD hW hF hA hK => ?_) ?_
  · have x3 := hA.i 3 _ rfl rfl (hF.v4 hW.1)
    have x8 := hA.i 8 _ rfl rfl (hF.zt.get (j := 1) rfl hW.2.1)
    have kk := hF.k4_0 hW.1 hD
    have hge := Nat.le_trans hwm (hF.g4 hW.1); have hge2 := hF.g4 hW.1
    have kc := kk.cell; have kf := kk.free
    have hF := Lib.hid hF
    have kk := Lib.hid kk; have hge := Lib.hid hge; have hge2 := Lib.hid hge2
    clear hA
    go_simp
    exact hK.out undef _ ⟨hF.out.zb.sAll (hge.out) 0 [Value.int .i64 a.lo, Value.int .i64 a.hi, Value.int .i64 a.m, Value.int .i64 a.r, Value.int .i64 a.k], Bks.oAll [Value.int .i64 a.lo, Value.int .i64 a.hi, Value.int .i64 a.m, Value.int .i64 a.r, Value.int .i64 a.k] 0 (Under.outside hge2.out hU) hF.out.zq, hF.out.zt.skip rfl, hF.out.v4, hF.out.v5, fun h1 h2 => no_of h2, fun _ => kk.out.full [Value.int .i64 a.lo, Value.int .i64 a.hi, Value.int .i64 a.m, Value.int .i64 a.r, Value.int .i64 a.k] rfl, fun _ => hW.1, hF.out.g4, fun h1 h2 => Bk.oAll ((hF.out.e4_5 hW.1 h1).symm) [Value.int .i64 a.lo, Value.int .i64 a.hi, Value.int .i64 a.m, Value.int .i64 a.r, Value.int .i64 a.k] 0 (hF.out.k5_0 h1 h2), fun h1 => Bk.oAll ((hF.out.e4_5 hW.1 (hF.out.c5_1 h1)).symm) [Value.int .i64 a.lo, Value.int .i64 a.hi, Value.int .i64 a.m, Value.int .i64 a.r, Value.int .i64 a.k] 0 (hF.out.k5_1 h1), hF.out.c5_1, hF.out.g5, hF.out.e4_5⟩
  refine FSteps.op3 hz rfl (dv := [5, 3, 6, 0, 1, 2, 3, 4, 5, 6]) (by kernel_rfl) (by kernel_rfl) (by kernel_rfl) (fun D s W bA kK hD hW hF hA hK => ?_) ?_
  · have x4 := hA.i 4 _ rfl rfl (hF.v5 hW.1)
    have x10 := hA.i 10 _ rfl rfl (hF.zt.get (j := 3) rfl hW.2.1)
    have kk := hF.k5_0 hW.1 hD
    have hge := Nat.le_trans hwm (hF.g5 hW.1); have hge2 := hF.g5 hW.1
    have kc := kk.cell; have kf := kk.free
    have hF := Lib.hid hF
    have kk := Lib.hid kk; have hge := Lib.hid hge; have hge2 := Lib.hid hge2
    clear hA
    go_simp
    exact hK.out undef _ ⟨hF.out.zb.sAll (hge.out) 0 [Value.int .i64 b.lo, Value.int .i64 b.hi, Value.int .i64 b.m, Value.int .i64 b.r, Value.int .i64 b.k], Bks.oAll [Value.int .i64 b.lo, Value.int .i64 b.hi, Value.int .i64 b.m, Value.int .i64 b.r, Value.int .i64 b.k] 0 (Under.outside hge2.out hU) hF.out.zq, hF.out.zt.skip rfl, hF.out.v4, hF.out.v5, fun h1 h2 => Bk.oAll (hF.out.e4_5 h1 hW.1) [Value.int .i64 b.lo, Value.int .i64 b.hi, Value.int .i64 b.m, Value.int .i64 b.r, Value.int .i64 b.k] 0 (hF.out.k4_0 h1 h2), fun h1 => Bk.oAll (hF.out.e4_5 (hF.out.c4_1 h1) hW.1) [Value.int .i64 b.lo, Value.int .i64 b.hi, Value.int .i64 b.m, Value.int .i64 b.r, Value.int .i64 b.k] 0 (hF.out.k4_1 h1), hF.out.c4_1, hF.out.g4, fun h1 h2 => no_of h2, fun _ => kk.out.full [Value.int .i64 b.lo, Value.int .i64 b.hi, Value.int .i64 b.m, Value.int .i64 b.r, Value.int .i64 b.k] rfl, fun _ => hW.1, hF.out.g5, hF.out.e4_5⟩
  exact FSteps.nil
  intro D s W aF2 hD hF hz' df' hA
  obtain ⟨d0, d1, d2, d3, d4, d5, d6, d7, -⟩ := hD
  replace u1 : Sl aF2 1 _ := hA.o 1 _ rfl u1
  replace u2 : Sl aF2 2 _ := hA.o 2 _ rfl u2
  have u3 : Sl aF2 3 _ := hA.i 3 _ rfl rfl (hF.v4 d4)
  have u4 : Sl aF2 4 _ := hA.i 4 _ rfl rfl (hF.v5 d5)
  have hkX4 := hF.k4_1 d6
  have hgX4 := hF.g4 d4
  have hkX5 := hF.k5_1 d7
  have hgX5 := hF.g5 d5
  have heX4_5 := hF.e4_5 d4 d5
  have hM := hF.zb
  have hB := hF.zq
  generalize pblk (s 3) = n2_4 at hkX4 hgX4 hkX5 hgX5 heX4_5 u3 u4
  generalize pblk (s 4) = n2_5 at hkX4 hgX4 hkX5 hgX5 heX4_5 u3 u4
  have hB : Bks W [(n1_0, #[Value.int .i64 a.lo, Value.int .i64 a.hi, Value.int .i64 a.m, Value.int .i64 a.r, Value.int .i64 a.k, Value.int .i64 b.lo, Value.int .i64 b.hi, Value.int .i64 b.m, Value.int .i64 b.r, Value.int .i64 b.k, Value.int .i64 k], 72), (n1_1, #[Value.int .i64 0, Value.int .i64 0, Value.int .i64 0, Value.int .i64 0, Value.int .i64 0], 27), (n2_4, #[Value.int .i64 a.lo, Value.int .i64 a.hi, Value.int .i64 a.m, Value.int .i64 a.r, Value.int .i64 a.k], 27), (n2_5, #[Value.int .i64 b.lo, Value.int .i64 b.hi, Value.int .i64 b.m, Value.int .i64 b.r, Value.int .i64 b.k], 27)] := ⟨hB.1, hB.2.1, hkX4, hkX5, trivial⟩
  obtain ⟨hl_0, hl_1, -⟩ := hU
  have hne_n1_1_n2_4 : n1_1 ≠ n2_4 := by omega
  have hne_n1_1_n2_5 : n1_1 ≠ n2_5 := by omega
  clear hF hA hz df d0 d1 d2 d3 d4 d5 d6 d7 
  have hz := hz'; have df := df'; clear hz' df'
  clear aF1
  show Code.wp _ _ _ _ _
  refine wp_seq ?_
  obtain ⟨m3, hM, hU, hwm⟩ := start_region hM.b hB
  refine region_go (F := pdiv_1_r2_3 a b k n1_0 n1_1 n2_4 n2_5 w m3) [11, 12, 5, 6] [0, 1, 2, 3] hz df (by kernel_rfl) (by kernel_rfl) (by kernel_rfl) (fun s hs0 => ⟨hM.drew, Bks.drew hB, Vals.none s _⟩) ?_ ?_
  refine FSteps.op3 hz rfl (dv := []) (by kernel_rfl) (by kernel_rfl) (by kernel_rfl) (fun D s W bA kK hD hW hF hA hK => ?_) ?_
  · have x3 := hA.o 3 _ rfl u3
    have hF := Lib.hid hF
    clear hA
    go_simp
    exact hK.out _ _ ⟨hF.out.zb, hF.out.zq, hF.out.zt.step rfl rfl⟩
  refine FSteps.op3 hz rfl (dv := [0]) (by kernel_rfl) (by kernel_rfl) (by kernel_rfl) (fun D s W bA kK hD hW hF hA hK => ?_) ?_
  · have x11 := hA.i 11 _ rfl rfl (hF.zt.get (j := 0) rfl hW.1)
    obtain ⟨-, -, ⟨c2, z2⟩, -, -⟩ := hF.zq.rules
    have hF := Lib.hid hF
    clear hA
    go_simp
    exact hK.out _ _ ⟨hF.out.zb, hF.out.zq, hF.out.zt.step rfl rfl⟩
  refine FSteps.op3 hz rfl (dv := []) (by kernel_rfl) (by kernel_rfl) (by kernel_rfl) (fun D s W bA kK hD hW hF hA hK => ?_) ?_
  · have hF := Lib.hid hF
    clear hA
    go_simp
    exact hK.out _ _ ⟨hF.out.zb, hF.out.zq, hF.out.zt.step rfl rfl⟩
  refine FSteps.op3 hz rfl (dv := [1, 2, 0, 1, 2]) (by kernel_rfl) (by kernel_rfl) (by kernel_rfl) (fun D s W bA kK hD hW hF hA hK => ?_) ?_
  · have x12 := hA.i 12 _ rfl rfl (hF.zt.get (j := 1) rfl hW.1)
    have hF := Lib.hid hF
    clear hA
    go_simp
    exact hK.out _ _ ⟨hF.out.zb, hF.out.zq, hF.out.zt.step rfl rfl⟩
  exact FSteps.nil
  intro D s W aF3 hD hF hz' df' hA
  obtain ⟨d0, d1, d2, d3, -⟩ := hD
  replace u1 : Sl aF3 1 _ := hA.o 1 _ rfl u1
  replace u2 : Sl aF3 2 _ := hA.o 2 _ rfl u2
  replace u3 : Sl aF3 3 _ := hA.o 3 _ rfl u3
  replace u4 : Sl aF3 4 _ := hA.o 4 _ rfl u4
  have u5 : Sl aF3 5 _ := hA.i 5 _ rfl rfl (hF.zt.get (j := 2) rfl d2)
  have u6 : Sl aF3 6 _ := hA.i 6 _ rfl rfl (hF.zt.get (j := 3) rfl d3)
  have hM := hF.zb
  have hB := hF.zq
  have hB : Bks W [(n1_0, #[Value.int .i64 a.lo, Value.int .i64 a.hi, Value.int .i64 a.m, Value.int .i64 a.r, Value.int .i64 a.k, Value.int .i64 b.lo, Value.int .i64 b.hi, Value.int .i64 b.m, Value.int .i64 b.r, Value.int .i64 b.k, Value.int .i64 k], 72), (n1_1, #[Value.int .i64 0, Value.int .i64 0, Value.int .i64 0, Value.int .i64 0, Value.int .i64 0], 27), (n2_4, #[Value.int .i64 a.lo, Value.int .i64 a.hi, Value.int .i64 a.m, Value.int .i64 a.r, Value.int .i64 a.k], 27), (n2_5, #[Value.int .i64 b.lo, Value.int .i64 b.hi, Value.int .i64 b.m, Value.int .i64 b.r, Value.int .i64 b.k], 27)] := ⟨hB.1, hB.2.1, hB.2.2.1, hB.2.2.2.1, trivial⟩
  clear hF hA hz df d0 d1 d2 d3 hU
  have hz := hz'; have df := df'; clear hz' df'
  clear aF2
  show Code.wp _ _ _ _ _
  refine wp_seq ?_
  refine wp_seq ?_
  obtain ⟨m4, hM, hU, hwm⟩ := start_region hM.b hB
  refine region_run (F := pdiv_1_r3_4 a b k n1_0 n1_1 n2_4 n2_5 w m4) [13, 14, 15, 16, 17, 18, 19, 20] [0, 1, 2, 3, 4, 5, 6, 7] hz df (by kernel_rfl) (by kernel_rfl) (fun s hs0 => ⟨hM, hB, Vals.none s _⟩) ?_ ?_
  refine FSteps.op3 hz rfl (dv := []) (by kernel_rfl) (by kernel_rfl) (by kernel_rfl) (fun D s W bA kK hD hW hF hA hK => ?_) ?_
  · have x4 := hA.o 4 _ rfl u4
    obtain ⟨-, -, -, ⟨c3, z3⟩, -⟩ := hF.zq.rules
    have hF := Lib.hid hF
    clear hA
    go_simp
    exact hK.out _ _ ⟨hF.out.zb, hF.out.zq, hF.out.zt.step rfl rfl⟩
  refine FSteps.op3 hz rfl (dv := [0]) (by kernel_rfl) (by kernel_rfl) (by kernel_rfl) (fun D s W bA kK hD hW hF hA hK => ?_) ?_
  · have x13 := hA.i 13 _ rfl rfl (hF.zt.get (j := 0) rfl hW.1)
    have hF := Lib.hid hF
    clear hA
    go_simp
    (go_at_call 44; ((with_reducible_and_instances refine (step_ab b _).mono ?_)); rintro e W1 ⟨rfl, hb⟩; (try unfold abVal))
    (try go_wp2_with fail)
    exact hK.out _ _ ⟨hF.out.zb.on hb, Bks.on hb hF.out.zq, hF.out.zt.step rfl rfl⟩
  refine FSteps.op3 hz rfl (dv := [1]) (by kernel_rfl) (by kernel_rfl) (by kernel_rfl) (fun D s W bA kK hD hW hF hA hK => ?_) ?_
  · have x14 := hA.i 14 _ rfl rfl (hF.zt.get (j := 1) rfl hW.1)
    have hF := Lib.hid hF
    clear hA
    have hd2 : ((stepS b) == 0) = true := beq_iff_eq.2 (by exact hs.out)
    go_simp
    exact hK.out _ _ ⟨hF.out.zb, hF.out.zq, hF.out.zt.step rfl rfl⟩
  refine FSteps.op3 hz rfl (dv := [2, 1]) (by kernel_rfl) (by kernel_rfl) (by kernel_rfl) (fun D s W bA kK hD hW hF hA hK => ?_) ?_
  · have x15 := hA.i 15 _ rfl rfl (hF.zt.get (j := 2) rfl hW.1)
    have hF := Lib.hid hF
    clear hA
    go_simp
    exact hK.out _ _ ⟨hF.out.zb, hF.out.zq, hF.out.zt.step rfl rfl⟩
  refine FSteps.yes3 (bv := true) hz rfl (dv := [3]) (by kernel_rfl) rfl (by kernel_rfl) (by kernel_rfl) (fun D s W hW hF => (hF.zt.get (j := 3) rfl hW.1)) (by kernel_rfl) (by kernel_rfl) (fun D s W bA kK hD hW hF hA hK => ?_) ?_
  · have x4 := hA.o 4 _ rfl u4
    have hF := Lib.hid hF
    clear hA
    go_simp
    exact hK.out _ _ ⟨hF.out.zb, hF.out.zq, hF.out.zt.step rfl rfl⟩
  refine FSteps.yes3 (bv := true) hz rfl (dv := [4, 3]) (by kernel_rfl) rfl (by kernel_rfl) (by kernel_rfl) (fun D s W hW hF => (hF.zt.get (j := 3) rfl hW.2.1)) (by kernel_rfl) (by kernel_rfl) (fun D s W bA kK hD hW hF hA hK => ?_) ?_
  · have x17 := hA.i 17 _ rfl rfl (hF.zt.get (j := 4) rfl hW.1)
    obtain ⟨-, -, -, ⟨c3, z3⟩, -⟩ := hF.zq.rules
    have hF := Lib.hid hF
    clear hA
    go_simp
    exact hK.out _ _ ⟨hF.out.zb, hF.out.zq, hF.out.zt.step rfl rfl⟩
  refine FSteps.yes3 (bv := true) hz rfl (dv := [5, 3]) (by kernel_rfl) rfl (by kernel_rfl) (by kernel_rfl) (fun D s W hW hF => (hF.zt.get (j := 3) rfl hW.2.1)) (by kernel_rfl) (by kernel_rfl) (fun D s W bA kK hD hW hF hA hK => ?_) ?_
  · have x18 := hA.i 18 _ rfl rfl (hF.zt.get (j := 5) rfl hW.1)
    have hF := Lib.hid hF
    clear hA
    have hd6 : (b.lo != 0) = true := bne_iff_ne.2 (by exact hn.out)
    go_simp
    exact hK.out _ _ ⟨hF.out.zb, hF.out.zq, hF.out.zt.step rfl rfl⟩
  refine FSteps.op3 hz rfl (dv := [3, 6]) (by kernel_rfl) (by kernel_rfl) (by kernel_rfl) (fun D s W bA kK hD hW hF hA hK => ?_) ?_
  · have x16 := hA.i 16 _ rfl rfl (hF.zt.get (j := 3) rfl hW.1)
    have x19 := hA.i 19 _ rfl rfl (hF.zt.get (j := 6) rfl hW.2.1)
    have hF := Lib.hid hF
    clear hA
    go_simp
    exact hK.out _ _ ⟨hF.out.zb, hF.out.zq, hF.out.zt.step rfl rfl⟩
  exact FSteps.nil
  intro D s W aF4 hD hF hz' df' hA
  obtain ⟨d0, d1, d2, d3, d4, d5, d6, d7, -⟩ := hD
  replace u1 : Sl aF4 1 _ := hA.o 1 _ rfl u1
  replace u2 : Sl aF4 2 _ := hA.o 2 _ rfl u2
  replace u3 : Sl aF4 3 _ := hA.o 3 _ rfl u3
  replace u4 : Sl aF4 4 _ := hA.o 4 _ rfl u4
  replace u5 : Sl aF4 5 _ := hA.o 5 _ rfl u5
  replace u6 : Sl aF4 6 _ := hA.o 6 _ rfl u6
  have u20 : Sl aF4 20 _ := hA.i 20 _ rfl rfl (hF.zt.get (j := 7) rfl d7)
  have hM := hF.zb
  have hB := hF.zq
  have hB : Bks W [(n1_0, #[Value.int .i64 a.lo, Value.int .i64 a.hi, Value.int .i64 a.m, Value.int .i64 a.r, Value.int .i64 a.k, Value.int .i64 b.lo, Value.int .i64 b.hi, Value.int .i64 b.m, Value.int .i64 b.r, Value.int .i64 b.k, Value.int .i64 k], 72), (n1_1, #[Value.int .i64 0, Value.int .i64 0, Value.int .i64 0, Value.int .i64 0, Value.int .i64 0], 27), (n2_4, #[Value.int .i64 a.lo, Value.int .i64 a.hi, Value.int .i64 a.m, Value.int .i64 a.r, Value.int .i64 a.k], 27), (n2_5, #[Value.int .i64 b.lo, Value.int .i64 b.hi, Value.int .i64 b.m, Value.int .i64 b.r, Value.int .i64 b.k], 27)] := ⟨hB.1, hB.2.1, hB.2.2.1, hB.2.2.2.1, trivial⟩
  clear hF hA hz df d0 d1 d2 d3 d4 d5 d6 d7 hU
  have hz := hz'; have df := df'; clear hz' df'
  clear aF3
  show Code.wp _ _ _ _ _
  refine cond_t u20 ?_
  obtain ⟨m5, hM, hU, hwm⟩ := start_region hM.b hB
  refine region_go (F := pdiv_1_r4_5 a b k n1_0 n1_1 n2_4 n2_5 w m5) [21, 22, 23, 24, 25, 26, 27, 28, 29, 30, 31, 32, 33, 34, 35, 36, 37, 38, 39, 40, 41, 42, 5, 6] [0, 1, 2, 3, 4, 5, 6, 7, 8, 9, 10, 11, 12, 13, 14, 15, 16, 17, 18, 19, 20, 21, 22, 23] hz df (by kernel_rfl) (by kernel_rfl) (by kernel_rfl) (fun s hs0 => ⟨hM.drew, Bks.drew hB, Vals.none s _⟩) ?_ ?_
  refine FSteps.op3 hz rfl (dv := []) (by kernel_rfl) (by kernel_rfl) (by kernel_rfl) (fun D s W bA kK hD hW hF hA hK => ?_) ?_
  · have x3 := hA.o 3 _ rfl u3
    have hF := Lib.hid hF
    clear hA
    go_simp
    exact hK.out _ _ ⟨hF.out.zb, hF.out.zq, hF.out.zt.step rfl rfl⟩
  refine FSteps.op3 hz rfl (dv := [0]) (by kernel_rfl) (by kernel_rfl) (by kernel_rfl) (fun D s W bA kK hD hW hF hA hK => ?_) ?_
  · have x21 := hA.i 21 _ rfl rfl (hF.zt.get (j := 0) rfl hW.1)
    obtain ⟨-, -, ⟨c2, z2⟩, -, -⟩ := hF.zq.rules
    have hF := Lib.hid hF
    clear hA
    go_simp
    exact hK.out _ _ ⟨hF.out.zb, hF.out.zq, hF.out.zt.step rfl rfl⟩
  refine FSteps.op3 hz rfl (dv := []) (by kernel_rfl) (by kernel_rfl) (by kernel_rfl) (fun D s W bA kK hD hW hF hA hK => ?_) ?_
  · have x4 := hA.o 4 _ rfl u4
    have hF := Lib.hid hF
    clear hA
    go_simp
    exact hK.out _ _ ⟨hF.out.zb, hF.out.zq, hF.out.zt.step rfl rfl⟩
  refine FSteps.op3 hz rfl (dv := [2]) (by kernel_rfl) (by kernel_rfl) (by kernel_rfl) (fun D s W bA kK hD hW hF hA hK => ?_) ?_
  · have x23 := hA.i 23 _ rfl rfl (hF.zt.get (j := 2) rfl hW.1)
    obtain ⟨-, -, -, ⟨c3, z3⟩, -⟩ := hF.zq.rules
    have hF := Lib.hid hF
    clear hA
    go_simp
    exact hK.out _ _ ⟨hF.out.zb, hF.out.zq, hF.out.zt.step rfl rfl⟩
  refine FSteps.op3 hz rfl (dv := [1, 3]) (by kernel_rfl) (by kernel_rfl) (by kernel_rfl) (fun D s W bA kK hD hW hF hA hK => ?_) ?_
  · have x22 := hA.i 22 _ rfl rfl (hF.zt.get (j := 1) rfl hW.1)
    have x24 := hA.i 24 _ rfl rfl (hF.zt.get (j := 3) rfl hW.2.1)
    have hF := Lib.hid hF
    clear hA
    have hw4 : IntKind.i64.wrap (a.lo.tdiv b.lo) = a.lo.tdiv b.lo := IntWalk.i64_in _ (by omega)
    go_simp
    exact hK.out _ _ ⟨hF.out.zb, hF.out.zq, hF.out.zt.step rfl rfl⟩
  refine FSteps.op3 hz rfl (dv := []) (by kernel_rfl) (by kernel_rfl) (by kernel_rfl) (fun D s W bA kK hD hW hF hA hK => ?_) ?_
  · have x3 := hA.o 3 _ rfl u3
    have hF := Lib.hid hF
    clear hA
    go_simp
    exact hK.out _ _ ⟨hF.out.zb, hF.out.zq, hF.out.zt.step rfl rfl⟩
  refine FSteps.op3 hz rfl (dv := [5]) (by kernel_rfl) (by kernel_rfl) (by kernel_rfl) (fun D s W bA kK hD hW hF hA hK => ?_) ?_
  · have x26 := hA.i 26 _ rfl rfl (hF.zt.get (j := 5) rfl hW.1)
    obtain ⟨-, -, ⟨c2, z2⟩, -, -⟩ := hF.zq.rules
    have hF := Lib.hid hF
    clear hA
    go_simp
    exact hK.out _ _ ⟨hF.out.zb, hF.out.zq, hF.out.zt.step rfl rfl⟩
  refine FSteps.op3 hz rfl (dv := []) (by kernel_rfl) (by kernel_rfl) (by kernel_rfl) (fun D s W bA kK hD hW hF hA hK => ?_) ?_
  · have x4 := hA.o 4 _ rfl u4
    have hF := Lib.hid hF
    clear hA
    go_simp
    exact hK.out _ _ ⟨hF.out.zb, hF.out.zq, hF.out.zt.step rfl rfl⟩
  refine FSteps.op3 hz rfl (dv := [7]) (by kernel_rfl) (by kernel_rfl) (by kernel_rfl) (fun D s W bA kK hD hW hF hA hK => ?_) ?_
  · have x28 := hA.i 28 _ rfl rfl (hF.zt.get (j := 7) rfl hW.1)
    obtain ⟨-, -, -, ⟨c3, z3⟩, -⟩ := hF.zq.rules
    have hF := Lib.hid hF
    clear hA
    go_simp
    exact hK.out _ _ ⟨hF.out.zb, hF.out.zq, hF.out.zt.step rfl rfl⟩
  refine FSteps.op3 hz rfl (dv := [6, 8]) (by kernel_rfl) (by kernel_rfl) (by kernel_rfl) (fun D s W bA kK hD hW hF hA hK => ?_) ?_
  · have x27 := hA.i 27 _ rfl rfl (hF.zt.get (j := 6) rfl hW.1)
    have x29 := hA.i 29 _ rfl rfl (hF.zt.get (j := 8) rfl hW.2.1)
    have hF := Lib.hid hF
    clear hA
    have hw9 : IntKind.i64.wrap (a.hi.tdiv b.lo) = a.hi.tdiv b.lo := IntWalk.i64_in _ (by omega)
    go_simp
    exact hK.out _ _ ⟨hF.out.zb, hF.out.zq, hF.out.zt.step rfl rfl⟩
  refine FSteps.op3 hz rfl (dv := [4, 9]) (by kernel_rfl) (by kernel_rfl) (by kernel_rfl) (fun D s W bA kK hD hW hF hA hK => ?_) ?_
  · have x25 := hA.i 25 _ rfl rfl (hF.zt.get (j := 4) rfl hW.1)
    have x30 := hA.i 30 _ rfl rfl (hF.zt.get (j := 9) rfl hW.2.1)
    have hF := Lib.hid hF
    clear hA
    have hm10_0 : (if (a.hi.tdiv b.lo) < (a.lo.tdiv b.lo) then (a.hi.tdiv b.lo) else (a.lo.tdiv b.lo)) = min (a.lo.tdiv b.lo) (a.hi.tdiv b.lo) := min_is _ _
    go_simp
    exact hK.out _ _ ⟨hF.out.zb, hF.out.zq, hF.out.zt.step rfl rfl⟩
  refine FSteps.op3 hz rfl (dv := []) (by kernel_rfl) (by kernel_rfl) (by kernel_rfl) (fun D s W bA kK hD hW hF hA hK => ?_) ?_
  · have x3 := hA.o 3 _ rfl u3
    have hF := Lib.hid hF
    clear hA
    go_simp
    exact hK.out _ _ ⟨hF.out.zb, hF.out.zq, hF.out.zt.step rfl rfl⟩
  refine FSteps.op3 hz rfl (dv := [11]) (by kernel_rfl) (by kernel_rfl) (by kernel_rfl) (fun D s W bA kK hD hW hF hA hK => ?_) ?_
  · have x32 := hA.i 32 _ rfl rfl (hF.zt.get (j := 11) rfl hW.1)
    obtain ⟨-, -, ⟨c2, z2⟩, -, -⟩ := hF.zq.rules
    have hF := Lib.hid hF
    clear hA
    go_simp
    exact hK.out _ _ ⟨hF.out.zb, hF.out.zq, hF.out.zt.step rfl rfl⟩
  refine FSteps.op3 hz rfl (dv := []) (by kernel_rfl) (by kernel_rfl) (by kernel_rfl) (fun D s W bA kK hD hW hF hA hK => ?_) ?_
  · have x4 := hA.o 4 _ rfl u4
    have hF := Lib.hid hF
    clear hA
    go_simp
    exact hK.out _ _ ⟨hF.out.zb, hF.out.zq, hF.out.zt.step rfl rfl⟩
  refine FSteps.op3 hz rfl (dv := [13]) (by kernel_rfl) (by kernel_rfl) (by kernel_rfl) (fun D s W bA kK hD hW hF hA hK => ?_) ?_
  · have x34 := hA.i 34 _ rfl rfl (hF.zt.get (j := 13) rfl hW.1)
    obtain ⟨-, -, -, ⟨c3, z3⟩, -⟩ := hF.zq.rules
    have hF := Lib.hid hF
    clear hA
    go_simp
    exact hK.out _ _ ⟨hF.out.zb, hF.out.zq, hF.out.zt.step rfl rfl⟩
  refine FSteps.op3 hz rfl (dv := [12, 14]) (by kernel_rfl) (by kernel_rfl) (by kernel_rfl) (fun D s W bA kK hD hW hF hA hK => ?_) ?_
  · have x33 := hA.i 33 _ rfl rfl (hF.zt.get (j := 12) rfl hW.1)
    have x35 := hA.i 35 _ rfl rfl (hF.zt.get (j := 14) rfl hW.2.1)
    have hF := Lib.hid hF
    clear hA
    have hw15 : IntKind.i64.wrap (a.lo.tdiv b.lo) = a.lo.tdiv b.lo := IntWalk.i64_in _ (by omega)
    go_simp
    exact hK.out _ _ ⟨hF.out.zb, hF.out.zq, hF.out.zt.step rfl rfl⟩
  refine FSteps.op3 hz rfl (dv := []) (by kernel_rfl) (by kernel_rfl) (by kernel_rfl) (fun D s W bA kK hD hW hF hA hK => ?_) ?_
  · have x3 := hA.o 3 _ rfl u3
    have hF := Lib.hid hF
    clear hA
    go_simp
    exact hK.out _ _ ⟨hF.out.zb, hF.out.zq, hF.out.zt.step rfl rfl⟩
  refine FSteps.op3 hz rfl (dv := [16]) (by kernel_rfl) (by kernel_rfl) (by kernel_rfl) (fun D s W bA kK hD hW hF hA hK => ?_) ?_
  · have x37 := hA.i 37 _ rfl rfl (hF.zt.get (j := 16) rfl hW.1)
    obtain ⟨-, -, ⟨c2, z2⟩, -, -⟩ := hF.zq.rules
    have hF := Lib.hid hF
    clear hA
    go_simp
    exact hK.out _ _ ⟨hF.out.zb, hF.out.zq, hF.out.zt.step rfl rfl⟩
  refine FSteps.op3 hz rfl (dv := []) (by kernel_rfl) (by kernel_rfl) (by kernel_rfl) (fun D s W bA kK hD hW hF hA hK => ?_) ?_
  · have x4 := hA.o 4 _ rfl u4
    have hF := Lib.hid hF
    clear hA
    go_simp
    exact hK.out _ _ ⟨hF.out.zb, hF.out.zq, hF.out.zt.step rfl rfl⟩
  refine FSteps.op3 hz rfl (dv := [18]) (by kernel_rfl) (by kernel_rfl) (by kernel_rfl) (fun D s W bA kK hD hW hF hA hK => ?_) ?_
  · have x39 := hA.i 39 _ rfl rfl (hF.zt.get (j := 18) rfl hW.1)
    obtain ⟨-, -, -, ⟨c3, z3⟩, -⟩ := hF.zq.rules
    have hF := Lib.hid hF
    clear hA
    go_simp
    exact hK.out _ _ ⟨hF.out.zb, hF.out.zq, hF.out.zt.step rfl rfl⟩
  refine FSteps.op3 hz rfl (dv := [17, 19]) (by kernel_rfl) (by kernel_rfl) (by kernel_rfl) (fun D s W bA kK hD hW hF hA hK => ?_) ?_
  · have x38 := hA.i 38 _ rfl rfl (hF.zt.get (j := 17) rfl hW.1)
    have x40 := hA.i 40 _ rfl rfl (hF.zt.get (j := 19) rfl hW.2.1)
    have hF := Lib.hid hF
    clear hA
    have hw20 : IntKind.i64.wrap (a.hi.tdiv b.lo) = a.hi.tdiv b.lo := IntWalk.i64_in _ (by omega)
    go_simp
    exact hK.out _ _ ⟨hF.out.zb, hF.out.zq, hF.out.zt.step rfl rfl⟩
  refine FSteps.op3 hz rfl (dv := [15, 20]) (by kernel_rfl) (by kernel_rfl) (by kernel_rfl) (fun D s W bA kK hD hW hF hA hK => ?_) ?_
  · have x36 := hA.i 36 _ rfl rfl (hF.zt.get (j := 15) rfl hW.1)
    have x41 := hA.i 41 _ rfl rfl (hF.zt.get (j := 20) rfl hW.2.1)
    have hF := Lib.hid hF
    clear hA
    have hm21_0 : (if (a.lo.tdiv b.lo) < (a.hi.tdiv b.lo) then (a.hi.tdiv b.lo) else (a.lo.tdiv b.lo)) = max (a.lo.tdiv b.lo) (a.hi.tdiv b.lo) := max_is _ _
    go_simp
    exact hK.out _ _ ⟨hF.out.zb, hF.out.zq, hF.out.zt.step rfl rfl⟩
  refine FSteps.op3 hz rfl (dv := [10, 0, 1, 2, 3, 4, 5, 6, 7, 8, 9, 10]) (by kernel_rfl) (by kernel_rfl) (by kernel_rfl) (fun D s W bA kK hD hW hF hA hK => ?_) ?_
  · have x31 := hA.i 31 _ rfl rfl (hF.zt.get (j := 10) rfl hW.1)
    have hF := Lib.hid hF
    clear hA
    go_simp
    exact hK.out _ _ ⟨hF.out.zb, hF.out.zq, hF.out.zt.step rfl rfl⟩
  refine FSteps.op3 hz rfl (dv := [21, 22, 0, 1, 2, 3, 4, 5, 6, 7, 8, 9, 10, 11, 12, 13, 14, 15, 16, 17, 18, 19, 20, 21, 22]) (by kernel_rfl) (by kernel_rfl) (by kernel_rfl) (fun D s W bA kK hD hW hF hA hK => ?_) ?_
  · have x42 := hA.i 42 _ rfl rfl (hF.zt.get (j := 21) rfl hW.1)
    have hF := Lib.hid hF
    clear hA
    go_simp
    exact hK.out _ _ ⟨hF.out.zb, hF.out.zq, hF.out.zt.step rfl rfl⟩
  exact FSteps.nil
  intro D s W aF5 hD hF hz' df' hA
  obtain ⟨d0, d1, d2, d3, d4, d5, d6, d7, d8, d9, d10, d11, d12, d13, d14, d15, d16, d17, d18, d19, d20, d21, d22, d23, -⟩ := hD
  clear u3 u4 u5 u6 u20
  replace u1 : Sl aF5 1 _ := hA.o 1 _ rfl u1
  replace u2 : Sl aF5 2 _ := hA.o 2 _ rfl u2
  have u5 : Sl aF5 5 _ := hA.i 5 _ rfl rfl (hF.zt.get (j := 22) rfl d22)
  have u6 : Sl aF5 6 _ := hA.i 6 _ rfl rfl (hF.zt.get (j := 23) rfl d23)
  have hM := hF.zb
  have hB := hF.zq
  have hB : Bks W [(n1_0, #[Value.int .i64 a.lo, Value.int .i64 a.hi, Value.int .i64 a.m, Value.int .i64 a.r, Value.int .i64 a.k, Value.int .i64 b.lo, Value.int .i64 b.hi, Value.int .i64 b.m, Value.int .i64 b.r, Value.int .i64 b.k, Value.int .i64 k], 72), (n1_1, #[Value.int .i64 0, Value.int .i64 0, Value.int .i64 0, Value.int .i64 0, Value.int .i64 0], 27)] := ⟨hB.1, hB.2.1, trivial⟩
  clear hF hA hz df d0 d1 d2 d3 d4 d5 d6 d7 d8 d9 d10 d11 d12 d13 d14 d15 d16 d17 d18 d19 d20 d21 d22 d23 hU
  have hz := hz'; have df := df'; clear hz' df'
  clear aF4
  show Code.wp _ _ _ _ _
  exact pdiv_tail k (min (a.lo.tdiv b.lo) (a.hi.tdiv b.lo)) (max (a.lo.tdiv b.lo) (a.hi.tdiv b.lo)) w (by omega) (by omega) (by omega) aF5 W n1_0 n1_1 hw_n1_1 (by omega) hz df u1 u2 u5 u6 hM.b ⟨hB.1, hB.2.1, trivial⟩

structure pdiv_sa_r0_1 (a b : Ab) (k : Int) (w : World) (m1 : Nat) (D : Nat → Bool) (s : Nat → Value) (W : World) : Prop where
  zb : Mk0 w m1 W
  zq : Bks W []
  zt : Vals D s []
  v0 : D 0 = true → s 1 = (Value.pointer (some ⟨pblk (s 1), 0, none⟩))
  v1 : D 1 = true → s 2 = (Value.pointer (some ⟨pblk (s 2), 0, none⟩))
  k0_0 : D 0 = true → Bk W (pblk (s 1)) #[Value.int .i64 a.lo, Value.int .i64 a.hi, Value.int .i64 a.m, Value.int .i64 a.r, Value.int .i64 a.k, Value.int .i64 b.lo, Value.int .i64 b.hi, Value.int .i64 b.m, Value.int .i64 b.r, Value.int .i64 b.k, Value.int .i64 k] 72
  g0 : D 0 = true → m1 ≤ (pblk (s 1))
  k1_0 : D 1 = true → Bk W (pblk (s 2)) #[Value.int .i64 0, Value.int .i64 0, Value.int .i64 0, Value.int .i64 0, Value.int .i64 0] 27
  g1 : D 1 = true → m1 ≤ (pblk (s 2))
  e0_1 : D 0 = true → D 1 = true → pblk (s 1) ≠ pblk (s 2)

structure pdiv_sa_r1_2 (a b : Ab) (k : Int) (n1_0 n1_1 : Nat) (w : World) (m2 : Nat) (D : Nat → Bool) (s : Nat → Value) (W : World) : Prop where
  zb : Mk0 w m2 W
  zq : Bks W [(n1_0, #[Value.int .i64 a.lo, Value.int .i64 a.hi, Value.int .i64 a.m, Value.int .i64 a.r, Value.int .i64 a.k, Value.int .i64 b.lo, Value.int .i64 b.hi, Value.int .i64 b.m, Value.int .i64 b.r, Value.int .i64 b.k, Value.int .i64 k], 72), (n1_1, #[Value.int .i64 0, Value.int .i64 0, Value.int .i64 0, Value.int .i64 0, Value.int .i64 0], 27)]
  zt : Vals D s [(0, 7, Value.pointer (some ⟨n1_0, 0, none⟩)), (1, 8, Value.agg #[Value.int .i64 a.lo, Value.int .i64 a.hi, Value.int .i64 a.m, Value.int .i64 a.r, Value.int .i64 a.k]), (2, 9, Value.pointer (some ⟨n1_0, 5, none⟩)), (3, 10, Value.agg #[Value.int .i64 b.lo, Value.int .i64 b.hi, Value.int .i64 b.m, Value.int .i64 b.r, Value.int .i64 b.k])]
  v4 : D 4 = true → s 3 = (Value.pointer (some ⟨pblk (s 3), 0, none⟩))
  v5 : D 5 = true → s 4 = (Value.pointer (some ⟨pblk (s 4), 0, none⟩))
  k4_0 : D 4 = true → D 6 = false → Bk W (pblk (s 3)) #[Value.int .i64 0, Value.int .i64 0, Value.int .i64 0, Value.int .i64 0, Value.int .i64 0] 27
  k4_1 : D 6 = true → Bk W (pblk (s 3)) #[Value.int .i64 a.lo, Value.int .i64 a.hi, Value.int .i64 a.m, Value.int .i64 a.r, Value.int .i64 a.k] 27
  c4_1 : D 6 = true → D 4 = true
  g4 : D 4 = true → m2 ≤ (pblk (s 3))
  k5_0 : D 5 = true → D 7 = false → Bk W (pblk (s 4)) #[Value.int .i64 0, Value.int .i64 0, Value.int .i64 0, Value.int .i64 0, Value.int .i64 0] 27
  k5_1 : D 7 = true → Bk W (pblk (s 4)) #[Value.int .i64 b.lo, Value.int .i64 b.hi, Value.int .i64 b.m, Value.int .i64 b.r, Value.int .i64 b.k] 27
  c5_1 : D 7 = true → D 5 = true
  g5 : D 5 = true → m2 ≤ (pblk (s 4))
  e4_5 : D 4 = true → D 5 = true → pblk (s 3) ≠ pblk (s 4)

structure pdiv_sa_r2_3 (a b : Ab) (k : Int) (n1_0 n1_1 n2_4 n2_5 : Nat) (w : World) (m3 : Nat) (D : Nat → Bool) (s : Nat → Value) (W : World) : Prop where
  zb : Mk0 w m3 W
  zq : Bks W [(n1_0, #[Value.int .i64 a.lo, Value.int .i64 a.hi, Value.int .i64 a.m, Value.int .i64 a.r, Value.int .i64 a.k, Value.int .i64 b.lo, Value.int .i64 b.hi, Value.int .i64 b.m, Value.int .i64 b.r, Value.int .i64 b.k, Value.int .i64 k], 72), (n1_1, #[Value.int .i64 0, Value.int .i64 0, Value.int .i64 0, Value.int .i64 0, Value.int .i64 0], 27), (n2_4, #[Value.int .i64 a.lo, Value.int .i64 a.hi, Value.int .i64 a.m, Value.int .i64 a.r, Value.int .i64 a.k], 27), (n2_5, #[Value.int .i64 b.lo, Value.int .i64 b.hi, Value.int .i64 b.m, Value.int .i64 b.r, Value.int .i64 b.k], 27)]
  zt : Vals D s [(0, 11, Value.pointer (some ⟨n2_4, 1, none⟩)), (1, 12, Value.int .i64 a.hi), (2, 5, Value.int .i64 0), (3, 6, Value.int .i64 a.hi)]

structure pdiv_sa_r3_4 (a b : Ab) (k : Int) (n1_0 n1_1 n2_4 n2_5 : Nat) (w : World) (m4 : Nat) (D : Nat → Bool) (s : Nat → Value) (W : World) : Prop where
  zb : Mk0 w m4 W
  zq : Bks W [(n1_0, #[Value.int .i64 a.lo, Value.int .i64 a.hi, Value.int .i64 a.m, Value.int .i64 a.r, Value.int .i64 a.k, Value.int .i64 b.lo, Value.int .i64 b.hi, Value.int .i64 b.m, Value.int .i64 b.r, Value.int .i64 b.k, Value.int .i64 k], 72), (n1_1, #[Value.int .i64 0, Value.int .i64 0, Value.int .i64 0, Value.int .i64 0, Value.int .i64 0], 27), (n2_4, #[Value.int .i64 a.lo, Value.int .i64 a.hi, Value.int .i64 a.m, Value.int .i64 a.r, Value.int .i64 a.k], 27), (n2_5, #[Value.int .i64 b.lo, Value.int .i64 b.hi, Value.int .i64 b.m, Value.int .i64 b.r, Value.int .i64 b.k], 27)]
  zt : Vals D s [(0, 13, Value.agg #[Value.int .i64 b.lo, Value.int .i64 b.hi, Value.int .i64 b.m, Value.int .i64 b.r, Value.int .i64 b.k]), (1, 14, Value.int .i64 (stepS b)), (2, 15, Value.bool false), (3, 16, Value.bool false), (4, 17, undef), (5, 18, undef), (6, 19, undef), (7, 20, Value.bool false)]

structure pdiv_sa_r5_5 (a b : Ab) (k : Int) (n1_0 n1_1 n2_4 n2_5 : Nat) (w : World) (m5 : Nat) (D : Nat → Bool) (s : Nat → Value) (W : World) : Prop where
  zb : Mk0 w m5 W
  zq : Bks W [(n1_0, #[Value.int .i64 a.lo, Value.int .i64 a.hi, Value.int .i64 a.m, Value.int .i64 a.r, Value.int .i64 a.k, Value.int .i64 b.lo, Value.int .i64 b.hi, Value.int .i64 b.m, Value.int .i64 b.r, Value.int .i64 b.k, Value.int .i64 k], 72), (n1_1, #[Value.int .i64 0, Value.int .i64 0, Value.int .i64 0, Value.int .i64 0, Value.int .i64 0], 27), (n2_4, #[Value.int .i64 a.lo, Value.int .i64 a.hi, Value.int .i64 a.m, Value.int .i64 a.r, Value.int .i64 a.k], 27), (n2_5, #[Value.int .i64 b.lo, Value.int .i64 b.hi, Value.int .i64 b.m, Value.int .i64 b.r, Value.int .i64 b.k], 27)]
  zt : Vals D s [(0, 43, Value.pointer (some ⟨n2_4, 0, none⟩)), (1, 44, Value.int .i64 a.lo), (2, 45, Value.bool true), (3, 46, Value.bool true), (4, 47, undef), (5, 48, undef), (6, 49, undef), (7, 50, Value.bool true)]

structure pdiv_sa_r6_6 (a b : Ab) (k : Int) (n1_0 n1_1 n2_4 : Nat) (w : World) (m6 : Nat) (D : Nat → Bool) (s : Nat → Value) (W : World) : Prop where
  zb : Mk0 w m6 W
  zq : Bks W [(n1_0, #[Value.int .i64 a.lo, Value.int .i64 a.hi, Value.int .i64 a.m, Value.int .i64 a.r, Value.int .i64 a.k, Value.int .i64 b.lo, Value.int .i64 b.hi, Value.int .i64 b.m, Value.int .i64 b.r, Value.int .i64 b.k, Value.int .i64 k], 72), (n1_1, #[Value.int .i64 0, Value.int .i64 0, Value.int .i64 0, Value.int .i64 0, Value.int .i64 0], 27), (n2_4, #[Value.int .i64 a.lo, Value.int .i64 a.hi, Value.int .i64 a.m, Value.int .i64 a.r, Value.int .i64 a.k], 27)]
  zt : Vals D s [(0, 51, Value.pointer (some ⟨n2_4, 0, none⟩)), (1, 52, Value.int .i64 a.lo), (2, 53, Value.int .i64 (absS a.lo)), (3, 54, Value.pointer (some ⟨n2_4, 1, none⟩)), (4, 55, Value.int .i64 a.hi), (5, 56, Value.int .i64 (absS a.hi)), (6, 57, Value.int .i64 (max (absS a.lo) (absS a.hi))), (7, 6, Value.int .i64 (max (absS a.lo) (absS a.hi)))]

structure pdiv_sa_r7_7 (a b : Ab) (k : Int) (n1_0 n1_1 : Nat) (w : World) (m7 : Nat) (D : Nat → Bool) (s : Nat → Value) (W : World) : Prop where
  zb : Mk0 w m7 W
  zq : Bks W [(n1_0, #[Value.int .i64 a.lo, Value.int .i64 a.hi, Value.int .i64 a.m, Value.int .i64 a.r, Value.int .i64 a.k, Value.int .i64 b.lo, Value.int .i64 b.hi, Value.int .i64 b.m, Value.int .i64 b.r, Value.int .i64 b.k, Value.int .i64 k], 72), (n1_1, #[Value.int .i64 0, Value.int .i64 0, Value.int .i64 0, Value.int .i64 0, Value.int .i64 0], 27)]
  zt : Vals D s [(0, 58, Value.int .i64 (max (absS a.lo) (absS a.hi))), (1, 59, Value.int .i64 (-(max (absS a.lo) (absS a.hi)))), (2, 5, Value.int .i64 (-(max (absS a.lo) (absS a.hi))))]

set_option maxRecDepth 100000 in
set_option maxHeartbeats 4000000 in
theorem pdiv_sa {a b : Ab} (k : Int) (w : World) (ha : Good a) (hb : Good b) (hs : stepS b ≠ 0) (h5 : a.lo < 0) :
    Calls Try.prog 77 #[Value.agg #[Value.int .i64 a.lo, Value.int .i64 a.hi, Value.int .i64 a.m, Value.int .i64 a.r, Value.int .i64 a.k, Value.int .i64 b.lo, Value.int .i64 b.hi, Value.int .i64 b.m, Value.int .i64 b.r, Value.int .i64 b.k, Value.int .i64 k]] w fun e w' => e = .returned (Value.agg #[Value.int .i64 (clampS (-(max (absS a.lo) (absS a.hi))) (max (absS a.lo) (absS a.hi)) k).lo, Value.int .i64 (clampS (-(max (absS a.lo) (absS a.hi))) (max (absS a.lo) (absS a.hi)) k).hi, Value.int .i64 (clampS (-(max (absS a.lo) (absS a.hi))) (max (absS a.lo) (absS a.hi)) k).m, Value.int .i64 (clampS (-(max (absS a.lo) (absS a.hi))) (max (absS a.lo) (absS a.hi)) k).r, Value.int .i64 (clampS (-(max (absS a.lo) (absS a.hi))) (max (absS a.lo) (absS a.hi)) k).k]) ∧ Below w.heap.size w w' := by
  have a1 := ha.h1; have a2 := ha.h2; have a3 := ha.h3
  have b1 := hb.h1; have b2 := hb.h2; have b3 := hb.h3
  have sa := ha.step0; have sb := hb.step0
  replace hs := Lib.hid hs
  have ab1 : 0 ≤ absS a.lo ∧ absS a.lo ≤ 2147483648 := by unfold absS; omega
  have ab2 : 0 ≤ absS a.hi ∧ absS a.hi ≤ 2147483648 := by unfold absS; omega
  refine calls_go Try.func77 rfl 76 rfl rfl (fun aF hz df hu => ?_)
  have u0 : Sl aF 0 (Value.agg #[Value.int .i64 a.lo, Value.int .i64 a.hi, Value.int .i64 a.m, Value.int .i64 a.r, Value.int .i64 a.k, Value.int .i64 b.lo, Value.int .i64 b.hi, Value.int .i64 b.m, Value.int .i64 b.r, Value.int .i64 b.k, Value.int .i64 k]) := hu 0 _ rfl
  clear hu
  have hM : Mk0 w w.heap.size w := ⟨Below.refl _ _, Nat.le_refl _⟩
  have hB : Bks w [] := trivial
  refine wp_seq ?_
  obtain ⟨m1, hM, hU, hwm⟩ := start_region hM.b hB
  refine region_run (F := pdiv_sa_r0_1 a b k w m1) [1, 2] [0, 1] hz df (by kernel_rfl) (by kernel_rfl) (fun s hs0 => ⟨hM, hB, Vals.none s _, fun h => no_of' h, fun h => no_of' h, fun h => no_of' h, fun h => no_of' h, fun h => no_of' h, fun h => no_of' h, fun h => no_of' h⟩) ?_ ?_
  refine FSteps.op3 hz rfl (dv := []) (by kernel_rfl) (by kernel_rfl) (by kernel_rfl) (fun D s W bA kK hD hW hF hA hK => ?_) ?_
  · have x0 := hA.o 0 _ rfl u0
    have hF := Lib.hid hF
    clear hA
    go_simp
    exact hK.out _ _ ⟨hF.out.zb.al _, Bks.al _ hF.out.zq, hF.out.zt.skip rfl, fun _ => rfl, hF.out.v1, fun _ => Bk.new _ _ _, fun _ => hF.out.zb.g, fun h1 => (hF.out.k1_0 h1).al _, hF.out.g1, fun _ h => Nat.ne_of_gt ((hF.out.k1_0 h).lt)⟩
  refine FSteps.op3 hz rfl (dv := []) (by kernel_rfl) (by kernel_rfl) (by kernel_rfl) (fun D s W bA kK hD hW hF hA hK => ?_) ?_
  · have hF := Lib.hid hF
    clear hA
    go_simp
    exact hK.out _ _ ⟨hF.out.zb.al _, Bks.al _ hF.out.zq, hF.out.zt.skip rfl, hF.out.v0, fun _ => rfl, fun h1 => (hF.out.k0_0 h1).al _, hF.out.g0, fun _ => Bk.new _ _ _, fun _ => hF.out.zb.g, fun h _ => Nat.ne_of_lt ((hF.out.k0_0 h).lt)⟩
  exact FSteps.nil
  intro D s W aF1 hD hF hz' df' hA
  obtain ⟨d0, d1, -⟩ := hD
  clear u0
  have u1 : Sl aF1 1 _ := hA.i 1 _ rfl rfl (hF.v0 d0)
  have u2 : Sl aF1 2 _ := hA.i 2 _ rfl rfl (hF.v1 d1)
  have hkX0 := hF.k0_0 d0
  have hgX0 := hF.g0 d0
  have hkX1 := hF.k1_0 d1
  have hgX1 := hF.g1 d1
  have heX0_1 := hF.e0_1 d0 d1
  have hM := hF.zb
  have hB := hF.zq
  generalize pblk (s 1) = n1_0 at hkX0 hgX0 hkX1 hgX1 heX0_1 u1 u2
  generalize pblk (s 2) = n1_1 at hkX0 hgX0 hkX1 hgX1 heX0_1 u1 u2
  have hB : Bks W [(n1_0, #[Value.int .i64 a.lo, Value.int .i64 a.hi, Value.int .i64 a.m, Value.int .i64 a.r, Value.int .i64 a.k, Value.int .i64 b.lo, Value.int .i64 b.hi, Value.int .i64 b.m, Value.int .i64 b.r, Value.int .i64 b.k, Value.int .i64 k], 72), (n1_1, #[Value.int .i64 0, Value.int .i64 0, Value.int .i64 0, Value.int .i64 0, Value.int .i64 0], 27)] := ⟨hkX0, hkX1, trivial⟩
  have hw_n1_1 : w.heap.size ≤ n1_1 := Nat.le_trans hwm hgX1
  clear hF hA hz df d0 d1 hU
  have hz := hz'; have df := df'; clear hz' df'
  clear aF
  show Code.wp _ _ _ _ _
  refine wp_seq ?_
  obtain ⟨m2, hM, hU, hwm⟩ := start_region hM.b hB
  refine region_go (F := pdiv_sa_r1_2 a b k n1_0 n1_1 w m2) [7, 8, 9, 10, 3, 4] [0, 1, 2, 3, 4, 5, 6, 7] hz df (by kernel_rfl) (by kernel_rfl) (by kernel_rfl) (fun s hs0 => ⟨hM.drew, Bks.drew hB, Vals.none s _, fun h => no_of' h, fun h => no_of' h, fun h => no_of' h, fun h => no_of' h, fun h => no_of' h, fun h => no_of' h, fun h => no_of' h, fun h => no_of' h, fun h => no_of' h, fun h => no_of' h, fun h => no_of' h⟩) ?_ ?_
  refine FSteps.op3 hz rfl (dv := []) (by kernel_rfl) (by kernel_rfl) (by kernel_rfl) (fun D s W bA kK hD hW hF hA hK => ?_) ?_
  · have x1 := hA.o 1 _ rfl u1
    have hF := Lib.hid hF
    clear hA
    go_simp
    exact hK.out _ _ ⟨hF.out.zb, hF.out.zq, hF.out.zt.step rfl rfl, hF.out.v4, hF.out.v5, hF.out.k4_0, hF.out.k4_1, hF.out.c4_1, hF.out.g4, hF.out.k5_0, hF.out.k5_1, hF.out.c5_1, hF.out.g5, hF.out.e4_5⟩
  refine FSteps.op3 hz rfl (dv := [0]) (by kernel_rfl) (by kernel_rfl) (by kernel_rfl) (fun D s W bA kK hD hW hF hA hK => ?_) ?_
  · have x7 := hA.i 7 _ rfl rfl (hF.zt.get (j := 0) rfl hW.1)
    obtain ⟨⟨c0, z0⟩, -, -⟩ := hF.zq.rules
    have hF := Lib.hid hF
    clear hA
    go_simp
    exact hK.out _ _ ⟨hF.out.zb, hF.out.zq, hF.out.zt.step rfl rfl, hF.out.v4, hF.out.v5, hF.out.k4_0, hF.out.k4_1, hF.out.c4_1, hF.out.g4, hF.out.k5_0, hF.out.k5_1, hF.out.c5_1, hF.out.g5, hF.out.e4_5⟩
  refine FSteps.op3 hz rfl (dv := []) (by kernel_rfl) (by kernel_rfl) (by kernel_rfl) (fun D s W bA kK hD hW hF hA hK => ?_) ?_
  · have x1 := hA.o 1 _ rfl u1
    have hF := Lib.hid hF
    clear hA
    go_simp
    exact hK.out _ _ ⟨hF.out.zb, hF.out.zq, hF.out.zt.step rfl rfl, hF.out.v4, hF.out.v5, hF.out.k4_0, hF.out.k4_1, hF.out.c4_1, hF.out.g4, hF.out.k5_0, hF.out.k5_1, hF.out.c5_1, hF.out.g5, hF.out.e4_5⟩
  refine FSteps.op3 hz rfl (dv := [2]) (by kernel_rfl) (by kernel_rfl) (by kernel_rfl) (fun D s W bA kK hD hW hF hA hK => ?_) ?_
  · have x9 := hA.i 9 _ rfl rfl (hF.zt.get (j := 2) rfl hW.1)
    obtain ⟨⟨c0, z0⟩, -, -⟩ := hF.zq.rules
    have hF := Lib.hid hF
    clear hA
    go_simp
    exact hK.out _ _ ⟨hF.out.zb, hF.out.zq, hF.out.zt.step rfl rfl, hF.out.v4, hF.out.v5, hF.out.k4_0, hF.out.k4_1, hF.out.c4_1, hF.out.g4, hF.out.k5_0, hF.out.k5_1, hF.out.c5_1, hF.out.g5, hF.out.e4_5⟩
  refine FSteps.op3 hz rfl (dv := []) (by kernel_rfl) (by kernel_rfl) (by kernel_rfl) (fun D s W bA kK hD hW hF hA hK => ?_) ?_
  · have hF := Lib.hid hF
    clear hA
    go_simp
    exact hK.out _ _ ⟨hF.out.zb.al _, Bks.al _ hF.out.zq, hF.out.zt.skip rfl, fun _ => rfl, hF.out.v5, fun _ _ => Bk.new _ _ _, fun h1 => absurd (hF.out.c4_1 h1) (by rw [hD]; decide), fun _ => rfl, fun _ => hF.out.zb.g, fun h1 h2 => (hF.out.k5_0 h1 h2).al _, fun h1 => (hF.out.k5_1 h1).al _, hF.out.c5_1, hF.out.g5, fun _ h => Nat.ne_of_gt (lt_of_either (hF.out.k5_0 h) hF.out.k5_1)⟩
  refine FSteps.op3 hz rfl (dv := []) (by kernel_rfl) (by kernel_rfl) (by kernel_rfl) (fun D s W bA kK hD hW hF hA hK => ?_) ?_
  · have hF := Lib.hid hF
    clear hA
    go_simp
    exact hK.out _ _ ⟨hF.out.zb.al _, Bks.al _ hF.out.zq, hF.out.zt.skip rfl, hF.out.v4, fun _ => rfl, fun h1 h2 => (hF.out.k4_0 h1 h2).al _, fun h1 => (hF.out.k4_1 h1).al _, hF.out.c4_1, hF.out.g4, fun _ _ => Bk.new _ _ _, fun h1 => absurd (hF.out.c5_1 h1) (by rw [hD]; decide), fun _ => rfl, fun _ => hF.out.zb.g, fun h _ => Nat.ne_of_lt (lt_of_either (hF.out.k4_0 h) hF.out.k4_1)⟩
  refine FSteps.op3 hz rfl (dv := [4, 1, 0, 1, 4, 5]) (by kernel_rfl) (by kernel_rfl) (by kernel_rfl) (fun D s W bA kK hD hW hF hA hK => ?_) ?_
  · have x3 := hA.i 3 _ rfl rfl (hF.v4 hW.1)
    have x8 := hA.i 8 _ rfl rfl (hF.zt.get (j := 1) rfl hW.2.1)
    have kk := hF.k4_0 hW.1 hD
    have hge := Nat.le_trans hwm (hF.g4 hW.1); have hge2 := hF.g4 hW.1
    have kc := kk.cell; have kf := kk.free
    have hF := Lib.hid hF
    have kk := Lib.hid kk; have hge := Lib.hid hge; have hge2 := Lib.hid hge2
    clear hA
    go_simp
    exact hK.out undef _ ⟨hF.out.zb.sAll (hge.out) 0 [Value.int .i64 a.lo, Value.int .i64 a.hi, Value.int .i64 a.m, Value.int .i64 a.r, Value.int .i64 a.k], Bks.oAll [Value.int .i64 a.lo, Value.int .i64 a.hi, Value.int .i64 a.m, Value.int .i64 a.r, Value.int .i64 a.k] 0 (Under.outside hge2.out hU) hF.out.zq, hF.out.zt.skip rfl, hF.out.v4, hF.out.v5, fun h1 h2 => no_of h2, fun _ => kk.out.full [Value.int .i64 a.lo, Value.int .i64 a.hi, Value.int .i64 a.m, Value.int .i64 a.r, Value.int .i64 a.k] rfl, fun _ => hW.1, hF.out.g4, fun h1 h2 => Bk.oAll ((hF.out.e4_5 hW.1 h1).symm) [Value.int .i64 a.lo, Value.int .i64 a.hi, Value.int .i64 a.m, Value.int .i64 a.r, Value.int .i64 a.k] 0 (hF.out.k5_0 h1 h2), fun h1 => Bk.oAll ((hF.out.e4_5 hW.1 (hF.out.c5_1 h1)).symm) [Value.int .i64 a.lo, Value.int .i64 a.hi, Value.int .i64 a.m, Value.int .i64 a.r, Value.int .i64 a.k] 0 (hF.out.k5_1 h1), hF.out.c5_1, hF.out.g5, hF.out.e4_5⟩
  refine FSteps.op3 hz rfl (dv := [5, 3, 6, 0, 1, 2, 3, 4, 5, 6]) (by kernel_rfl) (by kernel_rfl) (by kernel_rfl) (fun D s W bA kK hD hW hF hA hK => ?_) ?_
  · have x4 := hA.i 4 _ rfl rfl (hF.v5 hW.1)
    have x10 := hA.i 10 _ rfl rfl (hF.zt.get (j := 3) rfl hW.2.1)
    have kk := hF.k5_0 hW.1 hD
    have hge := Nat.le_trans hwm (hF.g5 hW.1); have hge2 := hF.g5 hW.1
    have kc := kk.cell; have kf := kk.free
    have hF := Lib.hid hF
    have kk := Lib.hid kk; have hge := Lib.hid hge; have hge2 := Lib.hid hge2
    clear hA
    go_simp
    exact hK.out undef _ ⟨hF.out.zb.sAll (hge.out) 0 [Value.int .i64 b.lo, Value.int .i64 b.hi, Value.int .i64 b.m, Value.int .i64 b.r, Value.int .i64 b.k], Bks.oAll [Value.int .i64 b.lo, Value.int .i64 b.hi, Value.int .i64 b.m, Value.int .i64 b.r, Value.int .i64 b.k] 0 (Under.outside hge2.out hU) hF.out.zq, hF.out.zt.skip rfl, hF.out.v4, hF.out.v5, fun h1 h2 => Bk.oAll (hF.out.e4_5 h1 hW.1) [Value.int .i64 b.lo, Value.int .i64 b.hi, Value.int .i64 b.m, Value.int .i64 b.r, Value.int .i64 b.k] 0 (hF.out.k4_0 h1 h2), fun h1 => Bk.oAll (hF.out.e4_5 (hF.out.c4_1 h1) hW.1) [Value.int .i64 b.lo, Value.int .i64 b.hi, Value.int .i64 b.m, Value.int .i64 b.r, Value.int .i64 b.k] 0 (hF.out.k4_1 h1), hF.out.c4_1, hF.out.g4, fun h1 h2 => no_of h2, fun _ => kk.out.full [Value.int .i64 b.lo, Value.int .i64 b.hi, Value.int .i64 b.m, Value.int .i64 b.r, Value.int .i64 b.k] rfl, fun _ => hW.1, hF.out.g5, hF.out.e4_5⟩
  exact FSteps.nil
  intro D s W aF2 hD hF hz' df' hA
  obtain ⟨d0, d1, d2, d3, d4, d5, d6, d7, -⟩ := hD
  replace u1 : Sl aF2 1 _ := hA.o 1 _ rfl u1
  replace u2 : Sl aF2 2 _ := hA.o 2 _ rfl u2
  have u3 : Sl aF2 3 _ := hA.i 3 _ rfl rfl (hF.v4 d4)
  have u4 : Sl aF2 4 _ := hA.i 4 _ rfl rfl (hF.v5 d5)
  have hkX4 := hF.k4_1 d6
  have hgX4 := hF.g4 d4
  have hkX5 := hF.k5_1 d7
  have hgX5 := hF.g5 d5
  have heX4_5 := hF.e4_5 d4 d5
  have hM := hF.zb
  have hB := hF.zq
  generalize pblk (s 3) = n2_4 at hkX4 hgX4 hkX5 hgX5 heX4_5 u3 u4
  generalize pblk (s 4) = n2_5 at hkX4 hgX4 hkX5 hgX5 heX4_5 u3 u4
  have hB : Bks W [(n1_0, #[Value.int .i64 a.lo, Value.int .i64 a.hi, Value.int .i64 a.m, Value.int .i64 a.r, Value.int .i64 a.k, Value.int .i64 b.lo, Value.int .i64 b.hi, Value.int .i64 b.m, Value.int .i64 b.r, Value.int .i64 b.k, Value.int .i64 k], 72), (n1_1, #[Value.int .i64 0, Value.int .i64 0, Value.int .i64 0, Value.int .i64 0, Value.int .i64 0], 27), (n2_4, #[Value.int .i64 a.lo, Value.int .i64 a.hi, Value.int .i64 a.m, Value.int .i64 a.r, Value.int .i64 a.k], 27), (n2_5, #[Value.int .i64 b.lo, Value.int .i64 b.hi, Value.int .i64 b.m, Value.int .i64 b.r, Value.int .i64 b.k], 27)] := ⟨hB.1, hB.2.1, hkX4, hkX5, trivial⟩
  obtain ⟨hl_0, hl_1, -⟩ := hU
  have hne_n1_1_n2_4 : n1_1 ≠ n2_4 := by omega
  have hne_n1_1_n2_5 : n1_1 ≠ n2_5 := by omega
  clear hF hA hz df d0 d1 d2 d3 d4 d5 d6 d7 
  have hz := hz'; have df := df'; clear hz' df'
  clear aF1
  show Code.wp _ _ _ _ _
  refine wp_seq ?_
  obtain ⟨m3, hM, hU, hwm⟩ := start_region hM.b hB
  refine region_go (F := pdiv_sa_r2_3 a b k n1_0 n1_1 n2_4 n2_5 w m3) [11, 12, 5, 6] [0, 1, 2, 3] hz df (by kernel_rfl) (by kernel_rfl) (by kernel_rfl) (fun s hs0 => ⟨hM.drew, Bks.drew hB, Vals.none s _⟩) ?_ ?_
  refine FSteps.op3 hz rfl (dv := []) (by kernel_rfl) (by kernel_rfl) (by kernel_rfl) (fun D s W bA kK hD hW hF hA hK => ?_) ?_
  · have x3 := hA.o 3 _ rfl u3
    have hF := Lib.hid hF
    clear hA
    go_simp
    exact hK.out _ _ ⟨hF.out.zb, hF.out.zq, hF.out.zt.step rfl rfl⟩
  refine FSteps.op3 hz rfl (dv := [0]) (by kernel_rfl) (by kernel_rfl) (by kernel_rfl) (fun D s W bA kK hD hW hF hA hK => ?_) ?_
  · have x11 := hA.i 11 _ rfl rfl (hF.zt.get (j := 0) rfl hW.1)
    obtain ⟨-, -, ⟨c2, z2⟩, -, -⟩ := hF.zq.rules
    have hF := Lib.hid hF
    clear hA
    go_simp
    exact hK.out _ _ ⟨hF.out.zb, hF.out.zq, hF.out.zt.step rfl rfl⟩
  refine FSteps.op3 hz rfl (dv := []) (by kernel_rfl) (by kernel_rfl) (by kernel_rfl) (fun D s W bA kK hD hW hF hA hK => ?_) ?_
  · have hF := Lib.hid hF
    clear hA
    go_simp
    exact hK.out _ _ ⟨hF.out.zb, hF.out.zq, hF.out.zt.step rfl rfl⟩
  refine FSteps.op3 hz rfl (dv := [1, 2, 0, 1, 2]) (by kernel_rfl) (by kernel_rfl) (by kernel_rfl) (fun D s W bA kK hD hW hF hA hK => ?_) ?_
  · have x12 := hA.i 12 _ rfl rfl (hF.zt.get (j := 1) rfl hW.1)
    have hF := Lib.hid hF
    clear hA
    go_simp
    exact hK.out _ _ ⟨hF.out.zb, hF.out.zq, hF.out.zt.step rfl rfl⟩
  exact FSteps.nil
  intro D s W aF3 hD hF hz' df' hA
  obtain ⟨d0, d1, d2, d3, -⟩ := hD
  replace u1 : Sl aF3 1 _ := hA.o 1 _ rfl u1
  replace u2 : Sl aF3 2 _ := hA.o 2 _ rfl u2
  replace u3 : Sl aF3 3 _ := hA.o 3 _ rfl u3
  replace u4 : Sl aF3 4 _ := hA.o 4 _ rfl u4
  have u5 : Sl aF3 5 _ := hA.i 5 _ rfl rfl (hF.zt.get (j := 2) rfl d2)
  have u6 : Sl aF3 6 _ := hA.i 6 _ rfl rfl (hF.zt.get (j := 3) rfl d3)
  have hM := hF.zb
  have hB := hF.zq
  have hB : Bks W [(n1_0, #[Value.int .i64 a.lo, Value.int .i64 a.hi, Value.int .i64 a.m, Value.int .i64 a.r, Value.int .i64 a.k, Value.int .i64 b.lo, Value.int .i64 b.hi, Value.int .i64 b.m, Value.int .i64 b.r, Value.int .i64 b.k, Value.int .i64 k], 72), (n1_1, #[Value.int .i64 0, Value.int .i64 0, Value.int .i64 0, Value.int .i64 0, Value.int .i64 0], 27), (n2_4, #[Value.int .i64 a.lo, Value.int .i64 a.hi, Value.int .i64 a.m, Value.int .i64 a.r, Value.int .i64 a.k], 27), (n2_5, #[Value.int .i64 b.lo, Value.int .i64 b.hi, Value.int .i64 b.m, Value.int .i64 b.r, Value.int .i64 b.k], 27)] := ⟨hB.1, hB.2.1, hB.2.2.1, hB.2.2.2.1, trivial⟩
  clear hF hA hz df d0 d1 d2 d3 hU
  have hz := hz'; have df := df'; clear hz' df'
  clear aF2
  show Code.wp _ _ _ _ _
  refine wp_seq ?_
  refine wp_seq ?_
  obtain ⟨m4, hM, hU, hwm⟩ := start_region hM.b hB
  refine region_run (F := pdiv_sa_r3_4 a b k n1_0 n1_1 n2_4 n2_5 w m4) [13, 14, 15, 16, 17, 18, 19, 20] [0, 1, 2, 3, 4, 5, 6, 7] hz df (by kernel_rfl) (by kernel_rfl) (fun s hs0 => ⟨hM, hB, Vals.none s _⟩) ?_ ?_
  refine FSteps.op3 hz rfl (dv := []) (by kernel_rfl) (by kernel_rfl) (by kernel_rfl) (fun D s W bA kK hD hW hF hA hK => ?_) ?_
  · have x4 := hA.o 4 _ rfl u4
    obtain ⟨-, -, -, ⟨c3, z3⟩, -⟩ := hF.zq.rules
    have hF := Lib.hid hF
    clear hA
    go_simp
    exact hK.out _ _ ⟨hF.out.zb, hF.out.zq, hF.out.zt.step rfl rfl⟩
  refine FSteps.op3 hz rfl (dv := [0]) (by kernel_rfl) (by kernel_rfl) (by kernel_rfl) (fun D s W bA kK hD hW hF hA hK => ?_) ?_
  · have x13 := hA.i 13 _ rfl rfl (hF.zt.get (j := 0) rfl hW.1)
    have hF := Lib.hid hF
    clear hA
    go_simp
    (go_at_call 44; ((with_reducible_and_instances refine (step_ab b _).mono ?_)); rintro e W1 ⟨rfl, hb⟩; (try unfold abVal))
    (try go_wp2_with fail)
    exact hK.out _ _ ⟨hF.out.zb.on hb, Bks.on hb hF.out.zq, hF.out.zt.step rfl rfl⟩
  refine FSteps.op3 hz rfl (dv := [1]) (by kernel_rfl) (by kernel_rfl) (by kernel_rfl) (fun D s W bA kK hD hW hF hA hK => ?_) ?_
  · have x14 := hA.i 14 _ rfl rfl (hF.zt.get (j := 1) rfl hW.1)
    have hF := Lib.hid hF
    clear hA
    have hd2 : ((stepS b) == 0) = false := beq_eq_false_iff_ne.2 (by exact hs.out)
    go_simp
    exact hK.out _ _ ⟨hF.out.zb, hF.out.zq, hF.out.zt.step rfl rfl⟩
  refine FSteps.op3 hz rfl (dv := [2, 1]) (by kernel_rfl) (by kernel_rfl) (by kernel_rfl) (fun D s W bA kK hD hW hF hA hK => ?_) ?_
  · have x15 := hA.i 15 _ rfl rfl (hF.zt.get (j := 2) rfl hW.1)
    have hF := Lib.hid hF
    clear hA
    go_simp
    exact hK.out _ _ ⟨hF.out.zb, hF.out.zq, hF.out.zt.step rfl rfl⟩
  refine FSteps.no3 (bv := true) hz rfl (dv := [3]) (by kernel_rfl) rfl (by kernel_rfl) (by kernel_rfl) (fun D s W hW hF => (hF.zt.get (j := 3) rfl hW.1)) (by kernel_rfl) (by kernel_rfl) (fun D s W hD hF => ⟨hF.zb, hF.zq, hF.zt.step rfl rfl⟩) ?_
  refine FSteps.no3 (bv := true) hz rfl (dv := [4, 3]) (by kernel_rfl) rfl (by kernel_rfl) (by kernel_rfl) (fun D s W hW hF => (hF.zt.get (j := 3) rfl hW.2.1)) (by kernel_rfl) (by kernel_rfl) (fun D s W hD hF => ⟨hF.zb, hF.zq, hF.zt.step rfl rfl⟩) ?_
  refine FSteps.no3 (bv := true) hz rfl (dv := [5, 3]) (by kernel_rfl) rfl (by kernel_rfl) (by kernel_rfl) (fun D s W hW hF => (hF.zt.get (j := 3) rfl hW.2.1)) (by kernel_rfl) (by kernel_rfl) (fun D s W hD hF => ⟨hF.zb, hF.zq, hF.zt.step rfl rfl⟩) ?_
  refine FSteps.op3 hz rfl (dv := [3, 6]) (by kernel_rfl) (by kernel_rfl) (by kernel_rfl) (fun D s W bA kK hD hW hF hA hK => ?_) ?_
  · have x16 := hA.i 16 _ rfl rfl (hF.zt.get (j := 3) rfl hW.1)
    have x19 := hA.i 19 _ rfl rfl (hF.zt.get (j := 6) rfl hW.2.1)
    have hF := Lib.hid hF
    clear hA
    go_simp
    exact hK.out _ _ ⟨hF.out.zb, hF.out.zq, hF.out.zt.step rfl rfl⟩
  exact FSteps.nil
  intro D s W aF4 hD hF hz' df' hA
  obtain ⟨d0, d1, d2, d3, d4, d5, d6, d7, -⟩ := hD
  replace u1 : Sl aF4 1 _ := hA.o 1 _ rfl u1
  replace u2 : Sl aF4 2 _ := hA.o 2 _ rfl u2
  replace u3 : Sl aF4 3 _ := hA.o 3 _ rfl u3
  replace u4 : Sl aF4 4 _ := hA.o 4 _ rfl u4
  replace u5 : Sl aF4 5 _ := hA.o 5 _ rfl u5
  replace u6 : Sl aF4 6 _ := hA.o 6 _ rfl u6
  have u20 : Sl aF4 20 _ := hA.i 20 _ rfl rfl (hF.zt.get (j := 7) rfl d7)
  have hM := hF.zb
  have hB := hF.zq
  have hB : Bks W [(n1_0, #[Value.int .i64 a.lo, Value.int .i64 a.hi, Value.int .i64 a.m, Value.int .i64 a.r, Value.int .i64 a.k, Value.int .i64 b.lo, Value.int .i64 b.hi, Value.int .i64 b.m, Value.int .i64 b.r, Value.int .i64 b.k, Value.int .i64 k], 72), (n1_1, #[Value.int .i64 0, Value.int .i64 0, Value.int .i64 0, Value.int .i64 0, Value.int .i64 0], 27), (n2_4, #[Value.int .i64 a.lo, Value.int .i64 a.hi, Value.int .i64 a.m, Value.int .i64 a.r, Value.int .i64 a.k], 27), (n2_5, #[Value.int .i64 b.lo, Value.int .i64 b.hi, Value.int .i64 b.m, Value.int .i64 b.r, Value.int .i64 b.k], 27)] := ⟨hB.1, hB.2.1, hB.2.2.1, hB.2.2.2.1, trivial⟩
  clear hF hA hz df d0 d1 d2 d3 d4 d5 d6 d7 hU
  have hz := hz'; have df := df'; clear hz' df'
  clear aF3
  show Code.wp _ _ _ _ _
  refine cond_f u20 ?_
  refine wp_seq ?_
  obtain ⟨m5, hM, hU, hwm⟩ := start_region hM.b hB
  refine region_run (F := pdiv_sa_r5_5 a b k n1_0 n1_1 n2_4 n2_5 w m5) [43, 44, 45, 46, 47, 48, 49, 50] [0, 1, 2, 3, 4, 5, 6, 7] hz df (by kernel_rfl) (by kernel_rfl) (fun s hs0 => ⟨hM, hB, Vals.none s _⟩) ?_ ?_
  refine FSteps.op3 hz rfl (dv := []) (by kernel_rfl) (by kernel_rfl) (by kernel_rfl) (fun D s W bA kK hD hW hF hA hK => ?_) ?_
  · have x3 := hA.o 3 _ rfl u3
    have hF := Lib.hid hF
    clear hA
    go_simp
    exact hK.out _ _ ⟨hF.out.zb, hF.out.zq, hF.out.zt.step rfl rfl⟩
  refine FSteps.op3 hz rfl (dv := [0]) (by kernel_rfl) (by kernel_rfl) (by kernel_rfl) (fun D s W bA kK hD hW hF hA hK => ?_) ?_
  · have x43 := hA.i 43 _ rfl rfl (hF.zt.get (j := 0) rfl hW.1)
    obtain ⟨-, -, ⟨c2, z2⟩, -, -⟩ := hF.zq.rules
    have hF := Lib.hid hF
    clear hA
    go_simp
    exact hK.out _ _ ⟨hF.out.zb, hF.out.zq, hF.out.zt.step rfl rfl⟩
  refine FSteps.op3 hz rfl (dv := [1]) (by kernel_rfl) (by kernel_rfl) (by kernel_rfl) (fun D s W bA kK hD hW hF hA hK => ?_) ?_
  · have x44 := hA.i 44 _ rfl rfl (hF.zt.get (j := 1) rfl hW.1)
    have hF := Lib.hid hF
    clear hA
    have hd2 : decide (a.lo < 0) = true := decide_eq_true (by omega)
    go_simp
    exact hK.out _ _ ⟨hF.out.zb, hF.out.zq, hF.out.zt.step rfl rfl⟩
  refine FSteps.op3 hz rfl (dv := [2]) (by kernel_rfl) (by kernel_rfl) (by kernel_rfl) (fun D s W bA kK hD hW hF hA hK => ?_) ?_
  · have x45 := hA.i 45 _ rfl rfl (hF.zt.get (j := 2) rfl hW.1)
    have hF := Lib.hid hF
    clear hA
    go_simp
    exact hK.out _ _ ⟨hF.out.zb, hF.out.zq, hF.out.zt.step rfl rfl⟩
  refine FSteps.no3 (bv := false) hz rfl (dv := [3]) (by kernel_rfl) rfl (by kernel_rfl) (by kernel_rfl) (fun D s W hW hF => (hF.zt.get (j := 3) rfl hW.1)) (by kernel_rfl) (by kernel_rfl) (fun D s W hD hF => ⟨hF.zb, hF.zq, hF.zt.step rfl rfl⟩) ?_
  refine FSteps.no3 (bv := false) hz rfl (dv := [4, 3]) (by kernel_rfl) rfl (by kernel_rfl) (by kernel_rfl) (fun D s W hW hF => (hF.zt.get (j := 3) rfl hW.2.1)) (by kernel_rfl) (by kernel_rfl) (fun D s W hD hF => ⟨hF.zb, hF.zq, hF.zt.step rfl rfl⟩) ?_
  refine FSteps.no3 (bv := false) hz rfl (dv := [5, 3]) (by kernel_rfl) rfl (by kernel_rfl) (by kernel_rfl) (fun D s W hW hF => (hF.zt.get (j := 3) rfl hW.2.1)) (by kernel_rfl) (by kernel_rfl) (fun D s W hD hF => ⟨hF.zb, hF.zq, hF.zt.step rfl rfl⟩) ?_
  refine FSteps.op3 hz rfl (dv := [3, 6]) (by kernel_rfl) (by kernel_rfl) (by kernel_rfl) (fun D s W bA kK hD hW hF hA hK => ?_) ?_
  · have x46 := hA.i 46 _ rfl rfl (hF.zt.get (j := 3) rfl hW.1)
    have x49 := hA.i 49 _ rfl rfl (hF.zt.get (j := 6) rfl hW.2.1)
    have hF := Lib.hid hF
    clear hA
    go_simp
    exact hK.out _ _ ⟨hF.out.zb, hF.out.zq, hF.out.zt.step rfl rfl⟩
  exact FSteps.nil
  intro D s W aF5 hD hF hz' df' hA
  obtain ⟨d0, d1, d2, d3, d4, d5, d6, d7, -⟩ := hD
  clear u4 u20
  replace u1 : Sl aF5 1 _ := hA.o 1 _ rfl u1
  replace u2 : Sl aF5 2 _ := hA.o 2 _ rfl u2
  replace u3 : Sl aF5 3 _ := hA.o 3 _ rfl u3
  replace u5 : Sl aF5 5 _ := hA.o 5 _ rfl u5
  replace u6 : Sl aF5 6 _ := hA.o 6 _ rfl u6
  have u50 : Sl aF5 50 _ := hA.i 50 _ rfl rfl (hF.zt.get (j := 7) rfl d7)
  have hM := hF.zb
  have hB := hF.zq
  have hB : Bks W [(n1_0, #[Value.int .i64 a.lo, Value.int .i64 a.hi, Value.int .i64 a.m, Value.int .i64 a.r, Value.int .i64 a.k, Value.int .i64 b.lo, Value.int .i64 b.hi, Value.int .i64 b.m, Value.int .i64 b.r, Value.int .i64 b.k, Value.int .i64 k], 72), (n1_1, #[Value.int .i64 0, Value.int .i64 0, Value.int .i64 0, Value.int .i64 0, Value.int .i64 0], 27), (n2_4, #[Value.int .i64 a.lo, Value.int .i64 a.hi, Value.int .i64 a.m, Value.int .i64 a.r, Value.int .i64 a.k], 27)] := ⟨hB.1, hB.2.1, hB.2.2.1, trivial⟩
  clear hF hA hz df d0 d1 d2 d3 d4 d5 d6 d7 hU
  have hz := hz'; have df := df'; clear hz' df'
  clear aF4
  show Code.wp _ _ _ _ _
  refine cond_t u50 ?_
  refine wp_seq ?_
  obtain ⟨m6, hM, hU, hwm⟩ := start_region hM.b hB
  refine region_go (F := pdiv_sa_r6_6 a b k n1_0 n1_1 n2_4 w m6) [51, 52, 53, 54, 55, 56, 57, 6] [0, 1, 2, 3, 4, 5, 6, 7] hz df (by kernel_rfl) (by kernel_rfl) (by kernel_rfl) (fun s hs0 => ⟨hM.drew, Bks.drew hB, Vals.none s _⟩) ?_ ?_
  refine FSteps.op3 hz rfl (dv := []) (by kernel_rfl) (by kernel_rfl) (by kernel_rfl) (fun D s W bA kK hD hW hF hA hK => ?_) ?_
  · have x3 := hA.o 3 _ rfl u3
    have hF := Lib.hid hF
    clear hA
    go_simp
    exact hK.out _ _ ⟨hF.out.zb, hF.out.zq, hF.out.zt.step rfl rfl⟩
  refine FSteps.op3 hz rfl (dv := [0]) (by kernel_rfl) (by kernel_rfl) (by kernel_rfl) (fun D s W bA kK hD hW hF hA hK => ?_) ?_
  · have x51 := hA.i 51 _ rfl rfl (hF.zt.get (j := 0) rfl hW.1)
    obtain ⟨-, -, ⟨c2, z2⟩, -⟩ := hF.zq.rules
    have hF := Lib.hid hF
    clear hA
    go_simp
    exact hK.out _ _ ⟨hF.out.zb, hF.out.zq, hF.out.zt.step rfl rfl⟩
  refine FSteps.op3 hz rfl (dv := [1]) (by kernel_rfl) (by kernel_rfl) (by kernel_rfl) (fun D s W bA kK hD hW hF hA hK => ?_) ?_
  · have x52 := hA.i 52 _ rfl rfl (hF.zt.get (j := 1) rfl hW.1)
    have hF := Lib.hid hF
    clear hA
    go_simp
    (go_at_call 50; ((with_reducible_and_instances refine (abs_b _ (by omega) _).mono ?_)); rintro e W1 ⟨rfl, hb⟩; (try unfold abVal))
    (try go_wp2_with fail)
    exact hK.out _ _ ⟨hF.out.zb.on hb, Bks.on hb hF.out.zq, hF.out.zt.step rfl rfl⟩
  refine FSteps.op3 hz rfl (dv := []) (by kernel_rfl) (by kernel_rfl) (by kernel_rfl) (fun D s W bA kK hD hW hF hA hK => ?_) ?_
  · have x3 := hA.o 3 _ rfl u3
    have hF := Lib.hid hF
    clear hA
    go_simp
    exact hK.out _ _ ⟨hF.out.zb, hF.out.zq, hF.out.zt.step rfl rfl⟩
  refine FSteps.op3 hz rfl (dv := [3]) (by kernel_rfl) (by kernel_rfl) (by kernel_rfl) (fun D s W bA kK hD hW hF hA hK => ?_) ?_
  · have x54 := hA.i 54 _ rfl rfl (hF.zt.get (j := 3) rfl hW.1)
    obtain ⟨-, -, ⟨c2, z2⟩, -⟩ := hF.zq.rules
    have hF := Lib.hid hF
    clear hA
    go_simp
    exact hK.out _ _ ⟨hF.out.zb, hF.out.zq, hF.out.zt.step rfl rfl⟩
  refine FSteps.op3 hz rfl (dv := [4, 2]) (by kernel_rfl) (by kernel_rfl) (by kernel_rfl) (fun D s W bA kK hD hW hF hA hK => ?_) ?_
  · have x55 := hA.i 55 _ rfl rfl (hF.zt.get (j := 4) rfl hW.1)
    have hF := Lib.hid hF
    clear hA
    go_simp
    (go_at_call 50; ((with_reducible_and_instances refine (abs_b _ (by omega) _).mono ?_)); rintro e W1 ⟨rfl, hb⟩; (try unfold abVal))
    (try go_wp2_with fail)
    exact hK.out _ _ ⟨hF.out.zb.on hb, Bks.on hb hF.out.zq, hF.out.zt.step rfl rfl⟩
  refine FSteps.op3 hz rfl (dv := [2, 5]) (by kernel_rfl) (by kernel_rfl) (by kernel_rfl) (fun D s W bA kK hD hW hF hA hK => ?_) ?_
  · have x53 := hA.i 53 _ rfl rfl (hF.zt.get (j := 2) rfl hW.1)
    have x56 := hA.i 56 _ rfl rfl (hF.zt.get (j := 5) rfl hW.2.1)
    have hF := Lib.hid hF
    clear hA
    have hm6_0 : (if (absS a.lo) < (absS a.hi) then (absS a.hi) else (absS a.lo)) = max (absS a.lo) (absS a.hi) := max_is _ _
    go_simp
    exact hK.out _ _ ⟨hF.out.zb, hF.out.zq, hF.out.zt.step rfl rfl⟩
  refine FSteps.op3 hz rfl (dv := [6, 5, 0, 1, 2, 3, 4, 5, 6]) (by kernel_rfl) (by kernel_rfl) (by kernel_rfl) (fun D s W bA kK hD hW hF hA hK => ?_) ?_
  · have x57 := hA.i 57 _ rfl rfl (hF.zt.get (j := 6) rfl hW.1)
    have hF := Lib.hid hF
    clear hA
    go_simp
    exact hK.out _ _ ⟨hF.out.zb, hF.out.zq, hF.out.zt.step rfl rfl⟩
  exact FSteps.nil
  intro D s W aF6 hD hF hz' df' hA
  obtain ⟨d0, d1, d2, d3, d4, d5, d6, d7, -⟩ := hD
  clear u3 u6 u50
  replace u1 : Sl aF6 1 _ := hA.o 1 _ rfl u1
  replace u2 : Sl aF6 2 _ := hA.o 2 _ rfl u2
  replace u5 : Sl aF6 5 _ := hA.o 5 _ rfl u5
  have u6 : Sl aF6 6 _ := hA.i 6 _ rfl rfl (hF.zt.get (j := 7) rfl d7)
  have hM := hF.zb
  have hB := hF.zq
  have hB : Bks W [(n1_0, #[Value.int .i64 a.lo, Value.int .i64 a.hi, Value.int .i64 a.m, Value.int .i64 a.r, Value.int .i64 a.k, Value.int .i64 b.lo, Value.int .i64 b.hi, Value.int .i64 b.m, Value.int .i64 b.r, Value.int .i64 b.k, Value.int .i64 k], 72), (n1_1, #[Value.int .i64 0, Value.int .i64 0, Value.int .i64 0, Value.int .i64 0, Value.int .i64 0], 27)] := ⟨hB.1, hB.2.1, trivial⟩
  clear hF hA hz df d0 d1 d2 d3 d4 d5 d6 d7 hU
  have hz := hz'; have df := df'; clear hz' df'
  clear aF5
  show Code.wp _ _ _ _ _
  obtain ⟨m7, hM, hU, hwm⟩ := start_region hM.b hB
  refine region_run (F := pdiv_sa_r7_7 a b k n1_0 n1_1 w m7) [58, 59, 5] [0, 1, 2] hz df (by kernel_rfl) (by kernel_rfl) (fun s hs0 => ⟨hM, hB, Vals.none s _⟩) ?_ ?_
  refine FSteps.op3 hz rfl (dv := []) (by kernel_rfl) (by kernel_rfl) (by kernel_rfl) (fun D s W bA kK hD hW hF hA hK => ?_) ?_
  · have x6 := hA.o 6 _ rfl u6
    have hF := Lib.hid hF
    clear hA
    go_simp
    exact hK.out _ _ ⟨hF.out.zb, hF.out.zq, hF.out.zt.step rfl rfl⟩
  refine FSteps.op3 hz rfl (dv := [0]) (by kernel_rfl) (by kernel_rfl) (by kernel_rfl) (fun D s W bA kK hD hW hF hA hK => ?_) ?_
  · have x58 := hA.i 58 _ rfl rfl (hF.zt.get (j := 0) rfl hW.1)
    have hF := Lib.hid hF
    clear hA
    have hw1 : IntKind.i64.wrap (-(max (absS a.lo) (absS a.hi))) = -(max (absS a.lo) (absS a.hi)) := IntWalk.i64_in _ (by omega)
    go_simp
    exact hK.out _ _ ⟨hF.out.zb, hF.out.zq, hF.out.zt.step rfl rfl⟩
  refine FSteps.op3 hz rfl (dv := [1, 0, 1]) (by kernel_rfl) (by kernel_rfl) (by kernel_rfl) (fun D s W bA kK hD hW hF hA hK => ?_) ?_
  · have x59 := hA.i 59 _ rfl rfl (hF.zt.get (j := 1) rfl hW.1)
    have hF := Lib.hid hF
    clear hA
    go_simp
    exact hK.out _ _ ⟨hF.out.zb, hF.out.zq, hF.out.zt.step rfl rfl⟩
  exact FSteps.nil
  intro D s W aF7 hD hF hz' df' hA
  obtain ⟨d0, d1, d2, -⟩ := hD
  clear u5
  replace u1 : Sl aF7 1 _ := hA.o 1 _ rfl u1
  replace u2 : Sl aF7 2 _ := hA.o 2 _ rfl u2
  replace u6 : Sl aF7 6 _ := hA.o 6 _ rfl u6
  have u5 : Sl aF7 5 _ := hA.i 5 _ rfl rfl (hF.zt.get (j := 2) rfl d2)
  have hM := hF.zb
  have hB := hF.zq
  have hB : Bks W [(n1_0, #[Value.int .i64 a.lo, Value.int .i64 a.hi, Value.int .i64 a.m, Value.int .i64 a.r, Value.int .i64 a.k, Value.int .i64 b.lo, Value.int .i64 b.hi, Value.int .i64 b.m, Value.int .i64 b.r, Value.int .i64 b.k, Value.int .i64 k], 72), (n1_1, #[Value.int .i64 0, Value.int .i64 0, Value.int .i64 0, Value.int .i64 0, Value.int .i64 0], 27)] := ⟨hB.1, hB.2.1, trivial⟩
  clear hF hA hz df d0 d1 d2 hU
  have hz := hz'; have df := df'; clear hz' df'
  clear aF6
  show Code.wp _ _ _ _ _
  exact pdiv_tail k (-(max (absS a.lo) (absS a.hi))) (max (absS a.lo) (absS a.hi)) w (by omega) (by omega) (by omega) aF7 W n1_0 n1_1 hw_n1_1 (by omega) hz df u1 u2 u5 u6 hM.b ⟨hB.1, hB.2.1, trivial⟩

structure pdiv_sb_r0_1 (a b : Ab) (k : Int) (w : World) (m1 : Nat) (D : Nat → Bool) (s : Nat → Value) (W : World) : Prop where
  zb : Mk0 w m1 W
  zq : Bks W []
  zt : Vals D s []
  v0 : D 0 = true → s 1 = (Value.pointer (some ⟨pblk (s 1), 0, none⟩))
  v1 : D 1 = true → s 2 = (Value.pointer (some ⟨pblk (s 2), 0, none⟩))
  k0_0 : D 0 = true → Bk W (pblk (s 1)) #[Value.int .i64 a.lo, Value.int .i64 a.hi, Value.int .i64 a.m, Value.int .i64 a.r, Value.int .i64 a.k, Value.int .i64 b.lo, Value.int .i64 b.hi, Value.int .i64 b.m, Value.int .i64 b.r, Value.int .i64 b.k, Value.int .i64 k] 72
  g0 : D 0 = true → m1 ≤ (pblk (s 1))
  k1_0 : D 1 = true → Bk W (pblk (s 2)) #[Value.int .i64 0, Value.int .i64 0, Value.int .i64 0, Value.int .i64 0, Value.int .i64 0] 27
  g1 : D 1 = true → m1 ≤ (pblk (s 2))
  e0_1 : D 0 = true → D 1 = true → pblk (s 1) ≠ pblk (s 2)

structure pdiv_sb_r1_2 (a b : Ab) (k : Int) (n1_0 n1_1 : Nat) (w : World) (m2 : Nat) (D : Nat → Bool) (s : Nat → Value) (W : World) : Prop where
  zb : Mk0 w m2 W
  zq : Bks W [(n1_0, #[Value.int .i64 a.lo, Value.int .i64 a.hi, Value.int .i64 a.m, Value.int .i64 a.r, Value.int .i64 a.k, Value.int .i64 b.lo, Value.int .i64 b.hi, Value.int .i64 b.m, Value.int .i64 b.r, Value.int .i64 b.k, Value.int .i64 k], 72), (n1_1, #[Value.int .i64 0, Value.int .i64 0, Value.int .i64 0, Value.int .i64 0, Value.int .i64 0], 27)]
  zt : Vals D s [(0, 7, Value.pointer (some ⟨n1_0, 0, none⟩)), (1, 8, Value.agg #[Value.int .i64 a.lo, Value.int .i64 a.hi, Value.int .i64 a.m, Value.int .i64 a.r, Value.int .i64 a.k]), (2, 9, Value.pointer (some ⟨n1_0, 5, none⟩)), (3, 10, Value.agg #[Value.int .i64 b.lo, Value.int .i64 b.hi, Value.int .i64 b.m, Value.int .i64 b.r, Value.int .i64 b.k])]
  v4 : D 4 = true → s 3 = (Value.pointer (some ⟨pblk (s 3), 0, none⟩))
  v5 : D 5 = true → s 4 = (Value.pointer (some ⟨pblk (s 4), 0, none⟩))
  k4_0 : D 4 = true → D 6 = false → Bk W (pblk (s 3)) #[Value.int .i64 0, Value.int .i64 0, Value.int .i64 0, Value.int .i64 0, Value.int .i64 0] 27
  k4_1 : D 6 = true → Bk W (pblk (s 3)) #[Value.int .i64 a.lo, Value.int .i64 a.hi, Value.int .i64 a.m, Value.int .i64 a.r, Value.int .i64 a.k] 27
  c4_1 : D 6 = true → D 4 = true
  g4 : D 4 = true → m2 ≤ (pblk (s 3))
  k5_0 : D 5 = true → D 7 = false → Bk W (pblk (s 4)) #[Value.int .i64 0, Value.int .i64 0, Value.int .i64 0, Value.int .i64 0, Value.int .i64 0] 27
  k5_1 : D 7 = true → Bk W (pblk (s 4)) #[Value.int .i64 b.lo, Value.int .i64 b.hi, Value.int .i64 b.m, Value.int .i64 b.r, Value.int .i64 b.k] 27
  c5_1 : D 7 = true → D 5 = true
  g5 : D 5 = true → m2 ≤ (pblk (s 4))
  e4_5 : D 4 = true → D 5 = true → pblk (s 3) ≠ pblk (s 4)

structure pdiv_sb_r2_3 (a b : Ab) (k : Int) (n1_0 n1_1 n2_4 n2_5 : Nat) (w : World) (m3 : Nat) (D : Nat → Bool) (s : Nat → Value) (W : World) : Prop where
  zb : Mk0 w m3 W
  zq : Bks W [(n1_0, #[Value.int .i64 a.lo, Value.int .i64 a.hi, Value.int .i64 a.m, Value.int .i64 a.r, Value.int .i64 a.k, Value.int .i64 b.lo, Value.int .i64 b.hi, Value.int .i64 b.m, Value.int .i64 b.r, Value.int .i64 b.k, Value.int .i64 k], 72), (n1_1, #[Value.int .i64 0, Value.int .i64 0, Value.int .i64 0, Value.int .i64 0, Value.int .i64 0], 27), (n2_4, #[Value.int .i64 a.lo, Value.int .i64 a.hi, Value.int .i64 a.m, Value.int .i64 a.r, Value.int .i64 a.k], 27), (n2_5, #[Value.int .i64 b.lo, Value.int .i64 b.hi, Value.int .i64 b.m, Value.int .i64 b.r, Value.int .i64 b.k], 27)]
  zt : Vals D s [(0, 11, Value.pointer (some ⟨n2_4, 1, none⟩)), (1, 12, Value.int .i64 a.hi), (2, 5, Value.int .i64 0), (3, 6, Value.int .i64 a.hi)]

structure pdiv_sb_r3_4 (a b : Ab) (k : Int) (n1_0 n1_1 n2_4 n2_5 : Nat) (w : World) (m4 : Nat) (D : Nat → Bool) (s : Nat → Value) (W : World) : Prop where
  zb : Mk0 w m4 W
  zq : Bks W [(n1_0, #[Value.int .i64 a.lo, Value.int .i64 a.hi, Value.int .i64 a.m, Value.int .i64 a.r, Value.int .i64 a.k, Value.int .i64 b.lo, Value.int .i64 b.hi, Value.int .i64 b.m, Value.int .i64 b.r, Value.int .i64 b.k, Value.int .i64 k], 72), (n1_1, #[Value.int .i64 0, Value.int .i64 0, Value.int .i64 0, Value.int .i64 0, Value.int .i64 0], 27), (n2_4, #[Value.int .i64 a.lo, Value.int .i64 a.hi, Value.int .i64 a.m, Value.int .i64 a.r, Value.int .i64 a.k], 27), (n2_5, #[Value.int .i64 b.lo, Value.int .i64 b.hi, Value.int .i64 b.m, Value.int .i64 b.r, Value.int .i64 b.k], 27)]
  zt : Vals D s [(0, 13, Value.agg #[Value.int .i64 b.lo, Value.int .i64 b.hi, Value.int .i64 b.m, Value.int .i64 b.r, Value.int .i64 b.k]), (1, 14, Value.int .i64 (stepS b)), (2, 15, Value.bool false), (3, 16, Value.bool false), (4, 17, undef), (5, 18, undef), (6, 19, undef), (7, 20, Value.bool false)]

structure pdiv_sb_r5_5 (a b : Ab) (k : Int) (n1_0 n1_1 n2_4 n2_5 : Nat) (w : World) (m5 : Nat) (D : Nat → Bool) (s : Nat → Value) (W : World) : Prop where
  zb : Mk0 w m5 W
  zq : Bks W [(n1_0, #[Value.int .i64 a.lo, Value.int .i64 a.hi, Value.int .i64 a.m, Value.int .i64 a.r, Value.int .i64 a.k, Value.int .i64 b.lo, Value.int .i64 b.hi, Value.int .i64 b.m, Value.int .i64 b.r, Value.int .i64 b.k, Value.int .i64 k], 72), (n1_1, #[Value.int .i64 0, Value.int .i64 0, Value.int .i64 0, Value.int .i64 0, Value.int .i64 0], 27), (n2_4, #[Value.int .i64 a.lo, Value.int .i64 a.hi, Value.int .i64 a.m, Value.int .i64 a.r, Value.int .i64 a.k], 27), (n2_5, #[Value.int .i64 b.lo, Value.int .i64 b.hi, Value.int .i64 b.m, Value.int .i64 b.r, Value.int .i64 b.k], 27)]
  zt : Vals D s [(0, 43, Value.pointer (some ⟨n2_4, 0, none⟩)), (1, 44, Value.int .i64 a.lo), (2, 45, Value.bool false), (3, 46, Value.bool false), (4, 47, Value.pointer (some ⟨n2_5, 0, none⟩)), (5, 48, Value.int .i64 b.lo), (6, 49, Value.bool true), (7, 50, Value.bool true)]

structure pdiv_sb_r6_6 (a b : Ab) (k : Int) (n1_0 n1_1 n2_4 : Nat) (w : World) (m6 : Nat) (D : Nat → Bool) (s : Nat → Value) (W : World) : Prop where
  zb : Mk0 w m6 W
  zq : Bks W [(n1_0, #[Value.int .i64 a.lo, Value.int .i64 a.hi, Value.int .i64 a.m, Value.int .i64 a.r, Value.int .i64 a.k, Value.int .i64 b.lo, Value.int .i64 b.hi, Value.int .i64 b.m, Value.int .i64 b.r, Value.int .i64 b.k, Value.int .i64 k], 72), (n1_1, #[Value.int .i64 0, Value.int .i64 0, Value.int .i64 0, Value.int .i64 0, Value.int .i64 0], 27), (n2_4, #[Value.int .i64 a.lo, Value.int .i64 a.hi, Value.int .i64 a.m, Value.int .i64 a.r, Value.int .i64 a.k], 27)]
  zt : Vals D s [(0, 51, Value.pointer (some ⟨n2_4, 0, none⟩)), (1, 52, Value.int .i64 a.lo), (2, 53, Value.int .i64 (absS a.lo)), (3, 54, Value.pointer (some ⟨n2_4, 1, none⟩)), (4, 55, Value.int .i64 a.hi), (5, 56, Value.int .i64 (absS a.hi)), (6, 57, Value.int .i64 (max (absS a.lo) (absS a.hi))), (7, 6, Value.int .i64 (max (absS a.lo) (absS a.hi)))]

structure pdiv_sb_r7_7 (a b : Ab) (k : Int) (n1_0 n1_1 : Nat) (w : World) (m7 : Nat) (D : Nat → Bool) (s : Nat → Value) (W : World) : Prop where
  zb : Mk0 w m7 W
  zq : Bks W [(n1_0, #[Value.int .i64 a.lo, Value.int .i64 a.hi, Value.int .i64 a.m, Value.int .i64 a.r, Value.int .i64 a.k, Value.int .i64 b.lo, Value.int .i64 b.hi, Value.int .i64 b.m, Value.int .i64 b.r, Value.int .i64 b.k, Value.int .i64 k], 72), (n1_1, #[Value.int .i64 0, Value.int .i64 0, Value.int .i64 0, Value.int .i64 0, Value.int .i64 0], 27)]
  zt : Vals D s [(0, 58, Value.int .i64 (max (absS a.lo) (absS a.hi))), (1, 59, Value.int .i64 (-(max (absS a.lo) (absS a.hi)))), (2, 5, Value.int .i64 (-(max (absS a.lo) (absS a.hi))))]

set_option maxRecDepth 100000 in
set_option maxHeartbeats 4000000 in
theorem pdiv_sb {a b : Ab} (k : Int) (w : World) (ha : Good a) (hb : Good b) (hs : stepS b ≠ 0) (h5 : 0 ≤ a.lo) (h6 : b.lo < 0) :
    Calls Try.prog 77 #[Value.agg #[Value.int .i64 a.lo, Value.int .i64 a.hi, Value.int .i64 a.m, Value.int .i64 a.r, Value.int .i64 a.k, Value.int .i64 b.lo, Value.int .i64 b.hi, Value.int .i64 b.m, Value.int .i64 b.r, Value.int .i64 b.k, Value.int .i64 k]] w fun e w' => e = .returned (Value.agg #[Value.int .i64 (clampS (-(max (absS a.lo) (absS a.hi))) (max (absS a.lo) (absS a.hi)) k).lo, Value.int .i64 (clampS (-(max (absS a.lo) (absS a.hi))) (max (absS a.lo) (absS a.hi)) k).hi, Value.int .i64 (clampS (-(max (absS a.lo) (absS a.hi))) (max (absS a.lo) (absS a.hi)) k).m, Value.int .i64 (clampS (-(max (absS a.lo) (absS a.hi))) (max (absS a.lo) (absS a.hi)) k).r, Value.int .i64 (clampS (-(max (absS a.lo) (absS a.hi))) (max (absS a.lo) (absS a.hi)) k).k]) ∧ Below w.heap.size w w' := by
  have a1 := ha.h1; have a2 := ha.h2; have a3 := ha.h3
  have b1 := hb.h1; have b2 := hb.h2; have b3 := hb.h3
  have sa := ha.step0; have sb := hb.step0
  replace hs := Lib.hid hs
  have ab1 : 0 ≤ absS a.lo ∧ absS a.lo ≤ 2147483648 := by unfold absS; omega
  have ab2 : 0 ≤ absS a.hi ∧ absS a.hi ≤ 2147483648 := by unfold absS; omega
  refine calls_go Try.func77 rfl 76 rfl rfl (fun aF hz df hu => ?_)
  have u0 : Sl aF 0 (Value.agg #[Value.int .i64 a.lo, Value.int .i64 a.hi, Value.int .i64 a.m, Value.int .i64 a.r, Value.int .i64 a.k, Value.int .i64 b.lo, Value.int .i64 b.hi, Value.int .i64 b.m, Value.int .i64 b.r, Value.int .i64 b.k, Value.int .i64 k]) := hu 0 _ rfl
  clear hu
  have hM : Mk0 w w.heap.size w := ⟨Below.refl _ _, Nat.le_refl _⟩
  have hB : Bks w [] := trivial
  refine wp_seq ?_
  obtain ⟨m1, hM, hU, hwm⟩ := start_region hM.b hB
  refine region_run (F := pdiv_sb_r0_1 a b k w m1) [1, 2] [0, 1] hz df (by kernel_rfl) (by kernel_rfl) (fun s hs0 => ⟨hM, hB, Vals.none s _, fun h => no_of' h, fun h => no_of' h, fun h => no_of' h, fun h => no_of' h, fun h => no_of' h, fun h => no_of' h, fun h => no_of' h⟩) ?_ ?_
  refine FSteps.op3 hz rfl (dv := []) (by kernel_rfl) (by kernel_rfl) (by kernel_rfl) (fun D s W bA kK hD hW hF hA hK => ?_) ?_
  · have x0 := hA.o 0 _ rfl u0
    have hF := Lib.hid hF
    clear hA
    go_simp
    exact hK.out _ _ ⟨hF.out.zb.al _, Bks.al _ hF.out.zq, hF.out.zt.skip rfl, fun _ => rfl, hF.out.v1, fun _ => Bk.new _ _ _, fun _ => hF.out.zb.g, fun h1 => (hF.out.k1_0 h1).al _, hF.out.g1, fun _ h => Nat.ne_of_gt ((hF.out.k1_0 h).lt)⟩
  refine FSteps.op3 hz rfl (dv := []) (by kernel_rfl) (by kernel_rfl) (by kernel_rfl) (fun D s W bA kK hD hW hF hA hK => ?_) ?_
  · have hF := Lib.hid hF
    clear hA
    go_simp
    exact hK.out _ _ ⟨hF.out.zb.al _, Bks.al _ hF.out.zq, hF.out.zt.skip rfl, hF.out.v0, fun _ => rfl, fun h1 => (hF.out.k0_0 h1).al _, hF.out.g0, fun _ => Bk.new _ _ _, fun _ => hF.out.zb.g, fun h _ => Nat.ne_of_lt ((hF.out.k0_0 h).lt)⟩
  exact FSteps.nil
  intro D s W aF1 hD hF hz' df' hA
  obtain ⟨d0, d1, -⟩ := hD
  clear u0
  have u1 : Sl aF1 1 _ := hA.i 1 _ rfl rfl (hF.v0 d0)
  have u2 : Sl aF1 2 _ := hA.i 2 _ rfl rfl (hF.v1 d1)
  have hkX0 := hF.k0_0 d0
  have hgX0 := hF.g0 d0
  have hkX1 := hF.k1_0 d1
  have hgX1 := hF.g1 d1
  have heX0_1 := hF.e0_1 d0 d1
  have hM := hF.zb
  have hB := hF.zq
  generalize pblk (s 1) = n1_0 at hkX0 hgX0 hkX1 hgX1 heX0_1 u1 u2
  generalize pblk (s 2) = n1_1 at hkX0 hgX0 hkX1 hgX1 heX0_1 u1 u2
  have hB : Bks W [(n1_0, #[Value.int .i64 a.lo, Value.int .i64 a.hi, Value.int .i64 a.m, Value.int .i64 a.r, Value.int .i64 a.k, Value.int .i64 b.lo, Value.int .i64 b.hi, Value.int .i64 b.m, Value.int .i64 b.r, Value.int .i64 b.k, Value.int .i64 k], 72), (n1_1, #[Value.int .i64 0, Value.int .i64 0, Value.int .i64 0, Value.int .i64 0, Value.int .i64 0], 27)] := ⟨hkX0, hkX1, trivial⟩
  have hw_n1_1 : w.heap.size ≤ n1_1 := Nat.le_trans hwm hgX1
  clear hF hA hz df d0 d1 hU
  have hz := hz'; have df := df'; clear hz' df'
  clear aF
  show Code.wp _ _ _ _ _
  refine wp_seq ?_
  obtain ⟨m2, hM, hU, hwm⟩ := start_region hM.b hB
  refine region_go (F := pdiv_sb_r1_2 a b k n1_0 n1_1 w m2) [7, 8, 9, 10, 3, 4] [0, 1, 2, 3, 4, 5, 6, 7] hz df (by kernel_rfl) (by kernel_rfl) (by kernel_rfl) (fun s hs0 => ⟨hM.drew, Bks.drew hB, Vals.none s _, fun h => no_of' h, fun h => no_of' h, fun h => no_of' h, fun h => no_of' h, fun h => no_of' h, fun h => no_of' h, fun h => no_of' h, fun h => no_of' h, fun h => no_of' h, fun h => no_of' h, fun h => no_of' h⟩) ?_ ?_
  refine FSteps.op3 hz rfl (dv := []) (by kernel_rfl) (by kernel_rfl) (by kernel_rfl) (fun D s W bA kK hD hW hF hA hK => ?_) ?_
  · have x1 := hA.o 1 _ rfl u1
    have hF := Lib.hid hF
    clear hA
    go_simp
    exact hK.out _ _ ⟨hF.out.zb, hF.out.zq, hF.out.zt.step rfl rfl, hF.out.v4, hF.out.v5, hF.out.k4_0, hF.out.k4_1, hF.out.c4_1, hF.out.g4, hF.out.k5_0, hF.out.k5_1, hF.out.c5_1, hF.out.g5, hF.out.e4_5⟩
  refine FSteps.op3 hz rfl (dv := [0]) (by kernel_rfl) (by kernel_rfl) (by kernel_rfl) (fun D s W bA kK hD hW hF hA hK => ?_) ?_
  · have x7 := hA.i 7 _ rfl rfl (hF.zt.get (j := 0) rfl hW.1)
    obtain ⟨⟨c0, z0⟩, -, -⟩ := hF.zq.rules
    have hF := Lib.hid hF
    clear hA
    go_simp
    exact hK.out _ _ ⟨hF.out.zb, hF.out.zq, hF.out.zt.step rfl rfl, hF.out.v4, hF.out.v5, hF.out.k4_0, hF.out.k4_1, hF.out.c4_1, hF.out.g4, hF.out.k5_0, hF.out.k5_1, hF.out.c5_1, hF.out.g5, hF.out.e4_5⟩
  refine FSteps.op3 hz rfl (dv := []) (by kernel_rfl) (by kernel_rfl) (by kernel_rfl) (fun D s W bA kK hD hW hF hA hK => ?_) ?_
  · have x1 := hA.o 1 _ rfl u1
    have hF := Lib.hid hF
    clear hA
    go_simp
    exact hK.out _ _ ⟨hF.out.zb, hF.out.zq, hF.out.zt.step rfl rfl, hF.out.v4, hF.out.v5, hF.out.k4_0, hF.out.k4_1, hF.out.c4_1, hF.out.g4, hF.out.k5_0, hF.out.k5_1, hF.out.c5_1, hF.out.g5, hF.out.e4_5⟩
  refine FSteps.op3 hz rfl (dv := [2]) (by kernel_rfl) (by kernel_rfl) (by kernel_rfl) (fun D s W bA kK hD hW hF hA hK => ?_) ?_
  · have x9 := hA.i 9 _ rfl rfl (hF.zt.get (j := 2) rfl hW.1)
    obtain ⟨⟨c0, z0⟩, -, -⟩ := hF.zq.rules
    have hF := Lib.hid hF
    clear hA
    go_simp
    exact hK.out _ _ ⟨hF.out.zb, hF.out.zq, hF.out.zt.step rfl rfl, hF.out.v4, hF.out.v5, hF.out.k4_0, hF.out.k4_1, hF.out.c4_1, hF.out.g4, hF.out.k5_0, hF.out.k5_1, hF.out.c5_1, hF.out.g5, hF.out.e4_5⟩
  refine FSteps.op3 hz rfl (dv := []) (by kernel_rfl) (by kernel_rfl) (by kernel_rfl) (fun D s W bA kK hD hW hF hA hK => ?_) ?_
  · have hF := Lib.hid hF
    clear hA
    go_simp
    exact hK.out _ _ ⟨hF.out.zb.al _, Bks.al _ hF.out.zq, hF.out.zt.skip rfl, fun _ => rfl, hF.out.v5, fun _ _ => Bk.new _ _ _, fun h1 => absurd (hF.out.c4_1 h1) (by rw [hD]; decide), fun _ => rfl, fun _ => hF.out.zb.g, fun h1 h2 => (hF.out.k5_0 h1 h2).al _, fun h1 => (hF.out.k5_1 h1).al _, hF.out.c5_1, hF.out.g5, fun _ h => Nat.ne_of_gt (lt_of_either (hF.out.k5_0 h) hF.out.k5_1)⟩
  refine FSteps.op3 hz rfl (dv := []) (by kernel_rfl) (by kernel_rfl) (by kernel_rfl) (fun D s W bA kK hD hW hF hA hK => ?_) ?_
  · have hF := Lib.hid hF
    clear hA
    go_simp
    exact hK.out _ _ ⟨hF.out.zb.al _, Bks.al _ hF.out.zq, hF.out.zt.skip rfl, hF.out.v4, fun _ => rfl, fun h1 h2 => (hF.out.k4_0 h1 h2).al _, fun h1 => (hF.out.k4_1 h1).al _, hF.out.c4_1, hF.out.g4, fun _ _ => Bk.new _ _ _, fun h1 => absurd (hF.out.c5_1 h1) (by rw [hD]; decide), fun _ => rfl, fun _ => hF.out.zb.g, fun h _ => Nat.ne_of_lt (lt_of_either (hF.out.k4_0 h) hF.out.k4_1)⟩
  refine FSteps.op3 hz rfl (dv := [4, 1, 0, 1, 4, 5]) (by kernel_rfl) (by kernel_rfl) (by kernel_rfl) (fun D s W bA kK hD hW hF hA hK => ?_) ?_
  · have x3 := hA.i 3 _ rfl rfl (hF.v4 hW.1)
    have x8 := hA.i 8 _ rfl rfl (hF.zt.get (j := 1) rfl hW.2.1)
    have kk := hF.k4_0 hW.1 hD
    have hge := Nat.le_trans hwm (hF.g4 hW.1); have hge2 := hF.g4 hW.1
    have kc := kk.cell; have kf := kk.free
    have hF := Lib.hid hF
    have kk := Lib.hid kk; have hge := Lib.hid hge; have hge2 := Lib.hid hge2
    clear hA
    go_simp
    exact hK.out undef _ ⟨hF.out.zb.sAll (hge.out) 0 [Value.int .i64 a.lo, Value.int .i64 a.hi, Value.int .i64 a.m, Value.int .i64 a.r, Value.int .i64 a.k], Bks.oAll [Value.int .i64 a.lo, Value.int .i64 a.hi, Value.int .i64 a.m, Value.int .i64 a.r, Value.int .i64 a.k] 0 (Under.outside hge2.out hU) hF.out.zq, hF.out.zt.skip rfl, hF.out.v4, hF.out.v5, fun h1 h2 => no_of h2, fun _ => kk.out.full [Value.int .i64 a.lo, Value.int .i64 a.hi, Value.int .i64 a.m, Value.int .i64 a.r, Value.int .i64 a.k] rfl, fun _ => hW.1, hF.out.g4, fun h1 h2 => Bk.oAll ((hF.out.e4_5 hW.1 h1).symm) [Value.int .i64 a.lo, Value.int .i64 a.hi, Value.int .i64 a.m, Value.int .i64 a.r, Value.int .i64 a.k] 0 (hF.out.k5_0 h1 h2), fun h1 => Bk.oAll ((hF.out.e4_5 hW.1 (hF.out.c5_1 h1)).symm) [Value.int .i64 a.lo, Value.int .i64 a.hi, Value.int .i64 a.m, Value.int .i64 a.r, Value.int .i64 a.k] 0 (hF.out.k5_1 h1), hF.out.c5_1, hF.out.g5, hF.out.e4_5⟩
  refine FSteps.op3 hz rfl (dv := [5, 3, 6, 0, 1, 2, 3, 4, 5, 6]) (by kernel_rfl) (by kernel_rfl) (by kernel_rfl) (fun D s W bA kK hD hW hF hA hK => ?_) ?_
  · have x4 := hA.i 4 _ rfl rfl (hF.v5 hW.1)
    have x10 := hA.i 10 _ rfl rfl (hF.zt.get (j := 3) rfl hW.2.1)
    have kk := hF.k5_0 hW.1 hD
    have hge := Nat.le_trans hwm (hF.g5 hW.1); have hge2 := hF.g5 hW.1
    have kc := kk.cell; have kf := kk.free
    have hF := Lib.hid hF
    have kk := Lib.hid kk; have hge := Lib.hid hge; have hge2 := Lib.hid hge2
    clear hA
    go_simp
    exact hK.out undef _ ⟨hF.out.zb.sAll (hge.out) 0 [Value.int .i64 b.lo, Value.int .i64 b.hi, Value.int .i64 b.m, Value.int .i64 b.r, Value.int .i64 b.k], Bks.oAll [Value.int .i64 b.lo, Value.int .i64 b.hi, Value.int .i64 b.m, Value.int .i64 b.r, Value.int .i64 b.k] 0 (Under.outside hge2.out hU) hF.out.zq, hF.out.zt.skip rfl, hF.out.v4, hF.out.v5, fun h1 h2 => Bk.oAll (hF.out.e4_5 h1 hW.1) [Value.int .i64 b.lo, Value.int .i64 b.hi, Value.int .i64 b.m, Value.int .i64 b.r, Value.int .i64 b.k] 0 (hF.out.k4_0 h1 h2), fun h1 => Bk.oAll (hF.out.e4_5 (hF.out.c4_1 h1) hW.1) [Value.int .i64 b.lo, Value.int .i64 b.hi, Value.int .i64 b.m, Value.int .i64 b.r, Value.int .i64 b.k] 0 (hF.out.k4_1 h1), hF.out.c4_1, hF.out.g4, fun h1 h2 => no_of h2, fun _ => kk.out.full [Value.int .i64 b.lo, Value.int .i64 b.hi, Value.int .i64 b.m, Value.int .i64 b.r, Value.int .i64 b.k] rfl, fun _ => hW.1, hF.out.g5, hF.out.e4_5⟩
  exact FSteps.nil
  intro D s W aF2 hD hF hz' df' hA
  obtain ⟨d0, d1, d2, d3, d4, d5, d6, d7, -⟩ := hD
  replace u1 : Sl aF2 1 _ := hA.o 1 _ rfl u1
  replace u2 : Sl aF2 2 _ := hA.o 2 _ rfl u2
  have u3 : Sl aF2 3 _ := hA.i 3 _ rfl rfl (hF.v4 d4)
  have u4 : Sl aF2 4 _ := hA.i 4 _ rfl rfl (hF.v5 d5)
  have hkX4 := hF.k4_1 d6
  have hgX4 := hF.g4 d4
  have hkX5 := hF.k5_1 d7
  have hgX5 := hF.g5 d5
  have heX4_5 := hF.e4_5 d4 d5
  have hM := hF.zb
  have hB := hF.zq
  generalize pblk (s 3) = n2_4 at hkX4 hgX4 hkX5 hgX5 heX4_5 u3 u4
  generalize pblk (s 4) = n2_5 at hkX4 hgX4 hkX5 hgX5 heX4_5 u3 u4
  have hB : Bks W [(n1_0, #[Value.int .i64 a.lo, Value.int .i64 a.hi, Value.int .i64 a.m, Value.int .i64 a.r, Value.int .i64 a.k, Value.int .i64 b.lo, Value.int .i64 b.hi, Value.int .i64 b.m, Value.int .i64 b.r, Value.int .i64 b.k, Value.int .i64 k], 72), (n1_1, #[Value.int .i64 0, Value.int .i64 0, Value.int .i64 0, Value.int .i64 0, Value.int .i64 0], 27), (n2_4, #[Value.int .i64 a.lo, Value.int .i64 a.hi, Value.int .i64 a.m, Value.int .i64 a.r, Value.int .i64 a.k], 27), (n2_5, #[Value.int .i64 b.lo, Value.int .i64 b.hi, Value.int .i64 b.m, Value.int .i64 b.r, Value.int .i64 b.k], 27)] := ⟨hB.1, hB.2.1, hkX4, hkX5, trivial⟩
  obtain ⟨hl_0, hl_1, -⟩ := hU
  have hne_n1_1_n2_4 : n1_1 ≠ n2_4 := by omega
  have hne_n1_1_n2_5 : n1_1 ≠ n2_5 := by omega
  clear hF hA hz df d0 d1 d2 d3 d4 d5 d6 d7 
  have hz := hz'; have df := df'; clear hz' df'
  clear aF1
  show Code.wp _ _ _ _ _
  refine wp_seq ?_
  obtain ⟨m3, hM, hU, hwm⟩ := start_region hM.b hB
  refine region_go (F := pdiv_sb_r2_3 a b k n1_0 n1_1 n2_4 n2_5 w m3) [11, 12, 5, 6] [0, 1, 2, 3] hz df (by kernel_rfl) (by kernel_rfl) (by kernel_rfl) (fun s hs0 => ⟨hM.drew, Bks.drew hB, Vals.none s _⟩) ?_ ?_
  refine FSteps.op3 hz rfl (dv := []) (by kernel_rfl) (by kernel_rfl) (by kernel_rfl) (fun D s W bA kK hD hW hF hA hK => ?_) ?_
  · have x3 := hA.o 3 _ rfl u3
    have hF := Lib.hid hF
    clear hA
    go_simp
    exact hK.out _ _ ⟨hF.out.zb, hF.out.zq, hF.out.zt.step rfl rfl⟩
  refine FSteps.op3 hz rfl (dv := [0]) (by kernel_rfl) (by kernel_rfl) (by kernel_rfl) (fun D s W bA kK hD hW hF hA hK => ?_) ?_
  · have x11 := hA.i 11 _ rfl rfl (hF.zt.get (j := 0) rfl hW.1)
    obtain ⟨-, -, ⟨c2, z2⟩, -, -⟩ := hF.zq.rules
    have hF := Lib.hid hF
    clear hA
    go_simp
    exact hK.out _ _ ⟨hF.out.zb, hF.out.zq, hF.out.zt.step rfl rfl⟩
  refine FSteps.op3 hz rfl (dv := []) (by kernel_rfl) (by kernel_rfl) (by kernel_rfl) (fun D s W bA kK hD hW hF hA hK => ?_) ?_
  · have hF := Lib.hid hF
    clear hA
    go_simp
    exact hK.out _ _ ⟨hF.out.zb, hF.out.zq, hF.out.zt.step rfl rfl⟩
  refine FSteps.op3 hz rfl (dv := [1, 2, 0, 1, 2]) (by kernel_rfl) (by kernel_rfl) (by kernel_rfl) (fun D s W bA kK hD hW hF hA hK => ?_) ?_
  · have x12 := hA.i 12 _ rfl rfl (hF.zt.get (j := 1) rfl hW.1)
    have hF := Lib.hid hF
    clear hA
    go_simp
    exact hK.out _ _ ⟨hF.out.zb, hF.out.zq, hF.out.zt.step rfl rfl⟩
  exact FSteps.nil
  intro D s W aF3 hD hF hz' df' hA
  obtain ⟨d0, d1, d2, d3, -⟩ := hD
  replace u1 : Sl aF3 1 _ := hA.o 1 _ rfl u1
  replace u2 : Sl aF3 2 _ := hA.o 2 _ rfl u2
  replace u3 : Sl aF3 3 _ := hA.o 3 _ rfl u3
  replace u4 : Sl aF3 4 _ := hA.o 4 _ rfl u4
  have u5 : Sl aF3 5 _ := hA.i 5 _ rfl rfl (hF.zt.get (j := 2) rfl d2)
  have u6 : Sl aF3 6 _ := hA.i 6 _ rfl rfl (hF.zt.get (j := 3) rfl d3)
  have hM := hF.zb
  have hB := hF.zq
  have hB : Bks W [(n1_0, #[Value.int .i64 a.lo, Value.int .i64 a.hi, Value.int .i64 a.m, Value.int .i64 a.r, Value.int .i64 a.k, Value.int .i64 b.lo, Value.int .i64 b.hi, Value.int .i64 b.m, Value.int .i64 b.r, Value.int .i64 b.k, Value.int .i64 k], 72), (n1_1, #[Value.int .i64 0, Value.int .i64 0, Value.int .i64 0, Value.int .i64 0, Value.int .i64 0], 27), (n2_4, #[Value.int .i64 a.lo, Value.int .i64 a.hi, Value.int .i64 a.m, Value.int .i64 a.r, Value.int .i64 a.k], 27), (n2_5, #[Value.int .i64 b.lo, Value.int .i64 b.hi, Value.int .i64 b.m, Value.int .i64 b.r, Value.int .i64 b.k], 27)] := ⟨hB.1, hB.2.1, hB.2.2.1, hB.2.2.2.1, trivial⟩
  clear hF hA hz df d0 d1 d2 d3 hU
  have hz := hz'; have df := df'; clear hz' df'
  clear aF2
  show Code.wp _ _ _ _ _
  refine wp_seq ?_
  refine wp_seq ?_
  obtain ⟨m4, hM, hU, hwm⟩ := start_region hM.b hB
  refine region_run (F := pdiv_sb_r3_4 a b k n1_0 n1_1 n2_4 n2_5 w m4) [13, 14, 15, 16, 17, 18, 19, 20] [0, 1, 2, 3, 4, 5, 6, 7] hz df (by kernel_rfl) (by kernel_rfl) (fun s hs0 => ⟨hM, hB, Vals.none s _⟩) ?_ ?_
  refine FSteps.op3 hz rfl (dv := []) (by kernel_rfl) (by kernel_rfl) (by kernel_rfl) (fun D s W bA kK hD hW hF hA hK => ?_) ?_
  · have x4 := hA.o 4 _ rfl u4
    obtain ⟨-, -, -, ⟨c3, z3⟩, -⟩ := hF.zq.rules
    have hF := Lib.hid hF
    clear hA
    go_simp
    exact hK.out _ _ ⟨hF.out.zb, hF.out.zq, hF.out.zt.step rfl rfl⟩
  refine FSteps.op3 hz rfl (dv := [0]) (by kernel_rfl) (by kernel_rfl) (by kernel_rfl) (fun D s W bA kK hD hW hF hA hK => ?_) ?_
  · have x13 := hA.i 13 _ rfl rfl (hF.zt.get (j := 0) rfl hW.1)
    have hF := Lib.hid hF
    clear hA
    go_simp
    (go_at_call 44; ((with_reducible_and_instances refine (step_ab b _).mono ?_)); rintro e W1 ⟨rfl, hb⟩; (try unfold abVal))
    (try go_wp2_with fail)
    exact hK.out _ _ ⟨hF.out.zb.on hb, Bks.on hb hF.out.zq, hF.out.zt.step rfl rfl⟩
  refine FSteps.op3 hz rfl (dv := [1]) (by kernel_rfl) (by kernel_rfl) (by kernel_rfl) (fun D s W bA kK hD hW hF hA hK => ?_) ?_
  · have x14 := hA.i 14 _ rfl rfl (hF.zt.get (j := 1) rfl hW.1)
    have hF := Lib.hid hF
    clear hA
    have hd2 : ((stepS b) == 0) = false := beq_eq_false_iff_ne.2 (by exact hs.out)
    go_simp
    exact hK.out _ _ ⟨hF.out.zb, hF.out.zq, hF.out.zt.step rfl rfl⟩
  refine FSteps.op3 hz rfl (dv := [2, 1]) (by kernel_rfl) (by kernel_rfl) (by kernel_rfl) (fun D s W bA kK hD hW hF hA hK => ?_) ?_
  · have x15 := hA.i 15 _ rfl rfl (hF.zt.get (j := 2) rfl hW.1)
    have hF := Lib.hid hF
    clear hA
    go_simp
    exact hK.out _ _ ⟨hF.out.zb, hF.out.zq, hF.out.zt.step rfl rfl⟩
  refine FSteps.no3 (bv := true) hz rfl (dv := [3]) (by kernel_rfl) rfl (by kernel_rfl) (by kernel_rfl) (fun D s W hW hF => (hF.zt.get (j := 3) rfl hW.1)) (by kernel_rfl) (by kernel_rfl) (fun D s W hD hF => ⟨hF.zb, hF.zq, hF.zt.step rfl rfl⟩) ?_
  refine FSteps.no3 (bv := true) hz rfl (dv := [4, 3]) (by kernel_rfl) rfl (by kernel_rfl) (by kernel_rfl) (fun D s W hW hF => (hF.zt.get (j := 3) rfl hW.2.1)) (by kernel_rfl) (by kernel_rfl) (fun D s W hD hF => ⟨hF.zb, hF.zq, hF.zt.step rfl rfl⟩) ?_
  refine FSteps.no3 (bv := true) hz rfl (dv := [5, 3]) (by kernel_rfl) rfl (by kernel_rfl) (by kernel_rfl) (fun D s W hW hF => (hF.zt.get (j := 3) rfl hW.2.1)) (by kernel_rfl) (by kernel_rfl) (fun D s W hD hF => ⟨hF.zb, hF.zq, hF.zt.step rfl rfl⟩) ?_
  refine FSteps.op3 hz rfl (dv := [3, 6]) (by kernel_rfl) (by kernel_rfl) (by kernel_rfl) (fun D s W bA kK hD hW hF hA hK => ?_) ?_
  · have x16 := hA.i 16 _ rfl rfl (hF.zt.get (j := 3) rfl hW.1)
    have x19 := hA.i 19 _ rfl rfl (hF.zt.get (j := 6) rfl hW.2.1)
    have hF := Lib.hid hF
    clear hA
    go_simp
    exact hK.out _ _ ⟨hF.out.zb, hF.out.zq, hF.out.zt.step rfl rfl⟩
  exact FSteps.nil
  intro D s W aF4 hD hF hz' df' hA
  obtain ⟨d0, d1, d2, d3, d4, d5, d6, d7, -⟩ := hD
  replace u1 : Sl aF4 1 _ := hA.o 1 _ rfl u1
  replace u2 : Sl aF4 2 _ := hA.o 2 _ rfl u2
  replace u3 : Sl aF4 3 _ := hA.o 3 _ rfl u3
  replace u4 : Sl aF4 4 _ := hA.o 4 _ rfl u4
  replace u5 : Sl aF4 5 _ := hA.o 5 _ rfl u5
  replace u6 : Sl aF4 6 _ := hA.o 6 _ rfl u6
  have u20 : Sl aF4 20 _ := hA.i 20 _ rfl rfl (hF.zt.get (j := 7) rfl d7)
  have hM := hF.zb
  have hB := hF.zq
  have hB : Bks W [(n1_0, #[Value.int .i64 a.lo, Value.int .i64 a.hi, Value.int .i64 a.m, Value.int .i64 a.r, Value.int .i64 a.k, Value.int .i64 b.lo, Value.int .i64 b.hi, Value.int .i64 b.m, Value.int .i64 b.r, Value.int .i64 b.k, Value.int .i64 k], 72), (n1_1, #[Value.int .i64 0, Value.int .i64 0, Value.int .i64 0, Value.int .i64 0, Value.int .i64 0], 27), (n2_4, #[Value.int .i64 a.lo, Value.int .i64 a.hi, Value.int .i64 a.m, Value.int .i64 a.r, Value.int .i64 a.k], 27), (n2_5, #[Value.int .i64 b.lo, Value.int .i64 b.hi, Value.int .i64 b.m, Value.int .i64 b.r, Value.int .i64 b.k], 27)] := ⟨hB.1, hB.2.1, hB.2.2.1, hB.2.2.2.1, trivial⟩
  clear hF hA hz df d0 d1 d2 d3 d4 d5 d6 d7 hU
  have hz := hz'; have df := df'; clear hz' df'
  clear aF3
  show Code.wp _ _ _ _ _
  refine cond_f u20 ?_
  refine wp_seq ?_
  obtain ⟨m5, hM, hU, hwm⟩ := start_region hM.b hB
  refine region_run (F := pdiv_sb_r5_5 a b k n1_0 n1_1 n2_4 n2_5 w m5) [43, 44, 45, 46, 47, 48, 49, 50] [0, 1, 2, 3, 4, 5, 6, 7] hz df (by kernel_rfl) (by kernel_rfl) (fun s hs0 => ⟨hM, hB, Vals.none s _⟩) ?_ ?_
  refine FSteps.op3 hz rfl (dv := []) (by kernel_rfl) (by kernel_rfl) (by kernel_rfl) (fun D s W bA kK hD hW hF hA hK => ?_) ?_
  · have x3 := hA.o 3 _ rfl u3
    have hF := Lib.hid hF
    clear hA
    go_simp
    exact hK.out _ _ ⟨hF.out.zb, hF.out.zq, hF.out.zt.step rfl rfl⟩
  refine FSteps.op3 hz rfl (dv := [0]) (by kernel_rfl) (by kernel_rfl) (by kernel_rfl) (fun D s W bA kK hD hW hF hA hK => ?_) ?_
  · have x43 := hA.i 43 _ rfl rfl (hF.zt.get (j := 0) rfl hW.1)
    obtain ⟨-, -, ⟨c2, z2⟩, -, -⟩ := hF.zq.rules
    have hF := Lib.hid hF
    clear hA
    go_simp
    exact hK.out _ _ ⟨hF.out.zb, hF.out.zq, hF.out.zt.step rfl rfl⟩
  refine FSteps.op3 hz rfl (dv := [1]) (by kernel_rfl) (by kernel_rfl) (by kernel_rfl) (fun D s W bA kK hD hW hF hA hK => ?_) ?_
  · have x44 := hA.i 44 _ rfl rfl (hF.zt.get (j := 1) rfl hW.1)
    have hF := Lib.hid hF
    clear hA
    have hd2 : decide (a.lo < 0) = false := decide_eq_false (by omega)
    go_simp
    exact hK.out _ _ ⟨hF.out.zb, hF.out.zq, hF.out.zt.step rfl rfl⟩
  refine FSteps.op3 hz rfl (dv := [2]) (by kernel_rfl) (by kernel_rfl) (by kernel_rfl) (fun D s W bA kK hD hW hF hA hK => ?_) ?_
  · have x45 := hA.i 45 _ rfl rfl (hF.zt.get (j := 2) rfl hW.1)
    have hF := Lib.hid hF
    clear hA
    go_simp
    exact hK.out _ _ ⟨hF.out.zb, hF.out.zq, hF.out.zt.step rfl rfl⟩
  refine FSteps.yes3 (bv := false) hz rfl (dv := [3]) (by kernel_rfl) rfl (by kernel_rfl) (by kernel_rfl) (fun D s W hW hF => (hF.zt.get (j := 3) rfl hW.1)) (by kernel_rfl) (by kernel_rfl) (fun D s W bA kK hD hW hF hA hK => ?_) ?_
  · have x4 := hA.o 4 _ rfl u4
    have hF := Lib.hid hF
    clear hA
    go_simp
    exact hK.out _ _ ⟨hF.out.zb, hF.out.zq, hF.out.zt.step rfl rfl⟩
  refine FSteps.yes3 (bv := false) hz rfl (dv := [4, 3]) (by kernel_rfl) rfl (by kernel_rfl) (by kernel_rfl) (fun D s W hW hF => (hF.zt.get (j := 3) rfl hW.2.1)) (by kernel_rfl) (by kernel_rfl) (fun D s W bA kK hD hW hF hA hK => ?_) ?_
  · have x47 := hA.i 47 _ rfl rfl (hF.zt.get (j := 4) rfl hW.1)
    obtain ⟨-, -, -, ⟨c3, z3⟩, -⟩ := hF.zq.rules
    have hF := Lib.hid hF
    clear hA
    go_simp
    exact hK.out _ _ ⟨hF.out.zb, hF.out.zq, hF.out.zt.step rfl rfl⟩
  refine FSteps.yes3 (bv := false) hz rfl (dv := [5, 3]) (by kernel_rfl) rfl (by kernel_rfl) (by kernel_rfl) (fun D s W hW hF => (hF.zt.get (j := 3) rfl hW.2.1)) (by kernel_rfl) (by kernel_rfl) (fun D s W bA kK hD hW hF hA hK => ?_) ?_
  · have x48 := hA.i 48 _ rfl rfl (hF.zt.get (j := 5) rfl hW.1)
    have hF := Lib.hid hF
    clear hA
    have hd6 : decide (b.lo < 0) = true := decide_eq_true (by omega)
    go_simp
    exact hK.out _ _ ⟨hF.out.zb, hF.out.zq, hF.out.zt.step rfl rfl⟩
  refine FSteps.op3 hz rfl (dv := [3, 6]) (by kernel_rfl) (by kernel_rfl) (by kernel_rfl) (fun D s W bA kK hD hW hF hA hK => ?_) ?_
  · have x46 := hA.i 46 _ rfl rfl (hF.zt.get (j := 3) rfl hW.1)
    have x49 := hA.i 49 _ rfl rfl (hF.zt.get (j := 6) rfl hW.2.1)
    have hF := Lib.hid hF
    clear hA
    go_simp
    exact hK.out _ _ ⟨hF.out.zb, hF.out.zq, hF.out.zt.step rfl rfl⟩
  exact FSteps.nil
  intro D s W aF5 hD hF hz' df' hA
  obtain ⟨d0, d1, d2, d3, d4, d5, d6, d7, -⟩ := hD
  clear u4 u20
  replace u1 : Sl aF5 1 _ := hA.o 1 _ rfl u1
  replace u2 : Sl aF5 2 _ := hA.o 2 _ rfl u2
  replace u3 : Sl aF5 3 _ := hA.o 3 _ rfl u3
  replace u5 : Sl aF5 5 _ := hA.o 5 _ rfl u5
  replace u6 : Sl aF5 6 _ := hA.o 6 _ rfl u6
  have u50 : Sl aF5 50 _ := hA.i 50 _ rfl rfl (hF.zt.get (j := 7) rfl d7)
  have hM := hF.zb
  have hB := hF.zq
  have hB : Bks W [(n1_0, #[Value.int .i64 a.lo, Value.int .i64 a.hi, Value.int .i64 a.m, Value.int .i64 a.r, Value.int .i64 a.k, Value.int .i64 b.lo, Value.int .i64 b.hi, Value.int .i64 b.m, Value.int .i64 b.r, Value.int .i64 b.k, Value.int .i64 k], 72), (n1_1, #[Value.int .i64 0, Value.int .i64 0, Value.int .i64 0, Value.int .i64 0, Value.int .i64 0], 27), (n2_4, #[Value.int .i64 a.lo, Value.int .i64 a.hi, Value.int .i64 a.m, Value.int .i64 a.r, Value.int .i64 a.k], 27)] := ⟨hB.1, hB.2.1, hB.2.2.1, trivial⟩
  clear hF hA hz df d0 d1 d2 d3 d4 d5 d6 d7 hU
  have hz := hz'; have df := df'; clear hz' df'
  clear aF4
  show Code.wp _ _ _ _ _
  refine cond_t u50 ?_
  refine wp_seq ?_
  obtain ⟨m6, hM, hU, hwm⟩ := start_region hM.b hB
  refine region_go (F := pdiv_sb_r6_6 a b k n1_0 n1_1 n2_4 w m6) [51, 52, 53, 54, 55, 56, 57, 6] [0, 1, 2, 3, 4, 5, 6, 7] hz df (by kernel_rfl) (by kernel_rfl) (by kernel_rfl) (fun s hs0 => ⟨hM.drew, Bks.drew hB, Vals.none s _⟩) ?_ ?_
  refine FSteps.op3 hz rfl (dv := []) (by kernel_rfl) (by kernel_rfl) (by kernel_rfl) (fun D s W bA kK hD hW hF hA hK => ?_) ?_
  · have x3 := hA.o 3 _ rfl u3
    have hF := Lib.hid hF
    clear hA
    go_simp
    exact hK.out _ _ ⟨hF.out.zb, hF.out.zq, hF.out.zt.step rfl rfl⟩
  refine FSteps.op3 hz rfl (dv := [0]) (by kernel_rfl) (by kernel_rfl) (by kernel_rfl) (fun D s W bA kK hD hW hF hA hK => ?_) ?_
  · have x51 := hA.i 51 _ rfl rfl (hF.zt.get (j := 0) rfl hW.1)
    obtain ⟨-, -, ⟨c2, z2⟩, -⟩ := hF.zq.rules
    have hF := Lib.hid hF
    clear hA
    go_simp
    exact hK.out _ _ ⟨hF.out.zb, hF.out.zq, hF.out.zt.step rfl rfl⟩
  refine FSteps.op3 hz rfl (dv := [1]) (by kernel_rfl) (by kernel_rfl) (by kernel_rfl) (fun D s W bA kK hD hW hF hA hK => ?_) ?_
  · have x52 := hA.i 52 _ rfl rfl (hF.zt.get (j := 1) rfl hW.1)
    have hF := Lib.hid hF
    clear hA
    go_simp
    (go_at_call 50; ((with_reducible_and_instances refine (abs_b _ (by omega) _).mono ?_)); rintro e W1 ⟨rfl, hb⟩; (try unfold abVal))
    (try go_wp2_with fail)
    exact hK.out _ _ ⟨hF.out.zb.on hb, Bks.on hb hF.out.zq, hF.out.zt.step rfl rfl⟩
  refine FSteps.op3 hz rfl (dv := []) (by kernel_rfl) (by kernel_rfl) (by kernel_rfl) (fun D s W bA kK hD hW hF hA hK => ?_) ?_
  · have x3 := hA.o 3 _ rfl u3
    have hF := Lib.hid hF
    clear hA
    go_simp
    exact hK.out _ _ ⟨hF.out.zb, hF.out.zq, hF.out.zt.step rfl rfl⟩
  refine FSteps.op3 hz rfl (dv := [3]) (by kernel_rfl) (by kernel_rfl) (by kernel_rfl) (fun D s W bA kK hD hW hF hA hK => ?_) ?_
  · have x54 := hA.i 54 _ rfl rfl (hF.zt.get (j := 3) rfl hW.1)
    obtain ⟨-, -, ⟨c2, z2⟩, -⟩ := hF.zq.rules
    have hF := Lib.hid hF
    clear hA
    go_simp
    exact hK.out _ _ ⟨hF.out.zb, hF.out.zq, hF.out.zt.step rfl rfl⟩
  refine FSteps.op3 hz rfl (dv := [4, 2]) (by kernel_rfl) (by kernel_rfl) (by kernel_rfl) (fun D s W bA kK hD hW hF hA hK => ?_) ?_
  · have x55 := hA.i 55 _ rfl rfl (hF.zt.get (j := 4) rfl hW.1)
    have hF := Lib.hid hF
    clear hA
    go_simp
    (go_at_call 50; ((with_reducible_and_instances refine (abs_b _ (by omega) _).mono ?_)); rintro e W1 ⟨rfl, hb⟩; (try unfold abVal))
    (try go_wp2_with fail)
    exact hK.out _ _ ⟨hF.out.zb.on hb, Bks.on hb hF.out.zq, hF.out.zt.step rfl rfl⟩
  refine FSteps.op3 hz rfl (dv := [2, 5]) (by kernel_rfl) (by kernel_rfl) (by kernel_rfl) (fun D s W bA kK hD hW hF hA hK => ?_) ?_
  · have x53 := hA.i 53 _ rfl rfl (hF.zt.get (j := 2) rfl hW.1)
    have x56 := hA.i 56 _ rfl rfl (hF.zt.get (j := 5) rfl hW.2.1)
    have hF := Lib.hid hF
    clear hA
    have hm6_0 : (if (absS a.lo) < (absS a.hi) then (absS a.hi) else (absS a.lo)) = max (absS a.lo) (absS a.hi) := max_is _ _
    go_simp
    exact hK.out _ _ ⟨hF.out.zb, hF.out.zq, hF.out.zt.step rfl rfl⟩
  refine FSteps.op3 hz rfl (dv := [6, 5, 0, 1, 2, 3, 4, 5, 6]) (by kernel_rfl) (by kernel_rfl) (by kernel_rfl) (fun D s W bA kK hD hW hF hA hK => ?_) ?_
  · have x57 := hA.i 57 _ rfl rfl (hF.zt.get (j := 6) rfl hW.1)
    have hF := Lib.hid hF
    clear hA
    go_simp
    exact hK.out _ _ ⟨hF.out.zb, hF.out.zq, hF.out.zt.step rfl rfl⟩
  exact FSteps.nil
  intro D s W aF6 hD hF hz' df' hA
  obtain ⟨d0, d1, d2, d3, d4, d5, d6, d7, -⟩ := hD
  clear u3 u6 u50
  replace u1 : Sl aF6 1 _ := hA.o 1 _ rfl u1
  replace u2 : Sl aF6 2 _ := hA.o 2 _ rfl u2
  replace u5 : Sl aF6 5 _ := hA.o 5 _ rfl u5
  have u6 : Sl aF6 6 _ := hA.i 6 _ rfl rfl (hF.zt.get (j := 7) rfl d7)
  have hM := hF.zb
  have hB := hF.zq
  have hB : Bks W [(n1_0, #[Value.int .i64 a.lo, Value.int .i64 a.hi, Value.int .i64 a.m, Value.int .i64 a.r, Value.int .i64 a.k, Value.int .i64 b.lo, Value.int .i64 b.hi, Value.int .i64 b.m, Value.int .i64 b.r, Value.int .i64 b.k, Value.int .i64 k], 72), (n1_1, #[Value.int .i64 0, Value.int .i64 0, Value.int .i64 0, Value.int .i64 0, Value.int .i64 0], 27)] := ⟨hB.1, hB.2.1, trivial⟩
  clear hF hA hz df d0 d1 d2 d3 d4 d5 d6 d7 hU
  have hz := hz'; have df := df'; clear hz' df'
  clear aF5
  show Code.wp _ _ _ _ _
  obtain ⟨m7, hM, hU, hwm⟩ := start_region hM.b hB
  refine region_run (F := pdiv_sb_r7_7 a b k n1_0 n1_1 w m7) [58, 59, 5] [0, 1, 2] hz df (by kernel_rfl) (by kernel_rfl) (fun s hs0 => ⟨hM, hB, Vals.none s _⟩) ?_ ?_
  refine FSteps.op3 hz rfl (dv := []) (by kernel_rfl) (by kernel_rfl) (by kernel_rfl) (fun D s W bA kK hD hW hF hA hK => ?_) ?_
  · have x6 := hA.o 6 _ rfl u6
    have hF := Lib.hid hF
    clear hA
    go_simp
    exact hK.out _ _ ⟨hF.out.zb, hF.out.zq, hF.out.zt.step rfl rfl⟩
  refine FSteps.op3 hz rfl (dv := [0]) (by kernel_rfl) (by kernel_rfl) (by kernel_rfl) (fun D s W bA kK hD hW hF hA hK => ?_) ?_
  · have x58 := hA.i 58 _ rfl rfl (hF.zt.get (j := 0) rfl hW.1)
    have hF := Lib.hid hF
    clear hA
    have hw1 : IntKind.i64.wrap (-(max (absS a.lo) (absS a.hi))) = -(max (absS a.lo) (absS a.hi)) := IntWalk.i64_in _ (by omega)
    go_simp
    exact hK.out _ _ ⟨hF.out.zb, hF.out.zq, hF.out.zt.step rfl rfl⟩
  refine FSteps.op3 hz rfl (dv := [1, 0, 1]) (by kernel_rfl) (by kernel_rfl) (by kernel_rfl) (fun D s W bA kK hD hW hF hA hK => ?_) ?_
  · have x59 := hA.i 59 _ rfl rfl (hF.zt.get (j := 1) rfl hW.1)
    have hF := Lib.hid hF
    clear hA
    go_simp
    exact hK.out _ _ ⟨hF.out.zb, hF.out.zq, hF.out.zt.step rfl rfl⟩
  exact FSteps.nil
  intro D s W aF7 hD hF hz' df' hA
  obtain ⟨d0, d1, d2, -⟩ := hD
  clear u5
  replace u1 : Sl aF7 1 _ := hA.o 1 _ rfl u1
  replace u2 : Sl aF7 2 _ := hA.o 2 _ rfl u2
  replace u6 : Sl aF7 6 _ := hA.o 6 _ rfl u6
  have u5 : Sl aF7 5 _ := hA.i 5 _ rfl rfl (hF.zt.get (j := 2) rfl d2)
  have hM := hF.zb
  have hB := hF.zq
  have hB : Bks W [(n1_0, #[Value.int .i64 a.lo, Value.int .i64 a.hi, Value.int .i64 a.m, Value.int .i64 a.r, Value.int .i64 a.k, Value.int .i64 b.lo, Value.int .i64 b.hi, Value.int .i64 b.m, Value.int .i64 b.r, Value.int .i64 b.k, Value.int .i64 k], 72), (n1_1, #[Value.int .i64 0, Value.int .i64 0, Value.int .i64 0, Value.int .i64 0, Value.int .i64 0], 27)] := ⟨hB.1, hB.2.1, trivial⟩
  clear hF hA hz df d0 d1 d2 hU
  have hz := hz'; have df := df'; clear hz' df'
  clear aF6
  show Code.wp _ _ _ _ _
  exact pdiv_tail k (-(max (absS a.lo) (absS a.hi))) (max (absS a.lo) (absS a.hi)) w (by omega) (by omega) (by omega) aF7 W n1_0 n1_1 hw_n1_1 (by omega) hz df u1 u2 u5 u6 hM.b ⟨hB.1, hB.2.1, trivial⟩

structure pdiv_sn_r0_1 (a b : Ab) (k : Int) (w : World) (m1 : Nat) (D : Nat → Bool) (s : Nat → Value) (W : World) : Prop where
  zb : Mk0 w m1 W
  zq : Bks W []
  zt : Vals D s []
  v0 : D 0 = true → s 1 = (Value.pointer (some ⟨pblk (s 1), 0, none⟩))
  v1 : D 1 = true → s 2 = (Value.pointer (some ⟨pblk (s 2), 0, none⟩))
  k0_0 : D 0 = true → Bk W (pblk (s 1)) #[Value.int .i64 a.lo, Value.int .i64 a.hi, Value.int .i64 a.m, Value.int .i64 a.r, Value.int .i64 a.k, Value.int .i64 b.lo, Value.int .i64 b.hi, Value.int .i64 b.m, Value.int .i64 b.r, Value.int .i64 b.k, Value.int .i64 k] 72
  g0 : D 0 = true → m1 ≤ (pblk (s 1))
  k1_0 : D 1 = true → Bk W (pblk (s 2)) #[Value.int .i64 0, Value.int .i64 0, Value.int .i64 0, Value.int .i64 0, Value.int .i64 0] 27
  g1 : D 1 = true → m1 ≤ (pblk (s 2))
  e0_1 : D 0 = true → D 1 = true → pblk (s 1) ≠ pblk (s 2)

structure pdiv_sn_r1_2 (a b : Ab) (k : Int) (n1_0 n1_1 : Nat) (w : World) (m2 : Nat) (D : Nat → Bool) (s : Nat → Value) (W : World) : Prop where
  zb : Mk0 w m2 W
  zq : Bks W [(n1_0, #[Value.int .i64 a.lo, Value.int .i64 a.hi, Value.int .i64 a.m, Value.int .i64 a.r, Value.int .i64 a.k, Value.int .i64 b.lo, Value.int .i64 b.hi, Value.int .i64 b.m, Value.int .i64 b.r, Value.int .i64 b.k, Value.int .i64 k], 72), (n1_1, #[Value.int .i64 0, Value.int .i64 0, Value.int .i64 0, Value.int .i64 0, Value.int .i64 0], 27)]
  zt : Vals D s [(0, 7, Value.pointer (some ⟨n1_0, 0, none⟩)), (1, 8, Value.agg #[Value.int .i64 a.lo, Value.int .i64 a.hi, Value.int .i64 a.m, Value.int .i64 a.r, Value.int .i64 a.k]), (2, 9, Value.pointer (some ⟨n1_0, 5, none⟩)), (3, 10, Value.agg #[Value.int .i64 b.lo, Value.int .i64 b.hi, Value.int .i64 b.m, Value.int .i64 b.r, Value.int .i64 b.k])]
  v4 : D 4 = true → s 3 = (Value.pointer (some ⟨pblk (s 3), 0, none⟩))
  v5 : D 5 = true → s 4 = (Value.pointer (some ⟨pblk (s 4), 0, none⟩))
  k4_0 : D 4 = true → D 6 = false → Bk W (pblk (s 3)) #[Value.int .i64 0, Value.int .i64 0, Value.int .i64 0, Value.int .i64 0, Value.int .i64 0] 27
  k4_1 : D 6 = true → Bk W (pblk (s 3)) #[Value.int .i64 a.lo, Value.int .i64 a.hi, Value.int .i64 a.m, Value.int .i64 a.r, Value.int .i64 a.k] 27
  c4_1 : D 6 = true → D 4 = true
  g4 : D 4 = true → m2 ≤ (pblk (s 3))
  k5_0 : D 5 = true → D 7 = false → Bk W (pblk (s 4)) #[Value.int .i64 0, Value.int .i64 0, Value.int .i64 0, Value.int .i64 0, Value.int .i64 0] 27
  k5_1 : D 7 = true → Bk W (pblk (s 4)) #[Value.int .i64 b.lo, Value.int .i64 b.hi, Value.int .i64 b.m, Value.int .i64 b.r, Value.int .i64 b.k] 27
  c5_1 : D 7 = true → D 5 = true
  g5 : D 5 = true → m2 ≤ (pblk (s 4))
  e4_5 : D 4 = true → D 5 = true → pblk (s 3) ≠ pblk (s 4)

structure pdiv_sn_r2_3 (a b : Ab) (k : Int) (n1_0 n1_1 n2_4 n2_5 : Nat) (w : World) (m3 : Nat) (D : Nat → Bool) (s : Nat → Value) (W : World) : Prop where
  zb : Mk0 w m3 W
  zq : Bks W [(n1_0, #[Value.int .i64 a.lo, Value.int .i64 a.hi, Value.int .i64 a.m, Value.int .i64 a.r, Value.int .i64 a.k, Value.int .i64 b.lo, Value.int .i64 b.hi, Value.int .i64 b.m, Value.int .i64 b.r, Value.int .i64 b.k, Value.int .i64 k], 72), (n1_1, #[Value.int .i64 0, Value.int .i64 0, Value.int .i64 0, Value.int .i64 0, Value.int .i64 0], 27), (n2_4, #[Value.int .i64 a.lo, Value.int .i64 a.hi, Value.int .i64 a.m, Value.int .i64 a.r, Value.int .i64 a.k], 27), (n2_5, #[Value.int .i64 b.lo, Value.int .i64 b.hi, Value.int .i64 b.m, Value.int .i64 b.r, Value.int .i64 b.k], 27)]
  zt : Vals D s [(0, 11, Value.pointer (some ⟨n2_4, 1, none⟩)), (1, 12, Value.int .i64 a.hi), (2, 5, Value.int .i64 0), (3, 6, Value.int .i64 a.hi)]

structure pdiv_sn_r3_4 (a b : Ab) (k : Int) (n1_0 n1_1 n2_4 n2_5 : Nat) (w : World) (m4 : Nat) (D : Nat → Bool) (s : Nat → Value) (W : World) : Prop where
  zb : Mk0 w m4 W
  zq : Bks W [(n1_0, #[Value.int .i64 a.lo, Value.int .i64 a.hi, Value.int .i64 a.m, Value.int .i64 a.r, Value.int .i64 a.k, Value.int .i64 b.lo, Value.int .i64 b.hi, Value.int .i64 b.m, Value.int .i64 b.r, Value.int .i64 b.k, Value.int .i64 k], 72), (n1_1, #[Value.int .i64 0, Value.int .i64 0, Value.int .i64 0, Value.int .i64 0, Value.int .i64 0], 27), (n2_4, #[Value.int .i64 a.lo, Value.int .i64 a.hi, Value.int .i64 a.m, Value.int .i64 a.r, Value.int .i64 a.k], 27), (n2_5, #[Value.int .i64 b.lo, Value.int .i64 b.hi, Value.int .i64 b.m, Value.int .i64 b.r, Value.int .i64 b.k], 27)]
  zt : Vals D s [(0, 13, Value.agg #[Value.int .i64 b.lo, Value.int .i64 b.hi, Value.int .i64 b.m, Value.int .i64 b.r, Value.int .i64 b.k]), (1, 14, Value.int .i64 (stepS b)), (2, 15, Value.bool false), (3, 16, Value.bool false), (4, 17, undef), (5, 18, undef), (6, 19, undef), (7, 20, Value.bool false)]

structure pdiv_sn_r5_5 (a b : Ab) (k : Int) (n1_0 n1_1 n2_4 n2_5 : Nat) (w : World) (m5 : Nat) (D : Nat → Bool) (s : Nat → Value) (W : World) : Prop where
  zb : Mk0 w m5 W
  zq : Bks W [(n1_0, #[Value.int .i64 a.lo, Value.int .i64 a.hi, Value.int .i64 a.m, Value.int .i64 a.r, Value.int .i64 a.k, Value.int .i64 b.lo, Value.int .i64 b.hi, Value.int .i64 b.m, Value.int .i64 b.r, Value.int .i64 b.k, Value.int .i64 k], 72), (n1_1, #[Value.int .i64 0, Value.int .i64 0, Value.int .i64 0, Value.int .i64 0, Value.int .i64 0], 27), (n2_4, #[Value.int .i64 a.lo, Value.int .i64 a.hi, Value.int .i64 a.m, Value.int .i64 a.r, Value.int .i64 a.k], 27), (n2_5, #[Value.int .i64 b.lo, Value.int .i64 b.hi, Value.int .i64 b.m, Value.int .i64 b.r, Value.int .i64 b.k], 27)]
  zt : Vals D s [(0, 43, Value.pointer (some ⟨n2_4, 0, none⟩)), (1, 44, Value.int .i64 a.lo), (2, 45, Value.bool false), (3, 46, Value.bool false), (4, 47, Value.pointer (some ⟨n2_5, 0, none⟩)), (5, 48, Value.int .i64 b.lo), (6, 49, Value.bool false), (7, 50, Value.bool false)]

set_option maxRecDepth 100000 in
set_option maxHeartbeats 4000000 in
theorem pdiv_sn {a b : Ab} (k : Int) (w : World) (ha : Good a) (hb : Good b) (hs : stepS b ≠ 0) (h5 : 0 ≤ a.lo) (h6 : 0 ≤ b.lo) :
    Calls Try.prog 77 #[Value.agg #[Value.int .i64 a.lo, Value.int .i64 a.hi, Value.int .i64 a.m, Value.int .i64 a.r, Value.int .i64 a.k, Value.int .i64 b.lo, Value.int .i64 b.hi, Value.int .i64 b.m, Value.int .i64 b.r, Value.int .i64 b.k, Value.int .i64 k]] w fun e w' => e = .returned (Value.agg #[Value.int .i64 (clampS 0 a.hi k).lo, Value.int .i64 (clampS 0 a.hi k).hi, Value.int .i64 (clampS 0 a.hi k).m, Value.int .i64 (clampS 0 a.hi k).r, Value.int .i64 (clampS 0 a.hi k).k]) ∧ Below w.heap.size w w' := by
  have a1 := ha.h1; have a2 := ha.h2; have a3 := ha.h3
  have b1 := hb.h1; have b2 := hb.h2; have b3 := hb.h3
  have sa := ha.step0; have sb := hb.step0
  replace hs := Lib.hid hs
  refine calls_go Try.func77 rfl 76 rfl rfl (fun aF hz df hu => ?_)
  have u0 : Sl aF 0 (Value.agg #[Value.int .i64 a.lo, Value.int .i64 a.hi, Value.int .i64 a.m, Value.int .i64 a.r, Value.int .i64 a.k, Value.int .i64 b.lo, Value.int .i64 b.hi, Value.int .i64 b.m, Value.int .i64 b.r, Value.int .i64 b.k, Value.int .i64 k]) := hu 0 _ rfl
  clear hu
  have hM : Mk0 w w.heap.size w := ⟨Below.refl _ _, Nat.le_refl _⟩
  have hB : Bks w [] := trivial
  refine wp_seq ?_
  obtain ⟨m1, hM, hU, hwm⟩ := start_region hM.b hB
  refine region_run (F := pdiv_sn_r0_1 a b k w m1) [1, 2] [0, 1] hz df (by kernel_rfl) (by kernel_rfl) (fun s hs0 => ⟨hM, hB, Vals.none s _, fun h => no_of' h, fun h => no_of' h, fun h => no_of' h, fun h => no_of' h, fun h => no_of' h, fun h => no_of' h, fun h => no_of' h⟩) ?_ ?_
  refine FSteps.op3 hz rfl (dv := []) (by kernel_rfl) (by kernel_rfl) (by kernel_rfl) (fun D s W bA kK hD hW hF hA hK => ?_) ?_
  · have x0 := hA.o 0 _ rfl u0
    have hF := Lib.hid hF
    clear hA
    go_simp
    exact hK.out _ _ ⟨hF.out.zb.al _, Bks.al _ hF.out.zq, hF.out.zt.skip rfl, fun _ => rfl, hF.out.v1, fun _ => Bk.new _ _ _, fun _ => hF.out.zb.g, fun h1 => (hF.out.k1_0 h1).al _, hF.out.g1, fun _ h => Nat.ne_of_gt ((hF.out.k1_0 h).lt)⟩
  refine FSteps.op3 hz rfl (dv := []) (by kernel_rfl) (by kernel_rfl) (by kernel_rfl) (fun D s W bA kK hD hW hF hA hK => ?_) ?_
  · have hF := Lib.hid hF
    clear hA
    go_simp
    exact hK.out _ _ ⟨hF.out.zb.al _, Bks.al _ hF.out.zq, hF.out.zt.skip rfl, hF.out.v0, fun _ => rfl, fun h1 => (hF.out.k0_0 h1).al _, hF.out.g0, fun _ => Bk.new _ _ _, fun _ => hF.out.zb.g, fun h _ => Nat.ne_of_lt ((hF.out.k0_0 h).lt)⟩
  exact FSteps.nil
  intro D s W aF1 hD hF hz' df' hA
  obtain ⟨d0, d1, -⟩ := hD
  clear u0
  have u1 : Sl aF1 1 _ := hA.i 1 _ rfl rfl (hF.v0 d0)
  have u2 : Sl aF1 2 _ := hA.i 2 _ rfl rfl (hF.v1 d1)
  have hkX0 := hF.k0_0 d0
  have hgX0 := hF.g0 d0
  have hkX1 := hF.k1_0 d1
  have hgX1 := hF.g1 d1
  have heX0_1 := hF.e0_1 d0 d1
  have hM := hF.zb
  have hB := hF.zq
  generalize pblk (s 1) = n1_0 at hkX0 hgX0 hkX1 hgX1 heX0_1 u1 u2
  generalize pblk (s 2) = n1_1 at hkX0 hgX0 hkX1 hgX1 heX0_1 u1 u2
  have hB : Bks W [(n1_0, #[Value.int .i64 a.lo, Value.int .i64 a.hi, Value.int .i64 a.m, Value.int .i64 a.r, Value.int .i64 a.k, Value.int .i64 b.lo, Value.int .i64 b.hi, Value.int .i64 b.m, Value.int .i64 b.r, Value.int .i64 b.k, Value.int .i64 k], 72), (n1_1, #[Value.int .i64 0, Value.int .i64 0, Value.int .i64 0, Value.int .i64 0, Value.int .i64 0], 27)] := ⟨hkX0, hkX1, trivial⟩
  have hw_n1_1 : w.heap.size ≤ n1_1 := Nat.le_trans hwm hgX1
  clear hF hA hz df d0 d1 hU
  have hz := hz'; have df := df'; clear hz' df'
  clear aF
  show Code.wp _ _ _ _ _
  refine wp_seq ?_
  obtain ⟨m2, hM, hU, hwm⟩ := start_region hM.b hB
  refine region_go (F := pdiv_sn_r1_2 a b k n1_0 n1_1 w m2) [7, 8, 9, 10, 3, 4] [0, 1, 2, 3, 4, 5, 6, 7] hz df (by kernel_rfl) (by kernel_rfl) (by kernel_rfl) (fun s hs0 => ⟨hM.drew, Bks.drew hB, Vals.none s _, fun h => no_of' h, fun h => no_of' h, fun h => no_of' h, fun h => no_of' h, fun h => no_of' h, fun h => no_of' h, fun h => no_of' h, fun h => no_of' h, fun h => no_of' h, fun h => no_of' h, fun h => no_of' h⟩) ?_ ?_
  refine FSteps.op3 hz rfl (dv := []) (by kernel_rfl) (by kernel_rfl) (by kernel_rfl) (fun D s W bA kK hD hW hF hA hK => ?_) ?_
  · have x1 := hA.o 1 _ rfl u1
    have hF := Lib.hid hF
    clear hA
    go_simp
    exact hK.out _ _ ⟨hF.out.zb, hF.out.zq, hF.out.zt.step rfl rfl, hF.out.v4, hF.out.v5, hF.out.k4_0, hF.out.k4_1, hF.out.c4_1, hF.out.g4, hF.out.k5_0, hF.out.k5_1, hF.out.c5_1, hF.out.g5, hF.out.e4_5⟩
  refine FSteps.op3 hz rfl (dv := [0]) (by kernel_rfl) (by kernel_rfl) (by kernel_rfl) (fun D s W bA kK hD hW hF hA hK => ?_) ?_
  · have x7 := hA.i 7 _ rfl rfl (hF.zt.get (j := 0) rfl hW.1)
    obtain ⟨⟨c0, z0⟩, -, -⟩ := hF.zq.rules
    have hF := Lib.hid hF
    clear hA
    go_simp
    exact hK.out _ _ ⟨hF.out.zb, hF.out.zq, hF.out.zt.step rfl rfl, hF.out.v4, hF.out.v5, hF.out.k4_0, hF.out.k4_1, hF.out.c4_1, hF.out.g4, hF.out.k5_0, hF.out.k5_1, hF.out.c5_1, hF.out.g5, hF.out.e4_5⟩
  refine FSteps.op3 hz rfl (dv := []) (by kernel_rfl) (by kernel_rfl) (by kernel_rfl) (fun D s W bA kK hD hW hF hA hK => ?_) ?_
  · have x1 := hA.o 1 _ rfl u1
    have hF := Lib.hid hF
    clear hA
    go_simp
    exact hK.out _ _ ⟨hF.out.zb, hF.out.zq, hF.out.zt.step rfl rfl, hF.out.v4, hF.out.v5, hF.out.k4_0, hF.out.k4_1, hF.out.c4_1, hF.out.g4, hF.out.k5_0, hF.out.k5_1, hF.out.c5_1, hF.out.g5, hF.out.e4_5⟩
  refine FSteps.op3 hz rfl (dv := [2]) (by kernel_rfl) (by kernel_rfl) (by kernel_rfl) (fun D s W bA kK hD hW hF hA hK => ?_) ?_
  · have x9 := hA.i 9 _ rfl rfl (hF.zt.get (j := 2) rfl hW.1)
    obtain ⟨⟨c0, z0⟩, -, -⟩ := hF.zq.rules
    have hF := Lib.hid hF
    clear hA
    go_simp
    exact hK.out _ _ ⟨hF.out.zb, hF.out.zq, hF.out.zt.step rfl rfl, hF.out.v4, hF.out.v5, hF.out.k4_0, hF.out.k4_1, hF.out.c4_1, hF.out.g4, hF.out.k5_0, hF.out.k5_1, hF.out.c5_1, hF.out.g5, hF.out.e4_5⟩
  refine FSteps.op3 hz rfl (dv := []) (by kernel_rfl) (by kernel_rfl) (by kernel_rfl) (fun D s W bA kK hD hW hF hA hK => ?_) ?_
  · have hF := Lib.hid hF
    clear hA
    go_simp
    exact hK.out _ _ ⟨hF.out.zb.al _, Bks.al _ hF.out.zq, hF.out.zt.skip rfl, fun _ => rfl, hF.out.v5, fun _ _ => Bk.new _ _ _, fun h1 => absurd (hF.out.c4_1 h1) (by rw [hD]; decide), fun _ => rfl, fun _ => hF.out.zb.g, fun h1 h2 => (hF.out.k5_0 h1 h2).al _, fun h1 => (hF.out.k5_1 h1).al _, hF.out.c5_1, hF.out.g5, fun _ h => Nat.ne_of_gt (lt_of_either (hF.out.k5_0 h) hF.out.k5_1)⟩
  refine FSteps.op3 hz rfl (dv := []) (by kernel_rfl) (by kernel_rfl) (by kernel_rfl) (fun D s W bA kK hD hW hF hA hK => ?_) ?_
  · have hF := Lib.hid hF
    clear hA
    go_simp
    exact hK.out _ _ ⟨hF.out.zb.al _, Bks.al _ hF.out.zq, hF.out.zt.skip rfl, hF.out.v4, fun _ => rfl, fun h1 h2 => (hF.out.k4_0 h1 h2).al _, fun h1 => (hF.out.k4_1 h1).al _, hF.out.c4_1, hF.out.g4, fun _ _ => Bk.new _ _ _, fun h1 => absurd (hF.out.c5_1 h1) (by rw [hD]; decide), fun _ => rfl, fun _ => hF.out.zb.g, fun h _ => Nat.ne_of_lt (lt_of_either (hF.out.k4_0 h) hF.out.k4_1)⟩
  refine FSteps.op3 hz rfl (dv := [4, 1, 0, 1, 4, 5]) (by kernel_rfl) (by kernel_rfl) (by kernel_rfl) (fun D s W bA kK hD hW hF hA hK => ?_) ?_
  · have x3 := hA.i 3 _ rfl rfl (hF.v4 hW.1)
    have x8 := hA.i 8 _ rfl rfl (hF.zt.get (j := 1) rfl hW.2.1)
    have kk := hF.k4_0 hW.1 hD
    have hge := Nat.le_trans hwm (hF.g4 hW.1); have hge2 := hF.g4 hW.1
    have kc := kk.cell; have kf := kk.free
    have hF := Lib.hid hF
    have kk := Lib.hid kk; have hge := Lib.hid hge; have hge2 := Lib.hid hge2
    clear hA
    go_simp
    exact hK.out undef _ ⟨hF.out.zb.sAll (hge.out) 0 [Value.int .i64 a.lo, Value.int .i64 a.hi, Value.int .i64 a.m, Value.int .i64 a.r, Value.int .i64 a.k], Bks.oAll [Value.int .i64 a.lo, Value.int .i64 a.hi, Value.int .i64 a.m, Value.int .i64 a.r, Value.int .i64 a.k] 0 (Under.outside hge2.out hU) hF.out.zq, hF.out.zt.skip rfl, hF.out.v4, hF.out.v5, fun h1 h2 => no_of h2, fun _ => kk.out.full [Value.int .i64 a.lo, Value.int .i64 a.hi, Value.int .i64 a.m, Value.int .i64 a.r, Value.int .i64 a.k] rfl, fun _ => hW.1, hF.out.g4, fun h1 h2 => Bk.oAll ((hF.out.e4_5 hW.1 h1).symm) [Value.int .i64 a.lo, Value.int .i64 a.hi, Value.int .i64 a.m, Value.int .i64 a.r, Value.int .i64 a.k] 0 (hF.out.k5_0 h1 h2), fun h1 => Bk.oAll ((hF.out.e4_5 hW.1 (hF.out.c5_1 h1)).symm) [Value.int .i64 a.lo, Value.int .i64 a.hi, Value.int .i64 a.m, Value.int .i64 a.r, Value.int .i64 a.k] 0 (hF.out.k5_1 h1), hF.out.c5_1, hF.out.g5, hF.out.e4_5⟩
  refine FSteps.op3 hz rfl (dv := [5, 3, 6, 0, 1, 2, 3, 4, 5, 6]) (by kernel_rfl) (by kernel_rfl) (by kernel_rfl) (fun D s W bA kK hD hW hF hA hK => ?_) ?_
  · have x4 := hA.i 4 _ rfl rfl (hF.v5 hW.1)
    have x10 := hA.i 10 _ rfl rfl (hF.zt.get (j := 3) rfl hW.2.1)
    have kk := hF.k5_0 hW.1 hD
    have hge := Nat.le_trans hwm (hF.g5 hW.1); have hge2 := hF.g5 hW.1
    have kc := kk.cell; have kf := kk.free
    have hF := Lib.hid hF
    have kk := Lib.hid kk; have hge := Lib.hid hge; have hge2 := Lib.hid hge2
    clear hA
    go_simp
    exact hK.out undef _ ⟨hF.out.zb.sAll (hge.out) 0 [Value.int .i64 b.lo, Value.int .i64 b.hi, Value.int .i64 b.m, Value.int .i64 b.r, Value.int .i64 b.k], Bks.oAll [Value.int .i64 b.lo, Value.int .i64 b.hi, Value.int .i64 b.m, Value.int .i64 b.r, Value.int .i64 b.k] 0 (Under.outside hge2.out hU) hF.out.zq, hF.out.zt.skip rfl, hF.out.v4, hF.out.v5, fun h1 h2 => Bk.oAll (hF.out.e4_5 h1 hW.1) [Value.int .i64 b.lo, Value.int .i64 b.hi, Value.int .i64 b.m, Value.int .i64 b.r, Value.int .i64 b.k] 0 (hF.out.k4_0 h1 h2), fun h1 => Bk.oAll (hF.out.e4_5 (hF.out.c4_1 h1) hW.1) [Value.int .i64 b.lo, Value.int .i64 b.hi, Value.int .i64 b.m, Value.int .i64 b.r, Value.int .i64 b.k] 0 (hF.out.k4_1 h1), hF.out.c4_1, hF.out.g4, fun h1 h2 => no_of h2, fun _ => kk.out.full [Value.int .i64 b.lo, Value.int .i64 b.hi, Value.int .i64 b.m, Value.int .i64 b.r, Value.int .i64 b.k] rfl, fun _ => hW.1, hF.out.g5, hF.out.e4_5⟩
  exact FSteps.nil
  intro D s W aF2 hD hF hz' df' hA
  obtain ⟨d0, d1, d2, d3, d4, d5, d6, d7, -⟩ := hD
  replace u1 : Sl aF2 1 _ := hA.o 1 _ rfl u1
  replace u2 : Sl aF2 2 _ := hA.o 2 _ rfl u2
  have u3 : Sl aF2 3 _ := hA.i 3 _ rfl rfl (hF.v4 d4)
  have u4 : Sl aF2 4 _ := hA.i 4 _ rfl rfl (hF.v5 d5)
  have hkX4 := hF.k4_1 d6
  have hgX4 := hF.g4 d4
  have hkX5 := hF.k5_1 d7
  have hgX5 := hF.g5 d5
  have heX4_5 := hF.e4_5 d4 d5
  have hM := hF.zb
  have hB := hF.zq
  generalize pblk (s 3) = n2_4 at hkX4 hgX4 hkX5 hgX5 heX4_5 u3 u4
  generalize pblk (s 4) = n2_5 at hkX4 hgX4 hkX5 hgX5 heX4_5 u3 u4
  have hB : Bks W [(n1_0, #[Value.int .i64 a.lo, Value.int .i64 a.hi, Value.int .i64 a.m, Value.int .i64 a.r, Value.int .i64 a.k, Value.int .i64 b.lo, Value.int .i64 b.hi, Value.int .i64 b.m, Value.int .i64 b.r, Value.int .i64 b.k, Value.int .i64 k], 72), (n1_1, #[Value.int .i64 0, Value.int .i64 0, Value.int .i64 0, Value.int .i64 0, Value.int .i64 0], 27), (n2_4, #[Value.int .i64 a.lo, Value.int .i64 a.hi, Value.int .i64 a.m, Value.int .i64 a.r, Value.int .i64 a.k], 27), (n2_5, #[Value.int .i64 b.lo, Value.int .i64 b.hi, Value.int .i64 b.m, Value.int .i64 b.r, Value.int .i64 b.k], 27)] := ⟨hB.1, hB.2.1, hkX4, hkX5, trivial⟩
  obtain ⟨hl_0, hl_1, -⟩ := hU
  have hne_n1_1_n2_4 : n1_1 ≠ n2_4 := by omega
  have hne_n1_1_n2_5 : n1_1 ≠ n2_5 := by omega
  clear hF hA hz df d0 d1 d2 d3 d4 d5 d6 d7 
  have hz := hz'; have df := df'; clear hz' df'
  clear aF1
  show Code.wp _ _ _ _ _
  refine wp_seq ?_
  obtain ⟨m3, hM, hU, hwm⟩ := start_region hM.b hB
  refine region_go (F := pdiv_sn_r2_3 a b k n1_0 n1_1 n2_4 n2_5 w m3) [11, 12, 5, 6] [0, 1, 2, 3] hz df (by kernel_rfl) (by kernel_rfl) (by kernel_rfl) (fun s hs0 => ⟨hM.drew, Bks.drew hB, Vals.none s _⟩) ?_ ?_
  refine FSteps.op3 hz rfl (dv := []) (by kernel_rfl) (by kernel_rfl) (by kernel_rfl) (fun D s W bA kK hD hW hF hA hK => ?_) ?_
  · have x3 := hA.o 3 _ rfl u3
    have hF := Lib.hid hF
    clear hA
    go_simp
    exact hK.out _ _ ⟨hF.out.zb, hF.out.zq, hF.out.zt.step rfl rfl⟩
  refine FSteps.op3 hz rfl (dv := [0]) (by kernel_rfl) (by kernel_rfl) (by kernel_rfl) (fun D s W bA kK hD hW hF hA hK => ?_) ?_
  · have x11 := hA.i 11 _ rfl rfl (hF.zt.get (j := 0) rfl hW.1)
    obtain ⟨-, -, ⟨c2, z2⟩, -, -⟩ := hF.zq.rules
    have hF := Lib.hid hF
    clear hA
    go_simp
    exact hK.out _ _ ⟨hF.out.zb, hF.out.zq, hF.out.zt.step rfl rfl⟩
  refine FSteps.op3 hz rfl (dv := []) (by kernel_rfl) (by kernel_rfl) (by kernel_rfl) (fun D s W bA kK hD hW hF hA hK => ?_) ?_
  · have hF := Lib.hid hF
    clear hA
    go_simp
    exact hK.out _ _ ⟨hF.out.zb, hF.out.zq, hF.out.zt.step rfl rfl⟩
  refine FSteps.op3 hz rfl (dv := [1, 2, 0, 1, 2]) (by kernel_rfl) (by kernel_rfl) (by kernel_rfl) (fun D s W bA kK hD hW hF hA hK => ?_) ?_
  · have x12 := hA.i 12 _ rfl rfl (hF.zt.get (j := 1) rfl hW.1)
    have hF := Lib.hid hF
    clear hA
    go_simp
    exact hK.out _ _ ⟨hF.out.zb, hF.out.zq, hF.out.zt.step rfl rfl⟩
  exact FSteps.nil
  intro D s W aF3 hD hF hz' df' hA
  obtain ⟨d0, d1, d2, d3, -⟩ := hD
  replace u1 : Sl aF3 1 _ := hA.o 1 _ rfl u1
  replace u2 : Sl aF3 2 _ := hA.o 2 _ rfl u2
  replace u3 : Sl aF3 3 _ := hA.o 3 _ rfl u3
  replace u4 : Sl aF3 4 _ := hA.o 4 _ rfl u4
  have u5 : Sl aF3 5 _ := hA.i 5 _ rfl rfl (hF.zt.get (j := 2) rfl d2)
  have u6 : Sl aF3 6 _ := hA.i 6 _ rfl rfl (hF.zt.get (j := 3) rfl d3)
  have hM := hF.zb
  have hB := hF.zq
  have hB : Bks W [(n1_0, #[Value.int .i64 a.lo, Value.int .i64 a.hi, Value.int .i64 a.m, Value.int .i64 a.r, Value.int .i64 a.k, Value.int .i64 b.lo, Value.int .i64 b.hi, Value.int .i64 b.m, Value.int .i64 b.r, Value.int .i64 b.k, Value.int .i64 k], 72), (n1_1, #[Value.int .i64 0, Value.int .i64 0, Value.int .i64 0, Value.int .i64 0, Value.int .i64 0], 27), (n2_4, #[Value.int .i64 a.lo, Value.int .i64 a.hi, Value.int .i64 a.m, Value.int .i64 a.r, Value.int .i64 a.k], 27), (n2_5, #[Value.int .i64 b.lo, Value.int .i64 b.hi, Value.int .i64 b.m, Value.int .i64 b.r, Value.int .i64 b.k], 27)] := ⟨hB.1, hB.2.1, hB.2.2.1, hB.2.2.2.1, trivial⟩
  clear hF hA hz df d0 d1 d2 d3 hU
  have hz := hz'; have df := df'; clear hz' df'
  clear aF2
  show Code.wp _ _ _ _ _
  refine wp_seq ?_
  refine wp_seq ?_
  obtain ⟨m4, hM, hU, hwm⟩ := start_region hM.b hB
  refine region_run (F := pdiv_sn_r3_4 a b k n1_0 n1_1 n2_4 n2_5 w m4) [13, 14, 15, 16, 17, 18, 19, 20] [0, 1, 2, 3, 4, 5, 6, 7] hz df (by kernel_rfl) (by kernel_rfl) (fun s hs0 => ⟨hM, hB, Vals.none s _⟩) ?_ ?_
  refine FSteps.op3 hz rfl (dv := []) (by kernel_rfl) (by kernel_rfl) (by kernel_rfl) (fun D s W bA kK hD hW hF hA hK => ?_) ?_
  · have x4 := hA.o 4 _ rfl u4
    obtain ⟨-, -, -, ⟨c3, z3⟩, -⟩ := hF.zq.rules
    have hF := Lib.hid hF
    clear hA
    go_simp
    exact hK.out _ _ ⟨hF.out.zb, hF.out.zq, hF.out.zt.step rfl rfl⟩
  refine FSteps.op3 hz rfl (dv := [0]) (by kernel_rfl) (by kernel_rfl) (by kernel_rfl) (fun D s W bA kK hD hW hF hA hK => ?_) ?_
  · have x13 := hA.i 13 _ rfl rfl (hF.zt.get (j := 0) rfl hW.1)
    have hF := Lib.hid hF
    clear hA
    go_simp
    (go_at_call 44; ((with_reducible_and_instances refine (step_ab b _).mono ?_)); rintro e W1 ⟨rfl, hb⟩; (try unfold abVal))
    (try go_wp2_with fail)
    exact hK.out _ _ ⟨hF.out.zb.on hb, Bks.on hb hF.out.zq, hF.out.zt.step rfl rfl⟩
  refine FSteps.op3 hz rfl (dv := [1]) (by kernel_rfl) (by kernel_rfl) (by kernel_rfl) (fun D s W bA kK hD hW hF hA hK => ?_) ?_
  · have x14 := hA.i 14 _ rfl rfl (hF.zt.get (j := 1) rfl hW.1)
    have hF := Lib.hid hF
    clear hA
    have hd2 : ((stepS b) == 0) = false := beq_eq_false_iff_ne.2 (by exact hs.out)
    go_simp
    exact hK.out _ _ ⟨hF.out.zb, hF.out.zq, hF.out.zt.step rfl rfl⟩
  refine FSteps.op3 hz rfl (dv := [2, 1]) (by kernel_rfl) (by kernel_rfl) (by kernel_rfl) (fun D s W bA kK hD hW hF hA hK => ?_) ?_
  · have x15 := hA.i 15 _ rfl rfl (hF.zt.get (j := 2) rfl hW.1)
    have hF := Lib.hid hF
    clear hA
    go_simp
    exact hK.out _ _ ⟨hF.out.zb, hF.out.zq, hF.out.zt.step rfl rfl⟩
  refine FSteps.no3 (bv := true) hz rfl (dv := [3]) (by kernel_rfl) rfl (by kernel_rfl) (by kernel_rfl) (fun D s W hW hF => (hF.zt.get (j := 3) rfl hW.1)) (by kernel_rfl) (by kernel_rfl) (fun D s W hD hF => ⟨hF.zb, hF.zq, hF.zt.step rfl rfl⟩) ?_
  refine FSteps.no3 (bv := true) hz rfl (dv := [4, 3]) (by kernel_rfl) rfl (by kernel_rfl) (by kernel_rfl) (fun D s W hW hF => (hF.zt.get (j := 3) rfl hW.2.1)) (by kernel_rfl) (by kernel_rfl) (fun D s W hD hF => ⟨hF.zb, hF.zq, hF.zt.step rfl rfl⟩) ?_
  refine FSteps.no3 (bv := true) hz rfl (dv := [5, 3]) (by kernel_rfl) rfl (by kernel_rfl) (by kernel_rfl) (fun D s W hW hF => (hF.zt.get (j := 3) rfl hW.2.1)) (by kernel_rfl) (by kernel_rfl) (fun D s W hD hF => ⟨hF.zb, hF.zq, hF.zt.step rfl rfl⟩) ?_
  refine FSteps.op3 hz rfl (dv := [3, 6]) (by kernel_rfl) (by kernel_rfl) (by kernel_rfl) (fun D s W bA kK hD hW hF hA hK => ?_) ?_
  · have x16 := hA.i 16 _ rfl rfl (hF.zt.get (j := 3) rfl hW.1)
    have x19 := hA.i 19 _ rfl rfl (hF.zt.get (j := 6) rfl hW.2.1)
    have hF := Lib.hid hF
    clear hA
    go_simp
    exact hK.out _ _ ⟨hF.out.zb, hF.out.zq, hF.out.zt.step rfl rfl⟩
  exact FSteps.nil
  intro D s W aF4 hD hF hz' df' hA
  obtain ⟨d0, d1, d2, d3, d4, d5, d6, d7, -⟩ := hD
  replace u1 : Sl aF4 1 _ := hA.o 1 _ rfl u1
  replace u2 : Sl aF4 2 _ := hA.o 2 _ rfl u2
  replace u3 : Sl aF4 3 _ := hA.o 3 _ rfl u3
  replace u4 : Sl aF4 4 _ := hA.o 4 _ rfl u4
  replace u5 : Sl aF4 5 _ := hA.o 5 _ rfl u5
  replace u6 : Sl aF4 6 _ := hA.o 6 _ rfl u6
  have u20 : Sl aF4 20 _ := hA.i 20 _ rfl rfl (hF.zt.get (j := 7) rfl d7)
  have hM := hF.zb
  have hB := hF.zq
  have hB : Bks W [(n1_0, #[Value.int .i64 a.lo, Value.int .i64 a.hi, Value.int .i64 a.m, Value.int .i64 a.r, Value.int .i64 a.k, Value.int .i64 b.lo, Value.int .i64 b.hi, Value.int .i64 b.m, Value.int .i64 b.r, Value.int .i64 b.k, Value.int .i64 k], 72), (n1_1, #[Value.int .i64 0, Value.int .i64 0, Value.int .i64 0, Value.int .i64 0, Value.int .i64 0], 27), (n2_4, #[Value.int .i64 a.lo, Value.int .i64 a.hi, Value.int .i64 a.m, Value.int .i64 a.r, Value.int .i64 a.k], 27), (n2_5, #[Value.int .i64 b.lo, Value.int .i64 b.hi, Value.int .i64 b.m, Value.int .i64 b.r, Value.int .i64 b.k], 27)] := ⟨hB.1, hB.2.1, hB.2.2.1, hB.2.2.2.1, trivial⟩
  clear hF hA hz df d0 d1 d2 d3 d4 d5 d6 d7 hU
  have hz := hz'; have df := df'; clear hz' df'
  clear aF3
  show Code.wp _ _ _ _ _
  refine cond_f u20 ?_
  refine wp_seq ?_
  obtain ⟨m5, hM, hU, hwm⟩ := start_region hM.b hB
  refine region_run (F := pdiv_sn_r5_5 a b k n1_0 n1_1 n2_4 n2_5 w m5) [43, 44, 45, 46, 47, 48, 49, 50] [0, 1, 2, 3, 4, 5, 6, 7] hz df (by kernel_rfl) (by kernel_rfl) (fun s hs0 => ⟨hM, hB, Vals.none s _⟩) ?_ ?_
  refine FSteps.op3 hz rfl (dv := []) (by kernel_rfl) (by kernel_rfl) (by kernel_rfl) (fun D s W bA kK hD hW hF hA hK => ?_) ?_
  · have x3 := hA.o 3 _ rfl u3
    have hF := Lib.hid hF
    clear hA
    go_simp
    exact hK.out _ _ ⟨hF.out.zb, hF.out.zq, hF.out.zt.step rfl rfl⟩
  refine FSteps.op3 hz rfl (dv := [0]) (by kernel_rfl) (by kernel_rfl) (by kernel_rfl) (fun D s W bA kK hD hW hF hA hK => ?_) ?_
  · have x43 := hA.i 43 _ rfl rfl (hF.zt.get (j := 0) rfl hW.1)
    obtain ⟨-, -, ⟨c2, z2⟩, -, -⟩ := hF.zq.rules
    have hF := Lib.hid hF
    clear hA
    go_simp
    exact hK.out _ _ ⟨hF.out.zb, hF.out.zq, hF.out.zt.step rfl rfl⟩
  refine FSteps.op3 hz rfl (dv := [1]) (by kernel_rfl) (by kernel_rfl) (by kernel_rfl) (fun D s W bA kK hD hW hF hA hK => ?_) ?_
  · have x44 := hA.i 44 _ rfl rfl (hF.zt.get (j := 1) rfl hW.1)
    have hF := Lib.hid hF
    clear hA
    have hd2 : decide (a.lo < 0) = false := decide_eq_false (by omega)
    go_simp
    exact hK.out _ _ ⟨hF.out.zb, hF.out.zq, hF.out.zt.step rfl rfl⟩
  refine FSteps.op3 hz rfl (dv := [2]) (by kernel_rfl) (by kernel_rfl) (by kernel_rfl) (fun D s W bA kK hD hW hF hA hK => ?_) ?_
  · have x45 := hA.i 45 _ rfl rfl (hF.zt.get (j := 2) rfl hW.1)
    have hF := Lib.hid hF
    clear hA
    go_simp
    exact hK.out _ _ ⟨hF.out.zb, hF.out.zq, hF.out.zt.step rfl rfl⟩
  refine FSteps.yes3 (bv := false) hz rfl (dv := [3]) (by kernel_rfl) rfl (by kernel_rfl) (by kernel_rfl) (fun D s W hW hF => (hF.zt.get (j := 3) rfl hW.1)) (by kernel_rfl) (by kernel_rfl) (fun D s W bA kK hD hW hF hA hK => ?_) ?_
  · have x4 := hA.o 4 _ rfl u4
    have hF := Lib.hid hF
    clear hA
    go_simp
    exact hK.out _ _ ⟨hF.out.zb, hF.out.zq, hF.out.zt.step rfl rfl⟩
  refine FSteps.yes3 (bv := false) hz rfl (dv := [4, 3]) (by kernel_rfl) rfl (by kernel_rfl) (by kernel_rfl) (fun D s W hW hF => (hF.zt.get (j := 3) rfl hW.2.1)) (by kernel_rfl) (by kernel_rfl) (fun D s W bA kK hD hW hF hA hK => ?_) ?_
  · have x47 := hA.i 47 _ rfl rfl (hF.zt.get (j := 4) rfl hW.1)
    obtain ⟨-, -, -, ⟨c3, z3⟩, -⟩ := hF.zq.rules
    have hF := Lib.hid hF
    clear hA
    go_simp
    exact hK.out _ _ ⟨hF.out.zb, hF.out.zq, hF.out.zt.step rfl rfl⟩
  refine FSteps.yes3 (bv := false) hz rfl (dv := [5, 3]) (by kernel_rfl) rfl (by kernel_rfl) (by kernel_rfl) (fun D s W hW hF => (hF.zt.get (j := 3) rfl hW.2.1)) (by kernel_rfl) (by kernel_rfl) (fun D s W bA kK hD hW hF hA hK => ?_) ?_
  · have x48 := hA.i 48 _ rfl rfl (hF.zt.get (j := 5) rfl hW.1)
    have hF := Lib.hid hF
    clear hA
    have hd6 : decide (b.lo < 0) = false := decide_eq_false (by omega)
    go_simp
    exact hK.out _ _ ⟨hF.out.zb, hF.out.zq, hF.out.zt.step rfl rfl⟩
  refine FSteps.op3 hz rfl (dv := [3, 6]) (by kernel_rfl) (by kernel_rfl) (by kernel_rfl) (fun D s W bA kK hD hW hF hA hK => ?_) ?_
  · have x46 := hA.i 46 _ rfl rfl (hF.zt.get (j := 3) rfl hW.1)
    have x49 := hA.i 49 _ rfl rfl (hF.zt.get (j := 6) rfl hW.2.1)
    have hF := Lib.hid hF
    clear hA
    go_simp
    exact hK.out _ _ ⟨hF.out.zb, hF.out.zq, hF.out.zt.step rfl rfl⟩
  exact FSteps.nil
  intro D s W aF5 hD hF hz' df' hA
  obtain ⟨d0, d1, d2, d3, d4, d5, d6, d7, -⟩ := hD
  clear u4 u20
  replace u1 : Sl aF5 1 _ := hA.o 1 _ rfl u1
  replace u2 : Sl aF5 2 _ := hA.o 2 _ rfl u2
  replace u3 : Sl aF5 3 _ := hA.o 3 _ rfl u3
  replace u5 : Sl aF5 5 _ := hA.o 5 _ rfl u5
  replace u6 : Sl aF5 6 _ := hA.o 6 _ rfl u6
  have u50 : Sl aF5 50 _ := hA.i 50 _ rfl rfl (hF.zt.get (j := 7) rfl d7)
  have hM := hF.zb
  have hB := hF.zq
  have hB : Bks W [(n1_0, #[Value.int .i64 a.lo, Value.int .i64 a.hi, Value.int .i64 a.m, Value.int .i64 a.r, Value.int .i64 a.k, Value.int .i64 b.lo, Value.int .i64 b.hi, Value.int .i64 b.m, Value.int .i64 b.r, Value.int .i64 b.k, Value.int .i64 k], 72), (n1_1, #[Value.int .i64 0, Value.int .i64 0, Value.int .i64 0, Value.int .i64 0, Value.int .i64 0], 27), (n2_4, #[Value.int .i64 a.lo, Value.int .i64 a.hi, Value.int .i64 a.m, Value.int .i64 a.r, Value.int .i64 a.k], 27)] := ⟨hB.1, hB.2.1, hB.2.2.1, trivial⟩
  clear hF hA hz df d0 d1 d2 d3 d4 d5 d6 d7 hU
  have hz := hz'; have df := df'; clear hz' df'
  clear aF4
  show Code.wp _ _ _ _ _
  refine cond_f u50 ?_
  refine wp_skip ?_
  show Code.wp _ _ _ _ _
  exact pdiv_tail k 0 a.hi w (by omega) (by omega) (by omega) aF5 W n1_0 n1_1 hw_n1_1 (by omega) hz df u1 u2 u5 u6 hM.b ⟨hB.1, hB.2.1, trivial⟩

structure pdiv_za_r0_1 (a b : Ab) (k : Int) (w : World) (m1 : Nat) (D : Nat → Bool) (s : Nat → Value) (W : World) : Prop where
  zb : Mk0 w m1 W
  zq : Bks W []
  zt : Vals D s []
  v0 : D 0 = true → s 1 = (Value.pointer (some ⟨pblk (s 1), 0, none⟩))
  v1 : D 1 = true → s 2 = (Value.pointer (some ⟨pblk (s 2), 0, none⟩))
  k0_0 : D 0 = true → Bk W (pblk (s 1)) #[Value.int .i64 a.lo, Value.int .i64 a.hi, Value.int .i64 a.m, Value.int .i64 a.r, Value.int .i64 a.k, Value.int .i64 b.lo, Value.int .i64 b.hi, Value.int .i64 b.m, Value.int .i64 b.r, Value.int .i64 b.k, Value.int .i64 k] 72
  g0 : D 0 = true → m1 ≤ (pblk (s 1))
  k1_0 : D 1 = true → Bk W (pblk (s 2)) #[Value.int .i64 0, Value.int .i64 0, Value.int .i64 0, Value.int .i64 0, Value.int .i64 0] 27
  g1 : D 1 = true → m1 ≤ (pblk (s 2))
  e0_1 : D 0 = true → D 1 = true → pblk (s 1) ≠ pblk (s 2)

structure pdiv_za_r1_2 (a b : Ab) (k : Int) (n1_0 n1_1 : Nat) (w : World) (m2 : Nat) (D : Nat → Bool) (s : Nat → Value) (W : World) : Prop where
  zb : Mk0 w m2 W
  zq : Bks W [(n1_0, #[Value.int .i64 a.lo, Value.int .i64 a.hi, Value.int .i64 a.m, Value.int .i64 a.r, Value.int .i64 a.k, Value.int .i64 b.lo, Value.int .i64 b.hi, Value.int .i64 b.m, Value.int .i64 b.r, Value.int .i64 b.k, Value.int .i64 k], 72), (n1_1, #[Value.int .i64 0, Value.int .i64 0, Value.int .i64 0, Value.int .i64 0, Value.int .i64 0], 27)]
  zt : Vals D s [(0, 7, Value.pointer (some ⟨n1_0, 0, none⟩)), (1, 8, Value.agg #[Value.int .i64 a.lo, Value.int .i64 a.hi, Value.int .i64 a.m, Value.int .i64 a.r, Value.int .i64 a.k]), (2, 9, Value.pointer (some ⟨n1_0, 5, none⟩)), (3, 10, Value.agg #[Value.int .i64 b.lo, Value.int .i64 b.hi, Value.int .i64 b.m, Value.int .i64 b.r, Value.int .i64 b.k])]
  v4 : D 4 = true → s 3 = (Value.pointer (some ⟨pblk (s 3), 0, none⟩))
  v5 : D 5 = true → s 4 = (Value.pointer (some ⟨pblk (s 4), 0, none⟩))
  k4_0 : D 4 = true → D 6 = false → Bk W (pblk (s 3)) #[Value.int .i64 0, Value.int .i64 0, Value.int .i64 0, Value.int .i64 0, Value.int .i64 0] 27
  k4_1 : D 6 = true → Bk W (pblk (s 3)) #[Value.int .i64 a.lo, Value.int .i64 a.hi, Value.int .i64 a.m, Value.int .i64 a.r, Value.int .i64 a.k] 27
  c4_1 : D 6 = true → D 4 = true
  g4 : D 4 = true → m2 ≤ (pblk (s 3))
  k5_0 : D 5 = true → D 7 = false → Bk W (pblk (s 4)) #[Value.int .i64 0, Value.int .i64 0, Value.int .i64 0, Value.int .i64 0, Value.int .i64 0] 27
  k5_1 : D 7 = true → Bk W (pblk (s 4)) #[Value.int .i64 b.lo, Value.int .i64 b.hi, Value.int .i64 b.m, Value.int .i64 b.r, Value.int .i64 b.k] 27
  c5_1 : D 7 = true → D 5 = true
  g5 : D 5 = true → m2 ≤ (pblk (s 4))
  e4_5 : D 4 = true → D 5 = true → pblk (s 3) ≠ pblk (s 4)

structure pdiv_za_r2_3 (a b : Ab) (k : Int) (n1_0 n1_1 n2_4 n2_5 : Nat) (w : World) (m3 : Nat) (D : Nat → Bool) (s : Nat → Value) (W : World) : Prop where
  zb : Mk0 w m3 W
  zq : Bks W [(n1_0, #[Value.int .i64 a.lo, Value.int .i64 a.hi, Value.int .i64 a.m, Value.int .i64 a.r, Value.int .i64 a.k, Value.int .i64 b.lo, Value.int .i64 b.hi, Value.int .i64 b.m, Value.int .i64 b.r, Value.int .i64 b.k, Value.int .i64 k], 72), (n1_1, #[Value.int .i64 0, Value.int .i64 0, Value.int .i64 0, Value.int .i64 0, Value.int .i64 0], 27), (n2_4, #[Value.int .i64 a.lo, Value.int .i64 a.hi, Value.int .i64 a.m, Value.int .i64 a.r, Value.int .i64 a.k], 27), (n2_5, #[Value.int .i64 b.lo, Value.int .i64 b.hi, Value.int .i64 b.m, Value.int .i64 b.r, Value.int .i64 b.k], 27)]
  zt : Vals D s [(0, 11, Value.pointer (some ⟨n2_4, 1, none⟩)), (1, 12, Value.int .i64 a.hi), (2, 5, Value.int .i64 0), (3, 6, Value.int .i64 a.hi)]

structure pdiv_za_r3_4 (a b : Ab) (k : Int) (n1_0 n1_1 n2_4 n2_5 : Nat) (w : World) (m4 : Nat) (D : Nat → Bool) (s : Nat → Value) (W : World) : Prop where
  zb : Mk0 w m4 W
  zq : Bks W [(n1_0, #[Value.int .i64 a.lo, Value.int .i64 a.hi, Value.int .i64 a.m, Value.int .i64 a.r, Value.int .i64 a.k, Value.int .i64 b.lo, Value.int .i64 b.hi, Value.int .i64 b.m, Value.int .i64 b.r, Value.int .i64 b.k, Value.int .i64 k], 72), (n1_1, #[Value.int .i64 0, Value.int .i64 0, Value.int .i64 0, Value.int .i64 0, Value.int .i64 0], 27), (n2_4, #[Value.int .i64 a.lo, Value.int .i64 a.hi, Value.int .i64 a.m, Value.int .i64 a.r, Value.int .i64 a.k], 27), (n2_5, #[Value.int .i64 b.lo, Value.int .i64 b.hi, Value.int .i64 b.m, Value.int .i64 b.r, Value.int .i64 b.k], 27)]
  zt : Vals D s [(0, 13, Value.agg #[Value.int .i64 b.lo, Value.int .i64 b.hi, Value.int .i64 b.m, Value.int .i64 b.r, Value.int .i64 b.k]), (1, 14, Value.int .i64 (stepS b)), (2, 15, Value.bool true), (3, 16, Value.bool true), (4, 17, Value.pointer (some ⟨n2_5, 0, none⟩)), (5, 18, Value.int .i64 b.lo), (6, 19, Value.bool false), (7, 20, Value.bool false)]

structure pdiv_za_r5_5 (a b : Ab) (k : Int) (n1_0 n1_1 n2_4 n2_5 : Nat) (w : World) (m5 : Nat) (D : Nat → Bool) (s : Nat → Value) (W : World) : Prop where
  zb : Mk0 w m5 W
  zq : Bks W [(n1_0, #[Value.int .i64 a.lo, Value.int .i64 a.hi, Value.int .i64 a.m, Value.int .i64 a.r, Value.int .i64 a.k, Value.int .i64 b.lo, Value.int .i64 b.hi, Value.int .i64 b.m, Value.int .i64 b.r, Value.int .i64 b.k, Value.int .i64 k], 72), (n1_1, #[Value.int .i64 0, Value.int .i64 0, Value.int .i64 0, Value.int .i64 0, Value.int .i64 0], 27), (n2_4, #[Value.int .i64 a.lo, Value.int .i64 a.hi, Value.int .i64 a.m, Value.int .i64 a.r, Value.int .i64 a.k], 27), (n2_5, #[Value.int .i64 b.lo, Value.int .i64 b.hi, Value.int .i64 b.m, Value.int .i64 b.r, Value.int .i64 b.k], 27)]
  zt : Vals D s [(0, 43, Value.pointer (some ⟨n2_4, 0, none⟩)), (1, 44, Value.int .i64 a.lo), (2, 45, Value.bool true), (3, 46, Value.bool true), (4, 47, undef), (5, 48, undef), (6, 49, undef), (7, 50, Value.bool true)]

structure pdiv_za_r6_6 (a b : Ab) (k : Int) (n1_0 n1_1 n2_4 : Nat) (w : World) (m6 : Nat) (D : Nat → Bool) (s : Nat → Value) (W : World) : Prop where
  zb : Mk0 w m6 W
  zq : Bks W [(n1_0, #[Value.int .i64 a.lo, Value.int .i64 a.hi, Value.int .i64 a.m, Value.int .i64 a.r, Value.int .i64 a.k, Value.int .i64 b.lo, Value.int .i64 b.hi, Value.int .i64 b.m, Value.int .i64 b.r, Value.int .i64 b.k, Value.int .i64 k], 72), (n1_1, #[Value.int .i64 0, Value.int .i64 0, Value.int .i64 0, Value.int .i64 0, Value.int .i64 0], 27), (n2_4, #[Value.int .i64 a.lo, Value.int .i64 a.hi, Value.int .i64 a.m, Value.int .i64 a.r, Value.int .i64 a.k], 27)]
  zt : Vals D s [(0, 51, Value.pointer (some ⟨n2_4, 0, none⟩)), (1, 52, Value.int .i64 a.lo), (2, 53, Value.int .i64 (absS a.lo)), (3, 54, Value.pointer (some ⟨n2_4, 1, none⟩)), (4, 55, Value.int .i64 a.hi), (5, 56, Value.int .i64 (absS a.hi)), (6, 57, Value.int .i64 (max (absS a.lo) (absS a.hi))), (7, 6, Value.int .i64 (max (absS a.lo) (absS a.hi)))]

structure pdiv_za_r7_7 (a b : Ab) (k : Int) (n1_0 n1_1 : Nat) (w : World) (m7 : Nat) (D : Nat → Bool) (s : Nat → Value) (W : World) : Prop where
  zb : Mk0 w m7 W
  zq : Bks W [(n1_0, #[Value.int .i64 a.lo, Value.int .i64 a.hi, Value.int .i64 a.m, Value.int .i64 a.r, Value.int .i64 a.k, Value.int .i64 b.lo, Value.int .i64 b.hi, Value.int .i64 b.m, Value.int .i64 b.r, Value.int .i64 b.k, Value.int .i64 k], 72), (n1_1, #[Value.int .i64 0, Value.int .i64 0, Value.int .i64 0, Value.int .i64 0, Value.int .i64 0], 27)]
  zt : Vals D s [(0, 58, Value.int .i64 (max (absS a.lo) (absS a.hi))), (1, 59, Value.int .i64 (-(max (absS a.lo) (absS a.hi)))), (2, 5, Value.int .i64 (-(max (absS a.lo) (absS a.hi))))]

set_option maxRecDepth 100000 in
set_option maxHeartbeats 4000000 in
theorem pdiv_za {a b : Ab} (k : Int) (w : World) (ha : Good a) (hb : Good b) (hs : stepS b = 0) (hn : b.lo = 0) (h5 : a.lo < 0) :
    Calls Try.prog 77 #[Value.agg #[Value.int .i64 a.lo, Value.int .i64 a.hi, Value.int .i64 a.m, Value.int .i64 a.r, Value.int .i64 a.k, Value.int .i64 b.lo, Value.int .i64 b.hi, Value.int .i64 b.m, Value.int .i64 b.r, Value.int .i64 b.k, Value.int .i64 k]] w fun e w' => e = .returned (Value.agg #[Value.int .i64 (clampS (-(max (absS a.lo) (absS a.hi))) (max (absS a.lo) (absS a.hi)) k).lo, Value.int .i64 (clampS (-(max (absS a.lo) (absS a.hi))) (max (absS a.lo) (absS a.hi)) k).hi, Value.int .i64 (clampS (-(max (absS a.lo) (absS a.hi))) (max (absS a.lo) (absS a.hi)) k).m, Value.int .i64 (clampS (-(max (absS a.lo) (absS a.hi))) (max (absS a.lo) (absS a.hi)) k).r, Value.int .i64 (clampS (-(max (absS a.lo) (absS a.hi))) (max (absS a.lo) (absS a.hi)) k).k]) ∧ Below w.heap.size w w' := by
  have a1 := ha.h1; have a2 := ha.h2; have a3 := ha.h3
  have b1 := hb.h1; have b2 := hb.h2; have b3 := hb.h3
  have sa := ha.step0; have sb := hb.step0
  replace hs := Lib.hid hs
  have h6 : 0 ≤ b.lo := by omega
  replace hn := Lib.hid hn
  have ab1 : 0 ≤ absS a.lo ∧ absS a.lo ≤ 2147483648 := by unfold absS; omega
  have ab2 : 0 ≤ absS a.hi ∧ absS a.hi ≤ 2147483648 := by unfold absS; omega
  refine calls_go Try.func77 rfl 76 rfl rfl (fun aF hz df hu => ?_)
  have u0 : Sl aF 0 (Value.agg #[Value.int .i64 a.lo, Value.int .i64 a.hi, Value.int .i64 a.m, Value.int .i64 a.r, Value.int .i64 a.k, Value.int .i64 b.lo, Value.int .i64 b.hi, Value.int .i64 b.m, Value.int .i64 b.r, Value.int .i64 b.k, Value.int .i64 k]) := hu 0 _ rfl
  clear hu
  have hM : Mk0 w w.heap.size w := ⟨Below.refl _ _, Nat.le_refl _⟩
  have hB : Bks w [] := trivial
  refine wp_seq ?_
  obtain ⟨m1, hM, hU, hwm⟩ := start_region hM.b hB
  refine region_run (F := pdiv_za_r0_1 a b k w m1) [1, 2] [0, 1] hz df (by kernel_rfl) (by kernel_rfl) (fun s hs0 => ⟨hM, hB, Vals.none s _, fun h => no_of' h, fun h => no_of' h, fun h => no_of' h, fun h => no_of' h, fun h => no_of' h, fun h => no_of' h, fun h => no_of' h⟩) ?_ ?_
  refine FSteps.op3 hz rfl (dv := []) (by kernel_rfl) (by kernel_rfl) (by kernel_rfl) (fun D s W bA kK hD hW hF hA hK => ?_) ?_
  · have x0 := hA.o 0 _ rfl u0
    have hF := Lib.hid hF
    clear hA
    go_simp
    exact hK.out _ _ ⟨hF.out.zb.al _, Bks.al _ hF.out.zq, hF.out.zt.skip rfl, fun _ => rfl, hF.out.v1, fun _ => Bk.new _ _ _, fun _ => hF.out.zb.g, fun h1 => (hF.out.k1_0 h1).al _, hF.out.g1, fun _ h => Nat.ne_of_gt ((hF.out.k1_0 h).lt)⟩
  refine FSteps.op3 hz rfl (dv := []) (by kernel_rfl) (by kernel_rfl) (by kernel_rfl) (fun D s W bA kK hD hW hF hA hK => ?_) ?_
  · have hF := Lib.hid hF
    clear hA
    go_simp
    exact hK.out _ _ ⟨hF.out.zb.al _, Bks.al _ hF.out.zq, hF.out.zt.skip rfl, hF.out.v0, fun _ => rfl, fun h1 => (hF.out.k0_0 h1).al _, hF.out.g0, fun _ => Bk.new _ _ _, fun _ => hF.out.zb.g, fun h _ => Nat.ne_of_lt ((hF.out.k0_0 h).lt)⟩
  exact FSteps.nil
  intro D s W aF1 hD hF hz' df' hA
  obtain ⟨d0, d1, -⟩ := hD
  clear u0
  have u1 : Sl aF1 1 _ := hA.i 1 _ rfl rfl (hF.v0 d0)
  have u2 : Sl aF1 2 _ := hA.i 2 _ rfl rfl (hF.v1 d1)
  have hkX0 := hF.k0_0 d0
  have hgX0 := hF.g0 d0
  have hkX1 := hF.k1_0 d1
  have hgX1 := hF.g1 d1
  have heX0_1 := hF.e0_1 d0 d1
  have hM := hF.zb
  have hB := hF.zq
  generalize pblk (s 1) = n1_0 at hkX0 hgX0 hkX1 hgX1 heX0_1 u1 u2
  generalize pblk (s 2) = n1_1 at hkX0 hgX0 hkX1 hgX1 heX0_1 u1 u2
  have hB : Bks W [(n1_0, #[Value.int .i64 a.lo, Value.int .i64 a.hi, Value.int .i64 a.m, Value.int .i64 a.r, Value.int .i64 a.k, Value.int .i64 b.lo, Value.int .i64 b.hi, Value.int .i64 b.m, Value.int .i64 b.r, Value.int .i64 b.k, Value.int .i64 k], 72), (n1_1, #[Value.int .i64 0, Value.int .i64 0, Value.int .i64 0, Value.int .i64 0, Value.int .i64 0], 27)] := ⟨hkX0, hkX1, trivial⟩
  have hw_n1_1 : w.heap.size ≤ n1_1 := Nat.le_trans hwm hgX1
  clear hF hA hz df d0 d1 hU
  have hz := hz'; have df := df'; clear hz' df'
  clear aF
  show Code.wp _ _ _ _ _
  refine wp_seq ?_
  obtain ⟨m2, hM, hU, hwm⟩ := start_region hM.b hB
  refine region_go (F := pdiv_za_r1_2 a b k n1_0 n1_1 w m2) [7, 8, 9, 10, 3, 4] [0, 1, 2, 3, 4, 5, 6, 7] hz df (by kernel_rfl) (by kernel_rfl) (by kernel_rfl) (fun s hs0 => ⟨hM.drew, Bks.drew hB, Vals.none s _, fun h => no_of' h, fun h => no_of' h, fun h => no_of' h, fun h => no_of' h, fun h => no_of' h, fun h => no_of' h, fun h => no_of' h, fun h => no_of' h, fun h => no_of' h, fun h => no_of' h, fun h => no_of' h⟩) ?_ ?_
  refine FSteps.op3 hz rfl (dv := []) (by kernel_rfl) (by kernel_rfl) (by kernel_rfl) (fun D s W bA kK hD hW hF hA hK => ?_) ?_
  · have x1 := hA.o 1 _ rfl u1
    have hF := Lib.hid hF
    clear hA
    go_simp
    exact hK.out _ _ ⟨hF.out.zb, hF.out.zq, hF.out.zt.step rfl rfl, hF.out.v4, hF.out.v5, hF.out.k4_0, hF.out.k4_1, hF.out.c4_1, hF.out.g4, hF.out.k5_0, hF.out.k5_1, hF.out.c5_1, hF.out.g5, hF.out.e4_5⟩
  refine FSteps.op3 hz rfl (dv := [0]) (by kernel_rfl) (by kernel_rfl) (by kernel_rfl) (fun D s W bA kK hD hW hF hA hK => ?_) ?_
  · have x7 := hA.i 7 _ rfl rfl (hF.zt.get (j := 0) rfl hW.1)
    obtain ⟨⟨c0, z0⟩, -, -⟩ := hF.zq.rules
    have hF := Lib.hid hF
    clear hA
    go_simp
    exact hK.out _ _ ⟨hF.out.zb, hF.out.zq, hF.out.zt.step rfl rfl, hF.out.v4, hF.out.v5, hF.out.k4_0, hF.out.k4_1, hF.out.c4_1, hF.out.g4, hF.out.k5_0, hF.out.k5_1, hF.out.c5_1, hF.out.g5, hF.out.e4_5⟩
  refine FSteps.op3 hz rfl (dv := []) (by kernel_rfl) (by kernel_rfl) (by kernel_rfl) (fun D s W bA kK hD hW hF hA hK => ?_) ?_
  · have x1 := hA.o 1 _ rfl u1
    have hF := Lib.hid hF
    clear hA
    go_simp
    exact hK.out _ _ ⟨hF.out.zb, hF.out.zq, hF.out.zt.step rfl rfl, hF.out.v4, hF.out.v5, hF.out.k4_0, hF.out.k4_1, hF.out.c4_1, hF.out.g4, hF.out.k5_0, hF.out.k5_1, hF.out.c5_1, hF.out.g5, hF.out.e4_5⟩
  refine FSteps.op3 hz rfl (dv := [2]) (by kernel_rfl) (by kernel_rfl) (by kernel_rfl) (fun D s W bA kK hD hW hF hA hK => ?_) ?_
  · have x9 := hA.i 9 _ rfl rfl (hF.zt.get (j := 2) rfl hW.1)
    obtain ⟨⟨c0, z0⟩, -, -⟩ := hF.zq.rules
    have hF := Lib.hid hF
    clear hA
    go_simp
    exact hK.out _ _ ⟨hF.out.zb, hF.out.zq, hF.out.zt.step rfl rfl, hF.out.v4, hF.out.v5, hF.out.k4_0, hF.out.k4_1, hF.out.c4_1, hF.out.g4, hF.out.k5_0, hF.out.k5_1, hF.out.c5_1, hF.out.g5, hF.out.e4_5⟩
  refine FSteps.op3 hz rfl (dv := []) (by kernel_rfl) (by kernel_rfl) (by kernel_rfl) (fun D s W bA kK hD hW hF hA hK => ?_) ?_
  · have hF := Lib.hid hF
    clear hA
    go_simp
    exact hK.out _ _ ⟨hF.out.zb.al _, Bks.al _ hF.out.zq, hF.out.zt.skip rfl, fun _ => rfl, hF.out.v5, fun _ _ => Bk.new _ _ _, fun h1 => absurd (hF.out.c4_1 h1) (by rw [hD]; decide), fun _ => rfl, fun _ => hF.out.zb.g, fun h1 h2 => (hF.out.k5_0 h1 h2).al _, fun h1 => (hF.out.k5_1 h1).al _, hF.out.c5_1, hF.out.g5, fun _ h => Nat.ne_of_gt (lt_of_either (hF.out.k5_0 h) hF.out.k5_1)⟩
  refine FSteps.op3 hz rfl (dv := []) (by kernel_rfl) (by kernel_rfl) (by kernel_rfl) (fun D s W bA kK hD hW hF hA hK => ?_) ?_
  · have hF := Lib.hid hF
    clear hA
    go_simp
    exact hK.out _ _ ⟨hF.out.zb.al _, Bks.al _ hF.out.zq, hF.out.zt.skip rfl, hF.out.v4, fun _ => rfl, fun h1 h2 => (hF.out.k4_0 h1 h2).al _, fun h1 => (hF.out.k4_1 h1).al _, hF.out.c4_1, hF.out.g4, fun _ _ => Bk.new _ _ _, fun h1 => absurd (hF.out.c5_1 h1) (by rw [hD]; decide), fun _ => rfl, fun _ => hF.out.zb.g, fun h _ => Nat.ne_of_lt (lt_of_either (hF.out.k4_0 h) hF.out.k4_1)⟩
  refine FSteps.op3 hz rfl (dv := [4, 1, 0, 1, 4, 5]) (by kernel_rfl) (by kernel_rfl) (by kernel_rfl) (fun D s W bA kK hD hW hF hA hK => ?_) ?_
  · have x3 := hA.i 3 _ rfl rfl (hF.v4 hW.1)
    have x8 := hA.i 8 _ rfl rfl (hF.zt.get (j := 1) rfl hW.2.1)
    have kk := hF.k4_0 hW.1 hD
    have hge := Nat.le_trans hwm (hF.g4 hW.1); have hge2 := hF.g4 hW.1
    have kc := kk.cell; have kf := kk.free
    have hF := Lib.hid hF
    have kk := Lib.hid kk; have hge := Lib.hid hge; have hge2 := Lib.hid hge2
    clear hA
    go_simp
    exact hK.out undef _ ⟨hF.out.zb.sAll (hge.out) 0 [Value.int .i64 a.lo, Value.int .i64 a.hi, Value.int .i64 a.m, Value.int .i64 a.r, Value.int .i64 a.k], Bks.oAll [Value.int .i64 a.lo, Value.int .i64 a.hi, Value.int .i64 a.m, Value.int .i64 a.r, Value.int .i64 a.k] 0 (Under.outside hge2.out hU) hF.out.zq, hF.out.zt.skip rfl, hF.out.v4, hF.out.v5, fun h1 h2 => no_of h2, fun _ => kk.out.full [Value.int .i64 a.lo, Value.int .i64 a.hi, Value.int .i64 a.m, Value.int .i64 a.r, Value.int .i64 a.k] rfl, fun _ => hW.1, hF.out.g4, fun h1 h2 => Bk.oAll ((hF.out.e4_5 hW.1 h1).symm) [Value.int .i64 a.lo, Value.int .i64 a.hi, Value.int .i64 a.m, Value.int .i64 a.r, Value.int .i64 a.k] 0 (hF.out.k5_0 h1 h2), fun h1 => Bk.oAll ((hF.out.e4_5 hW.1 (hF.out.c5_1 h1)).symm) [Value.int .i64 a.lo, Value.int .i64 a.hi, Value.int .i64 a.m, Value.int .i64 a.r, Value.int .i64 a.k] 0 (hF.out.k5_1 h1), hF.out.c5_1, hF.out.g5, hF.out.e4_5⟩
  refine FSteps.op3 hz rfl (dv := [5, 3, 6, 0, 1, 2, 3, 4, 5, 6]) (by kernel_rfl) (by kernel_rfl) (by kernel_rfl) (fun D s W bA kK hD hW hF hA hK => ?_) ?_
  · have x4 := hA.i 4 _ rfl rfl (hF.v5 hW.1)
    have x10 := hA.i 10 _ rfl rfl (hF.zt.get (j := 3) rfl hW.2.1)
    have kk := hF.k5_0 hW.1 hD
    have hge := Nat.le_trans hwm (hF.g5 hW.1); have hge2 := hF.g5 hW.1
    have kc := kk.cell; have kf := kk.free
    have hF := Lib.hid hF
    have kk := Lib.hid kk; have hge := Lib.hid hge; have hge2 := Lib.hid hge2
    clear hA
    go_simp
    exact hK.out undef _ ⟨hF.out.zb.sAll (hge.out) 0 [Value.int .i64 b.lo, Value.int .i64 b.hi, Value.int .i64 b.m, Value.int .i64 b.r, Value.int .i64 b.k], Bks.oAll [Value.int .i64 b.lo, Value.int .i64 b.hi, Value.int .i64 b.m, Value.int .i64 b.r, Value.int .i64 b.k] 0 (Under.outside hge2.out hU) hF.out.zq, hF.out.zt.skip rfl, hF.out.v4, hF.out.v5, fun h1 h2 => Bk.oAll (hF.out.e4_5 h1 hW.1) [Value.int .i64 b.lo, Value.int .i64 b.hi, Value.int .i64 b.m, Value.int .i64 b.r, Value.int .i64 b.k] 0 (hF.out.k4_0 h1 h2), fun h1 => Bk.oAll (hF.out.e4_5 (hF.out.c4_1 h1) hW.1) [Value.int .i64 b.lo, Value.int .i64 b.hi, Value.int .i64 b.m, Value.int .i64 b.r, Value.int .i64 b.k] 0 (hF.out.k4_1 h1), hF.out.c4_1, hF.out.g4, fun h1 h2 => no_of h2, fun _ => kk.out.full [Value.int .i64 b.lo, Value.int .i64 b.hi, Value.int .i64 b.m, Value.int .i64 b.r, Value.int .i64 b.k] rfl, fun _ => hW.1, hF.out.g5, hF.out.e4_5⟩
  exact FSteps.nil
  intro D s W aF2 hD hF hz' df' hA
  obtain ⟨d0, d1, d2, d3, d4, d5, d6, d7, -⟩ := hD
  replace u1 : Sl aF2 1 _ := hA.o 1 _ rfl u1
  replace u2 : Sl aF2 2 _ := hA.o 2 _ rfl u2
  have u3 : Sl aF2 3 _ := hA.i 3 _ rfl rfl (hF.v4 d4)
  have u4 : Sl aF2 4 _ := hA.i 4 _ rfl rfl (hF.v5 d5)
  have hkX4 := hF.k4_1 d6
  have hgX4 := hF.g4 d4
  have hkX5 := hF.k5_1 d7
  have hgX5 := hF.g5 d5
  have heX4_5 := hF.e4_5 d4 d5
  have hM := hF.zb
  have hB := hF.zq
  generalize pblk (s 3) = n2_4 at hkX4 hgX4 hkX5 hgX5 heX4_5 u3 u4
  generalize pblk (s 4) = n2_5 at hkX4 hgX4 hkX5 hgX5 heX4_5 u3 u4
  have hB : Bks W [(n1_0, #[Value.int .i64 a.lo, Value.int .i64 a.hi, Value.int .i64 a.m, Value.int .i64 a.r, Value.int .i64 a.k, Value.int .i64 b.lo, Value.int .i64 b.hi, Value.int .i64 b.m, Value.int .i64 b.r, Value.int .i64 b.k, Value.int .i64 k], 72), (n1_1, #[Value.int .i64 0, Value.int .i64 0, Value.int .i64 0, Value.int .i64 0, Value.int .i64 0], 27), (n2_4, #[Value.int .i64 a.lo, Value.int .i64 a.hi, Value.int .i64 a.m, Value.int .i64 a.r, Value.int .i64 a.k], 27), (n2_5, #[Value.int .i64 b.lo, Value.int .i64 b.hi, Value.int .i64 b.m, Value.int .i64 b.r, Value.int .i64 b.k], 27)] := ⟨hB.1, hB.2.1, hkX4, hkX5, trivial⟩
  obtain ⟨hl_0, hl_1, -⟩ := hU
  have hne_n1_1_n2_4 : n1_1 ≠ n2_4 := by omega
  have hne_n1_1_n2_5 : n1_1 ≠ n2_5 := by omega
  clear hF hA hz df d0 d1 d2 d3 d4 d5 d6 d7 
  have hz := hz'; have df := df'; clear hz' df'
  clear aF1
  show Code.wp _ _ _ _ _
  refine wp_seq ?_
  obtain ⟨m3, hM, hU, hwm⟩ := start_region hM.b hB
  refine region_go (F := pdiv_za_r2_3 a b k n1_0 n1_1 n2_4 n2_5 w m3) [11, 12, 5, 6] [0, 1, 2, 3] hz df (by kernel_rfl) (by kernel_rfl) (by kernel_rfl) (fun s hs0 => ⟨hM.drew, Bks.drew hB, Vals.none s _⟩) ?_ ?_
  refine FSteps.op3 hz rfl (dv := []) (by kernel_rfl) (by kernel_rfl) (by kernel_rfl) (fun D s W bA kK hD hW hF hA hK => ?_) ?_
  · have x3 := hA.o 3 _ rfl u3
    have hF := Lib.hid hF
    clear hA
    go_simp
    exact hK.out _ _ ⟨hF.out.zb, hF.out.zq, hF.out.zt.step rfl rfl⟩
  refine FSteps.op3 hz rfl (dv := [0]) (by kernel_rfl) (by kernel_rfl) (by kernel_rfl) (fun D s W bA kK hD hW hF hA hK => ?_) ?_
  · have x11 := hA.i 11 _ rfl rfl (hF.zt.get (j := 0) rfl hW.1)
    obtain ⟨-, -, ⟨c2, z2⟩, -, -⟩ := hF.zq.rules
    have hF := Lib.hid hF
    clear hA
    go_simp
    exact hK.out _ _ ⟨hF.out.zb, hF.out.zq, hF.out.zt.step rfl rfl⟩
  refine FSteps.op3 hz rfl (dv := []) (by kernel_rfl) (by kernel_rfl) (by kernel_rfl) (fun D s W bA kK hD hW hF hA hK => ?_) ?_
  · have hF := Lib.hid hF
    clear hA
    go_simp
    exact hK.out _ _ ⟨hF.out.zb, hF.out.zq, hF.out.zt.step rfl rfl⟩
  refine FSteps.op3 hz rfl (dv := [1, 2, 0, 1, 2]) (by kernel_rfl) (by kernel_rfl) (by kernel_rfl) (fun D s W bA kK hD hW hF hA hK => ?_) ?_
  · have x12 := hA.i 12 _ rfl rfl (hF.zt.get (j := 1) rfl hW.1)
    have hF := Lib.hid hF
    clear hA
    go_simp
    exact hK.out _ _ ⟨hF.out.zb, hF.out.zq, hF.out.zt.step rfl rfl⟩
  exact FSteps.nil
  intro D s W aF3 hD hF hz' df' hA
  obtain ⟨d0, d1, d2, d3, -⟩ := hD
  replace u1 : Sl aF3 1 _ := hA.o 1 _ rfl u1
  replace u2 : Sl aF3 2 _ := hA.o 2 _ rfl u2
  replace u3 : Sl aF3 3 _ := hA.o 3 _ rfl u3
  replace u4 : Sl aF3 4 _ := hA.o 4 _ rfl u4
  have u5 : Sl aF3 5 _ := hA.i 5 _ rfl rfl (hF.zt.get (j := 2) rfl d2)
  have u6 : Sl aF3 6 _ := hA.i 6 _ rfl rfl (hF.zt.get (j := 3) rfl d3)
  have hM := hF.zb
  have hB := hF.zq
  have hB : Bks W [(n1_0, #[Value.int .i64 a.lo, Value.int .i64 a.hi, Value.int .i64 a.m, Value.int .i64 a.r, Value.int .i64 a.k, Value.int .i64 b.lo, Value.int .i64 b.hi, Value.int .i64 b.m, Value.int .i64 b.r, Value.int .i64 b.k, Value.int .i64 k], 72), (n1_1, #[Value.int .i64 0, Value.int .i64 0, Value.int .i64 0, Value.int .i64 0, Value.int .i64 0], 27), (n2_4, #[Value.int .i64 a.lo, Value.int .i64 a.hi, Value.int .i64 a.m, Value.int .i64 a.r, Value.int .i64 a.k], 27), (n2_5, #[Value.int .i64 b.lo, Value.int .i64 b.hi, Value.int .i64 b.m, Value.int .i64 b.r, Value.int .i64 b.k], 27)] := ⟨hB.1, hB.2.1, hB.2.2.1, hB.2.2.2.1, trivial⟩
  clear hF hA hz df d0 d1 d2 d3 hU
  have hz := hz'; have df := df'; clear hz' df'
  clear aF2
  show Code.wp _ _ _ _ _
  refine wp_seq ?_
  refine wp_seq ?_
  obtain ⟨m4, hM, hU, hwm⟩ := start_region hM.b hB
  refine region_run (F := pdiv_za_r3_4 a b k n1_0 n1_1 n2_4 n2_5 w m4) [13, 14, 15, 16, 17, 18, 19, 20] [0, 1, 2, 3, 4, 5, 6, 7] hz df (by kernel_rfl) (by kernel_rfl) (fun s hs0 => ⟨hM, hB, Vals.none s _⟩) ?_ ?_
  refine FSteps.op3 hz rfl (dv := []) (by kernel_rfl) (by kernel_rfl) (by kernel_rfl) (fun D s W bA kK hD hW hF hA hK => ?_) ?_
  · have x4 := hA.o 4 _ rfl u4
    obtain ⟨-, -, -, ⟨c3, z3⟩, -⟩ := hF.zq.rules
    have hF := Lib.hid hF
    clear hA
    go_simp
    exact hK.out _ _ ⟨hF.out.zb, hF.out.zq, hF.out.zt.step rfl rfl⟩
  refine FSteps.op3 hz rfl (dv := [0]) (by kernel_rfl) (by kernel_rfl) (by kernel_rfl) (fun D s W bA kK hD hW hF hA hK => ?_) ?_
  · have x13 := hA.i 13 _ rfl rfl (hF.zt.get (j := 0) rfl hW.1)
    have hF := Lib.hid hF
    clear hA
    go_simp
    (go_at_call 44; ((with_reducible_and_instances refine (step_ab b _).mono ?_)); rintro e W1 ⟨rfl, hb⟩; (try unfold abVal))
    (try go_wp2_with fail)
    exact hK.out _ _ ⟨hF.out.zb.on hb, Bks.on hb hF.out.zq, hF.out.zt.step rfl rfl⟩
  refine FSteps.op3 hz rfl (dv := [1]) (by kernel_rfl) (by kernel_rfl) (by kernel_rfl) (fun D s W bA kK hD hW hF hA hK => ?_) ?_
  · have x14 := hA.i 14 _ rfl rfl (hF.zt.get (j := 1) rfl hW.1)
    have hF := Lib.hid hF
    clear hA
    have hd2 : ((stepS b) == 0) = true := beq_iff_eq.2 (by exact hs.out)
    go_simp
    exact hK.out _ _ ⟨hF.out.zb, hF.out.zq, hF.out.zt.step rfl rfl⟩
  refine FSteps.op3 hz rfl (dv := [2, 1]) (by kernel_rfl) (by kernel_rfl) (by kernel_rfl) (fun D s W bA kK hD hW hF hA hK => ?_) ?_
  · have x15 := hA.i 15 _ rfl rfl (hF.zt.get (j := 2) rfl hW.1)
    have hF := Lib.hid hF
    clear hA
    go_simp
    exact hK.out _ _ ⟨hF.out.zb, hF.out.zq, hF.out.zt.step rfl rfl⟩
  refine FSteps.yes3 (bv := true) hz rfl (dv := [3]) (by kernel_rfl) rfl (by kernel_rfl) (by kernel_rfl) (fun D s W hW hF => (hF.zt.get (j := 3) rfl hW.1)) (by kernel_rfl) (by kernel_rfl) (fun D s W bA kK hD hW hF hA hK => ?_) ?_
  · have x4 := hA.o 4 _ rfl u4
    have hF := Lib.hid hF
    clear hA
    go_simp
    exact hK.out _ _ ⟨hF.out.zb, hF.out.zq, hF.out.zt.step rfl rfl⟩
  refine FSteps.yes3 (bv := true) hz rfl (dv := [4, 3]) (by kernel_rfl) rfl (by kernel_rfl) (by kernel_rfl) (fun D s W hW hF => (hF.zt.get (j := 3) rfl hW.2.1)) (by kernel_rfl) (by kernel_rfl) (fun D s W bA kK hD hW hF hA hK => ?_) ?_
  · have x17 := hA.i 17 _ rfl rfl (hF.zt.get (j := 4) rfl hW.1)
    obtain ⟨-, -, -, ⟨c3, z3⟩, -⟩ := hF.zq.rules
    have hF := Lib.hid hF
    clear hA
    go_simp
    exact hK.out _ _ ⟨hF.out.zb, hF.out.zq, hF.out.zt.step rfl rfl⟩
  refine FSteps.yes3 (bv := true) hz rfl (dv := [5, 3]) (by kernel_rfl) rfl (by kernel_rfl) (by kernel_rfl) (fun D s W hW hF => (hF.zt.get (j := 3) rfl hW.2.1)) (by kernel_rfl) (by kernel_rfl) (fun D s W bA kK hD hW hF hA hK => ?_) ?_
  · have x18 := hA.i 18 _ rfl rfl (hF.zt.get (j := 5) rfl hW.1)
    have hF := Lib.hid hF
    clear hA
    have hd6 : (b.lo != 0) = false := (by rw [bne_eq_false_iff_eq]; exact hn.out)
    go_simp
    exact hK.out _ _ ⟨hF.out.zb, hF.out.zq, hF.out.zt.step rfl rfl⟩
  refine FSteps.op3 hz rfl (dv := [3, 6]) (by kernel_rfl) (by kernel_rfl) (by kernel_rfl) (fun D s W bA kK hD hW hF hA hK => ?_) ?_
  · have x16 := hA.i 16 _ rfl rfl (hF.zt.get (j := 3) rfl hW.1)
    have x19 := hA.i 19 _ rfl rfl (hF.zt.get (j := 6) rfl hW.2.1)
    have hF := Lib.hid hF
    clear hA
    go_simp
    exact hK.out _ _ ⟨hF.out.zb, hF.out.zq, hF.out.zt.step rfl rfl⟩
  exact FSteps.nil
  intro D s W aF4 hD hF hz' df' hA
  obtain ⟨d0, d1, d2, d3, d4, d5, d6, d7, -⟩ := hD
  replace u1 : Sl aF4 1 _ := hA.o 1 _ rfl u1
  replace u2 : Sl aF4 2 _ := hA.o 2 _ rfl u2
  replace u3 : Sl aF4 3 _ := hA.o 3 _ rfl u3
  replace u4 : Sl aF4 4 _ := hA.o 4 _ rfl u4
  replace u5 : Sl aF4 5 _ := hA.o 5 _ rfl u5
  replace u6 : Sl aF4 6 _ := hA.o 6 _ rfl u6
  have u20 : Sl aF4 20 _ := hA.i 20 _ rfl rfl (hF.zt.get (j := 7) rfl d7)
  have hM := hF.zb
  have hB := hF.zq
  have hB : Bks W [(n1_0, #[Value.int .i64 a.lo, Value.int .i64 a.hi, Value.int .i64 a.m, Value.int .i64 a.r, Value.int .i64 a.k, Value.int .i64 b.lo, Value.int .i64 b.hi, Value.int .i64 b.m, Value.int .i64 b.r, Value.int .i64 b.k, Value.int .i64 k], 72), (n1_1, #[Value.int .i64 0, Value.int .i64 0, Value.int .i64 0, Value.int .i64 0, Value.int .i64 0], 27), (n2_4, #[Value.int .i64 a.lo, Value.int .i64 a.hi, Value.int .i64 a.m, Value.int .i64 a.r, Value.int .i64 a.k], 27), (n2_5, #[Value.int .i64 b.lo, Value.int .i64 b.hi, Value.int .i64 b.m, Value.int .i64 b.r, Value.int .i64 b.k], 27)] := ⟨hB.1, hB.2.1, hB.2.2.1, hB.2.2.2.1, trivial⟩
  clear hF hA hz df d0 d1 d2 d3 d4 d5 d6 d7 hU
  have hz := hz'; have df := df'; clear hz' df'
  clear aF3
  show Code.wp _ _ _ _ _
  refine cond_f u20 ?_
  refine wp_seq ?_
  obtain ⟨m5, hM, hU, hwm⟩ := start_region hM.b hB
  refine region_run (F := pdiv_za_r5_5 a b k n1_0 n1_1 n2_4 n2_5 w m5) [43, 44, 45, 46, 47, 48, 49, 50] [0, 1, 2, 3, 4, 5, 6, 7] hz df (by kernel_rfl) (by kernel_rfl) (fun s hs0 => ⟨hM, hB, Vals.none s _⟩) ?_ ?_
  refine FSteps.op3 hz rfl (dv := []) (by kernel_rfl) (by kernel_rfl) (by kernel_rfl) (fun D s W bA kK hD hW hF hA hK => ?_) ?_
  · have x3 := hA.o 3 _ rfl u3
    have hF := Lib.hid hF
    clear hA
    go_simp
    exact hK.out _ _ ⟨hF.out.zb, hF.out.zq, hF.out.zt.step rfl rfl⟩
  refine FSteps.op3 hz rfl (dv := [0]) (by kernel_rfl) (by kernel_rfl) (by kernel_rfl) (fun D s W bA kK hD hW hF hA hK => ?_) ?_
  · have x43 := hA.i 43 _ rfl rfl (hF.zt.get (j := 0) rfl hW.1)
    obtain ⟨-, -, ⟨c2, z2⟩, -, -⟩ := hF.zq.rules
    have hF := Lib.hid hF
    clear hA
    go_simp
    exact hK.out _ _ ⟨hF.out.zb, hF.out.zq, hF.out.zt.step rfl rfl⟩
  refine FSteps.op3 hz rfl (dv := [1]) (by kernel_rfl) (by kernel_rfl) (by kernel_rfl) (fun D s W bA kK hD hW hF hA hK => ?_) ?_
  · have x44 := hA.i 44 _ rfl rfl (hF.zt.get (j := 1) rfl hW.1)
    have hF := Lib.hid hF
    clear hA
    have hd2 : decide (a.lo < 0) = true := decide_eq_true (by omega)
    go_simp
    exact hK.out _ _ ⟨hF.out.zb, hF.out.zq, hF.out.zt.step rfl rfl⟩
  refine FSteps.op3 hz rfl (dv := [2]) (by kernel_rfl) (by kernel_rfl) (by kernel_rfl) (fun D s W bA kK hD hW hF hA hK => ?_) ?_
  · have x45 := hA.i 45 _ rfl rfl (hF.zt.get (j := 2) rfl hW.1)
    have hF := Lib.hid hF
    clear hA
    go_simp
    exact hK.out _ _ ⟨hF.out.zb, hF.out.zq, hF.out.zt.step rfl rfl⟩
  refine FSteps.no3 (bv := false) hz rfl (dv := [3]) (by kernel_rfl) rfl (by kernel_rfl) (by kernel_rfl) (fun D s W hW hF => (hF.zt.get (j := 3) rfl hW.1)) (by kernel_rfl) (by kernel_rfl) (fun D s W hD hF => ⟨hF.zb, hF.zq, hF.zt.step rfl rfl⟩) ?_
  refine FSteps.no3 (bv := false) hz rfl (dv := [4, 3]) (by kernel_rfl) rfl (by kernel_rfl) (by kernel_rfl) (fun D s W hW hF => (hF.zt.get (j := 3) rfl hW.2.1)) (by kernel_rfl) (by kernel_rfl) (fun D s W hD hF => ⟨hF.zb, hF.zq, hF.zt.step rfl rfl⟩) ?_
  refine FSteps.no3 (bv := false) hz rfl (dv := [5, 3]) (by kernel_rfl) rfl (by kernel_rfl) (by kernel_rfl) (fun D s W hW hF => (hF.zt.get (j := 3) rfl hW.2.1)) (by kernel_rfl) (by kernel_rfl) (fun D s W hD hF => ⟨hF.zb, hF.zq, hF.zt.step rfl rfl⟩) ?_
  refine FSteps.op3 hz rfl (dv := [3, 6]) (by kernel_rfl) (by kernel_rfl) (by kernel_rfl) (fun D s W bA kK hD hW hF hA hK => ?_) ?_
  · have x46 := hA.i 46 _ rfl rfl (hF.zt.get (j := 3) rfl hW.1)
    have x49 := hA.i 49 _ rfl rfl (hF.zt.get (j := 6) rfl hW.2.1)
    have hF := Lib.hid hF
    clear hA
    go_simp
    exact hK.out _ _ ⟨hF.out.zb, hF.out.zq, hF.out.zt.step rfl rfl⟩
  exact FSteps.nil
  intro D s W aF5 hD hF hz' df' hA
  obtain ⟨d0, d1, d2, d3, d4, d5, d6, d7, -⟩ := hD
  clear u4 u20
  replace u1 : Sl aF5 1 _ := hA.o 1 _ rfl u1
  replace u2 : Sl aF5 2 _ := hA.o 2 _ rfl u2
  replace u3 : Sl aF5 3 _ := hA.o 3 _ rfl u3
  replace u5 : Sl aF5 5 _ := hA.o 5 _ rfl u5
  replace u6 : Sl aF5 6 _ := hA.o 6 _ rfl u6
  have u50 : Sl aF5 50 _ := hA.i 50 _ rfl rfl (hF.zt.get (j := 7) rfl d7)
  have hM := hF.zb
  have hB := hF.zq
  have hB : Bks W [(n1_0, #[Value.int .i64 a.lo, Value.int .i64 a.hi, Value.int .i64 a.m, Value.int .i64 a.r, Value.int .i64 a.k, Value.int .i64 b.lo, Value.int .i64 b.hi, Value.int .i64 b.m, Value.int .i64 b.r, Value.int .i64 b.k, Value.int .i64 k], 72), (n1_1, #[Value.int .i64 0, Value.int .i64 0, Value.int .i64 0, Value.int .i64 0, Value.int .i64 0], 27), (n2_4, #[Value.int .i64 a.lo, Value.int .i64 a.hi, Value.int .i64 a.m, Value.int .i64 a.r, Value.int .i64 a.k], 27)] := ⟨hB.1, hB.2.1, hB.2.2.1, trivial⟩
  clear hF hA hz df d0 d1 d2 d3 d4 d5 d6 d7 hU
  have hz := hz'; have df := df'; clear hz' df'
  clear aF4
  show Code.wp _ _ _ _ _
  refine cond_t u50 ?_
  refine wp_seq ?_
  obtain ⟨m6, hM, hU, hwm⟩ := start_region hM.b hB
  refine region_go (F := pdiv_za_r6_6 a b k n1_0 n1_1 n2_4 w m6) [51, 52, 53, 54, 55, 56, 57, 6] [0, 1, 2, 3, 4, 5, 6, 7] hz df (by kernel_rfl) (by kernel_rfl) (by kernel_rfl) (fun s hs0 => ⟨hM.drew, Bks.drew hB, Vals.none s _⟩) ?_ ?_
  refine FSteps.op3 hz rfl (dv := []) (by kernel_rfl) (by kernel_rfl) (by kernel_rfl) (fun D s W bA kK hD hW hF hA hK => ?_) ?_
  · have x3 := hA.o 3 _ rfl u3
    have hF := Lib.hid hF
    clear hA
    go_simp
    exact hK.out _ _ ⟨hF.out.zb, hF.out.zq, hF.out.zt.step rfl rfl⟩
  refine FSteps.op3 hz rfl (dv := [0]) (by kernel_rfl) (by kernel_rfl) (by kernel_rfl) (fun D s W bA kK hD hW hF hA hK => ?_) ?_
  · have x51 := hA.i 51 _ rfl rfl (hF.zt.get (j := 0) rfl hW.1)
    obtain ⟨-, -, ⟨c2, z2⟩, -⟩ := hF.zq.rules
    have hF := Lib.hid hF
    clear hA
    go_simp
    exact hK.out _ _ ⟨hF.out.zb, hF.out.zq, hF.out.zt.step rfl rfl⟩
  refine FSteps.op3 hz rfl (dv := [1]) (by kernel_rfl) (by kernel_rfl) (by kernel_rfl) (fun D s W bA kK hD hW hF hA hK => ?_) ?_
  · have x52 := hA.i 52 _ rfl rfl (hF.zt.get (j := 1) rfl hW.1)
    have hF := Lib.hid hF
    clear hA
    go_simp
    (go_at_call 50; ((with_reducible_and_instances refine (abs_b _ (by omega) _).mono ?_)); rintro e W1 ⟨rfl, hb⟩; (try unfold abVal))
    (try go_wp2_with fail)
    exact hK.out _ _ ⟨hF.out.zb.on hb, Bks.on hb hF.out.zq, hF.out.zt.step rfl rfl⟩
  refine FSteps.op3 hz rfl (dv := []) (by kernel_rfl) (by kernel_rfl) (by kernel_rfl) (fun D s W bA kK hD hW hF hA hK => ?_) ?_
  · have x3 := hA.o 3 _ rfl u3
    have hF := Lib.hid hF
    clear hA
    go_simp
    exact hK.out _ _ ⟨hF.out.zb, hF.out.zq, hF.out.zt.step rfl rfl⟩
  refine FSteps.op3 hz rfl (dv := [3]) (by kernel_rfl) (by kernel_rfl) (by kernel_rfl) (fun D s W bA kK hD hW hF hA hK => ?_) ?_
  · have x54 := hA.i 54 _ rfl rfl (hF.zt.get (j := 3) rfl hW.1)
    obtain ⟨-, -, ⟨c2, z2⟩, -⟩ := hF.zq.rules
    have hF := Lib.hid hF
    clear hA
    go_simp
    exact hK.out _ _ ⟨hF.out.zb, hF.out.zq, hF.out.zt.step rfl rfl⟩
  refine FSteps.op3 hz rfl (dv := [4, 2]) (by kernel_rfl) (by kernel_rfl) (by kernel_rfl) (fun D s W bA kK hD hW hF hA hK => ?_) ?_
  · have x55 := hA.i 55 _ rfl rfl (hF.zt.get (j := 4) rfl hW.1)
    have hF := Lib.hid hF
    clear hA
    go_simp
    (go_at_call 50; ((with_reducible_and_instances refine (abs_b _ (by omega) _).mono ?_)); rintro e W1 ⟨rfl, hb⟩; (try unfold abVal))
    (try go_wp2_with fail)
    exact hK.out _ _ ⟨hF.out.zb.on hb, Bks.on hb hF.out.zq, hF.out.zt.step rfl rfl⟩
  refine FSteps.op3 hz rfl (dv := [2, 5]) (by kernel_rfl) (by kernel_rfl) (by kernel_rfl) (fun D s W bA kK hD hW hF hA hK => ?_) ?_
  · have x53 := hA.i 53 _ rfl rfl (hF.zt.get (j := 2) rfl hW.1)
    have x56 := hA.i 56 _ rfl rfl (hF.zt.get (j := 5) rfl hW.2.1)
    have hF := Lib.hid hF
    clear hA
    have hm6_0 : (if (absS a.lo) < (absS a.hi) then (absS a.hi) else (absS a.lo)) = max (absS a.lo) (absS a.hi) := max_is _ _
    go_simp
    exact hK.out _ _ ⟨hF.out.zb, hF.out.zq, hF.out.zt.step rfl rfl⟩
  refine FSteps.op3 hz rfl (dv := [6, 5, 0, 1, 2, 3, 4, 5, 6]) (by kernel_rfl) (by kernel_rfl) (by kernel_rfl) (fun D s W bA kK hD hW hF hA hK => ?_) ?_
  · have x57 := hA.i 57 _ rfl rfl (hF.zt.get (j := 6) rfl hW.1)
    have hF := Lib.hid hF
    clear hA
    go_simp
    exact hK.out _ _ ⟨hF.out.zb, hF.out.zq, hF.out.zt.step rfl rfl⟩
  exact FSteps.nil
  intro D s W aF6 hD hF hz' df' hA
  obtain ⟨d0, d1, d2, d3, d4, d5, d6, d7, -⟩ := hD
  clear u3 u6 u50
  replace u1 : Sl aF6 1 _ := hA.o 1 _ rfl u1
  replace u2 : Sl aF6 2 _ := hA.o 2 _ rfl u2
  replace u5 : Sl aF6 5 _ := hA.o 5 _ rfl u5
  have u6 : Sl aF6 6 _ := hA.i 6 _ rfl rfl (hF.zt.get (j := 7) rfl d7)
  have hM := hF.zb
  have hB := hF.zq
  have hB : Bks W [(n1_0, #[Value.int .i64 a.lo, Value.int .i64 a.hi, Value.int .i64 a.m, Value.int .i64 a.r, Value.int .i64 a.k, Value.int .i64 b.lo, Value.int .i64 b.hi, Value.int .i64 b.m, Value.int .i64 b.r, Value.int .i64 b.k, Value.int .i64 k], 72), (n1_1, #[Value.int .i64 0, Value.int .i64 0, Value.int .i64 0, Value.int .i64 0, Value.int .i64 0], 27)] := ⟨hB.1, hB.2.1, trivial⟩
  clear hF hA hz df d0 d1 d2 d3 d4 d5 d6 d7 hU
  have hz := hz'; have df := df'; clear hz' df'
  clear aF5
  show Code.wp _ _ _ _ _
  obtain ⟨m7, hM, hU, hwm⟩ := start_region hM.b hB
  refine region_run (F := pdiv_za_r7_7 a b k n1_0 n1_1 w m7) [58, 59, 5] [0, 1, 2] hz df (by kernel_rfl) (by kernel_rfl) (fun s hs0 => ⟨hM, hB, Vals.none s _⟩) ?_ ?_
  refine FSteps.op3 hz rfl (dv := []) (by kernel_rfl) (by kernel_rfl) (by kernel_rfl) (fun D s W bA kK hD hW hF hA hK => ?_) ?_
  · have x6 := hA.o 6 _ rfl u6
    have hF := Lib.hid hF
    clear hA
    go_simp
    exact hK.out _ _ ⟨hF.out.zb, hF.out.zq, hF.out.zt.step rfl rfl⟩
  refine FSteps.op3 hz rfl (dv := [0]) (by kernel_rfl) (by kernel_rfl) (by kernel_rfl) (fun D s W bA kK hD hW hF hA hK => ?_) ?_
  · have x58 := hA.i 58 _ rfl rfl (hF.zt.get (j := 0) rfl hW.1)
    have hF := Lib.hid hF
    clear hA
    have hw1 : IntKind.i64.wrap (-(max (absS a.lo) (absS a.hi))) = -(max (absS a.lo) (absS a.hi)) := IntWalk.i64_in _ (by omega)
    go_simp
    exact hK.out _ _ ⟨hF.out.zb, hF.out.zq, hF.out.zt.step rfl rfl⟩
  refine FSteps.op3 hz rfl (dv := [1, 0, 1]) (by kernel_rfl) (by kernel_rfl) (by kernel_rfl) (fun D s W bA kK hD hW hF hA hK => ?_) ?_
  · have x59 := hA.i 59 _ rfl rfl (hF.zt.get (j := 1) rfl hW.1)
    have hF := Lib.hid hF
    clear hA
    go_simp
    exact hK.out _ _ ⟨hF.out.zb, hF.out.zq, hF.out.zt.step rfl rfl⟩
  exact FSteps.nil
  intro D s W aF7 hD hF hz' df' hA
  obtain ⟨d0, d1, d2, -⟩ := hD
  clear u5
  replace u1 : Sl aF7 1 _ := hA.o 1 _ rfl u1
  replace u2 : Sl aF7 2 _ := hA.o 2 _ rfl u2
  replace u6 : Sl aF7 6 _ := hA.o 6 _ rfl u6
  have u5 : Sl aF7 5 _ := hA.i 5 _ rfl rfl (hF.zt.get (j := 2) rfl d2)
  have hM := hF.zb
  have hB := hF.zq
  have hB : Bks W [(n1_0, #[Value.int .i64 a.lo, Value.int .i64 a.hi, Value.int .i64 a.m, Value.int .i64 a.r, Value.int .i64 a.k, Value.int .i64 b.lo, Value.int .i64 b.hi, Value.int .i64 b.m, Value.int .i64 b.r, Value.int .i64 b.k, Value.int .i64 k], 72), (n1_1, #[Value.int .i64 0, Value.int .i64 0, Value.int .i64 0, Value.int .i64 0, Value.int .i64 0], 27)] := ⟨hB.1, hB.2.1, trivial⟩
  clear hF hA hz df d0 d1 d2 hU
  have hz := hz'; have df := df'; clear hz' df'
  clear aF6
  show Code.wp _ _ _ _ _
  exact pdiv_tail k (-(max (absS a.lo) (absS a.hi))) (max (absS a.lo) (absS a.hi)) w (by omega) (by omega) (by omega) aF7 W n1_0 n1_1 hw_n1_1 (by omega) hz df u1 u2 u5 u6 hM.b ⟨hB.1, hB.2.1, trivial⟩

structure pdiv_zn_r0_1 (a b : Ab) (k : Int) (w : World) (m1 : Nat) (D : Nat → Bool) (s : Nat → Value) (W : World) : Prop where
  zb : Mk0 w m1 W
  zq : Bks W []
  zt : Vals D s []
  v0 : D 0 = true → s 1 = (Value.pointer (some ⟨pblk (s 1), 0, none⟩))
  v1 : D 1 = true → s 2 = (Value.pointer (some ⟨pblk (s 2), 0, none⟩))
  k0_0 : D 0 = true → Bk W (pblk (s 1)) #[Value.int .i64 a.lo, Value.int .i64 a.hi, Value.int .i64 a.m, Value.int .i64 a.r, Value.int .i64 a.k, Value.int .i64 b.lo, Value.int .i64 b.hi, Value.int .i64 b.m, Value.int .i64 b.r, Value.int .i64 b.k, Value.int .i64 k] 72
  g0 : D 0 = true → m1 ≤ (pblk (s 1))
  k1_0 : D 1 = true → Bk W (pblk (s 2)) #[Value.int .i64 0, Value.int .i64 0, Value.int .i64 0, Value.int .i64 0, Value.int .i64 0] 27
  g1 : D 1 = true → m1 ≤ (pblk (s 2))
  e0_1 : D 0 = true → D 1 = true → pblk (s 1) ≠ pblk (s 2)

structure pdiv_zn_r1_2 (a b : Ab) (k : Int) (n1_0 n1_1 : Nat) (w : World) (m2 : Nat) (D : Nat → Bool) (s : Nat → Value) (W : World) : Prop where
  zb : Mk0 w m2 W
  zq : Bks W [(n1_0, #[Value.int .i64 a.lo, Value.int .i64 a.hi, Value.int .i64 a.m, Value.int .i64 a.r, Value.int .i64 a.k, Value.int .i64 b.lo, Value.int .i64 b.hi, Value.int .i64 b.m, Value.int .i64 b.r, Value.int .i64 b.k, Value.int .i64 k], 72), (n1_1, #[Value.int .i64 0, Value.int .i64 0, Value.int .i64 0, Value.int .i64 0, Value.int .i64 0], 27)]
  zt : Vals D s [(0, 7, Value.pointer (some ⟨n1_0, 0, none⟩)), (1, 8, Value.agg #[Value.int .i64 a.lo, Value.int .i64 a.hi, Value.int .i64 a.m, Value.int .i64 a.r, Value.int .i64 a.k]), (2, 9, Value.pointer (some ⟨n1_0, 5, none⟩)), (3, 10, Value.agg #[Value.int .i64 b.lo, Value.int .i64 b.hi, Value.int .i64 b.m, Value.int .i64 b.r, Value.int .i64 b.k])]
  v4 : D 4 = true → s 3 = (Value.pointer (some ⟨pblk (s 3), 0, none⟩))
  v5 : D 5 = true → s 4 = (Value.pointer (some ⟨pblk (s 4), 0, none⟩))
  k4_0 : D 4 = true → D 6 = false → Bk W (pblk (s 3)) #[Value.int .i64 0, Value.int .i64 0, Value.int .i64 0, Value.int .i64 0, Value.int .i64 0] 27
  k4_1 : D 6 = true → Bk W (pblk (s 3)) #[Value.int .i64 a.lo, Value.int .i64 a.hi, Value.int .i64 a.m, Value.int .i64 a.r, Value.int .i64 a.k] 27
  c4_1 : D 6 = true → D 4 = true
  g4 : D 4 = true → m2 ≤ (pblk (s 3))
  k5_0 : D 5 = true → D 7 = false → Bk W (pblk (s 4)) #[Value.int .i64 0, Value.int .i64 0, Value.int .i64 0, Value.int .i64 0, Value.int .i64 0] 27
  k5_1 : D 7 = true → Bk W (pblk (s 4)) #[Value.int .i64 b.lo, Value.int .i64 b.hi, Value.int .i64 b.m, Value.int .i64 b.r, Value.int .i64 b.k] 27
  c5_1 : D 7 = true → D 5 = true
  g5 : D 5 = true → m2 ≤ (pblk (s 4))
  e4_5 : D 4 = true → D 5 = true → pblk (s 3) ≠ pblk (s 4)

structure pdiv_zn_r2_3 (a b : Ab) (k : Int) (n1_0 n1_1 n2_4 n2_5 : Nat) (w : World) (m3 : Nat) (D : Nat → Bool) (s : Nat → Value) (W : World) : Prop where
  zb : Mk0 w m3 W
  zq : Bks W [(n1_0, #[Value.int .i64 a.lo, Value.int .i64 a.hi, Value.int .i64 a.m, Value.int .i64 a.r, Value.int .i64 a.k, Value.int .i64 b.lo, Value.int .i64 b.hi, Value.int .i64 b.m, Value.int .i64 b.r, Value.int .i64 b.k, Value.int .i64 k], 72), (n1_1, #[Value.int .i64 0, Value.int .i64 0, Value.int .i64 0, Value.int .i64 0, Value.int .i64 0], 27), (n2_4, #[Value.int .i64 a.lo, Value.int .i64 a.hi, Value.int .i64 a.m, Value.int .i64 a.r, Value.int .i64 a.k], 27), (n2_5, #[Value.int .i64 b.lo, Value.int .i64 b.hi, Value.int .i64 b.m, Value.int .i64 b.r, Value.int .i64 b.k], 27)]
  zt : Vals D s [(0, 11, Value.pointer (some ⟨n2_4, 1, none⟩)), (1, 12, Value.int .i64 a.hi), (2, 5, Value.int .i64 0), (3, 6, Value.int .i64 a.hi)]

structure pdiv_zn_r3_4 (a b : Ab) (k : Int) (n1_0 n1_1 n2_4 n2_5 : Nat) (w : World) (m4 : Nat) (D : Nat → Bool) (s : Nat → Value) (W : World) : Prop where
  zb : Mk0 w m4 W
  zq : Bks W [(n1_0, #[Value.int .i64 a.lo, Value.int .i64 a.hi, Value.int .i64 a.m, Value.int .i64 a.r, Value.int .i64 a.k, Value.int .i64 b.lo, Value.int .i64 b.hi, Value.int .i64 b.m, Value.int .i64 b.r, Value.int .i64 b.k, Value.int .i64 k], 72), (n1_1, #[Value.int .i64 0, Value.int .i64 0, Value.int .i64 0, Value.int .i64 0, Value.int .i64 0], 27), (n2_4, #[Value.int .i64 a.lo, Value.int .i64 a.hi, Value.int .i64 a.m, Value.int .i64 a.r, Value.int .i64 a.k], 27), (n2_5, #[Value.int .i64 b.lo, Value.int .i64 b.hi, Value.int .i64 b.m, Value.int .i64 b.r, Value.int .i64 b.k], 27)]
  zt : Vals D s [(0, 13, Value.agg #[Value.int .i64 b.lo, Value.int .i64 b.hi, Value.int .i64 b.m, Value.int .i64 b.r, Value.int .i64 b.k]), (1, 14, Value.int .i64 (stepS b)), (2, 15, Value.bool true), (3, 16, Value.bool true), (4, 17, Value.pointer (some ⟨n2_5, 0, none⟩)), (5, 18, Value.int .i64 b.lo), (6, 19, Value.bool false), (7, 20, Value.bool false)]

structure pdiv_zn_r5_5 (a b : Ab) (k : Int) (n1_0 n1_1 n2_4 n2_5 : Nat) (w : World) (m5 : Nat) (D : Nat → Bool) (s : Nat → Value) (W : World) : Prop where
  zb : Mk0 w m5 W
  zq : Bks W [(n1_0, #[Value.int .i64 a.lo, Value.int .i64 a.hi, Value.int .i64 a.m, Value.int .i64 a.r, Value.int .i64 a.k, Value.int .i64 b.lo, Value.int .i64 b.hi, Value.int .i64 b.m, Value.int .i64 b.r, Value.int .i64 b.k, Value.int .i64 k], 72), (n1_1, #[Value.int .i64 0, Value.int .i64 0, Value.int .i64 0, Value.int .i64 0, Value.int .i64 0], 27), (n2_4, #[Value.int .i64 a.lo, Value.int .i64 a.hi, Value.int .i64 a.m, Value.int .i64 a.r, Value.int .i64 a.k], 27), (n2_5, #[Value.int .i64 b.lo, Value.int .i64 b.hi, Value.int .i64 b.m, Value.int .i64 b.r, Value.int .i64 b.k], 27)]
  zt : Vals D s [(0, 43, Value.pointer (some ⟨n2_4, 0, none⟩)), (1, 44, Value.int .i64 a.lo), (2, 45, Value.bool false), (3, 46, Value.bool false), (4, 47, Value.pointer (some ⟨n2_5, 0, none⟩)), (5, 48, Value.int .i64 b.lo), (6, 49, Value.bool false), (7, 50, Value.bool false)]

set_option maxRecDepth 100000 in
set_option maxHeartbeats 4000000 in
theorem pdiv_zn {a b : Ab} (k : Int) (w : World) (ha : Good a) (hb : Good b) (hs : stepS b = 0) (hn : b.lo = 0) (h5 : 0 ≤ a.lo) :
    Calls Try.prog 77 #[Value.agg #[Value.int .i64 a.lo, Value.int .i64 a.hi, Value.int .i64 a.m, Value.int .i64 a.r, Value.int .i64 a.k, Value.int .i64 b.lo, Value.int .i64 b.hi, Value.int .i64 b.m, Value.int .i64 b.r, Value.int .i64 b.k, Value.int .i64 k]] w fun e w' => e = .returned (Value.agg #[Value.int .i64 (clampS 0 a.hi k).lo, Value.int .i64 (clampS 0 a.hi k).hi, Value.int .i64 (clampS 0 a.hi k).m, Value.int .i64 (clampS 0 a.hi k).r, Value.int .i64 (clampS 0 a.hi k).k]) ∧ Below w.heap.size w w' := by
  have a1 := ha.h1; have a2 := ha.h2; have a3 := ha.h3
  have b1 := hb.h1; have b2 := hb.h2; have b3 := hb.h3
  have sa := ha.step0; have sb := hb.step0
  replace hs := Lib.hid hs
  have h6 : 0 ≤ b.lo := by omega
  replace hn := Lib.hid hn
  refine calls_go Try.func77 rfl 76 rfl rfl (fun aF hz df hu => ?_)
  have u0 : Sl aF 0 (Value.agg #[Value.int .i64 a.lo, Value.int .i64 a.hi, Value.int .i64 a.m, Value.int .i64 a.r, Value.int .i64 a.k, Value.int .i64 b.lo, Value.int .i64 b.hi, Value.int .i64 b.m, Value.int .i64 b.r, Value.int .i64 b.k, Value.int .i64 k]) := hu 0 _ rfl
  clear hu
  have hM : Mk0 w w.heap.size w := ⟨Below.refl _ _, Nat.le_refl _⟩
  have hB : Bks w [] := trivial
  refine wp_seq ?_
  obtain ⟨m1, hM, hU, hwm⟩ := start_region hM.b hB
  refine region_run (F := pdiv_zn_r0_1 a b k w m1) [1, 2] [0, 1] hz df (by kernel_rfl) (by kernel_rfl) (fun s hs0 => ⟨hM, hB, Vals.none s _, fun h => no_of' h, fun h => no_of' h, fun h => no_of' h, fun h => no_of' h, fun h => no_of' h, fun h => no_of' h, fun h => no_of' h⟩) ?_ ?_
  refine FSteps.op3 hz rfl (dv := []) (by kernel_rfl) (by kernel_rfl) (by kernel_rfl) (fun D s W bA kK hD hW hF hA hK => ?_) ?_
  · have x0 := hA.o 0 _ rfl u0
    have hF := Lib.hid hF
    clear hA
    go_simp
    exact hK.out _ _ ⟨hF.out.zb.al _, Bks.al _ hF.out.zq, hF.out.zt.skip rfl, fun _ => rfl, hF.out.v1, fun _ => Bk.new _ _ _, fun _ => hF.out.zb.g, fun h1 => (hF.out.k1_0 h1).al _, hF.out.g1, fun _ h => Nat.ne_of_gt ((hF.out.k1_0 h).lt)⟩
  refine FSteps.op3 hz rfl (dv := []) (by kernel_rfl) (by kernel_rfl) (by kernel_rfl) (fun D s W bA kK hD hW hF hA hK => ?_) ?_
  · have hF := Lib.hid hF
    clear hA
    go_simp
    exact hK.out _ _ ⟨hF.out.zb.al _, Bks.al _ hF.out.zq, hF.out.zt.skip rfl, hF.out.v0, fun _ => rfl, fun h1 => (hF.out.k0_0 h1).al _, hF.out.g0, fun _ => Bk.new _ _ _, fun _ => hF.out.zb.g, fun h _ => Nat.ne_of_lt ((hF.out.k0_0 h).lt)⟩
  exact FSteps.nil
  intro D s W aF1 hD hF hz' df' hA
  obtain ⟨d0, d1, -⟩ := hD
  clear u0
  have u1 : Sl aF1 1 _ := hA.i 1 _ rfl rfl (hF.v0 d0)
  have u2 : Sl aF1 2 _ := hA.i 2 _ rfl rfl (hF.v1 d1)
  have hkX0 := hF.k0_0 d0
  have hgX0 := hF.g0 d0
  have hkX1 := hF.k1_0 d1
  have hgX1 := hF.g1 d1
  have heX0_1 := hF.e0_1 d0 d1
  have hM := hF.zb
  have hB := hF.zq
  generalize pblk (s 1) = n1_0 at hkX0 hgX0 hkX1 hgX1 heX0_1 u1 u2
  generalize pblk (s 2) = n1_1 at hkX0 hgX0 hkX1 hgX1 heX0_1 u1 u2
  have hB : Bks W [(n1_0, #[Value.int .i64 a.lo, Value.int .i64 a.hi, Value.int .i64 a.m, Value.int .i64 a.r, Value.int .i64 a.k, Value.int .i64 b.lo, Value.int .i64 b.hi, Value.int .i64 b.m, Value.int .i64 b.r, Value.int .i64 b.k, Value.int .i64 k], 72), (n1_1, #[Value.int .i64 0, Value.int .i64 0, Value.int .i64 0, Value.int .i64 0, Value.int .i64 0], 27)] := ⟨hkX0, hkX1, trivial⟩
  have hw_n1_1 : w.heap.size ≤ n1_1 := Nat.le_trans hwm hgX1
  clear hF hA hz df d0 d1 hU
  have hz := hz'; have df := df'; clear hz' df'
  clear aF
  show Code.wp _ _ _ _ _
  refine wp_seq ?_
  obtain ⟨m2, hM, hU, hwm⟩ := start_region hM.b hB
  refine region_go (F := pdiv_zn_r1_2 a b k n1_0 n1_1 w m2) [7, 8, 9, 10, 3, 4] [0, 1, 2, 3, 4, 5, 6, 7] hz df (by kernel_rfl) (by kernel_rfl) (by kernel_rfl) (fun s hs0 => ⟨hM.drew, Bks.drew hB, Vals.none s _, fun h => no_of' h, fun h => no_of' h, fun h => no_of' h, fun h => no_of' h, fun h => no_of' h, fun h => no_of' h, fun h => no_of' h, fun h => no_of' h, fun h => no_of' h, fun h => no_of' h, fun h => no_of' h⟩) ?_ ?_
  refine FSteps.op3 hz rfl (dv := []) (by kernel_rfl) (by kernel_rfl) (by kernel_rfl) (fun D s W bA kK hD hW hF hA hK => ?_) ?_
  · have x1 := hA.o 1 _ rfl u1
    have hF := Lib.hid hF
    clear hA
    go_simp
    exact hK.out _ _ ⟨hF.out.zb, hF.out.zq, hF.out.zt.step rfl rfl, hF.out.v4, hF.out.v5, hF.out.k4_0, hF.out.k4_1, hF.out.c4_1, hF.out.g4, hF.out.k5_0, hF.out.k5_1, hF.out.c5_1, hF.out.g5, hF.out.e4_5⟩
  refine FSteps.op3 hz rfl (dv := [0]) (by kernel_rfl) (by kernel_rfl) (by kernel_rfl) (fun D s W bA kK hD hW hF hA hK => ?_) ?_
  · have x7 := hA.i 7 _ rfl rfl (hF.zt.get (j := 0) rfl hW.1)
    obtain ⟨⟨c0, z0⟩, -, -⟩ := hF.zq.rules
    have hF := Lib.hid hF
    clear hA
    go_simp
    exact hK.out _ _ ⟨hF.out.zb, hF.out.zq, hF.out.zt.step rfl rfl, hF.out.v4, hF.out.v5, hF.out.k4_0, hF.out.k4_1, hF.out.c4_1, hF.out.g4, hF.out.k5_0, hF.out.k5_1, hF.out.c5_1, hF.out.g5, hF.out.e4_5⟩
  refine FSteps.op3 hz rfl (dv := []) (by kernel_rfl) (by kernel_rfl) (by kernel_rfl) (fun D s W bA kK hD hW hF hA hK => ?_) ?_
  · have x1 := hA.o 1 _ rfl u1
    have hF := Lib.hid hF
    clear hA
    go_simp
    exact hK.out _ _ ⟨hF.out.zb, hF.out.zq, hF.out.zt.step rfl rfl, hF.out.v4, hF.out.v5, hF.out.k4_0, hF.out.k4_1, hF.out.c4_1, hF.out.g4, hF.out.k5_0, hF.out.k5_1, hF.out.c5_1, hF.out.g5, hF.out.e4_5⟩
  refine FSteps.op3 hz rfl (dv := [2]) (by kernel_rfl) (by kernel_rfl) (by kernel_rfl) (fun D s W bA kK hD hW hF hA hK => ?_) ?_
  · have x9 := hA.i 9 _ rfl rfl (hF.zt.get (j := 2) rfl hW.1)
    obtain ⟨⟨c0, z0⟩, -, -⟩ := hF.zq.rules
    have hF := Lib.hid hF
    clear hA
    go_simp
    exact hK.out _ _ ⟨hF.out.zb, hF.out.zq, hF.out.zt.step rfl rfl, hF.out.v4, hF.out.v5, hF.out.k4_0, hF.out.k4_1, hF.out.c4_1, hF.out.g4, hF.out.k5_0, hF.out.k5_1, hF.out.c5_1, hF.out.g5, hF.out.e4_5⟩
  refine FSteps.op3 hz rfl (dv := []) (by kernel_rfl) (by kernel_rfl) (by kernel_rfl) (fun D s W bA kK hD hW hF hA hK => ?_) ?_
  · have hF := Lib.hid hF
    clear hA
    go_simp
    exact hK.out _ _ ⟨hF.out.zb.al _, Bks.al _ hF.out.zq, hF.out.zt.skip rfl, fun _ => rfl, hF.out.v5, fun _ _ => Bk.new _ _ _, fun h1 => absurd (hF.out.c4_1 h1) (by rw [hD]; decide), fun _ => rfl, fun _ => hF.out.zb.g, fun h1 h2 => (hF.out.k5_0 h1 h2).al _, fun h1 => (hF.out.k5_1 h1).al _, hF.out.c5_1, hF.out.g5, fun _ h => Nat.ne_of_gt (lt_of_either (hF.out.k5_0 h) hF.out.k5_1)⟩
  refine FSteps.op3 hz rfl (dv := []) (by kernel_rfl) (by kernel_rfl) (by kernel_rfl) (fun D s W bA kK hD hW hF hA hK => ?_) ?_
  · have hF := Lib.hid hF
    clear hA
    go_simp
    exact hK.out _ _ ⟨hF.out.zb.al _, Bks.al _ hF.out.zq, hF.out.zt.skip rfl, hF.out.v4, fun _ => rfl, fun h1 h2 => (hF.out.k4_0 h1 h2).al _, fun h1 => (hF.out.k4_1 h1).al _, hF.out.c4_1, hF.out.g4, fun _ _ => Bk.new _ _ _, fun h1 => absurd (hF.out.c5_1 h1) (by rw [hD]; decide), fun _ => rfl, fun _ => hF.out.zb.g, fun h _ => Nat.ne_of_lt (lt_of_either (hF.out.k4_0 h) hF.out.k4_1)⟩
  refine FSteps.op3 hz rfl (dv := [4, 1, 0, 1, 4, 5]) (by kernel_rfl) (by kernel_rfl) (by kernel_rfl) (fun D s W bA kK hD hW hF hA hK => ?_) ?_
  · have x3 := hA.i 3 _ rfl rfl (hF.v4 hW.1)
    have x8 := hA.i 8 _ rfl rfl (hF.zt.get (j := 1) rfl hW.2.1)
    have kk := hF.k4_0 hW.1 hD
    have hge := Nat.le_trans hwm (hF.g4 hW.1); have hge2 := hF.g4 hW.1
    have kc := kk.cell; have kf := kk.free
    have hF := Lib.hid hF
    have kk := Lib.hid kk; have hge := Lib.hid hge; have hge2 := Lib.hid hge2
    clear hA
    go_simp
    exact hK.out undef _ ⟨hF.out.zb.sAll (hge.out) 0 [Value.int .i64 a.lo, Value.int .i64 a.hi, Value.int .i64 a.m, Value.int .i64 a.r, Value.int .i64 a.k], Bks.oAll [Value.int .i64 a.lo, Value.int .i64 a.hi, Value.int .i64 a.m, Value.int .i64 a.r, Value.int .i64 a.k] 0 (Under.outside hge2.out hU) hF.out.zq, hF.out.zt.skip rfl, hF.out.v4, hF.out.v5, fun h1 h2 => no_of h2, fun _ => kk.out.full [Value.int .i64 a.lo, Value.int .i64 a.hi, Value.int .i64 a.m, Value.int .i64 a.r, Value.int .i64 a.k] rfl, fun _ => hW.1, hF.out.g4, fun h1 h2 => Bk.oAll ((hF.out.e4_5 hW.1 h1).symm) [Value.int .i64 a.lo, Value.int .i64 a.hi, Value.int .i64 a.m, Value.int .i64 a.r, Value.int .i64 a.k] 0 (hF.out.k5_0 h1 h2), fun h1 => Bk.oAll ((hF.out.e4_5 hW.1 (hF.out.c5_1 h1)).symm) [Value.int .i64 a.lo, Value.int .i64 a.hi, Value.int .i64 a.m, Value.int .i64 a.r, Value.int .i64 a.k] 0 (hF.out.k5_1 h1), hF.out.c5_1, hF.out.g5, hF.out.e4_5⟩
  refine FSteps.op3 hz rfl (dv := [5, 3, 6, 0, 1, 2, 3, 4, 5, 6]) (by kernel_rfl) (by kernel_rfl) (by kernel_rfl) (fun D s W bA kK hD hW hF hA hK => ?_) ?_
  · have x4 := hA.i 4 _ rfl rfl (hF.v5 hW.1)
    have x10 := hA.i 10 _ rfl rfl (hF.zt.get (j := 3) rfl hW.2.1)
    have kk := hF.k5_0 hW.1 hD
    have hge := Nat.le_trans hwm (hF.g5 hW.1); have hge2 := hF.g5 hW.1
    have kc := kk.cell; have kf := kk.free
    have hF := Lib.hid hF
    have kk := Lib.hid kk; have hge := Lib.hid hge; have hge2 := Lib.hid hge2
    clear hA
    go_simp
    exact hK.out undef _ ⟨hF.out.zb.sAll (hge.out) 0 [Value.int .i64 b.lo, Value.int .i64 b.hi, Value.int .i64 b.m, Value.int .i64 b.r, Value.int .i64 b.k], Bks.oAll [Value.int .i64 b.lo, Value.int .i64 b.hi, Value.int .i64 b.m, Value.int .i64 b.r, Value.int .i64 b.k] 0 (Under.outside hge2.out hU) hF.out.zq, hF.out.zt.skip rfl, hF.out.v4, hF.out.v5, fun h1 h2 => Bk.oAll (hF.out.e4_5 h1 hW.1) [Value.int .i64 b.lo, Value.int .i64 b.hi, Value.int .i64 b.m, Value.int .i64 b.r, Value.int .i64 b.k] 0 (hF.out.k4_0 h1 h2), fun h1 => Bk.oAll (hF.out.e4_5 (hF.out.c4_1 h1) hW.1) [Value.int .i64 b.lo, Value.int .i64 b.hi, Value.int .i64 b.m, Value.int .i64 b.r, Value.int .i64 b.k] 0 (hF.out.k4_1 h1), hF.out.c4_1, hF.out.g4, fun h1 h2 => no_of h2, fun _ => kk.out.full [Value.int .i64 b.lo, Value.int .i64 b.hi, Value.int .i64 b.m, Value.int .i64 b.r, Value.int .i64 b.k] rfl, fun _ => hW.1, hF.out.g5, hF.out.e4_5⟩
  exact FSteps.nil
  intro D s W aF2 hD hF hz' df' hA
  obtain ⟨d0, d1, d2, d3, d4, d5, d6, d7, -⟩ := hD
  replace u1 : Sl aF2 1 _ := hA.o 1 _ rfl u1
  replace u2 : Sl aF2 2 _ := hA.o 2 _ rfl u2
  have u3 : Sl aF2 3 _ := hA.i 3 _ rfl rfl (hF.v4 d4)
  have u4 : Sl aF2 4 _ := hA.i 4 _ rfl rfl (hF.v5 d5)
  have hkX4 := hF.k4_1 d6
  have hgX4 := hF.g4 d4
  have hkX5 := hF.k5_1 d7
  have hgX5 := hF.g5 d5
  have heX4_5 := hF.e4_5 d4 d5
  have hM := hF.zb
  have hB := hF.zq
  generalize pblk (s 3) = n2_4 at hkX4 hgX4 hkX5 hgX5 heX4_5 u3 u4
  generalize pblk (s 4) = n2_5 at hkX4 hgX4 hkX5 hgX5 heX4_5 u3 u4
  have hB : Bks W [(n1_0, #[Value.int .i64 a.lo, Value.int .i64 a.hi, Value.int .i64 a.m, Value.int .i64 a.r, Value.int .i64 a.k, Value.int .i64 b.lo, Value.int .i64 b.hi, Value.int .i64 b.m, Value.int .i64 b.r, Value.int .i64 b.k, Value.int .i64 k], 72), (n1_1, #[Value.int .i64 0, Value.int .i64 0, Value.int .i64 0, Value.int .i64 0, Value.int .i64 0], 27), (n2_4, #[Value.int .i64 a.lo, Value.int .i64 a.hi, Value.int .i64 a.m, Value.int .i64 a.r, Value.int .i64 a.k], 27), (n2_5, #[Value.int .i64 b.lo, Value.int .i64 b.hi, Value.int .i64 b.m, Value.int .i64 b.r, Value.int .i64 b.k], 27)] := ⟨hB.1, hB.2.1, hkX4, hkX5, trivial⟩
  obtain ⟨hl_0, hl_1, -⟩ := hU
  have hne_n1_1_n2_4 : n1_1 ≠ n2_4 := by omega
  have hne_n1_1_n2_5 : n1_1 ≠ n2_5 := by omega
  clear hF hA hz df d0 d1 d2 d3 d4 d5 d6 d7 
  have hz := hz'; have df := df'; clear hz' df'
  clear aF1
  show Code.wp _ _ _ _ _
  refine wp_seq ?_
  obtain ⟨m3, hM, hU, hwm⟩ := start_region hM.b hB
  refine region_go (F := pdiv_zn_r2_3 a b k n1_0 n1_1 n2_4 n2_5 w m3) [11, 12, 5, 6] [0, 1, 2, 3] hz df (by kernel_rfl) (by kernel_rfl) (by kernel_rfl) (fun s hs0 => ⟨hM.drew, Bks.drew hB, Vals.none s _⟩) ?_ ?_
  refine FSteps.op3 hz rfl (dv := []) (by kernel_rfl) (by kernel_rfl) (by kernel_rfl) (fun D s W bA kK hD hW hF hA hK => ?_) ?_
  · have x3 := hA.o 3 _ rfl u3
    have hF := Lib.hid hF
    clear hA
    go_simp
    exact hK.out _ _ ⟨hF.out.zb, hF.out.zq, hF.out.zt.step rfl rfl⟩
  refine FSteps.op3 hz rfl (dv := [0]) (by kernel_rfl) (by kernel_rfl) (by kernel_rfl) (fun D s W bA kK hD hW hF hA hK => ?_) ?_
  · have x11 := hA.i 11 _ rfl rfl (hF.zt.get (j := 0) rfl hW.1)
    obtain ⟨-, -, ⟨c2, z2⟩, -, -⟩ := hF.zq.rules
    have hF := Lib.hid hF
    clear hA
    go_simp
    exact hK.out _ _ ⟨hF.out.zb, hF.out.zq, hF.out.zt.step rfl rfl⟩
  refine FSteps.op3 hz rfl (dv := []) (by kernel_rfl) (by kernel_rfl) (by kernel_rfl) (fun D s W bA kK hD hW hF hA hK => ?_) ?_
  · have hF := Lib.hid hF
    clear hA
    go_simp
    exact hK.out _ _ ⟨hF.out.zb, hF.out.zq, hF.out.zt.step rfl rfl⟩
  refine FSteps.op3 hz rfl (dv := [1, 2, 0, 1, 2]) (by kernel_rfl) (by kernel_rfl) (by kernel_rfl) (fun D s W bA kK hD hW hF hA hK => ?_) ?_
  · have x12 := hA.i 12 _ rfl rfl (hF.zt.get (j := 1) rfl hW.1)
    have hF := Lib.hid hF
    clear hA
    go_simp
    exact hK.out _ _ ⟨hF.out.zb, hF.out.zq, hF.out.zt.step rfl rfl⟩
  exact FSteps.nil
  intro D s W aF3 hD hF hz' df' hA
  obtain ⟨d0, d1, d2, d3, -⟩ := hD
  replace u1 : Sl aF3 1 _ := hA.o 1 _ rfl u1
  replace u2 : Sl aF3 2 _ := hA.o 2 _ rfl u2
  replace u3 : Sl aF3 3 _ := hA.o 3 _ rfl u3
  replace u4 : Sl aF3 4 _ := hA.o 4 _ rfl u4
  have u5 : Sl aF3 5 _ := hA.i 5 _ rfl rfl (hF.zt.get (j := 2) rfl d2)
  have u6 : Sl aF3 6 _ := hA.i 6 _ rfl rfl (hF.zt.get (j := 3) rfl d3)
  have hM := hF.zb
  have hB := hF.zq
  have hB : Bks W [(n1_0, #[Value.int .i64 a.lo, Value.int .i64 a.hi, Value.int .i64 a.m, Value.int .i64 a.r, Value.int .i64 a.k, Value.int .i64 b.lo, Value.int .i64 b.hi, Value.int .i64 b.m, Value.int .i64 b.r, Value.int .i64 b.k, Value.int .i64 k], 72), (n1_1, #[Value.int .i64 0, Value.int .i64 0, Value.int .i64 0, Value.int .i64 0, Value.int .i64 0], 27), (n2_4, #[Value.int .i64 a.lo, Value.int .i64 a.hi, Value.int .i64 a.m, Value.int .i64 a.r, Value.int .i64 a.k], 27), (n2_5, #[Value.int .i64 b.lo, Value.int .i64 b.hi, Value.int .i64 b.m, Value.int .i64 b.r, Value.int .i64 b.k], 27)] := ⟨hB.1, hB.2.1, hB.2.2.1, hB.2.2.2.1, trivial⟩
  clear hF hA hz df d0 d1 d2 d3 hU
  have hz := hz'; have df := df'; clear hz' df'
  clear aF2
  show Code.wp _ _ _ _ _
  refine wp_seq ?_
  refine wp_seq ?_
  obtain ⟨m4, hM, hU, hwm⟩ := start_region hM.b hB
  refine region_run (F := pdiv_zn_r3_4 a b k n1_0 n1_1 n2_4 n2_5 w m4) [13, 14, 15, 16, 17, 18, 19, 20] [0, 1, 2, 3, 4, 5, 6, 7] hz df (by kernel_rfl) (by kernel_rfl) (fun s hs0 => ⟨hM, hB, Vals.none s _⟩) ?_ ?_
  refine FSteps.op3 hz rfl (dv := []) (by kernel_rfl) (by kernel_rfl) (by kernel_rfl) (fun D s W bA kK hD hW hF hA hK => ?_) ?_
  · have x4 := hA.o 4 _ rfl u4
    obtain ⟨-, -, -, ⟨c3, z3⟩, -⟩ := hF.zq.rules
    have hF := Lib.hid hF
    clear hA
    go_simp
    exact hK.out _ _ ⟨hF.out.zb, hF.out.zq, hF.out.zt.step rfl rfl⟩
  refine FSteps.op3 hz rfl (dv := [0]) (by kernel_rfl) (by kernel_rfl) (by kernel_rfl) (fun D s W bA kK hD hW hF hA hK => ?_) ?_
  · have x13 := hA.i 13 _ rfl rfl (hF.zt.get (j := 0) rfl hW.1)
    have hF := Lib.hid hF
    clear hA
    go_simp
    (go_at_call 44; ((with_reducible_and_instances refine (step_ab b _).mono ?_)); rintro e W1 ⟨rfl, hb⟩; (try unfold abVal))
    (try go_wp2_with fail)
    exact hK.out _ _ ⟨hF.out.zb.on hb, Bks.on hb hF.out.zq, hF.out.zt.step rfl rfl⟩
  refine FSteps.op3 hz rfl (dv := [1]) (by kernel_rfl) (by kernel_rfl) (by kernel_rfl) (fun D s W bA kK hD hW hF hA hK => ?_) ?_
  · have x14 := hA.i 14 _ rfl rfl (hF.zt.get (j := 1) rfl hW.1)
    have hF := Lib.hid hF
    clear hA
    have hd2 : ((stepS b) == 0) = true := beq_iff_eq.2 (by exact hs.out)
    go_simp
    exact hK.out _ _ ⟨hF.out.zb, hF.out.zq, hF.out.zt.step rfl rfl⟩
  refine FSteps.op3 hz rfl (dv := [2, 1]) (by kernel_rfl) (by kernel_rfl) (by kernel_rfl) (fun D s W bA kK hD hW hF hA hK => ?_) ?_
  · have x15 := hA.i 15 _ rfl rfl (hF.zt.get (j := 2) rfl hW.1)
    have hF := Lib.hid hF
    clear hA
    go_simp
    exact hK.out _ _ ⟨hF.out.zb, hF.out.zq, hF.out.zt.step rfl rfl⟩
  refine FSteps.yes3 (bv := true) hz rfl (dv := [3]) (by kernel_rfl) rfl (by kernel_rfl) (by kernel_rfl) (fun D s W hW hF => (hF.zt.get (j := 3) rfl hW.1)) (by kernel_rfl) (by kernel_rfl) (fun D s W bA kK hD hW hF hA hK => ?_) ?_
  · have x4 := hA.o 4 _ rfl u4
    have hF := Lib.hid hF
    clear hA
    go_simp
    exact hK.out _ _ ⟨hF.out.zb, hF.out.zq, hF.out.zt.step rfl rfl⟩
  refine FSteps.yes3 (bv := true) hz rfl (dv := [4, 3]) (by kernel_rfl) rfl (by kernel_rfl) (by kernel_rfl) (fun D s W hW hF => (hF.zt.get (j := 3) rfl hW.2.1)) (by kernel_rfl) (by kernel_rfl) (fun D s W bA kK hD hW hF hA hK => ?_) ?_
  · have x17 := hA.i 17 _ rfl rfl (hF.zt.get (j := 4) rfl hW.1)
    obtain ⟨-, -, -, ⟨c3, z3⟩, -⟩ := hF.zq.rules
    have hF := Lib.hid hF
    clear hA
    go_simp
    exact hK.out _ _ ⟨hF.out.zb, hF.out.zq, hF.out.zt.step rfl rfl⟩
  refine FSteps.yes3 (bv := true) hz rfl (dv := [5, 3]) (by kernel_rfl) rfl (by kernel_rfl) (by kernel_rfl) (fun D s W hW hF => (hF.zt.get (j := 3) rfl hW.2.1)) (by kernel_rfl) (by kernel_rfl) (fun D s W bA kK hD hW hF hA hK => ?_) ?_
  · have x18 := hA.i 18 _ rfl rfl (hF.zt.get (j := 5) rfl hW.1)
    have hF := Lib.hid hF
    clear hA
    have hd6 : (b.lo != 0) = false := (by rw [bne_eq_false_iff_eq]; exact hn.out)
    go_simp
    exact hK.out _ _ ⟨hF.out.zb, hF.out.zq, hF.out.zt.step rfl rfl⟩
  refine FSteps.op3 hz rfl (dv := [3, 6]) (by kernel_rfl) (by kernel_rfl) (by kernel_rfl) (fun D s W bA kK hD hW hF hA hK => ?_) ?_
  · have x16 := hA.i 16 _ rfl rfl (hF.zt.get (j := 3) rfl hW.1)
    have x19 := hA.i 19 _ rfl rfl (hF.zt.get (j := 6) rfl hW.2.1)
    have hF := Lib.hid hF
    clear hA
    go_simp
    exact hK.out _ _ ⟨hF.out.zb, hF.out.zq, hF.out.zt.step rfl rfl⟩
  exact FSteps.nil
  intro D s W aF4 hD hF hz' df' hA
  obtain ⟨d0, d1, d2, d3, d4, d5, d6, d7, -⟩ := hD
  replace u1 : Sl aF4 1 _ := hA.o 1 _ rfl u1
  replace u2 : Sl aF4 2 _ := hA.o 2 _ rfl u2
  replace u3 : Sl aF4 3 _ := hA.o 3 _ rfl u3
  replace u4 : Sl aF4 4 _ := hA.o 4 _ rfl u4
  replace u5 : Sl aF4 5 _ := hA.o 5 _ rfl u5
  replace u6 : Sl aF4 6 _ := hA.o 6 _ rfl u6
  have u20 : Sl aF4 20 _ := hA.i 20 _ rfl rfl (hF.zt.get (j := 7) rfl d7)
  have hM := hF.zb
  have hB := hF.zq
  have hB : Bks W [(n1_0, #[Value.int .i64 a.lo, Value.int .i64 a.hi, Value.int .i64 a.m, Value.int .i64 a.r, Value.int .i64 a.k, Value.int .i64 b.lo, Value.int .i64 b.hi, Value.int .i64 b.m, Value.int .i64 b.r, Value.int .i64 b.k, Value.int .i64 k], 72), (n1_1, #[Value.int .i64 0, Value.int .i64 0, Value.int .i64 0, Value.int .i64 0, Value.int .i64 0], 27), (n2_4, #[Value.int .i64 a.lo, Value.int .i64 a.hi, Value.int .i64 a.m, Value.int .i64 a.r, Value.int .i64 a.k], 27), (n2_5, #[Value.int .i64 b.lo, Value.int .i64 b.hi, Value.int .i64 b.m, Value.int .i64 b.r, Value.int .i64 b.k], 27)] := ⟨hB.1, hB.2.1, hB.2.2.1, hB.2.2.2.1, trivial⟩
  clear hF hA hz df d0 d1 d2 d3 d4 d5 d6 d7 hU
  have hz := hz'; have df := df'; clear hz' df'
  clear aF3
  show Code.wp _ _ _ _ _
  refine cond_f u20 ?_
  refine wp_seq ?_
  obtain ⟨m5, hM, hU, hwm⟩ := start_region hM.b hB
  refine region_run (F := pdiv_zn_r5_5 a b k n1_0 n1_1 n2_4 n2_5 w m5) [43, 44, 45, 46, 47, 48, 49, 50] [0, 1, 2, 3, 4, 5, 6, 7] hz df (by kernel_rfl) (by kernel_rfl) (fun s hs0 => ⟨hM, hB, Vals.none s _⟩) ?_ ?_
  refine FSteps.op3 hz rfl (dv := []) (by kernel_rfl) (by kernel_rfl) (by kernel_rfl) (fun D s W bA kK hD hW hF hA hK => ?_) ?_
  · have x3 := hA.o 3 _ rfl u3
    have hF := Lib.hid hF
    clear hA
    go_simp
    exact hK.out _ _ ⟨hF.out.zb, hF.out.zq, hF.out.zt.step rfl rfl⟩
  refine FSteps.op3 hz rfl (dv := [0]) (by kernel_rfl) (by kernel_rfl) (by kernel_rfl) (fun D s W bA kK hD hW hF hA hK => ?_) ?_
  · have x43 := hA.i 43 _ rfl rfl (hF.zt.get (j := 0) rfl hW.1)
    obtain ⟨-, -, ⟨c2, z2⟩, -, -⟩ := hF.zq.rules
    have hF := Lib.hid hF
    clear hA
    go_simp
    exact hK.out _ _ ⟨hF.out.zb, hF.out.zq, hF.out.zt.step rfl rfl⟩
  refine FSteps.op3 hz rfl (dv := [1]) (by kernel_rfl) (by kernel_rfl) (by kernel_rfl) (fun D s W bA kK hD hW hF hA hK => ?_) ?_
  · have x44 := hA.i 44 _ rfl rfl (hF.zt.get (j := 1) rfl hW.1)
    have hF := Lib.hid hF
    clear hA
    have hd2 : decide (a.lo < 0) = false := decide_eq_false (by omega)
    go_simp
    exact hK.out _ _ ⟨hF.out.zb, hF.out.zq, hF.out.zt.step rfl rfl⟩
  refine FSteps.op3 hz rfl (dv := [2]) (by kernel_rfl) (by kernel_rfl) (by kernel_rfl) (fun D s W bA kK hD hW hF hA hK => ?_) ?_
  · have x45 := hA.i 45 _ rfl rfl (hF.zt.get (j := 2) rfl hW.1)
    have hF := Lib.hid hF
    clear hA
    go_simp
    exact hK.out _ _ ⟨hF.out.zb, hF.out.zq, hF.out.zt.step rfl rfl⟩
  refine FSteps.yes3 (bv := false) hz rfl (dv := [3]) (by kernel_rfl) rfl (by kernel_rfl) (by kernel_rfl) (fun D s W hW hF => (hF.zt.get (j := 3) rfl hW.1)) (by kernel_rfl) (by kernel_rfl) (fun D s W bA kK hD hW hF hA hK => ?_) ?_
  · have x4 := hA.o 4 _ rfl u4
    have hF := Lib.hid hF
    clear hA
    go_simp
    exact hK.out _ _ ⟨hF.out.zb, hF.out.zq, hF.out.zt.step rfl rfl⟩
  refine FSteps.yes3 (bv := false) hz rfl (dv := [4, 3]) (by kernel_rfl) rfl (by kernel_rfl) (by kernel_rfl) (fun D s W hW hF => (hF.zt.get (j := 3) rfl hW.2.1)) (by kernel_rfl) (by kernel_rfl) (fun D s W bA kK hD hW hF hA hK => ?_) ?_
  · have x47 := hA.i 47 _ rfl rfl (hF.zt.get (j := 4) rfl hW.1)
    obtain ⟨-, -, -, ⟨c3, z3⟩, -⟩ := hF.zq.rules
    have hF := Lib.hid hF
    clear hA
    go_simp
    exact hK.out _ _ ⟨hF.out.zb, hF.out.zq, hF.out.zt.step rfl rfl⟩
  refine FSteps.yes3 (bv := false) hz rfl (dv := [5, 3]) (by kernel_rfl) rfl (by kernel_rfl) (by kernel_rfl) (fun D s W hW hF => (hF.zt.get (j := 3) rfl hW.2.1)) (by kernel_rfl) (by kernel_rfl) (fun D s W bA kK hD hW hF hA hK => ?_) ?_
  · have x48 := hA.i 48 _ rfl rfl (hF.zt.get (j := 5) rfl hW.1)
    have hF := Lib.hid hF
    clear hA
    have hd6 : decide (b.lo < 0) = false := decide_eq_false (by omega)
    go_simp
    exact hK.out _ _ ⟨hF.out.zb, hF.out.zq, hF.out.zt.step rfl rfl⟩
  refine FSteps.op3 hz rfl (dv := [3, 6]) (by kernel_rfl) (by kernel_rfl) (by kernel_rfl) (fun D s W bA kK hD hW hF hA hK => ?_) ?_
  · have x46 := hA.i 46 _ rfl rfl (hF.zt.get (j := 3) rfl hW.1)
    have x49 := hA.i 49 _ rfl rfl (hF.zt.get (j := 6) rfl hW.2.1)
    have hF := Lib.hid hF
    clear hA
    go_simp
    exact hK.out _ _ ⟨hF.out.zb, hF.out.zq, hF.out.zt.step rfl rfl⟩
  exact FSteps.nil
  intro D s W aF5 hD hF hz' df' hA
  obtain ⟨d0, d1, d2, d3, d4, d5, d6, d7, -⟩ := hD
  clear u4 u20
  replace u1 : Sl aF5 1 _ := hA.o 1 _ rfl u1
  replace u2 : Sl aF5 2 _ := hA.o 2 _ rfl u2
  replace u3 : Sl aF5 3 _ := hA.o 3 _ rfl u3
  replace u5 : Sl aF5 5 _ := hA.o 5 _ rfl u5
  replace u6 : Sl aF5 6 _ := hA.o 6 _ rfl u6
  have u50 : Sl aF5 50 _ := hA.i 50 _ rfl rfl (hF.zt.get (j := 7) rfl d7)
  have hM := hF.zb
  have hB := hF.zq
  have hB : Bks W [(n1_0, #[Value.int .i64 a.lo, Value.int .i64 a.hi, Value.int .i64 a.m, Value.int .i64 a.r, Value.int .i64 a.k, Value.int .i64 b.lo, Value.int .i64 b.hi, Value.int .i64 b.m, Value.int .i64 b.r, Value.int .i64 b.k, Value.int .i64 k], 72), (n1_1, #[Value.int .i64 0, Value.int .i64 0, Value.int .i64 0, Value.int .i64 0, Value.int .i64 0], 27), (n2_4, #[Value.int .i64 a.lo, Value.int .i64 a.hi, Value.int .i64 a.m, Value.int .i64 a.r, Value.int .i64 a.k], 27)] := ⟨hB.1, hB.2.1, hB.2.2.1, trivial⟩
  clear hF hA hz df d0 d1 d2 d3 d4 d5 d6 d7 hU
  have hz := hz'; have df := df'; clear hz' df'
  clear aF4
  show Code.wp _ _ _ _ _
  refine cond_f u50 ?_
  refine wp_skip ?_
  show Code.wp _ _ _ _ _
  exact pdiv_tail k 0 a.hi w (by omega) (by omega) (by omega) aF5 W n1_0 n1_1 hw_n1_1 (by omega) hz df u1 u2 u5 u6 hM.b ⟨hB.1, hB.2.1, trivial⟩

def divS' (a b : Ab) (k : Int) : Ab :=
  if stepS b = 0 ∧ b.lo ≠ 0 then clampS (min (a.lo.tdiv b.lo) (a.hi.tdiv b.lo)) (max (a.lo.tdiv b.lo) (a.hi.tdiv b.lo)) k
  else if a.lo < 0 ∨ b.lo < 0 then clampS (-(max (absS a.lo) (absS a.hi))) (max (absS a.lo) (absS a.hi)) k
  else clampS 0 a.hi k
theorem pdiv_is {a b : Ab} (k : Int) (w : World) (ha : Good a) (hb : Good b) :
    Calls Try.prog 77 #[Value.agg #[Value.int .i64 a.lo, Value.int .i64 a.hi, Value.int .i64 a.m, Value.int .i64 a.r, Value.int .i64 a.k, Value.int .i64 b.lo, Value.int .i64 b.hi, Value.int .i64 b.m, Value.int .i64 b.r, Value.int .i64 b.k, Value.int .i64 k]] w fun e w' => e = .returned (abVal (divS' a b k)) ∧ Below w.heap.size w w' := by
  have a1 := ha.h1; have a2 := ha.h2; have a3 := ha.h3
  unfold divS'
  by_cases hs : stepS b = 0
  · by_cases hn : b.lo = 0
    · rw [if_neg (fun h => h.2 hn)]
      by_cases h5 : a.lo < 0
      · rw [if_pos (Or.inl h5)]; exact pdiv_za k w ha hb hs hn h5
      · rw [if_neg (by omega)]; exact pdiv_zn k w ha hb hs hn (by omega)
    · rw [if_pos ⟨hs, hn⟩]; exact pdiv_1 k w ha hb hs hn
  · rw [if_neg (fun h => hs h.1)]
    by_cases h5 : a.lo < 0
    · rw [if_pos (Or.inl h5)]; exact pdiv_sa k w ha hb hs h5
    · by_cases h6 : b.lo < 0
      · rw [if_pos (Or.inr h6)]; exact pdiv_sb k w ha hb hs (by omega) h6
      · rw [if_neg (by omega)]; exact pdiv_sn k w ha hb hs (by omega) (by omega)


end Go.Proofs.Ytlokjiniigfaiaa
