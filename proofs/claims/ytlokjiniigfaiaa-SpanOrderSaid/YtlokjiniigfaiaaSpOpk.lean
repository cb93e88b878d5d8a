/- The contract of span.Op at sets that are right. -/
import Derived.Test.YtlokjiniigfaiaaSpDiv
import Derived.Test.YtlokjiniigfaiaaSpRemP
import Derived.Test.YtlokjiniigfaiaaSpOp
import Derived.Test.YtlokjiniigfaiaaNumOp
set_option linter.unusedVariables false
set_option linter.unusedSimpArgs false
namespace Go.Proofs.Ytlokjiniigfaiaa
open Go.ChangeShapes Go.WideShapes Go.ChangeAt Go.RowKit

theorem opV_bd (op x y : Int) : -2147483648 ≤ opV op x y ∧ opV op x y ≤ 2147483647 := by
  have h := fun z => wrap32_bd z
  have b1 := h x; have b2 := h y
  unfold opV
  repeat' split
  all_goals first | exact h _ | omega
theorem of_ab (v k : Int) (hv : -2147483648 ≤ v ∧ v ≤ 2147483647) (w : World) : Calls Try.prog 24 #[.agg #[.int .i64 v, .int .i64 k]] w fun e w' => e = .returned (abVal (byS v v 0 k)) ∧ Below w.heap.size w w' := of_is v k (by omega) w

structure op1_is_r0_1 (op : Int) (a b : Ab) (w : World) (m1 : Nat) (D : Nat → Bool) (s : Nat → Value) (W : World) : Prop where
  zb : Mk0 w m1 W
  zq : Bks W []
  zt : Vals D s []
  v0 : D 0 = true → s 4 = (Value.pointer (some ⟨pblk (s 4), 0, none⟩))
  v1 : D 1 = true → s 5 = (Value.pointer (some ⟨pblk (s 5), 0, none⟩))
  v2 : D 2 = true → s 6 = (Value.pointer (some ⟨pblk (s 6), 0, none⟩))
  k0_0 : D 0 = true → Bk W (pblk (s 4)) #[Value.int .i64 a.lo, Value.int .i64 a.hi, Value.int .i64 a.m, Value.int .i64 a.r, Value.int .i64 a.k] 27
  g0 : D 0 = true → m1 ≤ (pblk (s 4))
  k1_0 : D 1 = true → Bk W (pblk (s 5)) #[Value.int .i64 b.lo, Value.int .i64 b.hi, Value.int .i64 b.m, Value.int .i64 b.r, Value.int .i64 b.k] 27
  g1 : D 1 = true → m1 ≤ (pblk (s 5))
  k2_0 : D 2 = true → Bk W (pblk (s 6)) #[Value.int .i64 0, Value.int .i64 0, Value.int .i64 0, Value.int .i64 0, Value.int .i64 0] 27
  g2 : D 2 = true → m1 ≤ (pblk (s 6))
  e0_1 : D 0 = true → D 1 = true → pblk (s 4) ≠ pblk (s 5)
  e0_2 : D 0 = true → D 2 = true → pblk (s 4) ≠ pblk (s 6)
  e1_2 : D 1 = true → D 2 = true → pblk (s 5) ≠ pblk (s 6)

structure op1_is_r1_2 (op : Int) (a b : Ab) (n1_0 n1_1 n1_2 : Nat) (w : World) (m2 : Nat) (D : Nat → Bool) (s : Nat → Value) (W : World) : Prop where
  zb : Mk0 w m2 W
  zq : Bks W [(n1_0, #[Value.int .i64 a.lo, Value.int .i64 a.hi, Value.int .i64 a.m, Value.int .i64 a.r, Value.int .i64 a.k], 27), (n1_1, #[Value.int .i64 b.lo, Value.int .i64 b.hi, Value.int .i64 b.m, Value.int .i64 b.r, Value.int .i64 b.k], 27), (n1_2, #[Value.int .i64 0, Value.int .i64 0, Value.int .i64 0, Value.int .i64 0, Value.int .i64 0], 27)]
  zt : Vals D s [(0, 8, Value.agg #[Value.int .i64 a.lo, Value.int .i64 a.hi, Value.int .i64 a.m, Value.int .i64 a.r, Value.int .i64 a.k]), (1, 9, Value.agg #[Value.int .i64 b.lo, Value.int .i64 b.hi, Value.int .i64 b.m, Value.int .i64 b.r, Value.int .i64 b.k]), (2, 10, Value.pointer (some ⟨n1_0, 4, none⟩)), (3, 11, Value.int .i64 a.k), (4, 12, Value.pointer (some ⟨n1_1, 4, none⟩)), (5, 13, Value.int .i64 b.k), (6, 14, Value.int .i64 (bits .or .i64 a.k b.k)), (7, 15, Value.agg #[Value.int .i64 a.lo, Value.int .i64 a.hi, Value.int .i64 a.m, Value.int .i64 a.r, Value.int .i64 a.k, Value.int .i64 b.lo, Value.int .i64 b.hi, Value.int .i64 b.m, Value.int .i64 b.r, Value.int .i64 b.k, Value.int .i64 (bits .or .i64 a.k b.k)])]
  v8 : D 8 = true → s 7 = (Value.pointer (some ⟨pblk (s 7), 0, none⟩))
  k8_0 : D 8 = true → D 9 = false → Bk W (pblk (s 7)) #[Value.int .i64 0, Value.int .i64 0, Value.int .i64 0, Value.int .i64 0, Value.int .i64 0, Value.int .i64 0, Value.int .i64 0, Value.int .i64 0, Value.int .i64 0, Value.int .i64 0, Value.int .i64 0] 72
  k8_1 : D 9 = true → Bk W (pblk (s 7)) #[Value.int .i64 a.lo, Value.int .i64 a.hi, Value.int .i64 a.m, Value.int .i64 a.r, Value.int .i64 a.k, Value.int .i64 b.lo, Value.int .i64 b.hi, Value.int .i64 b.m, Value.int .i64 b.r, Value.int .i64 b.k, Value.int .i64 (bits .or .i64 a.k b.k)] 72
  c8_1 : D 9 = true → D 8 = true
  g8 : D 8 = true → m2 ≤ (pblk (s 7))

structure op1_is_r2_3 (op : Int) (a b : Ab) (n1_0 n1_1 n1_2 n2_8 : Nat) (w : World) (m3 : Nat) (D : Nat → Bool) (s : Nat → Value) (W : World) : Prop where
  zb : Mk0 w m3 W
  zq : Bks W [(n1_0, #[Value.int .i64 a.lo, Value.int .i64 a.hi, Value.int .i64 a.m, Value.int .i64 a.r, Value.int .i64 a.k], 27), (n1_1, #[Value.int .i64 b.lo, Value.int .i64 b.hi, Value.int .i64 b.m, Value.int .i64 b.r, Value.int .i64 b.k], 27), (n1_2, #[Value.int .i64 0, Value.int .i64 0, Value.int .i64 0, Value.int .i64 0, Value.int .i64 0], 27), (n2_8, #[Value.int .i64 a.lo, Value.int .i64 a.hi, Value.int .i64 a.m, Value.int .i64 a.r, Value.int .i64 a.k, Value.int .i64 b.lo, Value.int .i64 b.hi, Value.int .i64 b.m, Value.int .i64 b.r, Value.int .i64 b.k, Value.int .i64 (bits .or .i64 a.k b.k)], 72)]
  zt : Vals D s [(0, 16, Value.agg #[Value.int .i64 a.lo, Value.int .i64 a.hi, Value.int .i64 a.m, Value.int .i64 a.r, Value.int .i64 a.k]), (1, 17, Value.int .i64 (stepS a)), (2, 18, Value.bool true), (3, 19, Value.bool true), (4, 20, Value.agg #[Value.int .i64 b.lo, Value.int .i64 b.hi, Value.int .i64 b.m, Value.int .i64 b.r, Value.int .i64 b.k]), (5, 21, Value.int .i64 (stepS b)), (6, 22, Value.bool true), (7, 23, Value.bool true), (8, 24, Value.bool true), (9, 25, undef), (10, 26, undef), (11, 27, Value.bool true), (12, 28, Value.bool true), (13, 29, undef), (14, 30, undef), (15, 31, Value.bool true)]

structure op1_is_r3_4 (op : Int) (a b : Ab) (n1_0 n1_1 n1_2 n2_8 : Nat) (w : World) (m4 : Nat) (D : Nat → Bool) (s : Nat → Value) (W : World) : Prop where
  zb : Mk0 w m4 W
  zq : Bks W [(n1_0, #[Value.int .i64 a.lo, Value.int .i64 a.hi, Value.int .i64 a.m, Value.int .i64 a.r, Value.int .i64 a.k], 27), (n1_1, #[Value.int .i64 b.lo, Value.int .i64 b.hi, Value.int .i64 b.m, Value.int .i64 b.r, Value.int .i64 b.k], 27), (n2_8, #[Value.int .i64 a.lo, Value.int .i64 a.hi, Value.int .i64 a.m, Value.int .i64 a.r, Value.int .i64 a.k, Value.int .i64 b.lo, Value.int .i64 b.hi, Value.int .i64 b.m, Value.int .i64 b.r, Value.int .i64 b.k, Value.int .i64 (bits .or .i64 a.k b.k)], 72)]
  zt : Vals D s [(0, 32, Value.int .i64 op), (1, 33, Value.pointer (some ⟨n1_0, 0, none⟩)), (2, 34, Value.int .i64 a.lo), (3, 35, Value.pointer (some ⟨n1_1, 0, none⟩)), (4, 36, Value.int .i64 b.lo), (5, 37, Value.int .i64 (opV op a.lo b.lo)), (6, 38, Value.pointer (some ⟨n2_8, 10, none⟩)), (7, 39, Value.int .i64 (bits .or .i64 a.k b.k)), (8, 40, Value.agg #[Value.int .i64 (opV op a.lo b.lo), Value.int .i64 (bits .or .i64 a.k b.k)]), (9, 41, Value.agg #[Value.int .i64 (byS (opV op a.lo b.lo) (opV op a.lo b.lo) 0 (bits .or .i64 a.k b.k)).lo, Value.int .i64 (byS (opV op a.lo b.lo) (opV op a.lo b.lo) 0 (bits .or .i64 a.k b.k)).hi, Value.int .i64 (byS (opV op a.lo b.lo) (opV op a.lo b.lo) 0 (bits .or .i64 a.k b.k)).m, Value.int .i64 (byS (opV op a.lo b.lo) (opV op a.lo b.lo) 0 (bits .or .i64 a.k b.k)).r, Value.int .i64 (byS (opV op a.lo b.lo) (opV op a.lo b.lo) 0 (bits .or .i64 a.k b.k)).k])]
  kL0_0 : D 10 = false → Bk W n1_2 #[Value.int .i64 0, Value.int .i64 0, Value.int .i64 0, Value.int .i64 0, Value.int .i64 0] 27
  kL0_1 : D 10 = true → Bk W n1_2 #[Value.int .i64 (byS (opV op a.lo b.lo) (opV op a.lo b.lo) 0 (bits .or .i64 a.k b.k)).lo, Value.int .i64 (byS (opV op a.lo b.lo) (opV op a.lo b.lo) 0 (bits .or .i64 a.k b.k)).hi, Value.int .i64 (byS (opV op a.lo b.lo) (opV op a.lo b.lo) 0 (bits .or .i64 a.k b.k)).m, Value.int .i64 (byS (opV op a.lo b.lo) (opV op a.lo b.lo) 0 (bits .or .i64 a.k b.k)).r, Value.int .i64 (byS (opV op a.lo b.lo) (opV op a.lo b.lo) 0 (bits .or .i64 a.k b.k)).k] 27

set_option maxRecDepth 100000 in
set_option maxHeartbeats 4000000 in
theorem op1_is {a b : Ab} (op : Int) (w : World) (ha : Good a) (hb : Good b) (hsa : stepS a = 0) (hsb : stepS b = 0) :
    Calls Try.prog 14 #[Value.int .i64 op, Value.agg #[Value.int .i64 a.lo, Value.int .i64 a.hi, Value.int .i64 a.m, Value.int .i64 a.r, Value.int .i64 a.k], Value.agg #[Value.int .i64 b.lo, Value.int .i64 b.hi, Value.int .i64 b.m, Value.int .i64 b.r, Value.int .i64 b.k]] w fun e w' => e = .returned (Value.agg #[Value.int .i64 (byS (opV op a.lo b.lo) (opV op a.lo b.lo) 0 (bits .or .i64 a.k b.k)).lo, Value.int .i64 (byS (opV op a.lo b.lo) (opV op a.lo b.lo) 0 (bits .or .i64 a.k b.k)).hi, Value.int .i64 (byS (opV op a.lo b.lo) (opV op a.lo b.lo) 0 (bits .or .i64 a.k b.k)).m, Value.int .i64 (byS (opV op a.lo b.lo) (opV op a.lo b.lo) 0 (bits .or .i64 a.k b.k)).r, Value.int .i64 (byS (opV op a.lo b.lo) (opV op a.lo b.lo) 0 (bits .or .i64 a.k b.k)).k]) ∧ Below w.heap.size w w' := by
  have a1 := ha.h1; have a2 := ha.h2; have a3 := ha.h3
  have b1 := hb.h1; have b2 := hb.h2; have b3 := hb.h3
  have sa := ha.step0; have sb := hb.step0
  replace hsa := Lib.hid hsa; replace hsb := Lib.hid hsb
  have hv := opV_bd op a.lo b.lo
  refine calls_go Try.func14 rfl 48 rfl rfl (fun aF hz df hu => ?_)
  have u0 : Sl aF 0 (Value.int .i64 op) := hu 0 _ rfl
  have u1 : Sl aF 1 (Value.agg #[Value.int .i64 a.lo, Value.int .i64 a.hi, Value.int .i64 a.m, Value.int .i64 a.r, Value.int .i64 a.k]) := hu 1 _ rfl
  have u2 : Sl aF 2 (Value.agg #[Value.int .i64 b.lo, Value.int .i64 b.hi, Value.int .i64 b.m, Value.int .i64 b.r, Value.int .i64 b.k]) := hu 2 _ rfl
  clear hu
  have hM : Mk0 w w.heap.size w := ⟨Below.refl _ _, Nat.le_refl _⟩
  have hB : Bks w [] := trivial
  refine wp_seq ?_
  obtain ⟨m1, hM, hU, hwm⟩ := start_region hM.b hB
  refine region_run (F := op1_is_r0_1 op a b w m1) [4, 5, 6] [0, 1, 2] hz df (by kernel_rfl) (by kernel_rfl) (fun s hs0 => ⟨hM, hB, Vals.none s _, fun h => no_of' h, fun h => no_of' h, fun h => no_of' h, fun h => no_of' h, fun h => no_of' h, fun h => no_of' h, fun h => no_of' h, fun h => no_of' h, fun h => no_of' h, fun h => no_of' h, fun h => no_of' h, fun h => no_of' h⟩) ?_ ?_
  refine FSteps.op3 hz rfl (dv := []) (by kernel_rfl) (by kernel_rfl) (by kernel_rfl) (fun D s W bA kK hD hW hF hA hK => ?_) ?_
  · have x1 := hA.o 1 _ rfl u1
    have hF := Lib.hid hF
    clear hA
    go_simp
    exact hK.out _ _ ⟨hF.out.zb.al _, Bks.al _ hF.out.zq, hF.out.zt.skip rfl, fun _ => rfl, hF.out.v1, hF.out.v2, fun _ => Bk.new _ _ _, fun _ => hF.out.zb.g, fun h1 => (hF.out.k1_0 h1).al _, hF.out.g1, fun h1 => (hF.out.k2_0 h1).al _, hF.out.g2, fun _ h => Nat.ne_of_gt ((hF.out.k1_0 h).lt), fun _ h => Nat.ne_of_gt ((hF.out.k2_0 h).lt), hF.out.e1_2⟩
  refine FSteps.op3 hz rfl (dv := []) (by kernel_rfl) (by kernel_rfl) (by kernel_rfl) (fun D s W bA kK hD hW hF hA hK => ?_) ?_
  · have x2 := hA.o 2 _ rfl u2
    have hF := Lib.hid hF
    clear hA
    go_simp
    exact hK.out _ _ ⟨hF.out.zb.al _, Bks.al _ hF.out.zq, hF.out.zt.skip rfl, hF.out.v0, fun _ => rfl, hF.out.v2, fun h1 => (hF.out.k0_0 h1).al _, hF.out.g0, fun _ => Bk.new _ _ _, fun _ => hF.out.zb.g, fun h1 => (hF.out.k2_0 h1).al _, hF.out.g2, fun h _ => Nat.ne_of_lt ((hF.out.k0_0 h).lt), hF.out.e0_2, fun _ h => Nat.ne_of_gt ((hF.out.k2_0 h).lt)⟩
  refine FSteps.op3 hz rfl (dv := []) (by kernel_rfl) (by kernel_rfl) (by kernel_rfl) (fun D s W bA kK hD hW hF hA hK => ?_) ?_
  · have hF := Lib.hid hF
    clear hA
    go_simp
    exact hK.out _ _ ⟨hF.out.zb.al _, Bks.al _ hF.out.zq, hF.out.zt.skip rfl, hF.out.v0, hF.out.v1, fun _ => rfl, fun h1 => (hF.out.k0_0 h1).al _, hF.out.g0, fun h1 => (hF.out.k1_0 h1).al _, hF.out.g1, fun _ => Bk.new _ _ _, fun _ => hF.out.zb.g, hF.out.e0_1, fun h _ => Nat.ne_of_lt ((hF.out.k0_0 h).lt), fun h _ => Nat.ne_of_lt ((hF.out.k1_0 h).lt)⟩
  exact FSteps.nil
  intro D s W aF1 hD hF hz' df' hA
  obtain ⟨d0, d1, d2, -⟩ := hD
  clear u1 u2
  replace u0 : Sl aF1 0 _ := hA.o 0 _ rfl u0
  have u4 : Sl aF1 4 _ := hA.i 4 _ rfl rfl (hF.v0 d0)
  have u5 : Sl aF1 5 _ := hA.i 5 _ rfl rfl (hF.v1 d1)
  have u6 : Sl aF1 6 _ := hA.i 6 _ rfl rfl (hF.v2 d2)
  have hkX0 := hF.k0_0 d0
  have hgX0 := hF.g0 d0
  have hkX1 := hF.k1_0 d1
  have hgX1 := hF.g1 d1
  have hkX2 := hF.k2_0 d2
  have hgX2 := hF.g2 d2
  have heX0_1 := hF.e0_1 d0 d1
  have heX0_2 := hF.e0_2 d0 d2
  have heX1_2 := hF.e1_2 d1 d2
  have hM := hF.zb
  have hB := hF.zq
  generalize pblk (s 4) = n1_0 at hkX0 hgX0 hkX1 hgX1 hkX2 hgX2 heX0_1 heX0_2 heX1_2 u4 u5 u6
  generalize pblk (s 5) = n1_1 at hkX0 hgX0 hkX1 hgX1 hkX2 hgX2 heX0_1 heX0_2 heX1_2 u4 u5 u6
  generalize pblk (s 6) = n1_2 at hkX0 hgX0 hkX1 hgX1 hkX2 hgX2 heX0_1 heX0_2 heX1_2 u4 u5 u6
  have hB : Bks W [(n1_0, #[Value.int .i64 a.lo, Value.int .i64 a.hi, Value.int .i64 a.m, Value.int .i64 a.r, Value.int .i64 a.k], 27), (n1_1, #[Value.int .i64 b.lo, Value.int .i64 b.hi, Value.int .i64 b.m, Value.int .i64 b.r, Value.int .i64 b.k], 27), (n1_2, #[Value.int .i64 0, Value.int .i64 0, Value.int .i64 0, Value.int .i64 0, Value.int .i64 0], 27)] := ⟨hkX0, hkX1, hkX2, trivial⟩
  have hw_n1_2 : w.heap.size ≤ n1_2 := Nat.le_trans hwm hgX2
  clear hF hA hz df d0 d1 d2 hU
  have hz := hz'; have df := df'; clear hz' df'
  clear aF
  show Code.wp _ _ _ _ _
  refine wp_seq ?_
  obtain ⟨m2, hM, hU, hwm⟩ := start_region hM.b hB
  refine region_run (F := op1_is_r1_2 op a b n1_0 n1_1 n1_2 w m2) [8, 9, 10, 11, 12, 13, 14, 15, 7] [0, 1, 2, 3, 4, 5, 6, 7, 8, 9] hz df (by kernel_rfl) (by kernel_rfl) (fun s hs0 => ⟨hM, hB, Vals.none s _, fun h => no_of' h, fun h => no_of' h, fun h => no_of' h, fun h => no_of' h, fun h => no_of' h⟩) ?_ ?_
  refine FSteps.op3 hz rfl (dv := []) (by kernel_rfl) (by kernel_rfl) (by kernel_rfl) (fun D s W bA kK hD hW hF hA hK => ?_) ?_
  · have x4 := hA.o 4 _ rfl u4
    obtain ⟨⟨c0, z0⟩, -, -, -⟩ := hF.zq.rules
    have hF := Lib.hid hF
    clear hA
    go_simp
    exact hK.out _ _ ⟨hF.out.zb, hF.out.zq, hF.out.zt.step rfl rfl, hF.out.v8, hF.out.k8_0, hF.out.k8_1, hF.out.c8_1, hF.out.g8⟩
  refine FSteps.op3 hz rfl (dv := []) (by kernel_rfl) (by kernel_rfl) (by kernel_rfl) (fun D s W bA kK hD hW hF hA hK => ?_) ?_
  · have x5 := hA.o 5 _ rfl u5
    obtain ⟨-, ⟨c1, z1⟩, -, -⟩ := hF.zq.rules
    have hF := Lib.hid hF
    clear hA
    go_simp
    exact hK.out _ _ ⟨hF.out.zb, hF.out.zq, hF.out.zt.step rfl rfl, hF.out.v8, hF.out.k8_0, hF.out.k8_1, hF.out.c8_1, hF.out.g8⟩
  refine FSteps.op3 hz rfl (dv := []) (by kernel_rfl) (by kernel_rfl) (by kernel_rfl) (fun D s W bA kK hD hW hF hA hK => ?_) ?_
  · have x4 := hA.o 4 _ rfl u4
    have hF := Lib.hid hF
    clear hA
    go_simp
    exact hK.out _ _ ⟨hF.out.zb, hF.out.zq, hF.out.zt.step rfl rfl, hF.out.v8, hF.out.k8_0, hF.out.k8_1, hF.out.c8_1, hF.out.g8⟩
  refine FSteps.op3 hz rfl (dv := [2]) (by kernel_rfl) (by kernel_rfl) (by kernel_rfl) (fun D s W bA kK hD hW hF hA hK => ?_) ?_
  · have x10 := hA.i 10 _ rfl rfl (hF.zt.get (j := 2) rfl hW.1)
    obtain ⟨⟨c0, z0⟩, -, -, -⟩ := hF.zq.rules
    have hF := Lib.hid hF
    clear hA
    go_simp
    exact hK.out _ _ ⟨hF.out.zb, hF.out.zq, hF.out.zt.step rfl rfl, hF.out.v8, hF.out.k8_0, hF.out.k8_1, hF.out.c8_1, hF.out.g8⟩
  refine FSteps.op3 hz rfl (dv := []) (by kernel_rfl) (by kernel_rfl) (by kernel_rfl) (fun D s W bA kK hD hW hF hA hK => ?_) ?_
  · have x5 := hA.o 5 _ rfl u5
    have hF := Lib.hid hF
    clear hA
    go_simp
    exact hK.out _ _ ⟨hF.out.zb, hF.out.zq, hF.out.zt.step rfl rfl, hF.out.v8, hF.out.k8_0, hF.out.k8_1, hF.out.c8_1, hF.out.g8⟩
  refine FSteps.op3 hz rfl (dv := [4]) (by kernel_rfl) (by kernel_rfl) (by kernel_rfl) (fun D s W bA kK hD hW hF hA hK => ?_) ?_
  · have x12 := hA.i 12 _ rfl rfl (hF.zt.get (j := 4) rfl hW.1)
    obtain ⟨-, ⟨c1, z1⟩, -, -⟩ := hF.zq.rules
    have hF := Lib.hid hF
    clear hA
    go_simp
    exact hK.out _ _ ⟨hF.out.zb, hF.out.zq, hF.out.zt.step rfl rfl, hF.out.v8, hF.out.k8_0, hF.out.k8_1, hF.out.c8_1, hF.out.g8⟩
  refine FSteps.op3 hz rfl (dv := [3, 5]) (by kernel_rfl) (by kernel_rfl) (by kernel_rfl) (fun D s W bA kK hD hW hF hA hK => ?_) ?_
  · have x11 := hA.i 11 _ rfl rfl (hF.zt.get (j := 3) rfl hW.1)
    have x13 := hA.i 13 _ rfl rfl (hF.zt.get (j := 5) rfl hW.2.1)
    have hF := Lib.hid hF
    clear hA
    go_simp
    exact hK.out _ _ ⟨hF.out.zb, hF.out.zq, hF.out.zt.step rfl rfl, hF.out.v8, hF.out.k8_0, hF.out.k8_1, hF.out.c8_1, hF.out.g8⟩
  refine FSteps.op3 hz rfl (dv := [0, 1, 6]) (by kernel_rfl) (by kernel_rfl) (by kernel_rfl) (fun D s W bA kK hD hW hF hA hK => ?_) ?_
  · have x8 := hA.i 8 _ rfl rfl (hF.zt.get (j := 0) rfl hW.1)
    have x9 := hA.i 9 _ rfl rfl (hF.zt.get (j := 1) rfl hW.2.1)
    have x14 := hA.i 14 _ rfl rfl (hF.zt.get (j := 6) rfl hW.2.2.1)
    have hF := Lib.hid hF
    clear hA
    go_simp
    exact hK.out _ _ ⟨hF.out.zb, hF.out.zq, hF.out.zt.step rfl rfl, hF.out.v8, hF.out.k8_0, hF.out.k8_1, hF.out.c8_1, hF.out.g8⟩
  refine FSteps.op3 hz rfl (dv := []) (by kernel_rfl) (by kernel_rfl) (by kernel_rfl) (fun D s W bA kK hD hW hF hA hK => ?_) ?_
  · have hF := Lib.hid hF
    clear hA
    go_simp
    exact hK.out _ _ ⟨hF.out.zb.al _, Bks.al _ hF.out.zq, hF.out.zt.skip rfl, fun _ => rfl, fun _ _ => Bk.new _ _ _, fun h1 => absurd (hF.out.c8_1 h1) (by rw [hD]; decide), fun _ => rfl, fun _ => hF.out.zb.g⟩
  refine FSteps.op3 hz rfl (dv := [8, 7, 0, 1, 2, 3, 4, 5, 6, 7, 8]) (by kernel_rfl) (by kernel_rfl) (by kernel_rfl) (fun D s W bA kK hD hW hF hA hK => ?_) ?_
  · have x7 := hA.i 7 _ rfl rfl (hF.v8 hW.1)
    have x15 := hA.i 15 _ rfl rfl (hF.zt.get (j := 7) rfl hW.2.1)
    have kk := hF.k8_0 hW.1 hD
    have hge := Nat.le_trans hwm (hF.g8 hW.1); have hge2 := hF.g8 hW.1
    have kc := kk.cell; have kf := kk.free
    have hF := Lib.hid hF
    have kk := Lib.hid kk; have hge := Lib.hid hge; have hge2 := Lib.hid hge2
    clear hA
    go_simp
    exact hK.out undef _ ⟨hF.out.zb.sAll (hge.out) 0 [Value.int .i64 a.lo, Value.int .i64 a.hi, Value.int .i64 a.m, Value.int .i64 a.r, Value.int .i64 a.k, Value.int .i64 b.lo, Value.int .i64 b.hi, Value.int .i64 b.m, Value.int .i64 b.r, Value.int .i64 b.k, Value.int .i64 (bits .or .i64 a.k b.k)], Bks.oAll [Value.int .i64 a.lo, Value.int .i64 a.hi, Value.int .i64 a.m, Value.int .i64 a.r, Value.int .i64 a.k, Value.int .i64 b.lo, Value.int .i64 b.hi, Value.int .i64 b.m, Value.int .i64 b.r, Value.int .i64 b.k, Value.int .i64 (bits .or .i64 a.k b.k)] 0 (Under.outside hge2.out hU) hF.out.zq, hF.out.zt.skip rfl, hF.out.v8, fun h1 h2 => no_of h2, fun _ => kk.out.full [Value.int .i64 a.lo, Value.int .i64 a.hi, Value.int .i64 a.m, Value.int .i64 a.r, Value.int .i64 a.k, Value.int .i64 b.lo, Value.int .i64 b.hi, Value.int .i64 b.m, Value.int .i64 b.r, Value.int .i64 b.k, Value.int .i64 (bits .or .i64 a.k b.k)] rfl, fun _ => hW.1, hF.out.g8⟩
  exact FSteps.nil
  intro D s W aF2 hD hF hz' df' hA
  obtain ⟨d0, d1, d2, d3, d4, d5, d6, d7, d8, d9, -⟩ := hD
  replace u0 : Sl aF2 0 _ := hA.o 0 _ rfl u0
  replace u4 : Sl aF2 4 _ := hA.o 4 _ rfl u4
  replace u5 : Sl aF2 5 _ := hA.o 5 _ rfl u5
  replace u6 : Sl aF2 6 _ := hA.o 6 _ rfl u6
  have u7 : Sl aF2 7 _ := hA.i 7 _ rfl rfl (hF.v8 d8)
  have hkX8 := hF.k8_1 d9
  have hgX8 := hF.g8 d8
  have hM := hF.zb
  have hB := hF.zq
  generalize pblk (s 7) = n2_8 at hkX8 hgX8 u7
  have hB : Bks W [(n1_0, #[Value.int .i64 a.lo, Value.int .i64 a.hi, Value.int .i64 a.m, Value.int .i64 a.r, Value.int .i64 a.k], 27), (n1_1, #[Value.int .i64 b.lo, Value.int .i64 b.hi, Value.int .i64 b.m, Value.int .i64 b.r, Value.int .i64 b.k], 27), (n1_2, #[Value.int .i64 0, Value.int .i64 0, Value.int .i64 0, Value.int .i64 0, Value.int .i64 0], 27), (n2_8, #[Value.int .i64 a.lo, Value.int .i64 a.hi, Value.int .i64 a.m, Value.int .i64 a.r, Value.int .i64 a.k, Value.int .i64 b.lo, Value.int .i64 b.hi, Value.int .i64 b.m, Value.int .i64 b.r, Value.int .i64 b.k, Value.int .i64 (bits .or .i64 a.k b.k)], 72)] := ⟨hB.1, hB.2.1, hB.2.2.1, hkX8, trivial⟩
  obtain ⟨hl_0, hl_1, hl_2, -⟩ := hU
  have hne_n1_2_n2_8 : n1_2 ≠ n2_8 := by omega
  clear hF hA hz df d0 d1 d2 d3 d4 d5 d6 d7 d8 d9 
  have hz := hz'; have df := df'; clear hz' df'
  clear aF1
  show Code.wp _ _ _ _ _
  refine wp_seq ?_
  refine wp_seq ?_
  obtain ⟨m3, hM, hU, hwm⟩ := start_region hM.b hB
  refine region_run (F := op1_is_r2_3 op a b n1_0 n1_1 n1_2 n2_8 w m3) [16, 17, 18, 19, 20, 21, 22, 23, 24, 25, 26, 27, 28, 29, 30, 31] [0, 1, 2, 3, 4, 5, 6, 7, 8, 9, 10, 11, 12, 13, 14, 15] hz df (by kernel_rfl) (by kernel_rfl) (fun s hs0 => ⟨hM, hB, Vals.none s _⟩) ?_ ?_
  refine FSteps.op3 hz rfl (dv := []) (by kernel_rfl) (by kernel_rfl) (by kernel_rfl) (fun D s W bA kK hD hW hF hA hK => ?_) ?_
  · have x4 := hA.o 4 _ rfl u4
    obtain ⟨⟨c0, z0⟩, -, -, -, -⟩ := hF.zq.rules
    have hF := Lib.hid hF
    clear hA
    go_simp
    exact hK.out _ _ ⟨hF.out.zb, hF.out.zq, hF.out.zt.step rfl rfl⟩
  refine FSteps.op3 hz rfl (dv := [0]) (by kernel_rfl) (by kernel_rfl) (by kernel_rfl) (fun D s W bA kK hD hW hF hA hK => ?_) ?_
  · have x16 := hA.i 16 _ rfl rfl (hF.zt.get (j := 0) rfl hW.1)
    have hF := Lib.hid hF
    clear hA
    go_simp
    (go_at_call 44; ((with_reducible_and_instances refine (step_ab a _).mono ?_)); rintro e W1 ⟨rfl, hb⟩; (try unfold abVal))
    (try go_wp2_with fail)
    exact hK.out _ _ ⟨hF.out.zb.on hb, Bks.on hb hF.out.zq, hF.out.zt.step rfl rfl⟩
  refine FSteps.op3 hz rfl (dv := [1]) (by kernel_rfl) (by kernel_rfl) (by kernel_rfl) (fun D s W bA kK hD hW hF hA hK => ?_) ?_
  · have x17 := hA.i 17 _ rfl rfl (hF.zt.get (j := 1) rfl hW.1)
    have hF := Lib.hid hF
    clear hA
    have hd2 : ((stepS a) == 0) = true := beq_iff_eq.2 (by exact hsa.out)
    go_simp
    exact hK.out _ _ ⟨hF.out.zb, hF.out.zq, hF.out.zt.step rfl rfl⟩
  refine FSteps.op3 hz rfl (dv := [2, 1]) (by kernel_rfl) (by kernel_rfl) (by kernel_rfl) (fun D s W bA kK hD hW hF hA hK => ?_) ?_
  · have x18 := hA.i 18 _ rfl rfl (hF.zt.get (j := 2) rfl hW.1)
    have hF := Lib.hid hF
    clear hA
    go_simp
    exact hK.out _ _ ⟨hF.out.zb, hF.out.zq, hF.out.zt.step rfl rfl⟩
  refine FSteps.yes3 (bv := true) hz rfl (dv := [3]) (by kernel_rfl) rfl (by kernel_rfl) (by kernel_rfl) (fun D s W hW hF => (hF.zt.get (j := 3) rfl hW.1)) (by kernel_rfl) (by kernel_rfl) (fun D s W bA kK hD hW hF hA hK => ?_) ?_
  · have x5 := hA.o 5 _ rfl u5
    obtain ⟨-, ⟨c1, z1⟩, -, -, -⟩ := hF.zq.rules
    have hF := Lib.hid hF
    clear hA
    go_simp
    exact hK.out _ _ ⟨hF.out.zb, hF.out.zq, hF.out.zt.step rfl rfl⟩
  refine FSteps.yes3 (bv := true) hz rfl (dv := [4, 3, 3]) (by kernel_rfl) rfl (by kernel_rfl) (by kernel_rfl) (fun D s W hW hF => (hF.zt.get (j := 3) rfl hW.2.1)) (by kernel_rfl) (by kernel_rfl) (fun D s W bA kK hD hW hF hA hK => ?_) ?_
  · have x20 := hA.i 20 _ rfl rfl (hF.zt.get (j := 4) rfl hW.1)
    have hF := Lib.hid hF
    clear hA
    go_simp
    (go_at_call 44; ((with_reducible_and_instances refine (step_ab b _).mono ?_)); rintro e W1 ⟨rfl, hb⟩; (try unfold abVal))
    (try go_wp2_with fail)
    exact hK.out _ _ ⟨hF.out.zb.on hb, Bks.on hb hF.out.zq, hF.out.zt.step rfl rfl⟩
  refine FSteps.yes3 (bv := true) hz rfl (dv := [5, 3]) (by kernel_rfl) rfl (by kernel_rfl) (by kernel_rfl) (fun D s W hW hF => (hF.zt.get (j := 3) rfl hW.2.1)) (by kernel_rfl) (by kernel_rfl) (fun D s W bA kK hD hW hF hA hK => ?_) ?_
  · have x21 := hA.i 21 _ rfl rfl (hF.zt.get (j := 5) rfl hW.1)
    have hF := Lib.hid hF
    clear hA
    have hd6 : ((stepS b) == 0) = true := beq_iff_eq.2 (by exact hsb.out)
    go_simp
    exact hK.out _ _ ⟨hF.out.zb, hF.out.zq, hF.out.zt.step rfl rfl⟩
  refine FSteps.op3 hz rfl (dv := [3, 6]) (by kernel_rfl) (by kernel_rfl) (by kernel_rfl) (fun D s W bA kK hD hW hF hA hK => ?_) ?_
  · have x19 := hA.i 19 _ rfl rfl (hF.zt.get (j := 3) rfl hW.1)
    have x22 := hA.i 22 _ rfl rfl (hF.zt.get (j := 6) rfl hW.2.1)
    have hF := Lib.hid hF
    clear hA
    go_simp
    exact hK.out _ _ ⟨hF.out.zb, hF.out.zq, hF.out.zt.step rfl rfl⟩
  refine FSteps.op3 hz rfl (dv := [7, 5]) (by kernel_rfl) (by kernel_rfl) (by kernel_rfl) (fun D s W bA kK hD hW hF hA hK => ?_) ?_
  · have x23 := hA.i 23 _ rfl rfl (hF.zt.get (j := 7) rfl hW.1)
    have hF := Lib.hid hF
    clear hA
    go_simp
    exact hK.out _ _ ⟨hF.out.zb, hF.out.zq, hF.out.zt.step rfl rfl⟩
  refine FSteps.no3 (bv := false) hz rfl (dv := [8]) (by kernel_rfl) rfl (by kernel_rfl) (by kernel_rfl) (fun D s W hW hF => (hF.zt.get (j := 8) rfl hW.1)) (by kernel_rfl) (by kernel_rfl) (fun D s W hD hF => ⟨hF.zb, hF.zq, hF.zt.step rfl rfl⟩) ?_
  refine FSteps.no3 (bv := false) hz rfl (dv := [9, 8]) (by kernel_rfl) rfl (by kernel_rfl) (by kernel_rfl) (fun D s W hW hF => (hF.zt.get (j := 8) rfl hW.2.1)) (by kernel_rfl) (by kernel_rfl) (fun D s W hD hF => ⟨hF.zb, hF.zq, hF.zt.step rfl rfl⟩) ?_
  refine FSteps.op3 hz rfl (dv := [8, 10]) (by kernel_rfl) (by kernel_rfl) (by kernel_rfl) (fun D s W bA kK hD hW hF hA hK => ?_) ?_
  · have x24 := hA.i 24 _ rfl rfl (hF.zt.get (j := 8) rfl hW.1)
    have x26 := hA.i 26 _ rfl rfl (hF.zt.get (j := 10) rfl hW.2.1)
    have hF := Lib.hid hF
    clear hA
    go_simp
    exact hK.out _ _ ⟨hF.out.zb, hF.out.zq, hF.out.zt.step rfl rfl⟩
  refine FSteps.op3 hz rfl (dv := [11, 8]) (by kernel_rfl) (by kernel_rfl) (by kernel_rfl) (fun D s W bA kK hD hW hF hA hK => ?_) ?_
  · have x27 := hA.i 27 _ rfl rfl (hF.zt.get (j := 11) rfl hW.1)
    have hF := Lib.hid hF
    clear hA
    go_simp
    exact hK.out _ _ ⟨hF.out.zb, hF.out.zq, hF.out.zt.step rfl rfl⟩
  refine FSteps.no3 (bv := false) hz rfl (dv := [12]) (by kernel_rfl) rfl (by kernel_rfl) (by kernel_rfl) (fun D s W hW hF => (hF.zt.get (j := 12) rfl hW.1)) (by kernel_rfl) (by kernel_rfl) (fun D s W hD hF => ⟨hF.zb, hF.zq, hF.zt.step rfl rfl⟩) ?_
  refine FSteps.no3 (bv := false) hz rfl (dv := [13, 12]) (by kernel_rfl) rfl (by kernel_rfl) (by kernel_rfl) (fun D s W hW hF => (hF.zt.get (j := 12) rfl hW.2.1)) (by kernel_rfl) (by kernel_rfl) (fun D s W hD hF => ⟨hF.zb, hF.zq, hF.zt.step rfl rfl⟩) ?_
  refine FSteps.op3 hz rfl (dv := [12, 14]) (by kernel_rfl) (by kernel_rfl) (by kernel_rfl) (fun D s W bA kK hD hW hF hA hK => ?_) ?_
  · have x28 := hA.i 28 _ rfl rfl (hF.zt.get (j := 12) rfl hW.1)
    have x30 := hA.i 30 _ rfl rfl (hF.zt.get (j := 14) rfl hW.2.1)
    have hF := Lib.hid hF
    clear hA
    go_simp
    exact hK.out _ _ ⟨hF.out.zb, hF.out.zq, hF.out.zt.step rfl rfl⟩
  exact FSteps.nil
  intro D s W aF3 hD hF hz' df' hA
  obtain ⟨d0, d1, d2, d3, d4, d5, d6, d7, d8, d9, d10, d11, d12, d13, d14, d15, -⟩ := hD
  replace u0 : Sl aF3 0 _ := hA.o 0 _ rfl u0
  replace u4 : Sl aF3 4 _ := hA.o 4 _ rfl u4
  replace u5 : Sl aF3 5 _ := hA.o 5 _ rfl u5
  replace u6 : Sl aF3 6 _ := hA.o 6 _ rfl u6
  replace u7 : Sl aF3 7 _ := hA.o 7 _ rfl u7
  have u31 : Sl aF3 31 _ := hA.i 31 _ rfl rfl (hF.zt.get (j := 15) rfl d15)
  have hM := hF.zb
  have hB := hF.zq
  have hB : Bks W [(n1_0, #[Value.int .i64 a.lo, Value.int .i64 a.hi, Value.int .i64 a.m, Value.int .i64 a.r, Value.int .i64 a.k], 27), (n1_1, #[Value.int .i64 b.lo, Value.int .i64 b.hi, Value.int .i64 b.m, Value.int .i64 b.r, Value.int .i64 b.k], 27), (n1_2, #[Value.int .i64 0, Value.int .i64 0, Value.int .i64 0, Value.int .i64 0, Value.int .i64 0], 27), (n2_8, #[Value.int .i64 a.lo, Value.int .i64 a.hi, Value.int .i64 a.m, Value.int .i64 a.r, Value.int .i64 a.k, Value.int .i64 b.lo, Value.int .i64 b.hi, Value.int .i64 b.m, Value.int .i64 b.r, Value.int .i64 b.k, Value.int .i64 (bits .or .i64 a.k b.k)], 72)] := ⟨hB.1, hB.2.1, hB.2.2.1, hB.2.2.2.1, trivial⟩
  clear hF hA hz df d0 d1 d2 d3 d4 d5 d6 d7 d8 d9 d10 d11 d12 d13 d14 d15 hU
  have hz := hz'; have df := df'; clear hz' df'
  clear aF2
  show Code.wp _ _ _ _ _
  refine cond_t u31 ?_
  refine wp_seq ?_
  obtain ⟨m4, hM, hU, hwm⟩ := start_region hM.b hB
  obtain ⟨hk_0, hk_1, hk_2, hk_3, -⟩ := hB
  obtain ⟨hl_0, hl_1, hl_2, hl_3, -⟩ := hU
  have hB : Bks _ [(n1_0, #[Value.int .i64 a.lo, Value.int .i64 a.hi, Value.int .i64 a.m, Value.int .i64 a.r, Value.int .i64 a.k], 27), (n1_1, #[Value.int .i64 b.lo, Value.int .i64 b.hi, Value.int .i64 b.m, Value.int .i64 b.r, Value.int .i64 b.k], 27), (n2_8, #[Value.int .i64 a.lo, Value.int .i64 a.hi, Value.int .i64 a.m, Value.int .i64 a.r, Value.int .i64 a.k, Value.int .i64 b.lo, Value.int .i64 b.hi, Value.int .i64 b.m, Value.int .i64 b.r, Value.int .i64 b.k, Value.int .i64 (bits .or .i64 a.k b.k)], 72)] := ⟨hk_0, hk_1, hk_3, trivial⟩
  have hU : Under m4 [(n1_0, #[Value.int .i64 a.lo, Value.int .i64 a.hi, Value.int .i64 a.m, Value.int .i64 a.r, Value.int .i64 a.k], 27), (n1_1, #[Value.int .i64 b.lo, Value.int .i64 b.hi, Value.int .i64 b.m, Value.int .i64 b.r, Value.int .i64 b.k], 27), (n2_8, #[Value.int .i64 a.lo, Value.int .i64 a.hi, Value.int .i64 a.m, Value.int .i64 a.r, Value.int .i64 a.k, Value.int .i64 b.lo, Value.int .i64 b.hi, Value.int .i64 b.m, Value.int .i64 b.r, Value.int .i64 b.k, Value.int .i64 (bits .or .i64 a.k b.k)], 72)] := ⟨hl_0, hl_1, hl_3, trivial⟩
  refine region_go (F := op1_is_r3_4 op a b n1_0 n1_1 n1_2 n2_8 w m4) [32, 33, 34, 35, 36, 37, 38, 39, 40, 41] [0, 1, 2, 3, 4, 5, 6, 7, 8, 9, 10] hz df (by kernel_rfl) (by kernel_rfl) (by kernel_rfl) (fun s hs0 => ⟨hM.drew, Bks.drew hB, Vals.none s _, fun _ => hk_2.drew, fun h => no_of' h⟩) ?_ ?_
  refine FSteps.op3 hz rfl (dv := []) (by kernel_rfl) (by kernel_rfl) (by kernel_rfl) (fun D s W bA kK hD hW hF hA hK => ?_) ?_
  · have x0 := hA.o 0 _ rfl u0
    have hF := Lib.hid hF
    clear hA
    go_simp
    exact hK.out _ _ ⟨hF.out.zb, hF.out.zq, hF.out.zt.step rfl rfl, hF.out.kL0_0, hF.out.kL0_1⟩
  refine FSteps.op3 hz rfl (dv := []) (by kernel_rfl) (by kernel_rfl) (by kernel_rfl) (fun D s W bA kK hD hW hF hA hK => ?_) ?_
  · have x4 := hA.o 4 _ rfl u4
    have hF := Lib.hid hF
    clear hA
    go_simp
    exact hK.out _ _ ⟨hF.out.zb, hF.out.zq, hF.out.zt.step rfl rfl, hF.out.kL0_0, hF.out.kL0_1⟩
  refine FSteps.op3 hz rfl (dv := [1]) (by kernel_rfl) (by kernel_rfl) (by kernel_rfl) (fun D s W bA kK hD hW hF hA hK => ?_) ?_
  · have x33 := hA.i 33 _ rfl rfl (hF.zt.get (j := 1) rfl hW.1)
    obtain ⟨⟨c0, z0⟩, -, -, -⟩ := hF.zq.rules
    have hF := Lib.hid hF
    clear hA
    go_simp
    exact hK.out _ _ ⟨hF.out.zb, hF.out.zq, hF.out.zt.step rfl rfl, hF.out.kL0_0, hF.out.kL0_1⟩
  refine FSteps.op3 hz rfl (dv := []) (by kernel_rfl) (by kernel_rfl) (by kernel_rfl) (fun D s W bA kK hD hW hF hA hK => ?_) ?_
  · have x5 := hA.o 5 _ rfl u5
    have hF := Lib.hid hF
    clear hA
    go_simp
    exact hK.out _ _ ⟨hF.out.zb, hF.out.zq, hF.out.zt.step rfl rfl, hF.out.kL0_0, hF.out.kL0_1⟩
  refine FSteps.op3 hz rfl (dv := [3]) (by kernel_rfl) (by kernel_rfl) (by kernel_rfl) (fun D s W bA kK hD hW hF hA hK => ?_) ?_
  · have x35 := hA.i 35 _ rfl rfl (hF.zt.get (j := 3) rfl hW.1)
    obtain ⟨-, ⟨c1, z1⟩, -, -⟩ := hF.zq.rules
    have hF := Lib.hid hF
    clear hA
    go_simp
    exact hK.out _ _ ⟨hF.out.zb, hF.out.zq, hF.out.zt.step rfl rfl, hF.out.kL0_0, hF.out.kL0_1⟩
  refine FSteps.op3 hz rfl (dv := [0, 2, 4]) (by kernel_rfl) (by kernel_rfl) (by kernel_rfl) (fun D s W bA kK hD hW hF hA hK => ?_) ?_
  · have x32 := hA.i 32 _ rfl rfl (hF.zt.get (j := 0) rfl hW.1)
    have x34 := hA.i 34 _ rfl rfl (hF.zt.get (j := 2) rfl hW.2.1)
    have x36 := hA.i 36 _ rfl rfl (hF.zt.get (j := 4) rfl hW.2.2.1)
    have hF := Lib.hid hF
    clear hA
    go_simp
    (go_at_call 16; ((with_reducible_and_instances refine (op_b _ _ _ _).mono ?_)); rintro e W1 ⟨rfl, hb⟩; (try unfold abVal))
    (try go_wp2_with fail)
    exact hK.out _ _ ⟨hF.out.zb.on hb, Bks.on hb hF.out.zq, hF.out.zt.step rfl rfl, fun h2 => (hF.out.kL0_0 h2).on hb, fun h1 => (hF.out.kL0_1 h1).on hb⟩
  refine FSteps.op3 hz rfl (dv := []) (by kernel_rfl) (by kernel_rfl) (by kernel_rfl) (fun D s W bA kK hD hW hF hA hK => ?_) ?_
  · have x7 := hA.o 7 _ rfl u7
    have hF := Lib.hid hF
    clear hA
    go_simp
    exact hK.out _ _ ⟨hF.out.zb, hF.out.zq, hF.out.zt.step rfl rfl, hF.out.kL0_0, hF.out.kL0_1⟩
  refine FSteps.op3 hz rfl (dv := [6]) (by kernel_rfl) (by kernel_rfl) (by kernel_rfl) (fun D s W bA kK hD hW hF hA hK => ?_) ?_
  · have x38 := hA.i 38 _ rfl rfl (hF.zt.get (j := 6) rfl hW.1)
    obtain ⟨-, -, ⟨c2, z2⟩, -⟩ := hF.zq.rules
    have hF := Lib.hid hF
    clear hA
    go_simp
    exact hK.out _ _ ⟨hF.out.zb, hF.out.zq, hF.out.zt.step rfl rfl, hF.out.kL0_0, hF.out.kL0_1⟩
  refine FSteps.op3 hz rfl (dv := [5, 7]) (by kernel_rfl) (by kernel_rfl) (by kernel_rfl) (fun D s W bA kK hD hW hF hA hK => ?_) ?_
  · have x37 := hA.i 37 _ rfl rfl (hF.zt.get (j := 5) rfl hW.1)
    have x39 := hA.i 39 _ rfl rfl (hF.zt.get (j := 7) rfl hW.2.1)
    have hF := Lib.hid hF
    clear hA
    go_simp
    exact hK.out _ _ ⟨hF.out.zb, hF.out.zq, hF.out.zt.step rfl rfl, hF.out.kL0_0, hF.out.kL0_1⟩
  refine FSteps.op3 hz rfl (dv := [8, 5]) (by kernel_rfl) (by kernel_rfl) (by kernel_rfl) (fun D s W bA kK hD hW hF hA hK => ?_) ?_
  · have x40 := hA.i 40 _ rfl rfl (hF.zt.get (j := 8) rfl hW.1)
    have hF := Lib.hid hF
    clear hA
    go_simp
    (go_at_call 24; ((with_reducible_and_instances refine (of_ab _ _ hv _).mono ?_)); rintro e W1 ⟨rfl, hb⟩; (try unfold abVal))
    (try go_wp2_with fail)
    exact hK.out _ _ ⟨hF.out.zb.on hb, Bks.on hb hF.out.zq, hF.out.zt.step rfl rfl, fun h2 => (hF.out.kL0_0 h2).on hb, fun h1 => (hF.out.kL0_1 h1).on hb⟩
  refine FSteps.op3 hz rfl (dv := [9, 9, 0, 1, 2, 3, 4, 5, 6, 7, 8, 9]) (by kernel_rfl) (by kernel_rfl) (by kernel_rfl) (fun D s W bA kK hD hW hF hA hK => ?_) ?_
  · have x6 := hA.o 6 _ rfl u6
    have x41 := hA.i 41 _ rfl rfl (hF.zt.get (j := 9) rfl hW.1)
    have kk := hF.kL0_0 hD
    have kc := kk.cell; have kf := kk.free
    have hF := Lib.hid hF
    have kk := Lib.hid kk
    clear hA
    go_simp
    exact hK.out undef _ ⟨hF.out.zb.sAll (hw_n1_2) 0 [Value.int .i64 (byS (opV op a.lo b.lo) (opV op a.lo b.lo) 0 (bits .or .i64 a.k b.k)).lo, Value.int .i64 (byS (opV op a.lo b.lo) (opV op a.lo b.lo) 0 (bits .or .i64 a.k b.k)).hi, Value.int .i64 (byS (opV op a.lo b.lo) (opV op a.lo b.lo) 0 (bits .or .i64 a.k b.k)).m, Value.int .i64 (byS (opV op a.lo b.lo) (opV op a.lo b.lo) 0 (bits .or .i64 a.k b.k)).r, Value.int .i64 (byS (opV op a.lo b.lo) (opV op a.lo b.lo) 0 (bits .or .i64 a.k b.k)).k], Bks.oAll [Value.int .i64 (byS (opV op a.lo b.lo) (opV op a.lo b.lo) 0 (bits .or .i64 a.k b.k)).lo, Value.int .i64 (byS (opV op a.lo b.lo) (opV op a.lo b.lo) 0 (bits .or .i64 a.k b.k)).hi, Value.int .i64 (byS (opV op a.lo b.lo) (opV op a.lo b.lo) 0 (bits .or .i64 a.k b.k)).m, Value.int .i64 (byS (opV op a.lo b.lo) (opV op a.lo b.lo) 0 (bits .or .i64 a.k b.k)).r, Value.int .i64 (byS (opV op a.lo b.lo) (opV op a.lo b.lo) 0 (bits .or .i64 a.k b.k)).k] 0 (⟨(by omega), (by omega), (by omega), trivial⟩) hF.out.zq, hF.out.zt.skip rfl, fun h2 => no_of h2, fun _ => kk.out.full [Value.int .i64 (byS (opV op a.lo b.lo) (opV op a.lo b.lo) 0 (bits .or .i64 a.k b.k)).lo, Value.int .i64 (byS (opV op a.lo b.lo) (opV op a.lo b.lo) 0 (bits .or .i64 a.k b.k)).hi, Value.int .i64 (byS (opV op a.lo b.lo) (opV op a.lo b.lo) 0 (bits .or .i64 a.k b.k)).m, Value.int .i64 (byS (opV op a.lo b.lo) (opV op a.lo b.lo) 0 (bits .or .i64 a.k b.k)).r, Value.int .i64 (byS (opV op a.lo b.lo) (opV op a.lo b.lo) 0 (bits .or .i64 a.k b.k)).k] rfl⟩
  exact FSteps.nil
  intro D s W aF4 hD hF hz' df' hA
  obtain ⟨d0, d1, d2, d3, d4, d5, d6, d7, d8, d9, d10, -⟩ := hD
  clear u4 u5 u31
  replace u0 : Sl aF4 0 _ := hA.o 0 _ rfl u0
  replace u6 : Sl aF4 6 _ := hA.o 6 _ rfl u6
  replace u7 : Sl aF4 7 _ := hA.o 7 _ rfl u7
  have hkXL0 := hF.kL0_1 d10
  have hM := hF.zb
  have hB := hF.zq
  have hB : Bks W [(n2_8, #[Value.int .i64 a.lo, Value.int .i64 a.hi, Value.int .i64 a.m, Value.int .i64 a.r, Value.int .i64 a.k, Value.int .i64 b.lo, Value.int .i64 b.hi, Value.int .i64 b.m, Value.int .i64 b.r, Value.int .i64 b.k, Value.int .i64 (bits .or .i64 a.k b.k)], 72), (n1_2, #[Value.int .i64 (byS (opV op a.lo b.lo) (opV op a.lo b.lo) 0 (bits .or .i64 a.k b.k)).lo, Value.int .i64 (byS (opV op a.lo b.lo) (opV op a.lo b.lo) 0 (bits .or .i64 a.k b.k)).hi, Value.int .i64 (byS (opV op a.lo b.lo) (opV op a.lo b.lo) 0 (bits .or .i64 a.k b.k)).m, Value.int .i64 (byS (opV op a.lo b.lo) (opV op a.lo b.lo) 0 (bits .or .i64 a.k b.k)).r, Value.int .i64 (byS (opV op a.lo b.lo) (opV op a.lo b.lo) 0 (bits .or .i64 a.k b.k)).k], 27)] := ⟨hB.2.2.1, hkXL0, trivial⟩
  clear hF hA hz df d0 d1 d2 d3 d4 d5 d6 d7 d8 d9 d10 
  have hz := hz'; have df := df'; clear hz' df'
  clear aF3
  show Code.wp _ _ _ _ _
  refine wp_ret ?_
  refine then_ret ?_
  show bodyPost _ _ _ _ _ _
  have hB2 := hB.rules
  obtain ⟨⟨c0, z0⟩, ⟨c1, z1⟩, -⟩ := hB2
  unfold Sl at u6
  refine end_go df (v := (Value.agg #[Value.int .i64 (byS (opV op a.lo b.lo) (opV op a.lo b.lo) 0 (bits .or .i64 a.k b.k)).lo, Value.int .i64 (byS (opV op a.lo b.lo) (opV op a.lo b.lo) 0 (bits .or .i64 a.k b.k)).hi, Value.int .i64 (byS (opV op a.lo b.lo) (opV op a.lo b.lo) 0 (bits .or .i64 a.k b.k)).m, Value.int .i64 (byS (opV op a.lo b.lo) (opV op a.lo b.lo) 0 (bits .or .i64 a.k b.k)).r, Value.int .i64 (byS (opV op a.lo b.lo) (opV op a.lo b.lo) 0 (bits .or .i64 a.k b.k)).k])) (by simp [results, Try.results14, go_sem, u6, c1]) ⟨rfl, hM.b⟩

structure opg_is_r0_1 (op : Int) (a b z : Ab) (w : World) (m1 : Nat) (D : Nat → Bool) (s : Nat → Value) (W : World) : Prop where
  zb : Mk0 w m1 W
  zq : Bks W []
  zt : Vals D s []
  v0 : D 0 = true → s 4 = (Value.pointer (some ⟨pblk (s 4), 0, none⟩))
  v1 : D 1 = true → s 5 = (Value.pointer (some ⟨pblk (s 5), 0, none⟩))
  v2 : D 2 = true → s 6 = (Value.pointer (some ⟨pblk (s 6), 0, none⟩))
  k0_0 : D 0 = true → Bk W (pblk (s 4)) #[Value.int .i64 a.lo, Value.int .i64 a.hi, Value.int .i64 a.m, Value.int .i64 a.r, Value.int .i64 a.k] 27
  g0 : D 0 = true → m1 ≤ (pblk (s 4))
  k1_0 : D 1 = true → Bk W (pblk (s 5)) #[Value.int .i64 b.lo, Value.int .i64 b.hi, Value.int .i64 b.m, Value.int .i64 b.r, Value.int .i64 b.k] 27
  g1 : D 1 = true → m1 ≤ (pblk (s 5))
  k2_0 : D 2 = true → Bk W (pblk (s 6)) #[Value.int .i64 0, Value.int .i64 0, Value.int .i64 0, Value.int .i64 0, Value.int .i64 0] 27
  g2 : D 2 = true → m1 ≤ (pblk (s 6))
  e0_1 : D 0 = true → D 1 = true → pblk (s 4) ≠ pblk (s 5)
  e0_2 : D 0 = true → D 2 = true → pblk (s 4) ≠ pblk (s 6)
  e1_2 : D 1 = true → D 2 = true → pblk (s 5) ≠ pblk (s 6)

structure opg_is_r1_2 (op : Int) (a b z : Ab) (n1_0 n1_1 n1_2 : Nat) (w : World) (m2 : Nat) (D : Nat → Bool) (s : Nat → Value) (W : World) : Prop where
  zb : Mk0 w m2 W
  zq : Bks W [(n1_0, #[Value.int .i64 a.lo, Value.int .i64 a.hi, Value.int .i64 a.m, Value.int .i64 a.r, Value.int .i64 a.k], 27), (n1_1, #[Value.int .i64 b.lo, Value.int .i64 b.hi, Value.int .i64 b.m, Value.int .i64 b.r, Value.int .i64 b.k], 27), (n1_2, #[Value.int .i64 0, Value.int .i64 0, Value.int .i64 0, Value.int .i64 0, Value.int .i64 0], 27)]
  zt : Vals D s [(0, 8, Value.agg #[Value.int .i64 a.lo, Value.int .i64 a.hi, Value.int .i64 a.m, Value.int .i64 a.r, Value.int .i64 a.k]), (1, 9, Value.agg #[Value.int .i64 b.lo, Value.int .i64 b.hi, Value.int .i64 b.m, Value.int .i64 b.r, Value.int .i64 b.k]), (2, 10, Value.pointer (some ⟨n1_0, 4, none⟩)), (3, 11, Value.int .i64 a.k), (4, 12, Value.pointer (some ⟨n1_1, 4, none⟩)), (5, 13, Value.int .i64 b.k), (6, 14, Value.int .i64 (bits .or .i64 a.k b.k)), (7, 15, Value.agg #[Value.int .i64 a.lo, Value.int .i64 a.hi, Value.int .i64 a.m, Value.int .i64 a.r, Value.int .i64 a.k, Value.int .i64 b.lo, Value.int .i64 b.hi, Value.int .i64 b.m, Value.int .i64 b.r, Value.int .i64 b.k, Value.int .i64 (bits .or .i64 a.k b.k)])]
  v8 : D 8 = true → s 7 = (Value.pointer (some ⟨pblk (s 7), 0, none⟩))
  k8_0 : D 8 = true → D 9 = false → Bk W (pblk (s 7)) #[Value.int .i64 0, Value.int .i64 0, Value.int .i64 0, Value.int .i64 0, Value.int .i64 0, Value.int .i64 0, Value.int .i64 0, Value.int .i64 0, Value.int .i64 0, Value.int .i64 0, Value.int .i64 0] 72
  k8_1 : D 9 = true → Bk W (pblk (s 7)) #[Value.int .i64 a.lo, Value.int .i64 a.hi, Value.int .i64 a.m, Value.int .i64 a.r, Value.int .i64 a.k, Value.int .i64 b.lo, Value.int .i64 b.hi, Value.int .i64 b.m, Value.int .i64 b.r, Value.int .i64 b.k, Value.int .i64 (bits .or .i64 a.k b.k)] 72
  c8_1 : D 9 = true → D 8 = true
  g8 : D 8 = true → m2 ≤ (pblk (s 7))

structure opg_is_r2_3 (op : Int) (a b z : Ab) (n1_0 n1_1 n1_2 n2_8 : Nat) (w : World) (m3 : Nat) (D : Nat → Bool) (s : Nat → Value) (W : World) : Prop where
  zb : Mk0 w m3 W
  zq : Bks W [(n1_0, #[Value.int .i64 a.lo, Value.int .i64 a.hi, Value.int .i64 a.m, Value.int .i64 a.r, Value.int .i64 a.k], 27), (n1_1, #[Value.int .i64 b.lo, Value.int .i64 b.hi, Value.int .i64 b.m, Value.int .i64 b.r, Value.int .i64 b.k], 27), (n1_2, #[Value.int .i64 0, Value.int .i64 0, Value.int .i64 0, Value.int .i64 0, Value.int .i64 0], 27), (n2_8, #[Value.int .i64 a.lo, Value.int .i64 a.hi, Value.int .i64 a.m, Value.int .i64 a.r, Value.int .i64 a.k, Value.int .i64 b.lo, Value.int .i64 b.hi, Value.int .i64 b.m, Value.int .i64 b.r, Value.int .i64 b.k, Value.int .i64 (bits .or .i64 a.k b.k)], 72)]
  zt : Vals D s [(0, 16, Value.agg #[Value.int .i64 a.lo, Value.int .i64 a.hi, Value.int .i64 a.m, Value.int .i64 a.r, Value.int .i64 a.k]), (1, 17, Value.int .i64 (stepS a)), (2, 18, Value.bool true), (3, 19, Value.bool true), (4, 20, Value.agg #[Value.int .i64 b.lo, Value.int .i64 b.hi, Value.int .i64 b.m, Value.int .i64 b.r, Value.int .i64 b.k]), (5, 21, Value.int .i64 (stepS b)), (6, 22, Value.bool false), (7, 23, Value.bool false), (8, 24, Value.bool false), (9, 25, Value.int .i64 op), (10, 26, Value.bool false), (11, 27, Value.bool false), (12, 28, Value.bool false), (13, 29, Value.int .i64 op), (14, 30, Value.bool false), (15, 31, Value.bool false)]

def OpTail (op : Int) (a b z : Ab) : Prop := ∀ (w : World)  (aF : Act) (W : World) (n1_2 n2_8 : Nat) (hw_n1_2 : w.heap.size ≤ n1_2) (hne_n1_2_n2_8 : n1_2 ≠ n2_8) (hz : aF.tmps.size = 48) (df : aF.defers = []) (u0 : Sl aF 0 (Value.int .i64 op)) (u6 : Sl aF 6 (Value.pointer (some ⟨n1_2, 0, none⟩))) (u7 : Sl aF 7 (Value.pointer (some ⟨n2_8, 0, none⟩))) (hb0 : Below w.heap.size w W)
    (hB : Bks W [(n1_2, #[Value.int .i64 0, Value.int .i64 0, Value.int .i64 0, Value.int .i64 0, Value.int .i64 0], 27), (n2_8, #[Value.int .i64 a.lo, Value.int .i64 a.hi, Value.int .i64 a.m, Value.int .i64 a.r, Value.int .i64 a.k, Value.int .i64 b.lo, Value.int .i64 b.hi, Value.int .i64 b.m, Value.int .i64 b.r, Value.int .i64 b.k, Value.int .i64 (bits .or .i64 a.k b.k)], 72)]), Code.wp Try.prog (cAt (codeOf Try.f14) [true, true, true]) (bodyPost Try.prog Try.f14 fun e w' => e = .returned (Value.agg #[Value.int .i64 z.lo, Value.int .i64 z.hi, Value.int .i64 z.m, Value.int .i64 z.r, Value.int .i64 z.k]) ∧ Below w.heap.size w w') aF W

structure opg_is_r0_4 (op : Int) (a b z : Ab) (w : World) (m4 : Nat) (D : Nat → Bool) (s : Nat → Value) (W : World) : Prop where
  zb : Mk0 w m4 W
  zq : Bks W []
  zt : Vals D s []
  v0 : D 0 = true → s 4 = (Value.pointer (some ⟨pblk (s 4), 0, none⟩))
  v1 : D 1 = true → s 5 = (Value.pointer (some ⟨pblk (s 5), 0, none⟩))
  v2 : D 2 = true → s 6 = (Value.pointer (some ⟨pblk (s 6), 0, none⟩))
  k0_0 : D 0 = true → Bk W (pblk (s 4)) #[Value.int .i64 a.lo, Value.int .i64 a.hi, Value.int .i64 a.m, Value.int .i64 a.r, Value.int .i64 a.k] 27
  g0 : D 0 = true → m4 ≤ (pblk (s 4))
  k1_0 : D 1 = true → Bk W (pblk (s 5)) #[Value.int .i64 b.lo, Value.int .i64 b.hi, Value.int .i64 b.m, Value.int .i64 b.r, Value.int .i64 b.k] 27
  g1 : D 1 = true → m4 ≤ (pblk (s 5))
  k2_0 : D 2 = true → Bk W (pblk (s 6)) #[Value.int .i64 0, Value.int .i64 0, Value.int .i64 0, Value.int .i64 0, Value.int .i64 0] 27
  g2 : D 2 = true → m4 ≤ (pblk (s 6))
  e0_1 : D 0 = true → D 1 = true → pblk (s 4) ≠ pblk (s 5)
  e0_2 : D 0 = true → D 2 = true → pblk (s 4) ≠ pblk (s 6)
  e1_2 : D 1 = true → D 2 = true → pblk (s 5) ≠ pblk (s 6)

structure opg_is_r1_5 (op : Int) (a b z : Ab) (n4_0 n4_1 n4_2 : Nat) (w : World) (m5 : Nat) (D : Nat → Bool) (s : Nat → Value) (W : World) : Prop where
  zb : Mk0 w m5 W
  zq : Bks W [(n4_0, #[Value.int .i64 a.lo, Value.int .i64 a.hi, Value.int .i64 a.m, Value.int .i64 a.r, Value.int .i64 a.k], 27), (n4_1, #[Value.int .i64 b.lo, Value.int .i64 b.hi, Value.int .i64 b.m, Value.int .i64 b.r, Value.int .i64 b.k], 27), (n4_2, #[Value.int .i64 0, Value.int .i64 0, Value.int .i64 0, Value.int .i64 0, Value.int .i64 0], 27)]
  zt : Vals D s [(0, 8, Value.agg #[Value.int .i64 a.lo, Value.int .i64 a.hi, Value.int .i64 a.m, Value.int .i64 a.r, Value.int .i64 a.k]), (1, 9, Value.agg #[Value.int .i64 b.lo, Value.int .i64 b.hi, Value.int .i64 b.m, Value.int .i64 b.r, Value.int .i64 b.k]), (2, 10, Value.pointer (some ⟨n4_0, 4, none⟩)), (3, 11, Value.int .i64 a.k), (4, 12, Value.pointer (some ⟨n4_1, 4, none⟩)), (5, 13, Value.int .i64 b.k), (6, 14, Value.int .i64 (bits .or .i64 a.k b.k)), (7, 15, Value.agg #[Value.int .i64 a.lo, Value.int .i64 a.hi, Value.int .i64 a.m, Value.int .i64 a.r, Value.int .i64 a.k, Value.int .i64 b.lo, Value.int .i64 b.hi, Value.int .i64 b.m, Value.int .i64 b.r, Value.int .i64 b.k, Value.int .i64 (bits .or .i64 a.k b.k)])]
  v8 : D 8 = true → s 7 = (Value.pointer (some ⟨pblk (s 7), 0, none⟩))
  k8_0 : D 8 = true → D 9 = false → Bk W (pblk (s 7)) #[Value.int .i64 0, Value.int .i64 0, Value.int .i64 0, Value.int .i64 0, Value.int .i64 0, Value.int .i64 0, Value.int .i64 0, Value.int .i64 0, Value.int .i64 0, Value.int .i64 0, Value.int .i64 0] 72
  k8_1 : D 9 = true → Bk W (pblk (s 7)) #[Value.int .i64 a.lo, Value.int .i64 a.hi, Value.int .i64 a.m, Value.int .i64 a.r, Value.int .i64 a.k, Value.int .i64 b.lo, Value.int .i64 b.hi, Value.int .i64 b.m, Value.int .i64 b.r, Value.int .i64 b.k, Value.int .i64 (bits .or .i64 a.k b.k)] 72
  c8_1 : D 9 = true → D 8 = true
  g8 : D 8 = true → m5 ≤ (pblk (s 7))

structure opg_is_r2_6 (op : Int) (a b z : Ab) (n4_0 n4_1 n4_2 n5_8 : Nat) (w : World) (m6 : Nat) (D : Nat → Bool) (s : Nat → Value) (W : World) : Prop where
  zb : Mk0 w m6 W
  zq : Bks W [(n4_0, #[Value.int .i64 a.lo, Value.int .i64 a.hi, Value.int .i64 a.m, Value.int .i64 a.r, Value.int .i64 a.k], 27), (n4_1, #[Value.int .i64 b.lo, Value.int .i64 b.hi, Value.int .i64 b.m, Value.int .i64 b.r, Value.int .i64 b.k], 27), (n4_2, #[Value.int .i64 0, Value.int .i64 0, Value.int .i64 0, Value.int .i64 0, Value.int .i64 0], 27), (n5_8, #[Value.int .i64 a.lo, Value.int .i64 a.hi, Value.int .i64 a.m, Value.int .i64 a.r, Value.int .i64 a.k, Value.int .i64 b.lo, Value.int .i64 b.hi, Value.int .i64 b.m, Value.int .i64 b.r, Value.int .i64 b.k, Value.int .i64 (bits .or .i64 a.k b.k)], 72)]
  zt : Vals D s [(0, 16, Value.agg #[Value.int .i64 a.lo, Value.int .i64 a.hi, Value.int .i64 a.m, Value.int .i64 a.r, Value.int .i64 a.k]), (1, 17, Value.int .i64 (stepS a)), (2, 18, Value.bool false), (3, 19, Value.bool false), (4, 20, undef), (5, 21, undef), (6, 22, undef), (7, 23, Value.bool false), (8, 24, Value.bool false), (9, 25, Value.int .i64 op), (10, 26, Value.bool false), (11, 27, Value.bool false), (12, 28, Value.bool false), (13, 29, Value.int .i64 op), (14, 30, Value.bool false), (15, 31, Value.bool false)]

set_option maxRecDepth 100000 in
set_option maxHeartbeats 4000000 in
theorem opg_is {a b z : Ab} (op : Int) (w : World) (ha : Good a) (hb : Good b) (hns : ¬ (stepS a = 0 ∧ stepS b = 0)) (hop : 4 ≤ op ∧ op ≤ 10) (HT : OpTail op a b z) :
    Calls Try.prog 14 #[Value.int .i64 op, Value.agg #[Value.int .i64 a.lo, Value.int .i64 a.hi, Value.int .i64 a.m, Value.int .i64 a.r, Value.int .i64 a.k], Value.agg #[Value.int .i64 b.lo, Value.int .i64 b.hi, Value.int .i64 b.m, Value.int .i64 b.r, Value.int .i64 b.k]] w fun e w' => e = .returned (Value.agg #[Value.int .i64 z.lo, Value.int .i64 z.hi, Value.int .i64 z.m, Value.int .i64 z.r, Value.int .i64 z.k]) ∧ Below w.heap.size w w' := by
  have a1 := ha.h1; have a2 := ha.h2; have a3 := ha.h3
  have b1 := hb.h1; have b2 := hb.h2; have b3 := hb.h3
  have sa := ha.step0; have sb := hb.step0
  refine calls_go Try.func14 rfl 48 rfl rfl (fun aF hz df hu => ?_)
  have u0 : Sl aF 0 (Value.int .i64 op) := hu 0 _ rfl
  have u1 : Sl aF 1 (Value.agg #[Value.int .i64 a.lo, Value.int .i64 a.hi, Value.int .i64 a.m, Value.int .i64 a.r, Value.int .i64 a.k]) := hu 1 _ rfl
  have u2 : Sl aF 2 (Value.agg #[Value.int .i64 b.lo, Value.int .i64 b.hi, Value.int .i64 b.m, Value.int .i64 b.r, Value.int .i64 b.k]) := hu 2 _ rfl
  clear hu
  have hM : Mk0 w w.heap.size w := ⟨Below.refl _ _, Nat.le_refl _⟩
  have hB : Bks w [] := trivial
  by_cases hsa : stepS a = 0
  · have hsb : stepS b ≠ 0 := fun h => hns ⟨hsa, h⟩
    replace hsa := Lib.hid hsa; replace hsb := Lib.hid hsb; clear hns
    refine wp_seq ?_
    obtain ⟨m1, hM, hU, hwm⟩ := start_region hM.b hB
    refine region_run (F := opg_is_r0_1 op a b z w m1) [4, 5, 6] [0, 1, 2] hz df (by kernel_rfl) (by kernel_rfl) (fun s hs0 => ⟨hM, hB, Vals.none s _, fun h => no_of' h, fun h => no_of' h, fun h => no_of' h, fun h => no_of' h, fun h => no_of' h, fun h => no_of' h, fun h => no_of' h, fun h => no_of' h, fun h => no_of' h, fun h => no_of' h, fun h => no_of' h, fun h => no_of' h⟩) ?_ ?_
    refine FSteps.op3 hz rfl (dv := []) (by kernel_rfl) (by kernel_rfl) (by kernel_rfl) (fun D s W bA kK hD hW hF hA hK => ?_) ?_
    · have x1 := hA.o 1 _ rfl u1
      have hF := Lib.hid hF
      clear hA
      go_simp
      exact hK.out _ _ ⟨hF.out.zb.al _, Bks.al _ hF.out.zq, hF.out.zt.skip rfl, fun _ => rfl, hF.out.v1, hF.out.v2, fun _ => Bk.new _ _ _, fun _ => hF.out.zb.g, fun h1 => (hF.out.k1_0 h1).al _, hF.out.g1, fun h1 => (hF.out.k2_0 h1).al _, hF.out.g2, fun _ h => Nat.ne_of_gt ((hF.out.k1_0 h).lt), fun _ h => Nat.ne_of_gt ((hF.out.k2_0 h).lt), hF.out.e1_2⟩
    refine FSteps.op3 hz rfl (dv := []) (by kernel_rfl) (by kernel_rfl) (by kernel_rfl) (fun D s W bA kK hD hW hF hA hK => ?_) ?_
    · have x2 := hA.o 2 _ rfl u2
      have hF := Lib.hid hF
      clear hA
      go_simp
      exact hK.out _ _ ⟨hF.out.zb.al _, Bks.al _ hF.out.zq, hF.out.zt.skip rfl, hF.out.v0, fun _ => rfl, hF.out.v2, fun h1 => (hF.out.k0_0 h1).al _, hF.out.g0, fun _ => Bk.new _ _ _, fun _ => hF.out.zb.g, fun h1 => (hF.out.k2_0 h1).al _, hF.out.g2, fun h _ => Nat.ne_of_lt ((hF.out.k0_0 h).lt), hF.out.e0_2, fun _ h => Nat.ne_of_gt ((hF.out.k2_0 h).lt)⟩
    refine FSteps.op3 hz rfl (dv := []) (by kernel_rfl) (by kernel_rfl) (by kernel_rfl) (fun D s W bA kK hD hW hF hA hK => ?_) ?_
    · have hF := Lib.hid hF
      clear hA
      go_simp
      exact hK.out _ _ ⟨hF.out.zb.al _, Bks.al _ hF.out.zq, hF.out.zt.skip rfl, hF.out.v0, hF.out.v1, fun _ => rfl, fun h1 => (hF.out.k0_0 h1).al _, hF.out.g0, fun h1 => (hF.out.k1_0 h1).al _, hF.out.g1, fun _ => Bk.new _ _ _, fun _ => hF.out.zb.g, hF.out.e0_1, fun h _ => Nat.ne_of_lt ((hF.out.k0_0 h).lt), fun h _ => Nat.ne_of_lt ((hF.out.k1_0 h).lt)⟩
    exact FSteps.nil
    intro D s W aF1 hD hF hz' df' hA
    obtain ⟨d0, d1, d2, -⟩ := hD
    clear u1 u2
    replace u0 : Sl aF1 0 _ := hA.o 0 _ rfl u0
    have u4 : Sl aF1 4 _ := hA.i 4 _ rfl rfl (hF.v0 d0)
    have u5 : Sl aF1 5 _ := hA.i 5 _ rfl rfl (hF.v1 d1)
    have u6 : Sl aF1 6 _ := hA.i 6 _ rfl rfl (hF.v2 d2)
    have hkX0 := hF.k0_0 d0
    have hgX0 := hF.g0 d0
    have hkX1 := hF.k1_0 d1
    have hgX1 := hF.g1 d1
    have hkX2 := hF.k2_0 d2
    have hgX2 := hF.g2 d2
    have heX0_1 := hF.e0_1 d0 d1
    have heX0_2 := hF.e0_2 d0 d2
    have heX1_2 := hF.e1_2 d1 d2
    have hM := hF.zb
    have hB := hF.zq
    generalize pblk (s 4) = n1_0 at hkX0 hgX0 hkX1 hgX1 hkX2 hgX2 heX0_1 heX0_2 heX1_2 u4 u5 u6
    generalize pblk (s 5) = n1_1 at hkX0 hgX0 hkX1 hgX1 hkX2 hgX2 heX0_1 heX0_2 heX1_2 u4 u5 u6
    generalize pblk (s 6) = n1_2 at hkX0 hgX0 hkX1 hgX1 hkX2 hgX2 heX0_1 heX0_2 heX1_2 u4 u5 u6
    have hB : Bks W [(n1_0, #[Value.int .i64 a.lo, Value.int .i64 a.hi, Value.int .i64 a.m, Value.int .i64 a.r, Value.int .i64 a.k], 27), (n1_1, #[Value.int .i64 b.lo, Value.int .i64 b.hi, Value.int .i64 b.m, Value.int .i64 b.r, Value.int .i64 b.k], 27), (n1_2, #[Value.int .i64 0, Value.int .i64 0, Value.int .i64 0, Value.int .i64 0, Value.int .i64 0], 27)] := ⟨hkX0, hkX1, hkX2, trivial⟩
    have hw_n1_2 : w.heap.size ≤ n1_2 := Nat.le_trans hwm hgX2
    clear hF hA hz df d0 d1 d2 hU
    have hz := hz'; have df := df'; clear hz' df'
    clear aF
    show Code.wp _ _ _ _ _
    refine wp_seq ?_
    obtain ⟨m2, hM, hU, hwm⟩ := start_region hM.b hB
    refine region_run (F := opg_is_r1_2 op a b z n1_0 n1_1 n1_2 w m2) [8, 9, 10, 11, 12, 13, 14, 15, 7] [0, 1, 2, 3, 4, 5, 6, 7, 8, 9] hz df (by kernel_rfl) (by kernel_rfl) (fun s hs0 => ⟨hM, hB, Vals.none s _, fun h => no_of' h, fun h => no_of' h, fun h => no_of' h, fun h => no_of' h, fun h => no_of' h⟩) ?_ ?_
    refine FSteps.op3 hz rfl (dv := []) (by kernel_rfl) (by kernel_rfl) (by kernel_rfl) (fun D s W bA kK hD hW hF hA hK => ?_) ?_
    · have x4 := hA.o 4 _ rfl u4
      obtain ⟨⟨c0, z0⟩, -, -, -⟩ := hF.zq.rules
      have hF := Lib.hid hF
      clear hA
      go_simp
      exact hK.out _ _ ⟨hF.out.zb, hF.out.zq, hF.out.zt.step rfl rfl, hF.out.v8, hF.out.k8_0, hF.out.k8_1, hF.out.c8_1, hF.out.g8⟩
    refine FSteps.op3 hz rfl (dv := []) (by kernel_rfl) (by kernel_rfl) (by kernel_rfl) (fun D s W bA kK hD hW hF hA hK => ?_) ?_
    · have x5 := hA.o 5 _ rfl u5
      obtain ⟨-, ⟨c1, z1⟩, -, -⟩ := hF.zq.rules
      have hF := Lib.hid hF
      clear hA
      go_simp
      exact hK.out _ _ ⟨hF.out.zb, hF.out.zq, hF.out.zt.step rfl rfl, hF.out.v8, hF.out.k8_0, hF.out.k8_1, hF.out.c8_1, hF.out.g8⟩
    refine FSteps.op3 hz rfl (dv := []) (by kernel_rfl) (by kernel_rfl) (by kernel_rfl) (fun D s W bA kK hD hW hF hA hK => ?_) ?_
    · have x4 := hA.o 4 _ rfl u4
      have hF := Lib.hid hF
      clear hA
      go_simp
      exact hK.out _ _ ⟨hF.out.zb, hF.out.zq, hF.out.zt.step rfl rfl, hF.out.v8, hF.out.k8_0, hF.out.k8_1, hF.out.c8_1, hF.out.g8⟩
    refine FSteps.op3 hz rfl (dv := [2]) (by kernel_rfl) (by kernel_rfl) (by kernel_rfl) (fun D s W bA kK hD hW hF hA hK => ?_) ?_
    · have x10 := hA.i 10 _ rfl rfl (hF.zt.get (j := 2) rfl hW.1)
      obtain ⟨⟨c0, z0⟩, -, -, -⟩ := hF.zq.rules
      have hF := Lib.hid hF
      clear hA
      go_simp
      exact hK.out _ _ ⟨hF.out.zb, hF.out.zq, hF.out.zt.step rfl rfl, hF.out.v8, hF.out.k8_0, hF.out.k8_1, hF.out.c8_1, hF.out.g8⟩
    refine FSteps.op3 hz rfl (dv := []) (by kernel_rfl) (by kernel_rfl) (by kernel_rfl) (fun D s W bA kK hD hW hF hA hK => ?_) ?_
    · have x5 := hA.o 5 _ rfl u5
      have hF := Lib.hid hF
      clear hA
      go_simp
      exact hK.out _ _ ⟨hF.out.zb, hF.out.zq, hF.out.zt.step rfl rfl, hF.out.v8, hF.out.k8_0, hF.out.k8_1, hF.out.c8_1, hF.out.g8⟩
    refine FSteps.op3 hz rfl (dv := [4]) (by kernel_rfl) (by kernel_rfl) (by kernel_rfl) (fun D s W bA kK hD hW hF hA hK => ?_) ?_
    · have x12 := hA.i 12 _ rfl rfl (hF.zt.get (j := 4) rfl hW.1)
      obtain ⟨-, ⟨c1, z1⟩, -, -⟩ := hF.zq.rules
      have hF := Lib.hid hF
      clear hA
      go_simp
      exact hK.out _ _ ⟨hF.out.zb, hF.out.zq, hF.out.zt.step rfl rfl, hF.out.v8, hF.out.k8_0, hF.out.k8_1, hF.out.c8_1, hF.out.g8⟩
    refine FSteps.op3 hz rfl (dv := [3, 5]) (by kernel_rfl) (by kernel_rfl) (by kernel_rfl) (fun D s W bA kK hD hW hF hA hK => ?_) ?_
    · have x11 := hA.i 11 _ rfl rfl (hF.zt.get (j := 3) rfl hW.1)
      have x13 := hA.i 13 _ rfl rfl (hF.zt.get (j := 5) rfl hW.2.1)
      have hF := Lib.hid hF
      clear hA
      go_simp
      exact hK.out _ _ ⟨hF.out.zb, hF.out.zq, hF.out.zt.step rfl rfl, hF.out.v8, hF.out.k8_0, hF.out.k8_1, hF.out.c8_1, hF.out.g8⟩
    refine FSteps.op3 hz rfl (dv := [0, 1, 6]) (by kernel_rfl) (by kernel_rfl) (by kernel_rfl) (fun D s W bA kK hD hW hF hA hK => ?_) ?_
    · have x8 := hA.i 8 _ rfl rfl (hF.zt.get (j := 0) rfl hW.1)
      have x9 := hA.i 9 _ rfl rfl (hF.zt.get (j := 1) rfl hW.2.1)
      have x14 := hA.i 14 _ rfl rfl (hF.zt.get (j := 6) rfl hW.2.2.1)
      have hF := Lib.hid hF
      clear hA
      go_simp
      exact hK.out _ _ ⟨hF.out.zb, hF.out.zq, hF.out.zt.step rfl rfl, hF.out.v8, hF.out.k8_0, hF.out.k8_1, hF.out.c8_1, hF.out.g8⟩
    refine FSteps.op3 hz rfl (dv := []) (by kernel_rfl) (by kernel_rfl) (by kernel_rfl) (fun D s W bA kK hD hW hF hA hK => ?_) ?_
    · have hF := Lib.hid hF
      clear hA
      go_simp
      exact hK.out _ _ ⟨hF.out.zb.al _, Bks.al _ hF.out.zq, hF.out.zt.skip rfl, fun _ => rfl, fun _ _ => Bk.new _ _ _, fun h1 => absurd (hF.out.c8_1 h1) (by rw [hD]; decide), fun _ => rfl, fun _ => hF.out.zb.g⟩
    refine FSteps.op3 hz rfl (dv := [8, 7, 0, 1, 2, 3, 4, 5, 6, 7, 8]) (by kernel_rfl) (by kernel_rfl) (by kernel_rfl) (fun D s W bA kK hD hW hF hA hK => ?_) ?_
    · have x7 := hA.i 7 _ rfl rfl (hF.v8 hW.1)
      have x15 := hA.i 15 _ rfl rfl (hF.zt.get (j := 7) rfl hW.2.1)
      have kk := hF.k8_0 hW.1 hD
      have hge := Nat.le_trans hwm (hF.g8 hW.1); have hge2 := hF.g8 hW.1
      have kc := kk.cell; have kf := kk.free
      have hF := Lib.hid hF
      have kk := Lib.hid kk; have hge := Lib.hid hge; have hge2 := Lib.hid hge2
      clear hA
      go_simp
      exact hK.out undef _ ⟨hF.out.zb.sAll (hge.out) 0 [Value.int .i64 a.lo, Value.int .i64 a.hi, Value.int .i64 a.m, Value.int .i64 a.r, Value.int .i64 a.k, Value.int .i64 b.lo, Value.int .i64 b.hi, Value.int .i64 b.m, Value.int .i64 b.r, Value.int .i64 b.k, Value.int .i64 (bits .or .i64 a.k b.k)], Bks.oAll [Value.int .i64 a.lo, Value.int .i64 a.hi, Value.int .i64 a.m, Value.int .i64 a.r, Value.int .i64 a.k, Value.int .i64 b.lo, Value.int .i64 b.hi, Value.int .i64 b.m, Value.int .i64 b.r, Value.int .i64 b.k, Value.int .i64 (bits .or .i64 a.k b.k)] 0 (Under.outside hge2.out hU) hF.out.zq, hF.out.zt.skip rfl, hF.out.v8, fun h1 h2 => no_of h2, fun _ => kk.out.full [Value.int .i64 a.lo, Value.int .i64 a.hi, Value.int .i64 a.m, Value.int .i64 a.r, Value.int .i64 a.k, Value.int .i64 b.lo, Value.int .i64 b.hi, Value.int .i64 b.m, Value.int .i64 b.r, Value.int .i64 b.k, Value.int .i64 (bits .or .i64 a.k b.k)] rfl, fun _ => hW.1, hF.out.g8⟩
    exact FSteps.nil
    intro D s W aF2 hD hF hz' df' hA
    obtain ⟨d0, d1, d2, d3, d4, d5, d6, d7, d8, d9, -⟩ := hD
    replace u0 : Sl aF2 0 _ := hA.o 0 _ rfl u0
    replace u4 : Sl aF2 4 _ := hA.o 4 _ rfl u4
    replace u5 : Sl aF2 5 _ := hA.o 5 _ rfl u5
    replace u6 : Sl aF2 6 _ := hA.o 6 _ rfl u6
    have u7 : Sl aF2 7 _ := hA.i 7 _ rfl rfl (hF.v8 d8)
    have hkX8 := hF.k8_1 d9
    have hgX8 := hF.g8 d8
    have hM := hF.zb
    have hB := hF.zq
    generalize pblk (s 7) = n2_8 at hkX8 hgX8 u7
    have hB : Bks W [(n1_0, #[Value.int .i64 a.lo, Value.int .i64 a.hi, Value.int .i64 a.m, Value.int .i64 a.r, Value.int .i64 a.k], 27), (n1_1, #[Value.int .i64 b.lo, Value.int .i64 b.hi, Value.int .i64 b.m, Value.int .i64 b.r, Value.int .i64 b.k], 27), (n1_2, #[Value.int .i64 0, Value.int .i64 0, Value.int .i64 0, Value.int .i64 0, Value.int .i64 0], 27), (n2_8, #[Value.int .i64 a.lo, Value.int .i64 a.hi, Value.int .i64 a.m, Value.int .i64 a.r, Value.int .i64 a.k, Value.int .i64 b.lo, Value.int .i64 b.hi, Value.int .i64 b.m, Value.int .i64 b.r, Value.int .i64 b.k, Value.int .i64 (bits .or .i64 a.k b.k)], 72)] := ⟨hB.1, hB.2.1, hB.2.2.1, hkX8, trivial⟩
    obtain ⟨hl_0, hl_1, hl_2, -⟩ := hU
    have hne_n1_2_n2_8 : n1_2 ≠ n2_8 := by omega
    clear hF hA hz df d0 d1 d2 d3 d4 d5 d6 d7 d8 d9 
    have hz := hz'; have df := df'; clear hz' df'
    clear aF1
    show Code.wp _ _ _ _ _
    refine wp_seq ?_
    refine wp_seq ?_
    obtain ⟨m3, hM, hU, hwm⟩ := start_region hM.b hB
    refine region_run (F := opg_is_r2_3 op a b z n1_0 n1_1 n1_2 n2_8 w m3) [16, 17, 18, 19, 20, 21, 22, 23, 24, 25, 26, 27, 28, 29, 30, 31] [0, 1, 2, 3, 4, 5, 6, 7, 8, 9, 10, 11, 12, 13, 14, 15] hz df (by kernel_rfl) (by kernel_rfl) (fun s hs0 => ⟨hM, hB, Vals.none s _⟩) ?_ ?_
    refine FSteps.op3 hz rfl (dv := []) (by kernel_rfl) (by kernel_rfl) (by kernel_rfl) (fun D s W bA kK hD hW hF hA hK => ?_) ?_
    · have x4 := hA.o 4 _ rfl u4
      obtain ⟨⟨c0, z0⟩, -, -, -, -⟩ := hF.zq.rules
      have hF := Lib.hid hF
      clear hA
      go_simp
      exact hK.out _ _ ⟨hF.out.zb, hF.out.zq, hF.out.zt.step rfl rfl⟩
    refine FSteps.op3 hz rfl (dv := [0]) (by kernel_rfl) (by kernel_rfl) (by kernel_rfl) (fun D s W bA kK hD hW hF hA hK => ?_) ?_
    · have x16 := hA.i 16 _ rfl rfl (hF.zt.get (j := 0) rfl hW.1)
      have hF := Lib.hid hF
      clear hA
      go_simp
      (go_at_call 44; ((with_reducible_and_instances refine (step_ab a _).mono ?_)); rintro e W1 ⟨rfl, hb⟩; (try unfold abVal))
      (try go_wp2_with fail)
      exact hK.out _ _ ⟨hF.out.zb.on hb, Bks.on hb hF.out.zq, hF.out.zt.step rfl rfl⟩
    refine FSteps.op3 hz rfl (dv := [1]) (by kernel_rfl) (by kernel_rfl) (by kernel_rfl) (fun D s W bA kK hD hW hF hA hK => ?_) ?_
    · have x17 := hA.i 17 _ rfl rfl (hF.zt.get (j := 1) rfl hW.1)
      have hF := Lib.hid hF
      clear hA
      have hd2 : ((stepS a) == 0) = true := beq_iff_eq.2 (by exact hsa.out)
      go_simp
      exact hK.out _ _ ⟨hF.out.zb, hF.out.zq, hF.out.zt.step rfl rfl⟩
    refine FSteps.op3 hz rfl (dv := [2, 1]) (by kernel_rfl) (by kernel_rfl) (by kernel_rfl) (fun D s W bA kK hD hW hF hA hK => ?_) ?_
    · have x18 := hA.i 18 _ rfl rfl (hF.zt.get (j := 2) rfl hW.1)
      have hF := Lib.hid hF
      clear hA
      go_simp
      exact hK.out _ _ ⟨hF.out.zb, hF.out.zq, hF.out.zt.step rfl rfl⟩
    refine FSteps.yes3 (bv := true) hz rfl (dv := [3]) (by kernel_rfl) rfl (by kernel_rfl) (by kernel_rfl) (fun D s W hW hF => (hF.zt.get (j := 3) rfl hW.1)) (by kernel_rfl) (by kernel_rfl) (fun D s W bA kK hD hW hF hA hK => ?_) ?_
    · have x5 := hA.o 5 _ rfl u5
      obtain ⟨-, ⟨c1, z1⟩, -, -, -⟩ := hF.zq.rules
      have hF := Lib.hid hF
      clear hA
      go_simp
      exact hK.out _ _ ⟨hF.out.zb, hF.out.zq, hF.out.zt.step rfl rfl⟩
    refine FSteps.yes3 (bv := true) hz rfl (dv := [4, 3, 3]) (by kernel_rfl) rfl (by kernel_rfl) (by kernel_rfl) (fun D s W hW hF => (hF.zt.get (j := 3) rfl hW.2.1)) (by kernel_rfl) (by kernel_rfl) (fun D s W bA kK hD hW hF hA hK => ?_) ?_
    · have x20 := hA.i 20 _ rfl rfl (hF.zt.get (j := 4) rfl hW.1)
      have hF := Lib.hid hF
      clear hA
      go_simp
      (go_at_call 44; ((with_reducible_and_instances refine (step_ab b _).mono ?_)); rintro e W1 ⟨rfl, hb⟩; (try unfold abVal))
      (try go_wp2_with fail)
      exact hK.out _ _ ⟨hF.out.zb.on hb, Bks.on hb hF.out.zq, hF.out.zt.step rfl rfl⟩
    refine FSteps.yes3 (bv := true) hz rfl (dv := [5, 3]) (by kernel_rfl) rfl (by kernel_rfl) (by kernel_rfl) (fun D s W hW hF => (hF.zt.get (j := 3) rfl hW.2.1)) (by kernel_rfl) (by kernel_rfl) (fun D s W bA kK hD hW hF hA hK => ?_) ?_
    · have x21 := hA.i 21 _ rfl rfl (hF.zt.get (j := 5) rfl hW.1)
      have hF := Lib.hid hF
      clear hA
      have hd6 : ((stepS b) == 0) = false := beq_eq_false_iff_ne.2 (by exact hsb.out)
      go_simp
      exact hK.out _ _ ⟨hF.out.zb, hF.out.zq, hF.out.zt.step rfl rfl⟩
    refine FSteps.op3 hz rfl (dv := [3, 6]) (by kernel_rfl) (by kernel_rfl) (by kernel_rfl) (fun D s W bA kK hD hW hF hA hK => ?_) ?_
    · have x19 := hA.i 19 _ rfl rfl (hF.zt.get (j := 3) rfl hW.1)
      have x22 := hA.i 22 _ rfl rfl (hF.zt.get (j := 6) rfl hW.2.1)
      have hF := Lib.hid hF
      clear hA
      go_simp
      exact hK.out _ _ ⟨hF.out.zb, hF.out.zq, hF.out.zt.step rfl rfl⟩
    refine FSteps.op3 hz rfl (dv := [7, 5]) (by kernel_rfl) (by kernel_rfl) (by kernel_rfl) (fun D s W bA kK hD hW hF hA hK => ?_) ?_
    · have x23 := hA.i 23 _ rfl rfl (hF.zt.get (j := 7) rfl hW.1)
      have hF := Lib.hid hF
      clear hA
      go_simp
      exact hK.out _ _ ⟨hF.out.zb, hF.out.zq, hF.out.zt.step rfl rfl⟩
    refine FSteps.yes3 (bv := false) hz rfl (dv := [8]) (by kernel_rfl) rfl (by kernel_rfl) (by kernel_rfl) (fun D s W hW hF => (hF.zt.get (j := 8) rfl hW.1)) (by kernel_rfl) (by kernel_rfl) (fun D s W bA kK hD hW hF hA hK => ?_) ?_
    · have x0 := hA.o 0 _ rfl u0
      have hF := Lib.hid hF
      clear hA
      go_simp
      exact hK.out _ _ ⟨hF.out.zb, hF.out.zq, hF.out.zt.step rfl rfl⟩
    refine FSteps.yes3 (bv := false) hz rfl (dv := [9, 8]) (by kernel_rfl) rfl (by kernel_rfl) (by kernel_rfl) (fun D s W hW hF => (hF.zt.get (j := 8) rfl hW.2.1)) (by kernel_rfl) (by kernel_rfl) (fun D s W bA kK hD hW hF hA hK => ?_) ?_
    · have x25 := hA.i 25 _ rfl rfl (hF.zt.get (j := 9) rfl hW.1)
      have hF := Lib.hid hF
      clear hA
      have hd10 : decide (op < 4) = false := decide_eq_false (by omega)
      go_simp
      exact hK.out _ _ ⟨hF.out.zb, hF.out.zq, hF.out.zt.step rfl rfl⟩
    refine FSteps.op3 hz rfl (dv := [8, 10]) (by kernel_rfl) (by kernel_rfl) (by kernel_rfl) (fun D s W bA kK hD hW hF hA hK => ?_) ?_
    · have x24 := hA.i 24 _ rfl rfl (hF.zt.get (j := 8) rfl hW.1)
      have x26 := hA.i 26 _ rfl rfl (hF.zt.get (j := 10) rfl hW.2.1)
      have hF := Lib.hid hF
      clear hA
      go_simp
      exact hK.out _ _ ⟨hF.out.zb, hF.out.zq, hF.out.zt.step rfl rfl⟩
    refine FSteps.op3 hz rfl (dv := [11, 8]) (by kernel_rfl) (by kernel_rfl) (by kernel_rfl) (fun D s W bA kK hD hW hF hA hK => ?_) ?_
    · have x27 := hA.i 27 _ rfl rfl (hF.zt.get (j := 11) rfl hW.1)
      have hF := Lib.hid hF
      clear hA
      go_simp
      exact hK.out _ _ ⟨hF.out.zb, hF.out.zq, hF.out.zt.step rfl rfl⟩
    refine FSteps.yes3 (bv := false) hz rfl (dv := [12]) (by kernel_rfl) rfl (by kernel_rfl) (by kernel_rfl) (fun D s W hW hF => (hF.zt.get (j := 12) rfl hW.1)) (by kernel_rfl) (by kernel_rfl) (fun D s W bA kK hD hW hF hA hK => ?_) ?_
    · have x0 := hA.o 0 _ rfl u0
      have hF := Lib.hid hF
      clear hA
      go_simp
      exact hK.out _ _ ⟨hF.out.zb, hF.out.zq, hF.out.zt.step rfl rfl⟩
    refine FSteps.yes3 (bv := false) hz rfl (dv := [13, 12]) (by kernel_rfl) rfl (by kernel_rfl) (by kernel_rfl) (fun D s W hW hF => (hF.zt.get (j := 12) rfl hW.2.1)) (by kernel_rfl) (by kernel_rfl) (fun D s W bA kK hD hW hF hA hK => ?_) ?_
    · have x29 := hA.i 29 _ rfl rfl (hF.zt.get (j := 13) rfl hW.1)
      have hF := Lib.hid hF
      clear hA
      have hd14 : decide (10 < op) = false := decide_eq_false (by omega)
      go_simp
      exact hK.out _ _ ⟨hF.out.zb, hF.out.zq, hF.out.zt.step rfl rfl⟩
    refine FSteps.op3 hz rfl (dv := [12, 14]) (by kernel_rfl) (by kernel_rfl) (by kernel_rfl) (fun D s W bA kK hD hW hF hA hK => ?_) ?_
    · have x28 := hA.i 28 _ rfl rfl (hF.zt.get (j := 12) rfl hW.1)
      have x30 := hA.i 30 _ rfl rfl (hF.zt.get (j := 14) rfl hW.2.1)
      have hF := Lib.hid hF
      clear hA
      go_simp
      exact hK.out _ _ ⟨hF.out.zb, hF.out.zq, hF.out.zt.step rfl rfl⟩
    exact FSteps.nil
    intro D s W aF3 hD hF hz' df' hA
    obtain ⟨d0, d1, d2, d3, d4, d5, d6, d7, d8, d9, d10, d11, d12, d13, d14, d15, -⟩ := hD
    replace u0 : Sl aF3 0 _ := hA.o 0 _ rfl u0
    replace u4 : Sl aF3 4 _ := hA.o 4 _ rfl u4
    replace u5 : Sl aF3 5 _ := hA.o 5 _ rfl u5
    replace u6 : Sl aF3 6 _ := hA.o 6 _ rfl u6
    replace u7 : Sl aF3 7 _ := hA.o 7 _ rfl u7
    have u31 : Sl aF3 31 _ := hA.i 31 _ rfl rfl (hF.zt.get (j := 15) rfl d15)
    have hM := hF.zb
    have hB := hF.zq
    have hB : Bks W [(n1_0, #[Value.int .i64 a.lo, Value.int .i64 a.hi, Value.int .i64 a.m, Value.int .i64 a.r, Value.int .i64 a.k], 27), (n1_1, #[Value.int .i64 b.lo, Value.int .i64 b.hi, Value.int .i64 b.m, Value.int .i64 b.r, Value.int .i64 b.k], 27), (n1_2, #[Value.int .i64 0, Value.int .i64 0, Value.int .i64 0, Value.int .i64 0, Value.int .i64 0], 27), (n2_8, #[Value.int .i64 a.lo, Value.int .i64 a.hi, Value.int .i64 a.m, Value.int .i64 a.r, Value.int .i64 a.k, Value.int .i64 b.lo, Value.int .i64 b.hi, Value.int .i64 b.m, Value.int .i64 b.r, Value.int .i64 b.k, Value.int .i64 (bits .or .i64 a.k b.k)], 72)] := ⟨hB.1, hB.2.1, hB.2.2.1, hB.2.2.2.1, trivial⟩
    clear hF hA hz df d0 d1 d2 d3 d4 d5 d6 d7 d8 d9 d10 d11 d12 d13 d14 d15 hU
    have hz := hz'; have df := df'; clear hz' df'
    clear aF2
    show Code.wp _ _ _ _ _
    refine cond_f u31 ?_
    refine wp_skip ?_
    show Code.wp _ _ _ _ _
    exact HT   w  aF3 W n1_2 n2_8 hw_n1_2 (by omega) hz df u0 u6 u7 hM.b ⟨hB.2.2.1, hB.2.2.2.1, trivial⟩
  · replace hsa := Lib.hid hsa; clear hns
    refine wp_seq ?_
    obtain ⟨m4, hM, hU, hwm⟩ := start_region hM.b hB
    refine region_run (F := opg_is_r0_4 op a b z w m4) [4, 5, 6] [0, 1, 2] hz df (by kernel_rfl) (by kernel_rfl) (fun s hs0 => ⟨hM, hB, Vals.none s _, fun h => no_of' h, fun h => no_of' h, fun h => no_of' h, fun h => no_of' h, fun h => no_of' h, fun h => no_of' h, fun h => no_of' h, fun h => no_of' h, fun h => no_of' h, fun h => no_of' h, fun h => no_of' h, fun h => no_of' h⟩) ?_ ?_
    refine FSteps.op3 hz rfl (dv := []) (by kernel_rfl) (by kernel_rfl) (by kernel_rfl) (fun D s W bA kK hD hW hF hA hK => ?_) ?_
    · have x1 := hA.o 1 _ rfl u1
      have hF := Lib.hid hF
      clear hA
      go_simp
      exact hK.out _ _ ⟨hF.out.zb.al _, Bks.al _ hF.out.zq, hF.out.zt.skip rfl, fun _ => rfl, hF.out.v1, hF.out.v2, fun _ => Bk.new _ _ _, fun _ => hF.out.zb.g, fun h1 => (hF.out.k1_0 h1).al _, hF.out.g1, fun h1 => (hF.out.k2_0 h1).al _, hF.out.g2, fun _ h => Nat.ne_of_gt ((hF.out.k1_0 h).lt), fun _ h => Nat.ne_of_gt ((hF.out.k2_0 h).lt), hF.out.e1_2⟩
    refine FSteps.op3 hz rfl (dv := []) (by kernel_rfl) (by kernel_rfl) (by kernel_rfl) (fun D s W bA kK hD hW hF hA hK => ?_) ?_
    · have x2 := hA.o 2 _ rfl u2
      have hF := Lib.hid hF
      clear hA
      go_simp
      exact hK.out _ _ ⟨hF.out.zb.al _, Bks.al _ hF.out.zq, hF.out.zt.skip rfl, hF.out.v0, fun _ => rfl, hF.out.v2, fun h1 => (hF.out.k0_0 h1).al _, hF.out.g0, fun _ => Bk.new _ _ _, fun _ => hF.out.zb.g, fun h1 => (hF.out.k2_0 h1).al _, hF.out.g2, fun h _ => Nat.ne_of_lt ((hF.out.k0_0 h).lt), hF.out.e0_2, fun _ h => Nat.ne_of_gt ((hF.out.k2_0 h).lt)⟩
    refine FSteps.op3 hz rfl (dv := []) (by kernel_rfl) (by kernel_rfl) (by kernel_rfl) (fun D s W bA kK hD hW hF hA hK => ?_) ?_
    · have hF := Lib.hid hF
      clear hA
      go_simp
      exact hK.out _ _ ⟨hF.out.zb.al _, Bks.al _ hF.out.zq, hF.out.zt.skip rfl, hF.out.v0, hF.out.v1, fun _ => rfl, fun h1 => (hF.out.k0_0 h1).al _, hF.out.g0, fun h1 => (hF.out.k1_0 h1).al _, hF.out.g1, fun _ => Bk.new _ _ _, fun _ => hF.out.zb.g, hF.out.e0_1, fun h _ => Nat.ne_of_lt ((hF.out.k0_0 h).lt), fun h _ => Nat.ne_of_lt ((hF.out.k1_0 h).lt)⟩
    exact FSteps.nil
    intro D s W aF4 hD hF hz' df' hA
    obtain ⟨d0, d1, d2, -⟩ := hD
    clear u1 u2
    replace u0 : Sl aF4 0 _ := hA.o 0 _ rfl u0
    have u4 : Sl aF4 4 _ := hA.i 4 _ rfl rfl (hF.v0 d0)
    have u5 : Sl aF4 5 _ := hA.i 5 _ rfl rfl (hF.v1 d1)
    have u6 : Sl aF4 6 _ := hA.i 6 _ rfl rfl (hF.v2 d2)
    have hkX0 := hF.k0_0 d0
    have hgX0 := hF.g0 d0
    have hkX1 := hF.k1_0 d1
    have hgX1 := hF.g1 d1
    have hkX2 := hF.k2_0 d2
    have hgX2 := hF.g2 d2
    have heX0_1 := hF.e0_1 d0 d1
    have heX0_2 := hF.e0_2 d0 d2
    have heX1_2 := hF.e1_2 d1 d2
    have hM := hF.zb
    have hB := hF.zq
    generalize pblk (s 4) = n4_0 at hkX0 hgX0 hkX1 hgX1 hkX2 hgX2 heX0_1 heX0_2 heX1_2 u4 u5 u6
    generalize pblk (s 5) = n4_1 at hkX0 hgX0 hkX1 hgX1 hkX2 hgX2 heX0_1 heX0_2 heX1_2 u4 u5 u6
    generalize pblk (s 6) = n4_2 at hkX0 hgX0 hkX1 hgX1 hkX2 hgX2 heX0_1 heX0_2 heX1_2 u4 u5 u6
    have hB : Bks W [(n4_0, #[Value.int .i64 a.lo, Value.int .i64 a.hi, Value.int .i64 a.m, Value.int .i64 a.r, Value.int .i64 a.k], 27), (n4_1, #[Value.int .i64 b.lo, Value.int .i64 b.hi, Value.int .i64 b.m, Value.int .i64 b.r, Value.int .i64 b.k], 27), (n4_2, #[Value.int .i64 0, Value.int .i64 0, Value.int .i64 0, Value.int .i64 0, Value.int .i64 0], 27)] := ⟨hkX0, hkX1, hkX2, trivial⟩
    have hw_n4_2 : w.heap.size ≤ n4_2 := Nat.le_trans hwm hgX2
    clear hF hA hz df d0 d1 d2 hU
    have hz := hz'; have df := df'; clear hz' df'
    clear aF
    show Code.wp _ _ _ _ _
    refine wp_seq ?_
    obtain ⟨m5, hM, hU, hwm⟩ := start_region hM.b hB
    refine region_run (F := opg_is_r1_5 op a b z n4_0 n4_1 n4_2 w m5) [8, 9, 10, 11, 12, 13, 14, 15, 7] [0, 1, 2, 3, 4, 5, 6, 7, 8, 9] hz df (by kernel_rfl) (by kernel_rfl) (fun s hs0 => ⟨hM, hB, Vals.none s _, fun h => no_of' h, fun h => no_of' h, fun h => no_of' h, fun h => no_of' h, fun h => no_of' h⟩) ?_ ?_
    refine FSteps.op3 hz rfl (dv := []) (by kernel_rfl) (by kernel_rfl) (by kernel_rfl) (fun D s W bA kK hD hW hF hA hK => ?_) ?_
    · have x4 := hA.o 4 _ rfl u4
      obtain ⟨⟨c0, z0⟩, -, -, -⟩ := hF.zq.rules
      have hF := Lib.hid hF
      clear hA
      go_simp
      exact hK.out _ _ ⟨hF.out.zb, hF.out.zq, hF.out.zt.step rfl rfl, hF.out.v8, hF.out.k8_0, hF.out.k8_1, hF.out.c8_1, hF.out.g8⟩
    refine FSteps.op3 hz rfl (dv := []) (by kernel_rfl) (by kernel_rfl) (by kernel_rfl) (fun D s W bA kK hD hW hF hA hK => ?_) ?_
    · have x5 := hA.o 5 _ rfl u5
      obtain ⟨-, ⟨c1, z1⟩, -, -⟩ := hF.zq.rules
      have hF := Lib.hid hF
      clear hA
      go_simp
      exact hK.out _ _ ⟨hF.out.zb, hF.out.zq, hF.out.zt.step rfl rfl, hF.out.v8, hF.out.k8_0, hF.out.k8_1, hF.out.c8_1, hF.out.g8⟩
    refine FSteps.op3 hz rfl (dv := []) (by kernel_rfl) (by kernel_rfl) (by kernel_rfl) (fun D s W bA kK hD hW hF hA hK => ?_) ?_
    · have x4 := hA.o 4 _ rfl u4
      have hF := Lib.hid hF
      clear hA
      go_simp
      exact hK.out _ _ ⟨hF.out.zb, hF.out.zq, hF.out.zt.step rfl rfl, hF.out.v8, hF.out.k8_0, hF.out.k8_1, hF.out.c8_1, hF.out.g8⟩
    refine FSteps.op3 hz rfl (dv := [2]) (by kernel_rfl) (by kernel_rfl) (by kernel_rfl) (fun D s W bA kK hD hW hF hA hK => ?_) ?_
    · have x10 := hA.i 10 _ rfl rfl (hF.zt.get (j := 2) rfl hW.1)
      obtain ⟨⟨c0, z0⟩, -, -, -⟩ := hF.zq.rules
      have hF := Lib.hid hF
      clear hA
      go_simp
      exact hK.out _ _ ⟨hF.out.zb, hF.out.zq, hF.out.zt.step rfl rfl, hF.out.v8, hF.out.k8_0, hF.out.k8_1, hF.out.c8_1, hF.out.g8⟩
    refine FSteps.op3 hz rfl (dv := []) (by kernel_rfl) (by kernel_rfl) (by kernel_rfl) (fun D s W bA kK hD hW hF hA hK => ?_) ?_
    · have x5 := hA.o 5 _ rfl u5
      have hF := Lib.hid hF
      clear hA
      go_simp
      exact hK.out _ _ ⟨hF.out.zb, hF.out.zq, hF.out.zt.step rfl rfl, hF.out.v8, hF.out.k8_0, hF.out.k8_1, hF.out.c8_1, hF.out.g8⟩
    refine FSteps.op3 hz rfl (dv := [4]) (by kernel_rfl) (by kernel_rfl) (by kernel_rfl) (fun D s W bA kK hD hW hF hA hK => ?_) ?_
    · have x12 := hA.i 12 _ rfl rfl (hF.zt.get (j := 4) rfl hW.1)
      obtain ⟨-, ⟨c1, z1⟩, -, -⟩ := hF.zq.rules
      have hF := Lib.hid hF
      clear hA
      go_simp
      exact hK.out _ _ ⟨hF.out.zb, hF.out.zq, hF.out.zt.step rfl rfl, hF.out.v8, hF.out.k8_0, hF.out.k8_1, hF.out.c8_1, hF.out.g8⟩
    refine FSteps.op3 hz rfl (dv := [3, 5]) (by kernel_rfl) (by kernel_rfl) (by kernel_rfl) (fun D s W bA kK hD hW hF hA hK => ?_) ?_
    · have x11 := hA.i 11 _ rfl rfl (hF.zt.get (j := 3) rfl hW.1)
      have x13 := hA.i 13 _ rfl rfl (hF.zt.get (j := 5) rfl hW.2.1)
      have hF := Lib.hid hF
      clear hA
      go_simp
      exact hK.out _ _ ⟨hF.out.zb, hF.out.zq, hF.out.zt.step rfl rfl, hF.out.v8, hF.out.k8_0, hF.out.k8_1, hF.out.c8_1, hF.out.g8⟩
    refine FSteps.op3 hz rfl (dv := [0, 1, 6]) (by kernel_rfl) (by kernel_rfl) (by kernel_rfl) (fun D s W bA kK hD hW hF hA hK => ?_) ?_
    · have x8 := hA.i 8 _ rfl rfl (hF.zt.get (j := 0) rfl hW.1)
      have x9 := hA.i 9 _ rfl rfl (hF.zt.get (j := 1) rfl hW.2.1)
      have x14 := hA.i 14 _ rfl rfl (hF.zt.get (j := 6) rfl hW.2.2.1)
      have hF := Lib.hid hF
      clear hA
      go_simp
      exact hK.out _ _ ⟨hF.out.zb, hF.out.zq, hF.out.zt.step rfl rfl, hF.out.v8, hF.out.k8_0, hF.out.k8_1, hF.out.c8_1, hF.out.g8⟩
    refine FSteps.op3 hz rfl (dv := []) (by kernel_rfl) (by kernel_rfl) (by kernel_rfl) (fun D s W bA kK hD hW hF hA hK => ?_) ?_
    · have hF := Lib.hid hF
      clear hA
      go_simp
      exact hK.out _ _ ⟨hF.out.zb.al _, Bks.al _ hF.out.zq, hF.out.zt.skip rfl, fun _ => rfl, fun _ _ => Bk.new _ _ _, fun h1 => absurd (hF.out.c8_1 h1) (by rw [hD]; decide), fun _ => rfl, fun _ => hF.out.zb.g⟩
    refine FSteps.op3 hz rfl (dv := [8, 7, 0, 1, 2, 3, 4, 5, 6, 7, 8]) (by kernel_rfl) (by kernel_rfl) (by kernel_rfl) (fun D s W bA kK hD hW hF hA hK => ?_) ?_
    · have x7 := hA.i 7 _ rfl rfl (hF.v8 hW.1)
      have x15 := hA.i 15 _ rfl rfl (hF.zt.get (j := 7) rfl hW.2.1)
      have kk := hF.k8_0 hW.1 hD
      have hge := Nat.le_trans hwm (hF.g8 hW.1); have hge2 := hF.g8 hW.1
      have kc := kk.cell; have kf := kk.free
      have hF := Lib.hid hF
      have kk := Lib.hid kk; have hge := Lib.hid hge; have hge2 := Lib.hid hge2
      clear hA
      go_simp
      exact hK.out undef _ ⟨hF.out.zb.sAll (hge.out) 0 [Value.int .i64 a.lo, Value.int .i64 a.hi, Value.int .i64 a.m, Value.int .i64 a.r, Value.int .i64 a.k, Value.int .i64 b.lo, Value.int .i64 b.hi, Value.int .i64 b.m, Value.int .i64 b.r, Value.int .i64 b.k, Value.int .i64 (bits .or .i64 a.k b.k)], Bks.oAll [Value.int .i64 a.lo, Value.int .i64 a.hi, Value.int .i64 a.m, Value.int .i64 a.r, Value.int .i64 a.k, Value.int .i64 b.lo, Value.int .i64 b.hi, Value.int .i64 b.m, Value.int .i64 b.r, Value.int .i64 b.k, Value.int .i64 (bits .or .i64 a.k b.k)] 0 (Under.outside hge2.out hU) hF.out.zq, hF.out.zt.skip rfl, hF.out.v8, fun h1 h2 => no_of h2, fun _ => kk.out.full [Value.int .i64 a.lo, Value.int .i64 a.hi, Value.int .i64 a.m, Value.int .i64 a.r, Value.int .i64 a.k, Value.int .i64 b.lo, Value.int .i64 b.hi, Value.int .i64 b.m, Value.int .i64 b.r, Value.int .i64 b.k, Value.int .i64 (bits .or .i64 a.k b.k)] rfl, fun _ => hW.1, hF.out.g8⟩
    exact FSteps.nil
    intro D s W aF5 hD hF hz' df' hA
    obtain ⟨d0, d1, d2, d3, d4, d5, d6, d7, d8, d9, -⟩ := hD
    replace u0 : Sl aF5 0 _ := hA.o 0 _ rfl u0
    replace u4 : Sl aF5 4 _ := hA.o 4 _ rfl u4
    replace u5 : Sl aF5 5 _ := hA.o 5 _ rfl u5
    replace u6 : Sl aF5 6 _ := hA.o 6 _ rfl u6
    have u7 : Sl aF5 7 _ := hA.i 7 _ rfl rfl (hF.v8 d8)
    have hkX8 := hF.k8_1 d9
    have hgX8 := hF.g8 d8
    have hM := hF.zb
    have hB := hF.zq
    generalize pblk (s 7) = n5_8 at hkX8 hgX8 u7
    have hB : Bks W [(n4_0, #[Value.int .i64 a.lo, Value.int .i64 a.hi, Value.int .i64 a.m, Value.int .i64 a.r, Value.int .i64 a.k], 27), (n4_1, #[Value.int .i64 b.lo, Value.int .i64 b.hi, Value.int .i64 b.m, Value.int .i64 b.r, Value.int .i64 b.k], 27), (n4_2, #[Value.int .i64 0, Value.int .i64 0, Value.int .i64 0, Value.int .i64 0, Value.int .i64 0], 27), (n5_8, #[Value.int .i64 a.lo, Value.int .i64 a.hi, Value.int .i64 a.m, Value.int .i64 a.r, Value.int .i64 a.k, Value.int .i64 b.lo, Value.int .i64 b.hi, Value.int .i64 b.m, Value.int .i64 b.r, Value.int .i64 b.k, Value.int .i64 (bits .or .i64 a.k b.k)], 72)] := ⟨hB.1, hB.2.1, hB.2.2.1, hkX8, trivial⟩
    obtain ⟨hl_0, hl_1, hl_2, -⟩ := hU
    have hne_n4_2_n5_8 : n4_2 ≠ n5_8 := by omega
    clear hF hA hz df d0 d1 d2 d3 d4 d5 d6 d7 d8 d9 
    have hz := hz'; have df := df'; clear hz' df'
    clear aF4
    show Code.wp _ _ _ _ _
    refine wp_seq ?_
    refine wp_seq ?_
    obtain ⟨m6, hM, hU, hwm⟩ := start_region hM.b hB
    refine region_run (F := opg_is_r2_6 op a b z n4_0 n4_1 n4_2 n5_8 w m6) [16, 17, 18, 19, 20, 21, 22, 23, 24, 25, 26, 27, 28, 29, 30, 31] [0, 1, 2, 3, 4, 5, 6, 7, 8, 9, 10, 11, 12, 13, 14, 15] hz df (by kernel_rfl) (by kernel_rfl) (fun s hs0 => ⟨hM, hB, Vals.none s _⟩) ?_ ?_
    refine FSteps.op3 hz rfl (dv := []) (by kernel_rfl) (by kernel_rfl) (by kernel_rfl) (fun D s W bA kK hD hW hF hA hK => ?_) ?_
    · have x4 := hA.o 4 _ rfl u4
      obtain ⟨⟨c0, z0⟩, -, -, -, -⟩ := hF.zq.rules
      have hF := Lib.hid hF
      clear hA
      go_simp
      exact hK.out _ _ ⟨hF.out.zb, hF.out.zq, hF.out.zt.step rfl rfl⟩
    refine FSteps.op3 hz rfl (dv := [0]) (by kernel_rfl) (by kernel_rfl) (by kernel_rfl) (fun D s W bA kK hD hW hF hA hK => ?_) ?_
    · have x16 := hA.i 16 _ rfl rfl (hF.zt.get (j := 0) rfl hW.1)
      have hF := Lib.hid hF
      clear hA
      go_simp
      (go_at_call 44; ((with_reducible_and_instances refine (step_ab a _).mono ?_)); rintro e W1 ⟨rfl, hb⟩; (try unfold abVal))
      (try go_wp2_with fail)
      exact hK.out _ _ ⟨hF.out.zb.on hb, Bks.on hb hF.out.zq, hF.out.zt.step rfl rfl⟩
    refine FSteps.op3 hz rfl (dv := [1]) (by kernel_rfl) (by kernel_rfl) (by kernel_rfl) (fun D s W bA kK hD hW hF hA hK => ?_) ?_
    · have x17 := hA.i 17 _ rfl rfl (hF.zt.get (j := 1) rfl hW.1)
      have hF := Lib.hid hF
      clear hA
      have hd2 : ((stepS a) == 0) = false := beq_eq_false_iff_ne.2 (by exact hsa.out)
      go_simp
      exact hK.out _ _ ⟨hF.out.zb, hF.out.zq, hF.out.zt.step rfl rfl⟩
    refine FSteps.op3 hz rfl (dv := [2, 1]) (by kernel_rfl) (by kernel_rfl) (by kernel_rfl) (fun D s W bA kK hD hW hF hA hK => ?_) ?_
    · have x18 := hA.i 18 _ rfl rfl (hF.zt.get (j := 2) rfl hW.1)
      have hF := Lib.hid hF
      clear hA
      go_simp
      exact hK.out _ _ ⟨hF.out.zb, hF.out.zq, hF.out.zt.step rfl rfl⟩
    refine FSteps.no3 (bv := true) hz rfl (dv := [3]) (by kernel_rfl) rfl (by kernel_rfl) (by kernel_rfl) (fun D s W hW hF => (hF.zt.get (j := 3) rfl hW.1)) (by kernel_rfl) (by kernel_rfl) (fun D s W hD hF => ⟨hF.zb, hF.zq, hF.zt.step rfl rfl⟩) ?_
    refine FSteps.no3 (bv := true) hz rfl (dv := [4, 3, 3]) (by kernel_rfl) rfl (by kernel_rfl) (by kernel_rfl) (fun D s W hW hF => (hF.zt.get (j := 3) rfl hW.2.1)) (by kernel_rfl) (by kernel_rfl) (fun D s W hD hF => ⟨hF.zb, hF.zq, hF.zt.step rfl rfl⟩) ?_
    refine FSteps.no3 (bv := true) hz rfl (dv := [5, 3]) (by kernel_rfl) rfl (by kernel_rfl) (by kernel_rfl) (fun D s W hW hF => (hF.zt.get (j := 3) rfl hW.2.1)) (by kernel_rfl) (by kernel_rfl) (fun D s W hD hF => ⟨hF.zb, hF.zq, hF.zt.step rfl rfl⟩) ?_
    refine FSteps.op3 hz rfl (dv := [3, 6]) (by kernel_rfl) (by kernel_rfl) (by kernel_rfl) (fun D s W bA kK hD hW hF hA hK => ?_) ?_
    · have x19 := hA.i 19 _ rfl rfl (hF.zt.get (j := 3) rfl hW.1)
      have x22 := hA.i 22 _ rfl rfl (hF.zt.get (j := 6) rfl hW.2.1)
      have hF := Lib.hid hF
      clear hA
      go_simp
      exact hK.out _ _ ⟨hF.out.zb, hF.out.zq, hF.out.zt.step rfl rfl⟩
    refine FSteps.op3 hz rfl (dv := [7, 5]) (by kernel_rfl) (by kernel_rfl) (by kernel_rfl) (fun D s W bA kK hD hW hF hA hK => ?_) ?_
    · have x23 := hA.i 23 _ rfl rfl (hF.zt.get (j := 7) rfl hW.1)
      have hF := Lib.hid hF
      clear hA
      go_simp
      exact hK.out _ _ ⟨hF.out.zb, hF.out.zq, hF.out.zt.step rfl rfl⟩
    refine FSteps.yes3 (bv := false) hz rfl (dv := [8]) (by kernel_rfl) rfl (by kernel_rfl) (by kernel_rfl) (fun D s W hW hF => (hF.zt.get (j := 8) rfl hW.1)) (by kernel_rfl) (by kernel_rfl) (fun D s W bA kK hD hW hF hA hK => ?_) ?_
    · have x0 := hA.o 0 _ rfl u0
      have hF := Lib.hid hF
      clear hA
      go_simp
      exact hK.out _ _ ⟨hF.out.zb, hF.out.zq, hF.out.zt.step rfl rfl⟩
    refine FSteps.yes3 (bv := false) hz rfl (dv := [9, 8]) (by kernel_rfl) rfl (by kernel_rfl) (by kernel_rfl) (fun D s W hW hF => (hF.zt.get (j := 8) rfl hW.2.1)) (by kernel_rfl) (by kernel_rfl) (fun D s W bA kK hD hW hF hA hK => ?_) ?_
    · have x25 := hA.i 25 _ rfl rfl (hF.zt.get (j := 9) rfl hW.1)
      have hF := Lib.hid hF
      clear hA
      have hd10 : decide (op < 4) = false := decide_eq_false (by omega)
      go_simp
      exact hK.out _ _ ⟨hF.out.zb, hF.out.zq, hF.out.zt.step rfl rfl⟩
    refine FSteps.op3 hz rfl (dv := [8, 10]) (by kernel_rfl) (by kernel_rfl) (by kernel_rfl) (fun D s W bA kK hD hW hF hA hK => ?_) ?_
    · have x24 := hA.i 24 _ rfl rfl (hF.zt.get (j := 8) rfl hW.1)
      have x26 := hA.i 26 _ rfl rfl (hF.zt.get (j := 10) rfl hW.2.1)
      have hF := Lib.hid hF
      clear hA
      go_simp
      exact hK.out _ _ ⟨hF.out.zb, hF.out.zq, hF.out.zt.step rfl rfl⟩
    refine FSteps.op3 hz rfl (dv := [11, 8]) (by kernel_rfl) (by kernel_rfl) (by kernel_rfl) (fun D s W bA kK hD hW hF hA hK => ?_) ?_
    · have x27 := hA.i 27 _ rfl rfl (hF.zt.get (j := 11) rfl hW.1)
      have hF := Lib.hid hF
      clear hA
      go_simp
      exact hK.out _ _ ⟨hF.out.zb, hF.out.zq, hF.out.zt.step rfl rfl⟩
    refine FSteps.yes3 (bv := false) hz rfl (dv := [12]) (by kernel_rfl) rfl (by kernel_rfl) (by kernel_rfl) (fun D s W hW hF => (hF.zt.get (j := 12) rfl hW.1)) (by kernel_rfl) (by kernel_rfl) (fun D s W bA kK hD hW hF hA hK => ?_) ?_
    · have x0 := hA.o 0 _ rfl u0
      have hF := Lib.hid hF
      clear hA
      go_simp
      exact hK.out _ _ ⟨hF.out.zb, hF.out.zq, hF.out.zt.step rfl rfl⟩
    refine FSteps.yes3 (bv := false) hz rfl (dv := [13, 12]) (by kernel_rfl) rfl (by kernel_rfl) (by kernel_rfl) (fun D s W hW hF => (hF.zt.get (j := 12) rfl hW.2.1)) (by kernel_rfl) (by kernel_rfl) (fun D s W bA kK hD hW hF hA hK => ?_) ?_
    · have x29 := hA.i 29 _ rfl rfl (hF.zt.get (j := 13) rfl hW.1)
      have hF := Lib.hid hF
      clear hA
      have hd14 : decide (10 < op) = false := decide_eq_false (by omega)
      go_simp
      exact hK.out _ _ ⟨hF.out.zb, hF.out.zq, hF.out.zt.step rfl rfl⟩
    refine FSteps.op3 hz rfl (dv := [12, 14]) (by kernel_rfl) (by kernel_rfl) (by kernel_rfl) (fun D s W bA kK hD hW hF hA hK => ?_) ?_
    · have x28 := hA.i 28 _ rfl rfl (hF.zt.get (j := 12) rfl hW.1)
      have x30 := hA.i 30 _ rfl rfl (hF.zt.get (j := 14) rfl hW.2.1)
      have hF := Lib.hid hF
      clear hA
      go_simp
      exact hK.out _ _ ⟨hF.out.zb, hF.out.zq, hF.out.zt.step rfl rfl⟩
    exact FSteps.nil
    intro D s W aF6 hD hF hz' df' hA
    obtain ⟨d0, d1, d2, d3, d4, d5, d6, d7, d8, d9, d10, d11, d12, d13, d14, d15, -⟩ := hD
    replace u0 : Sl aF6 0 _ := hA.o 0 _ rfl u0
    replace u4 : Sl aF6 4 _ := hA.o 4 _ rfl u4
    replace u5 : Sl aF6 5 _ := hA.o 5 _ rfl u5
    replace u6 : Sl aF6 6 _ := hA.o 6 _ rfl u6
    replace u7 : Sl aF6 7 _ := hA.o 7 _ rfl u7
    have u31 : Sl aF6 31 _ := hA.i 31 _ rfl rfl (hF.zt.get (j := 15) rfl d15)
    have hM := hF.zb
    have hB := hF.zq
    have hB : Bks W [(n4_0, #[Value.int .i64 a.lo, Value.int .i64 a.hi, Value.int .i64 a.m, Value.int .i64 a.r, Value.int .i64 a.k], 27), (n4_1, #[Value.int .i64 b.lo, Value.int .i64 b.hi, Value.int .i64 b.m, Value.int .i64 b.r, Value.int .i64 b.k], 27), (n4_2, #[Value.int .i64 0, Value.int .i64 0, Value.int .i64 0, Value.int .i64 0, Value.int .i64 0], 27), (n5_8, #[Value.int .i64 a.lo, Value.int .i64 a.hi, Value.int .i64 a.m, Value.int .i64 a.r, Value.int .i64 a.k, Value.int .i64 b.lo, Value.int .i64 b.hi, Value.int .i64 b.m, Value.int .i64 b.r, Value.int .i64 b.k, Value.int .i64 (bits .or .i64 a.k b.k)], 72)] := ⟨hB.1, hB.2.1, hB.2.2.1, hB.2.2.2.1, trivial⟩
    clear hF hA hz df d0 d1 d2 d3 d4 d5 d6 d7 d8 d9 d10 d11 d12 d13 d14 d15 hU
    have hz := hz'; have df := df'; clear hz' df'
    clear aF5
    show Code.wp _ _ _ _ _
    refine cond_f u31 ?_
    refine wp_skip ?_
    show Code.wp _ _ _ _ _
    exact HT   w  aF6 W n4_2 n5_8 hw_n4_2 (by omega) hz df u0 u6 u7 hM.b ⟨hB.2.2.1, hB.2.2.2.1, trivial⟩

structure op4_t_r4_1 (a b z : Ab) (n1_2 n2_8 : Nat) (w : World) (m1 : Nat) (D : Nat → Bool) (s : Nat → Value) (W : World) : Prop where
  zb : Mk0 w m1 W
  zq : Bks W [(n2_8, #[Value.int .i64 a.lo, Value.int .i64 a.hi, Value.int .i64 a.m, Value.int .i64 a.r, Value.int .i64 a.k, Value.int .i64 b.lo, Value.int .i64 b.hi, Value.int .i64 b.m, Value.int .i64 b.r, Value.int .i64 b.k, Value.int .i64 (bits .or .i64 a.k b.k)], 72)]
  zt : Vals D s [(0, 42, Value.agg #[Value.func (.func 74) #[] #[], Value.func (.func 75) #[] #[], Value.func (.func 76) #[] #[], Value.func (.func 77) #[] #[], Value.func (.func 78) #[] #[], Value.func (.func 79) #[] #[], Value.func (.func 80) #[] #[]]), (1, 43, Value.int .i64 4), (2, 44, Value.int .i64 0), (3, 45, Value.func (.func 74) #[] #[]), (4, 46, Value.agg #[Value.int .i64 a.lo, Value.int .i64 a.hi, Value.int .i64 a.m, Value.int .i64 a.r, Value.int .i64 a.k, Value.int .i64 b.lo, Value.int .i64 b.hi, Value.int .i64 b.m, Value.int .i64 b.r, Value.int .i64 b.k, Value.int .i64 (bits .or .i64 a.k b.k)]), (5, 47, Value.agg #[Value.int .i64 z.lo, Value.int .i64 z.hi, Value.int .i64 z.m, Value.int .i64 z.r, Value.int .i64 z.k])]
  kL0_0 : D 6 = false → Bk W n1_2 #[Value.int .i64 0, Value.int .i64 0, Value.int .i64 0, Value.int .i64 0, Value.int .i64 0] 27
  kL0_1 : D 6 = true → Bk W n1_2 #[Value.int .i64 z.lo, Value.int .i64 z.hi, Value.int .i64 z.m, Value.int .i64 z.r, Value.int .i64 z.k] 27

set_option maxRecDepth 100000 in
set_option maxHeartbeats 4000000 in
theorem op4_t {a b z : Ab} (GC : Hid (∀ w, Calls Try.prog 74 #[Value.agg #[Value.int .i64 a.lo, Value.int .i64 a.hi, Value.int .i64 a.m, Value.int .i64 a.r, Value.int .i64 a.k, Value.int .i64 b.lo, Value.int .i64 b.hi, Value.int .i64 b.m, Value.int .i64 b.r, Value.int .i64 b.k, Value.int .i64 (bits .or .i64 a.k b.k)]] w fun e w' => e = .returned (abVal z) ∧ Below w.heap.size w w')) : OpTail 4 a b z := by
  intro w aF W n1_2 n2_8 hw_n1_2 hne_n1_2_n2_8 hz df u0 u6 u7 hb0 hB
  have hM : Mk0 w W.heap.size W := ⟨hb0, Nat.le_refl _⟩
  refine wp_seq ?_
  obtain ⟨m1, hM, hU, hwm⟩ := start_region hM.b hB
  obtain ⟨hk_0, hk_1, -⟩ := hB
  obtain ⟨hl_0, hl_1, -⟩ := hU
  have hB : Bks _ [(n2_8, #[Value.int .i64 a.lo, Value.int .i64 a.hi, Value.int .i64 a.m, Value.int .i64 a.r, Value.int .i64 a.k, Value.int .i64 b.lo, Value.int .i64 b.hi, Value.int .i64 b.m, Value.int .i64 b.r, Value.int .i64 b.k, Value.int .i64 (bits .or .i64 a.k b.k)], 72)] := ⟨hk_1, trivial⟩
  have hU : Under m1 [(n2_8, #[Value.int .i64 a.lo, Value.int .i64 a.hi, Value.int .i64 a.m, Value.int .i64 a.r, Value.int .i64 a.k, Value.int .i64 b.lo, Value.int .i64 b.hi, Value.int .i64 b.m, Value.int .i64 b.r, Value.int .i64 b.k, Value.int .i64 (bits .or .i64 a.k b.k)], 72)] := ⟨hl_1, trivial⟩
  refine region_go (F := op4_t_r4_1 a b z n1_2 n2_8 w m1) [42, 43, 44, 45, 46, 47] [0, 1, 2, 3, 4, 5, 6] hz df (by kernel_rfl) (by kernel_rfl) (by kernel_rfl) (fun s hs0 => ⟨hM.drew, Bks.drew hB, Vals.none s _, fun _ => hk_0.drew, fun h => no_of' h⟩) ?_ ?_
  refine FSteps.op3 hz rfl (dv := []) (by kernel_rfl) (by kernel_rfl) (by kernel_rfl) (fun D s W bA kK hD hW hF hA hK => ?_) ?_
  · have hF := Lib.hid hF
    clear hA
    go_simp
    (go_at_call 45; ((with_reducible_and_instances refine (spanops_is _).mono ?_)); rintro e W1 ⟨rfl, hb⟩; (try unfold abVal))
    (try go_wp2_with fail)
    exact hK.out _ _ ⟨hF.out.zb.on hb, Bks.on hb hF.out.zq, hF.out.zt.step rfl rfl, fun h2 => (hF.out.kL0_0 h2).on hb, fun h1 => (hF.out.kL0_1 h1).on hb⟩
  refine FSteps.op3 hz rfl (dv := []) (by kernel_rfl) (by kernel_rfl) (by kernel_rfl) (fun D s W bA kK hD hW hF hA hK => ?_) ?_
  · have x0 := hA.o 0 _ rfl u0
    have hF := Lib.hid hF
    clear hA
    go_simp
    exact hK.out _ _ ⟨hF.out.zb, hF.out.zq, hF.out.zt.step rfl rfl, hF.out.kL0_0, hF.out.kL0_1⟩
  refine FSteps.op3 hz rfl (dv := [1]) (by kernel_rfl) (by kernel_rfl) (by kernel_rfl) (fun D s W bA kK hD hW hF hA hK => ?_) ?_
  · have x43 := hA.i 43 _ rfl rfl (hF.zt.get (j := 1) rfl hW.1)
    have hF := Lib.hid hF
    clear hA
    go_simp
    exact hK.out _ _ ⟨hF.out.zb, hF.out.zq, hF.out.zt.step rfl rfl, hF.out.kL0_0, hF.out.kL0_1⟩
  refine FSteps.op3 hz rfl (dv := [0, 2]) (by kernel_rfl) (by kernel_rfl) (by kernel_rfl) (fun D s W bA kK hD hW hF hA hK => ?_) ?_
  · have x42 := hA.i 42 _ rfl rfl (hF.zt.get (j := 0) rfl hW.1)
    have x44 := hA.i 44 _ rfl rfl (hF.zt.get (j := 2) rfl hW.2.1)
    have hF := Lib.hid hF
    clear hA
    have hix : ∀ W, (Instr.index 75 (Value.agg #[Value.func (.func 74) #[] #[], Value.func (.func 75) #[] #[], Value.func (.func 76) #[] #[], Value.func (.func 77) #[] #[], Value.func (.func 78) #[] #[], Value.func (.func 79) #[] #[], Value.func (.func 80) #[] #[]]) (.int .i64 0)).run Try.prog W = .ok (Value.func (.func 74) #[] #[]) W := fun W => by kernel_rfl
    go_simp
    exact hK.out _ _ ⟨hF.out.zb, hF.out.zq, hF.out.zt.step rfl rfl, hF.out.kL0_0, hF.out.kL0_1⟩
  refine FSteps.op3 hz rfl (dv := []) (by kernel_rfl) (by kernel_rfl) (by kernel_rfl) (fun D s W bA kK hD hW hF hA hK => ?_) ?_
  · have x7 := hA.o 7 _ rfl u7
    obtain ⟨⟨c0, z0⟩, -⟩ := hF.zq.rules
    have hF := Lib.hid hF
    clear hA
    go_simp
    exact hK.out _ _ ⟨hF.out.zb, hF.out.zq, hF.out.zt.step rfl rfl, hF.out.kL0_0, hF.out.kL0_1⟩
  refine FSteps.op3 hz rfl (dv := [3, 4, 0]) (by kernel_rfl) (by kernel_rfl) (by kernel_rfl) (fun D s W bA kK hD hW hF hA hK => ?_) ?_
  · have x45 := hA.i 45 _ rfl rfl (hF.zt.get (j := 3) rfl hW.1)
    have x46 := hA.i 46 _ rfl rfl (hF.zt.get (j := 4) rfl hW.2.1)
    have hF := Lib.hid hF
    clear hA
    go_simp
    (go_at_call 74; ((with_reducible_and_instances refine (GC.out _).mono ?_)); rintro e W1 ⟨rfl, hb⟩; (try unfold abVal))
    (try go_wp2_with fail)
    exact hK.out _ _ ⟨hF.out.zb.on hb, Bks.on hb hF.out.zq, hF.out.zt.step rfl rfl, fun h2 => (hF.out.kL0_0 h2).on hb, fun h1 => (hF.out.kL0_1 h1).on hb⟩
  refine FSteps.op3 hz rfl (dv := [5, 5, 0, 1, 2, 3, 4, 5]) (by kernel_rfl) (by kernel_rfl) (by kernel_rfl) (fun D s W bA kK hD hW hF hA hK => ?_) ?_
  · have x6 := hA.o 6 _ rfl u6
    have x47 := hA.i 47 _ rfl rfl (hF.zt.get (j := 5) rfl hW.1)
    have kk := hF.kL0_0 hD
    have kc := kk.cell; have kf := kk.free
    have hF := Lib.hid hF
    have kk := Lib.hid kk
    clear hA
    go_simp
    exact hK.out undef _ ⟨hF.out.zb.sAll (hw_n1_2) 0 [Value.int .i64 z.lo, Value.int .i64 z.hi, Value.int .i64 z.m, Value.int .i64 z.r, Value.int .i64 z.k], Bks.oAll [Value.int .i64 z.lo, Value.int .i64 z.hi, Value.int .i64 z.m, Value.int .i64 z.r, Value.int .i64 z.k] 0 (⟨(by omega), trivial⟩) hF.out.zq, hF.out.zt.skip rfl, fun h2 => no_of h2, fun _ => kk.out.full [Value.int .i64 z.lo, Value.int .i64 z.hi, Value.int .i64 z.m, Value.int .i64 z.r, Value.int .i64 z.k] rfl⟩
  exact FSteps.nil
  intro D s W aF1 hD hF hz' df' hA
  obtain ⟨d0, d1, d2, d3, d4, d5, d6, -⟩ := hD
  clear u0 u7
  replace u6 : Sl aF1 6 _ := hA.o 6 _ rfl u6
  have hkXL0 := hF.kL0_1 d6
  have hM := hF.zb
  have hB := hF.zq
  have hB : Bks W [(n1_2, #[Value.int .i64 z.lo, Value.int .i64 z.hi, Value.int .i64 z.m, Value.int .i64 z.r, Value.int .i64 z.k], 27)] := ⟨hkXL0, trivial⟩
  clear hF hA hz df d0 d1 d2 d3 d4 d5 d6 
  have hz := hz'; have df := df'; clear hz' df'
  clear aF
  show Code.wp _ _ _ _ _
  refine wp_ret ?_
  show bodyPost _ _ _ _ _ _
  have hB2 := hB.rules
  obtain ⟨⟨c0, z0⟩, -⟩ := hB2
  unfold Sl at u6
  refine end_go df (v := (Value.agg #[Value.int .i64 z.lo, Value.int .i64 z.hi, Value.int .i64 z.m, Value.int .i64 z.r, Value.int .i64 z.k])) (by simp [results, Try.results14, go_sem, u6, c0]) ⟨rfl, hM.b⟩

structure op5_t_r4_1 (a b z : Ab) (n1_2 n2_8 : Nat) (w : World) (m1 : Nat) (D : Nat → Bool) (s : Nat → Value) (W : World) : Prop where
  zb : Mk0 w m1 W
  zq : Bks W [(n2_8, #[Value.int .i64 a.lo, Value.int .i64 a.hi, Value.int .i64 a.m, Value.int .i64 a.r, Value.int .i64 a.k, Value.int .i64 b.lo, Value.int .i64 b.hi, Value.int .i64 b.m, Value.int .i64 b.r, Value.int .i64 b.k, Value.int .i64 (bits .or .i64 a.k b.k)], 72)]
  zt : Vals D s [(0, 42, Value.agg #[Value.func (.func 74) #[] #[], Value.func (.func 75) #[] #[], Value.func (.func 76) #[] #[], Value.func (.func 77) #[] #[], Value.func (.func 78) #[] #[], Value.func (.func 79) #[] #[], Value.func (.func 80) #[] #[]]), (1, 43, Value.int .i64 5), (2, 44, Value.int .i64 1), (3, 45, Value.func (.func 75) #[] #[]), (4, 46, Value.agg #[Value.int .i64 a.lo, Value.int .i64 a.hi, Value.int .i64 a.m, Value.int .i64 a.r, Value.int .i64 a.k, Value.int .i64 b.lo, Value.int .i64 b.hi, Value.int .i64 b.m, Value.int .i64 b.r, Value.int .i64 b.k, Value.int .i64 (bits .or .i64 a.k b.k)]), (5, 47, Value.agg #[Value.int .i64 z.lo, Value.int .i64 z.hi, Value.int .i64 z.m, Value.int .i64 z.r, Value.int .i64 z.k])]
  kL0_0 : D 6 = false → Bk W n1_2 #[Value.int .i64 0, Value.int .i64 0, Value.int .i64 0, Value.int .i64 0, Value.int .i64 0] 27
  kL0_1 : D 6 = true → Bk W n1_2 #[Value.int .i64 z.lo, Value.int .i64 z.hi, Value.int .i64 z.m, Value.int .i64 z.r, Value.int .i64 z.k] 27

set_option maxRecDepth 100000 in
set_option maxHeartbeats 4000000 in
theorem op5_t {a b z : Ab} (GC : Hid (∀ w, Calls Try.prog 75 #[Value.agg #[Value.int .i64 a.lo, Value.int .i64 a.hi, Value.int .i64 a.m, Value.int .i64 a.r, Value.int .i64 a.k, Value.int .i64 b.lo, Value.int .i64 b.hi, Value.int .i64 b.m, Value.int .i64 b.r, Value.int .i64 b.k, Value.int .i64 (bits .or .i64 a.k b.k)]] w fun e w' => e = .returned (abVal z) ∧ Below w.heap.size w w')) : OpTail 5 a b z := by
  intro w aF W n1_2 n2_8 hw_n1_2 hne_n1_2_n2_8 hz df u0 u6 u7 hb0 hB
  have hM : Mk0 w W.heap.size W := ⟨hb0, Nat.le_refl _⟩
  refine wp_seq ?_
  obtain ⟨m1, hM, hU, hwm⟩ := start_region hM.b hB
  obtain ⟨hk_0, hk_1, -⟩ := hB
  obtain ⟨hl_0, hl_1, -⟩ := hU
  have hB : Bks _ [(n2_8, #[Value.int .i64 a.lo, Value.int .i64 a.hi, Value.int .i64 a.m, Value.int .i64 a.r, Value.int .i64 a.k, Value.int .i64 b.lo, Value.int .i64 b.hi, Value.int .i64 b.m, Value.int .i64 b.r, Value.int .i64 b.k, Value.int .i64 (bits .or .i64 a.k b.k)], 72)] := ⟨hk_1, trivial⟩
  have hU : Under m1 [(n2_8, #[Value.int .i64 a.lo, Value.int .i64 a.hi, Value.int .i64 a.m, Value.int .i64 a.r, Value.int .i64 a.k, Value.int .i64 b.lo, Value.int .i64 b.hi, Value.int .i64 b.m, Value.int .i64 b.r, Value.int .i64 b.k, Value.int .i64 (bits .or .i64 a.k b.k)], 72)] := ⟨hl_1, trivial⟩
  refine region_go (F := op5_t_r4_1 a b z n1_2 n2_8 w m1) [42, 43, 44, 45, 46, 47] [0, 1, 2, 3, 4, 5, 6] hz df (by kernel_rfl) (by kernel_rfl) (by kernel_rfl) (fun s hs0 => ⟨hM.drew, Bks.drew hB, Vals.none s _, fun _ => hk_0.drew, fun h => no_of' h⟩) ?_ ?_
  refine FSteps.op3 hz rfl (dv := []) (by kernel_rfl) (by kernel_rfl) (by kernel_rfl) (fun D s W bA kK hD hW hF hA hK => ?_) ?_
  · have hF := Lib.hid hF
    clear hA
    go_simp
    (go_at_call 45; ((with_reducible_and_instances refine (spanops_is _).mono ?_)); rintro e W1 ⟨rfl, hb⟩; (try unfold abVal))
    (try go_wp2_with fail)
    exact hK.out _ _ ⟨hF.out.zb.on hb, Bks.on hb hF.out.zq, hF.out.zt.step rfl rfl, fun h2 => (hF.out.kL0_0 h2).on hb, fun h1 => (hF.out.kL0_1 h1).on hb⟩
  refine FSteps.op3 hz rfl (dv := []) (by kernel_rfl) (by kernel_rfl) (by kernel_rfl) (fun D s W bA kK hD hW hF hA hK => ?_) ?_
  · have x0 := hA.o 0 _ rfl u0
    have hF := Lib.hid hF
    clear hA
    go_simp
    exact hK.out _ _ ⟨hF.out.zb, hF.out.zq, hF.out.zt.step rfl rfl, hF.out.kL0_0, hF.out.kL0_1⟩
  refine FSteps.op3 hz rfl (dv := [1]) (by kernel_rfl) (by kernel_rfl) (by kernel_rfl) (fun D s W bA kK hD hW hF hA hK => ?_) ?_
  · have x43 := hA.i 43 _ rfl rfl (hF.zt.get (j := 1) rfl hW.1)
    have hF := Lib.hid hF
    clear hA
    go_simp
    exact hK.out _ _ ⟨hF.out.zb, hF.out.zq, hF.out.zt.step rfl rfl, hF.out.kL0_0, hF.out.kL0_1⟩
  refine FSteps.op3 hz rfl (dv := [0, 2]) (by kernel_rfl) (by kernel_rfl) (by kernel_rfl) (fun D s W bA kK hD hW hF hA hK => ?_) ?_
  · have x42 := hA.i 42 _ rfl rfl (hF.zt.get (j := 0) rfl hW.1)
    have x44 := hA.i 44 _ rfl rfl (hF.zt.get (j := 2) rfl hW.2.1)
    have hF := Lib.hid hF
    clear hA
    have hix : ∀ W, (Instr.index 75 (Value.agg #[Value.func (.func 74) #[] #[], Value.func (.func 75) #[] #[], Value.func (.func 76) #[] #[], Value.func (.func 77) #[] #[], Value.func (.func 78) #[] #[], Value.func (.func 79) #[] #[], Value.func (.func 80) #[] #[]]) (.int .i64 1)).run Try.prog W = .ok (Value.func (.func 75) #[] #[]) W := fun W => by kernel_rfl
    go_simp
    exact hK.out _ _ ⟨hF.out.zb, hF.out.zq, hF.out.zt.step rfl rfl, hF.out.kL0_0, hF.out.kL0_1⟩
  refine FSteps.op3 hz rfl (dv := []) (by kernel_rfl) (by kernel_rfl) (by kernel_rfl) (fun D s W bA kK hD hW hF hA hK => ?_) ?_
  · have x7 := hA.o 7 _ rfl u7
    obtain ⟨⟨c0, z0⟩, -⟩ := hF.zq.rules
    have hF := Lib.hid hF
    clear hA
    go_simp
    exact hK.out _ _ ⟨hF.out.zb, hF.out.zq, hF.out.zt.step rfl rfl, hF.out.kL0_0, hF.out.kL0_1⟩
  refine FSteps.op3 hz rfl (dv := [3, 4, 0]) (by kernel_rfl) (by kernel_rfl) (by kernel_rfl) (fun D s W bA kK hD hW hF hA hK => ?_) ?_
  · have x45 := hA.i 45 _ rfl rfl (hF.zt.get (j := 3) rfl hW.1)
    have x46 := hA.i 46 _ rfl rfl (hF.zt.get (j := 4) rfl hW.2.1)
    have hF := Lib.hid hF
    clear hA
    go_simp
    (go_at_call 75; ((with_reducible_and_instances refine (GC.out _).mono ?_)); rintro e W1 ⟨rfl, hb⟩; (try unfold abVal))
    (try go_wp2_with fail)
    exact hK.out _ _ ⟨hF.out.zb.on hb, Bks.on hb hF.out.zq, hF.out.zt.step rfl rfl, fun h2 => (hF.out.kL0_0 h2).on hb, fun h1 => (hF.out.kL0_1 h1).on hb⟩
  refine FSteps.op3 hz rfl (dv := [5, 5, 0, 1, 2, 3, 4, 5]) (by kernel_rfl) (by kernel_rfl) (by kernel_rfl) (fun D s W bA kK hD hW hF hA hK => ?_) ?_
  · have x6 := hA.o 6 _ rfl u6
    have x47 := hA.i 47 _ rfl rfl (hF.zt.get (j := 5) rfl hW.1)
    have kk := hF.kL0_0 hD
    have kc := kk.cell; have kf := kk.free
    have hF := Lib.hid hF
    have kk := Lib.hid kk
    clear hA
    go_simp
    exact hK.out undef _ ⟨hF.out.zb.sAll (hw_n1_2) 0 [Value.int .i64 z.lo, Value.int .i64 z.hi, Value.int .i64 z.m, Value.int .i64 z.r, Value.int .i64 z.k], Bks.oAll [Value.int .i64 z.lo, Value.int .i64 z.hi, Value.int .i64 z.m, Value.int .i64 z.r, Value.int .i64 z.k] 0 (⟨(by omega), trivial⟩) hF.out.zq, hF.out.zt.skip rfl, fun h2 => no_of h2, fun _ => kk.out.full [Value.int .i64 z.lo, Value.int .i64 z.hi, Value.int .i64 z.m, Value.int .i64 z.r, Value.int .i64 z.k] rfl⟩
  exact FSteps.nil
  intro D s W aF1 hD hF hz' df' hA
  obtain ⟨d0, d1, d2, d3, d4, d5, d6, -⟩ := hD
  clear u0 u7
  replace u6 : Sl aF1 6 _ := hA.o 6 _ rfl u6
  have hkXL0 := hF.kL0_1 d6
  have hM := hF.zb
  have hB := hF.zq
  have hB : Bks W [(n1_2, #[Value.int .i64 z.lo, Value.int .i64 z.hi, Value.int .i64 z.m, Value.int .i64 z.r, Value.int .i64 z.k], 27)] := ⟨hkXL0, trivial⟩
  clear hF hA hz df d0 d1 d2 d3 d4 d5 d6 
  have hz := hz'; have df := df'; clear hz' df'
  clear aF
  show Code.wp _ _ _ _ _
  refine wp_ret ?_
  show bodyPost _ _ _ _ _ _
  have hB2 := hB.rules
  obtain ⟨⟨c0, z0⟩, -⟩ := hB2
  unfold Sl at u6
  refine end_go df (v := (Value.agg #[Value.int .i64 z.lo, Value.int .i64 z.hi, Value.int .i64 z.m, Value.int .i64 z.r, Value.int .i64 z.k])) (by simp [results, Try.results14, go_sem, u6, c0]) ⟨rfl, hM.b⟩

structure op6_t_r4_1 (a b z : Ab) (n1_2 n2_8 : Nat) (w : World) (m1 : Nat) (D : Nat → Bool) (s : Nat → Value) (W : World) : Prop where
  zb : Mk0 w m1 W
  zq : Bks W [(n2_8, #[Value.int .i64 a.lo, Value.int .i64 a.hi, Value.int .i64 a.m, Value.int .i64 a.r, Value.int .i64 a.k, Value.int .i64 b.lo, Value.int .i64 b.hi, Value.int .i64 b.m, Value.int .i64 b.r, Value.int .i64 b.k, Value.int .i64 (bits .or .i64 a.k b.k)], 72)]
  zt : Vals D s [(0, 42, Value.agg #[Value.func (.func 74) #[] #[], Value.func (.func 75) #[] #[], Value.func (.func 76) #[] #[], Value.func (.func 77) #[] #[], Value.func (.func 78) #[] #[], Value.func (.func 79) #[] #[], Value.func (.func 80) #[] #[]]), (1, 43, Value.int .i64 6), (2, 44, Value.int .i64 2), (3, 45, Value.func (.func 76) #[] #[]), (4, 46, Value.agg #[Value.int .i64 a.lo, Value.int .i64 a.hi, Value.int .i64 a.m, Value.int .i64 a.r, Value.int .i64 a.k, Value.int .i64 b.lo, Value.int .i64 b.hi, Value.int .i64 b.m, Value.int .i64 b.r, Value.int .i64 b.k, Value.int .i64 (bits .or .i64 a.k b.k)]), (5, 47, Value.agg #[Value.int .i64 z.lo, Value.int .i64 z.hi, Value.int .i64 z.m, Value.int .i64 z.r, Value.int .i64 z.k])]
  kL0_0 : D 6 = false → Bk W n1_2 #[Value.int .i64 0, Value.int .i64 0, Value.int .i64 0, Value.int .i64 0, Value.int .i64 0] 27
  kL0_1 : D 6 = true → Bk W n1_2 #[Value.int .i64 z.lo, Value.int .i64 z.hi, Value.int .i64 z.m, Value.int .i64 z.r, Value.int .i64 z.k] 27

set_option maxRecDepth 100000 in
set_option maxHeartbeats 4000000 in
theorem op6_t {a b z : Ab} (GC : Hid (∀ w, Calls Try.prog 76 #[Value.agg #[Value.int .i64 a.lo, Value.int .i64 a.hi, Value.int .i64 a.m, Value.int .i64 a.r, Value.int .i64 a.k, Value.int .i64 b.lo, Value.int .i64 b.hi, Value.int .i64 b.m, Value.int .i64 b.r, Value.int .i64 b.k, Value.int .i64 (bits .or .i64 a.k b.k)]] w fun e w' => e = .returned (abVal z) ∧ Below w.heap.size w w')) : OpTail 6 a b z := by
  intro w aF W n1_2 n2_8 hw_n1_2 hne_n1_2_n2_8 hz df u0 u6 u7 hb0 hB
  have hM : Mk0 w W.heap.size W := ⟨hb0, Nat.le_refl _⟩
  refine wp_seq ?_
  obtain ⟨m1, hM, hU, hwm⟩ := start_region hM.b hB
  obtain ⟨hk_0, hk_1, -⟩ := hB
  obtain ⟨hl_0, hl_1, -⟩ := hU
  have hB : Bks _ [(n2_8, #[Value.int .i64 a.lo, Value.int .i64 a.hi, Value.int .i64 a.m, Value.int .i64 a.r, Value.int .i64 a.k, Value.int .i64 b.lo, Value.int .i64 b.hi, Value.int .i64 b.m, Value.int .i64 b.r, Value.int .i64 b.k, Value.int .i64 (bits .or .i64 a.k b.k)], 72)] := ⟨hk_1, trivial⟩
  have hU : Under m1 [(n2_8, #[Value.int .i64 a.lo, Value.int .i64 a.hi, Value.int .i64 a.m, Value.int .i64 a.r, Value.int .i64 a.k, Value.int .i64 b.lo, Value.int .i64 b.hi, Value.int .i64 b.m, Value.int .i64 b.r, Value.int .i64 b.k, Value.int .i64 (bits .or .i64 a.k b.k)], 72)] := ⟨hl_1, trivial⟩
  refine region_go (F := op6_t_r4_1 a b z n1_2 n2_8 w m1) [42, 43, 44, 45, 46, 47] [0, 1, 2, 3, 4, 5, 6] hz df (by kernel_rfl) (by kernel_rfl) (by kernel_rfl) (fun s hs0 => ⟨hM.drew, Bks.drew hB, Vals.none s _, fun _ => hk_0.drew, fun h => no_of' h⟩) ?_ ?_
  refine FSteps.op3 hz rfl (dv := []) (by kernel_rfl) (by kernel_rfl) (by kernel_rfl) (fun D s W bA kK hD hW hF hA hK => ?_) ?_
  · have hF := Lib.hid hF
    clear hA
    go_simp
    (go_at_call 45; ((with_reducible_and_instances refine (spanops_is _).mono ?_)); rintro e W1 ⟨rfl, hb⟩; (try unfold abVal))
    (try go_wp2_with fail)
    exact hK.out _ _ ⟨hF.out.zb.on hb, Bks.on hb hF.out.zq, hF.out.zt.step rfl rfl, fun h2 => (hF.out.kL0_0 h2).on hb, fun h1 => (hF.out.kL0_1 h1).on hb⟩
  refine FSteps.op3 hz rfl (dv := []) (by kernel_rfl) (by kernel_rfl) (by kernel_rfl) (fun D s W bA kK hD hW hF hA hK => ?_) ?_
  · have x0 := hA.o 0 _ rfl u0
    have hF := Lib.hid hF
    clear hA
    go_simp
    exact hK.out _ _ ⟨hF.out.zb, hF.out.zq, hF.out.zt.step rfl rfl, hF.out.kL0_0, hF.out.kL0_1⟩
  refine FSteps.op3 hz rfl (dv := [1]) (by kernel_rfl) (by kernel_rfl) (by kernel_rfl) (fun D s W bA kK hD hW hF hA hK => ?_) ?_
  · have x43 := hA.i 43 _ rfl rfl (hF.zt.get (j := 1) rfl hW.1)
    have hF := Lib.hid hF
    clear hA
    go_simp
    exact hK.out _ _ ⟨hF.out.zb, hF.out.zq, hF.out.zt.step rfl rfl, hF.out.kL0_0, hF.out.kL0_1⟩
  refine FSteps.op3 hz rfl (dv := [0, 2]) (by kernel_rfl) (by kernel_rfl) (by kernel_rfl) (fun D s W bA kK hD hW hF hA hK => ?_) ?_
  · have x42 := hA.i 42 _ rfl rfl (hF.zt.get (j := 0) rfl hW.1)
    have x44 := hA.i 44 _ rfl rfl (hF.zt.get (j := 2) rfl hW.2.1)
    have hF := Lib.hid hF
    clear hA
    have hix : ∀ W, (Instr.index 75 (Value.agg #[Value.func (.func 74) #[] #[], Value.func (.func 75) #[] #[], Value.func (.func 76) #[] #[], Value.func (.func 77) #[] #[], Value.func (.func 78) #[] #[], Value.func (.func 79) #[] #[], Value.func (.func 80) #[] #[]]) (.int .i64 2)).run Try.prog W = .ok (Value.func (.func 76) #[] #[]) W := fun W => by kernel_rfl
    go_simp
    exact hK.out _ _ ⟨hF.out.zb, hF.out.zq, hF.out.zt.step rfl rfl, hF.out.kL0_0, hF.out.kL0_1⟩
  refine FSteps.op3 hz rfl (dv := []) (by kernel_rfl) (by kernel_rfl) (by kernel_rfl) (fun D s W bA kK hD hW hF hA hK => ?_) ?_
  · have x7 := hA.o 7 _ rfl u7
    obtain ⟨⟨c0, z0⟩, -⟩ := hF.zq.rules
    have hF := Lib.hid hF
    clear hA
    go_simp
    exact hK.out _ _ ⟨hF.out.zb, hF.out.zq, hF.out.zt.step rfl rfl, hF.out.kL0_0, hF.out.kL0_1⟩
  refine FSteps.op3 hz rfl (dv := [3, 4, 0]) (by kernel_rfl) (by kernel_rfl) (by kernel_rfl) (fun D s W bA kK hD hW hF hA hK => ?_) ?_
  · have x45 := hA.i 45 _ rfl rfl (hF.zt.get (j := 3) rfl hW.1)
    have x46 := hA.i 46 _ rfl rfl (hF.zt.get (j := 4) rfl hW.2.1)
    have hF := Lib.hid hF
    clear hA
    go_simp
    (go_at_call 76; ((with_reducible_and_instances refine (GC.out _).mono ?_)); rintro e W1 ⟨rfl, hb⟩; (try unfold abVal))
    (try go_wp2_with fail)
    exact hK.out _ _ ⟨hF.out.zb.on hb, Bks.on hb hF.out.zq, hF.out.zt.step rfl rfl, fun h2 => (hF.out.kL0_0 h2).on hb, fun h1 => (hF.out.kL0_1 h1).on hb⟩
  refine FSteps.op3 hz rfl (dv := [5, 5, 0, 1, 2, 3, 4, 5]) (by kernel_rfl) (by kernel_rfl) (by kernel_rfl) (fun D s W bA kK hD hW hF hA hK => ?_) ?_
  · have x6 := hA.o 6 _ rfl u6
    have x47 := hA.i 47 _ rfl rfl (hF.zt.get (j := 5) rfl hW.1)
    have kk := hF.kL0_0 hD
    have kc := kk.cell; have kf := kk.free
    have hF := Lib.hid hF
    have kk := Lib.hid kk
    clear hA
    go_simp
    exact hK.out undef _ ⟨hF.out.zb.sAll (hw_n1_2) 0 [Value.int .i64 z.lo, Value.int .i64 z.hi, Value.int .i64 z.m, Value.int .i64 z.r, Value.int .i64 z.k], Bks.oAll [Value.int .i64 z.lo, Value.int .i64 z.hi, Value.int .i64 z.m, Value.int .i64 z.r, Value.int .i64 z.k] 0 (⟨(by omega), trivial⟩) hF.out.zq, hF.out.zt.skip rfl, fun h2 => no_of h2, fun _ => kk.out.full [Value.int .i64 z.lo, Value.int .i64 z.hi, Value.int .i64 z.m, Value.int .i64 z.r, Value.int .i64 z.k] rfl⟩
  exact FSteps.nil
  intro D s W aF1 hD hF hz' df' hA
  obtain ⟨d0, d1, d2, d3, d4, d5, d6, -⟩ := hD
  clear u0 u7
  replace u6 : Sl aF1 6 _ := hA.o 6 _ rfl u6
  have hkXL0 := hF.kL0_1 d6
  have hM := hF.zb
  have hB := hF.zq
  have hB : Bks W [(n1_2, #[Value.int .i64 z.lo, Value.int .i64 z.hi, Value.int .i64 z.m, Value.int .i64 z.r, Value.int .i64 z.k], 27)] := ⟨hkXL0, trivial⟩
  clear hF hA hz df d0 d1 d2 d3 d4 d5 d6 
  have hz := hz'; have df := df'; clear hz' df'
  clear aF
  show Code.wp _ _ _ _ _
  refine wp_ret ?_
  show bodyPost _ _ _ _ _ _
  have hB2 := hB.rules
  obtain ⟨⟨c0, z0⟩, -⟩ := hB2
  unfold Sl at u6
  refine end_go df (v := (Value.agg #[Value.int .i64 z.lo, Value.int .i64 z.hi, Value.int .i64 z.m, Value.int .i64 z.r, Value.int .i64 z.k])) (by simp [results, Try.results14, go_sem, u6, c0]) ⟨rfl, hM.b⟩

structure op7_t_r4_1 (a b z : Ab) (n1_2 n2_8 : Nat) (w : World) (m1 : Nat) (D : Nat → Bool) (s : Nat → Value) (W : World) : Prop where
  zb : Mk0 w m1 W
  zq : Bks W [(n2_8, #[Value.int .i64 a.lo, Value.int .i64 a.hi, Value.int .i64 a.m, Value.int .i64 a.r, Value.int .i64 a.k, Value.int .i64 b.lo, Value.int .i64 b.hi, Value.int .i64 b.m, Value.int .i64 b.r, Value.int .i64 b.k, Value.int .i64 (bits .or .i64 a.k b.k)], 72)]
  zt : Vals D s [(0, 42, Value.agg #[Value.func (.func 74) #[] #[], Value.func (.func 75) #[] #[], Value.func (.func 76) #[] #[], Value.func (.func 77) #[] #[], Value.func (.func 78) #[] #[], Value.func (.func 79) #[] #[], Value.func (.func 80) #[] #[]]), (1, 43, Value.int .i64 7), (2, 44, Value.int .i64 3), (3, 45, Value.func (.func 77) #[] #[]), (4, 46, Value.agg #[Value.int .i64 a.lo, Value.int .i64 a.hi, Value.int .i64 a.m, Value.int .i64 a.r, Value.int .i64 a.k, Value.int .i64 b.lo, Value.int .i64 b.hi, Value.int .i64 b.m, Value.int .i64 b.r, Value.int .i64 b.k, Value.int .i64 (bits .or .i64 a.k b.k)]), (5, 47, Value.agg #[Value.int .i64 z.lo, Value.int .i64 z.hi, Value.int .i64 z.m, Value.int .i64 z.r, Value.int .i64 z.k])]
  kL0_0 : D 6 = false → Bk W n1_2 #[Value.int .i64 0, Value.int .i64 0, Value.int .i64 0, Value.int .i64 0, Value.int .i64 0] 27
  kL0_1 : D 6 = true → Bk W n1_2 #[Value.int .i64 z.lo, Value.int .i64 z.hi, Value.int .i64 z.m, Value.int .i64 z.r, Value.int .i64 z.k] 27

set_option maxRecDepth 100000 in
set_option maxHeartbeats 4000000 in
theorem op7_t {a b z : Ab} (GC : Hid (∀ w, Calls Try.prog 77 #[Value.agg #[Value.int .i64 a.lo, Value.int .i64 a.hi, Value.int .i64 a.m, Value.int .i64 a.r, Value.int .i64 a.k, Value.int .i64 b.lo, Value.int .i64 b.hi, Value.int .i64 b.m, Value.int .i64 b.r, Value.int .i64 b.k, Value.int .i64 (bits .or .i64 a.k b.k)]] w fun e w' => e = .returned (abVal z) ∧ Below w.heap.size w w')) : OpTail 7 a b z := by
  intro w aF W n1_2 n2_8 hw_n1_2 hne_n1_2_n2_8 hz df u0 u6 u7 hb0 hB
  have hM : Mk0 w W.heap.size W := ⟨hb0, Nat.le_refl _⟩
  refine wp_seq ?_
  obtain ⟨m1, hM, hU, hwm⟩ := start_region hM.b hB
  obtain ⟨hk_0, hk_1, -⟩ := hB
  obtain ⟨hl_0, hl_1, -⟩ := hU
  have hB : Bks _ [(n2_8, #[Value.int .i64 a.lo, Value.int .i64 a.hi, Value.int .i64 a.m, Value.int .i64 a.r, Value.int .i64 a.k, Value.int .i64 b.lo, Value.int .i64 b.hi, Value.int .i64 b.m, Value.int .i64 b.r, Value.int .i64 b.k, Value.int .i64 (bits .or .i64 a.k b.k)], 72)] := ⟨hk_1, trivial⟩
  have hU : Under m1 [(n2_8, #[Value.int .i64 a.lo, Value.int .i64 a.hi, Value.int .i64 a.m, Value.int .i64 a.r, Value.int .i64 a.k, Value.int .i64 b.lo, Value.int .i64 b.hi, Value.int .i64 b.m, Value.int .i64 b.r, Value.int .i64 b.k, Value.int .i64 (bits .or .i64 a.k b.k)], 72)] := ⟨hl_1, trivial⟩
  refine region_go (F := op7_t_r4_1 a b z n1_2 n2_8 w m1) [42, 43, 44, 45, 46, 47] [0, 1, 2, 3, 4, 5, 6] hz df (by kernel_rfl) (by kernel_rfl) (by kernel_rfl) (fun s hs0 => ⟨hM.drew, Bks.drew hB, Vals.none s _, fun _ => hk_0.drew, fun h => no_of' h⟩) ?_ ?_
  refine FSteps.op3 hz rfl (dv := []) (by kernel_rfl) (by kernel_rfl) (by kernel_rfl) (fun D s W bA kK hD hW hF hA hK => ?_) ?_
  · have hF := Lib.hid hF
    clear hA
    go_simp
    (go_at_call 45; ((with_reducible_and_instances refine (spanops_is _).mono ?_)); rintro e W1 ⟨rfl, hb⟩; (try unfold abVal))
    (try go_wp2_with fail)
    exact hK.out _ _ ⟨hF.out.zb.on hb, Bks.on hb hF.out.zq, hF.out.zt.step rfl rfl, fun h2 => (hF.out.kL0_0 h2).on hb, fun h1 => (hF.out.kL0_1 h1).on hb⟩
  refine FSteps.op3 hz rfl (dv := []) (by kernel_rfl) (by kernel_rfl) (by kernel_rfl) (fun D s W bA kK hD hW hF hA hK => ?_) ?_
  · have x0 := hA.o 0 _ rfl u0
    have hF := Lib.hid hF
    clear hA
    go_simp
    exact hK.out _ _ ⟨hF.out.zb, hF.out.zq, hF.out.zt.step rfl rfl, hF.out.kL0_0, hF.out.kL0_1⟩
  refine FSteps.op3 hz rfl (dv := [1]) (by kernel_rfl) (by kernel_rfl) (by kernel_rfl) (fun D s W bA kK hD hW hF hA hK => ?_) ?_
  · have x43 := hA.i 43 _ rfl rfl (hF.zt.get (j := 1) rfl hW.1)
    have hF := Lib.hid hF
    clear hA
    go_simp
    exact hK.out _ _ ⟨hF.out.zb, hF.out.zq, hF.out.zt.step rfl rfl, hF.out.kL0_0, hF.out.kL0_1⟩
  refine FSteps.op3 hz rfl (dv := [0, 2]) (by kernel_rfl) (by kernel_rfl) (by kernel_rfl) (fun D s W bA kK hD hW hF hA hK => ?_) ?_
  · have x42 := hA.i 42 _ rfl rfl (hF.zt.get (j := 0) rfl hW.1)
    have x44 := hA.i 44 _ rfl rfl (hF.zt.get (j := 2) rfl hW.2.1)
    have hF := Lib.hid hF
    clear hA
    have hix : ∀ W, (Instr.index 75 (Value.agg #[Value.func (.func 74) #[] #[], Value.func (.func 75) #[] #[], Value.func (.func 76) #[] #[], Value.func (.func 77) #[] #[], Value.func (.func 78) #[] #[], Value.func (.func 79) #[] #[], Value.func (.func 80) #[] #[]]) (.int .i64 3)).run Try.prog W = .ok (Value.func (.func 77) #[] #[]) W := fun W => by kernel_rfl
    go_simp
    exact hK.out _ _ ⟨hF.out.zb, hF.out.zq, hF.out.zt.step rfl rfl, hF.out.kL0_0, hF.out.kL0_1⟩
  refine FSteps.op3 hz rfl (dv := []) (by kernel_rfl) (by kernel_rfl) (by kernel_rfl) (fun D s W bA kK hD hW hF hA hK => ?_) ?_
  · have x7 := hA.o 7 _ rfl u7
    obtain ⟨⟨c0, z0⟩, -⟩ := hF.zq.rules
    have hF := Lib.hid hF
    clear hA
    go_simp
    exact hK.out _ _ ⟨hF.out.zb, hF.out.zq, hF.out.zt.step rfl rfl, hF.out.kL0_0, hF.out.kL0_1⟩
  refine FSteps.op3 hz rfl (dv := [3, 4, 0]) (by kernel_rfl) (by kernel_rfl) (by kernel_rfl) (fun D s W bA kK hD hW hF hA hK => ?_) ?_
  · have x45 := hA.i 45 _ rfl rfl (hF.zt.get (j := 3) rfl hW.1)
    have x46 := hA.i 46 _ rfl rfl (hF.zt.get (j := 4) rfl hW.2.1)
    have hF := Lib.hid hF
    clear hA
    go_simp
    (go_at_call 77; ((with_reducible_and_instances refine (GC.out _).mono ?_)); rintro e W1 ⟨rfl, hb⟩; (try unfold abVal))
    (try go_wp2_with fail)
    exact hK.out _ _ ⟨hF.out.zb.on hb, Bks.on hb hF.out.zq, hF.out.zt.step rfl rfl, fun h2 => (hF.out.kL0_0 h2).on hb, fun h1 => (hF.out.kL0_1 h1).on hb⟩
  refine FSteps.op3 hz rfl (dv := [5, 5, 0, 1, 2, 3, 4, 5]) (by kernel_rfl) (by kernel_rfl) (by kernel_rfl) (fun D s W bA kK hD hW hF hA hK => ?_) ?_
  · have x6 := hA.o 6 _ rfl u6
    have x47 := hA.i 47 _ rfl rfl (hF.zt.get (j := 5) rfl hW.1)
    have kk := hF.kL0_0 hD
    have kc := kk.cell; have kf := kk.free
    have hF := Lib.hid hF
    have kk := Lib.hid kk
    clear hA
    go_simp
    exact hK.out undef _ ⟨hF.out.zb.sAll (hw_n1_2) 0 [Value.int .i64 z.lo, Value.int .i64 z.hi, Value.int .i64 z.m, Value.int .i64 z.r, Value.int .i64 z.k], Bks.oAll [Value.int .i64 z.lo, Value.int .i64 z.hi, Value.int .i64 z.m, Value.int .i64 z.r, Value.int .i64 z.k] 0 (⟨(by omega), trivial⟩) hF.out.zq, hF.out.zt.skip rfl, fun h2 => no_of h2, fun _ => kk.out.full [Value.int .i64 z.lo, Value.int .i64 z.hi, Value.int .i64 z.m, Value.int .i64 z.r, Value.int .i64 z.k] rfl⟩
  exact FSteps.nil
  intro D s W aF1 hD hF hz' df' hA
  obtain ⟨d0, d1, d2, d3, d4, d5, d6, -⟩ := hD
  clear u0 u7
  replace u6 : Sl aF1 6 _ := hA.o 6 _ rfl u6
  have hkXL0 := hF.kL0_1 d6
  have hM := hF.zb
  have hB := hF.zq
  have hB : Bks W [(n1_2, #[Value.int .i64 z.lo, Value.int .i64 z.hi, Value.int .i64 z.m, Value.int .i64 z.r, Value.int .i64 z.k], 27)] := ⟨hkXL0, trivial⟩
  clear hF hA hz df d0 d1 d2 d3 d4 d5 d6 
  have hz := hz'; have df := df'; clear hz' df'
  clear aF
  show Code.wp _ _ _ _ _
  refine wp_ret ?_
  show bodyPost _ _ _ _ _ _
  have hB2 := hB.rules
  obtain ⟨⟨c0, z0⟩, -⟩ := hB2
  unfold Sl at u6
  refine end_go df (v := (Value.agg #[Value.int .i64 z.lo, Value.int .i64 z.hi, Value.int .i64 z.m, Value.int .i64 z.r, Value.int .i64 z.k])) (by simp [results, Try.results14, go_sem, u6, c0]) ⟨rfl, hM.b⟩

structure op8_t_r4_1 (a b z : Ab) (n1_2 n2_8 : Nat) (w : World) (m1 : Nat) (D : Nat → Bool) (s : Nat → Value) (W : World) : Prop where
  zb : Mk0 w m1 W
  zq : Bks W [(n2_8, #[Value.int .i64 a.lo, Value.int .i64 a.hi, Value.int .i64 a.m, Value.int .i64 a.r, Value.int .i64 a.k, Value.int .i64 b.lo, Value.int .i64 b.hi, Value.int .i64 b.m, Value.int .i64 b.r, Value.int .i64 b.k, Value.int .i64 (bits .or .i64 a.k b.k)], 72)]
  zt : Vals D s [(0, 42, Value.agg #[Value.func (.func 74) #[] #[], Value.func (.func 75) #[] #[], Value.func (.func 76) #[] #[], Value.func (.func 77) #[] #[], Value.func (.func 78) #[] #[], Value.func (.func 79) #[] #[], Value.func (.func 80) #[] #[]]), (1, 43, Value.int .i64 8), (2, 44, Value.int .i64 4), (3, 45, Value.func (.func 78) #[] #[]), (4, 46, Value.agg #[Value.int .i64 a.lo, Value.int .i64 a.hi, Value.int .i64 a.m, Value.int .i64 a.r, Value.int .i64 a.k, Value.int .i64 b.lo, Value.int .i64 b.hi, Value.int .i64 b.m, Value.int .i64 b.r, Value.int .i64 b.k, Value.int .i64 (bits .or .i64 a.k b.k)]), (5, 47, Value.agg #[Value.int .i64 z.lo, Value.int .i64 z.hi, Value.int .i64 z.m, Value.int .i64 z.r, Value.int .i64 z.k])]
  kL0_0 : D 6 = false → Bk W n1_2 #[Value.int .i64 0, Value.int .i64 0, Value.int .i64 0, Value.int .i64 0, Value.int .i64 0] 27
  kL0_1 : D 6 = true → Bk W n1_2 #[Value.int .i64 z.lo, Value.int .i64 z.hi, Value.int .i64 z.m, Value.int .i64 z.r, Value.int .i64 z.k] 27

set_option maxRecDepth 100000 in
set_option maxHeartbeats 4000000 in
theorem op8_t {a b z : Ab} (GC : Hid (∀ w, Calls Try.prog 78 #[Value.agg #[Value.int .i64 a.lo, Value.int .i64 a.hi, Value.int .i64 a.m, Value.int .i64 a.r, Value.int .i64 a.k, Value.int .i64 b.lo, Value.int .i64 b.hi, Value.int .i64 b.m, Value.int .i64 b.r, Value.int .i64 b.k, Value.int .i64 (bits .or .i64 a.k b.k)]] w fun e w' => e = .returned (abVal z) ∧ Below w.heap.size w w')) : OpTail 8 a b z := by
  intro w aF W n1_2 n2_8 hw_n1_2 hne_n1_2_n2_8 hz df u0 u6 u7 hb0 hB
  have hM : Mk0 w W.heap.size W := ⟨hb0, Nat.le_refl _⟩
  refine wp_seq ?_
  obtain ⟨m1, hM, hU, hwm⟩ := start_region hM.b hB
  obtain ⟨hk_0, hk_1, -⟩ := hB
  obtain ⟨hl_0, hl_1, -⟩ := hU
  have hB : Bks _ [(n2_8, #[Value.int .i64 a.lo, Value.int .i64 a.hi, Value.int .i64 a.m, Value.int .i64 a.r, Value.int .i64 a.k, Value.int .i64 b.lo, Value.int .i64 b.hi, Value.int .i64 b.m, Value.int .i64 b.r, Value.int .i64 b.k, Value.int .i64 (bits .or .i64 a.k b.k)], 72)] := ⟨hk_1, trivial⟩
  have hU : Under m1 [(n2_8, #[Value.int .i64 a.lo, Value.int .i64 a.hi, Value.int .i64 a.m, Value.int .i64 a.r, Value.int .i64 a.k, Value.int .i64 b.lo, Value.int .i64 b.hi, Value.int .i64 b.m, Value.int .i64 b.r, Value.int .i64 b.k, Value.int .i64 (bits .or .i64 a.k b.k)], 72)] := ⟨hl_1, trivial⟩
  refine region_go (F := op8_t_r4_1 a b z n1_2 n2_8 w m1) [42, 43, 44, 45, 46, 47] [0, 1, 2, 3, 4, 5, 6] hz df (by kernel_rfl) (by kernel_rfl) (by kernel_rfl) (fun s hs0 => ⟨hM.drew, Bks.drew hB, Vals.none s _, fun _ => hk_0.drew, fun h => no_of' h⟩) ?_ ?_
  refine FSteps.op3 hz rfl (dv := []) (by kernel_rfl) (by kernel_rfl) (by kernel_rfl) (fun D s W bA kK hD hW hF hA hK => ?_) ?_
  · have hF := Lib.hid hF
    clear hA
    go_simp
    (go_at_call 45; ((with_reducible_and_instances refine (spanops_is _).mono ?_)); rintro e W1 ⟨rfl, hb⟩; (try unfold abVal))
    (try go_wp2_with fail)
    exact hK.out _ _ ⟨hF.out.zb.on hb, Bks.on hb hF.out.zq, hF.out.zt.step rfl rfl, fun h2 => (hF.out.kL0_0 h2).on hb, fun h1 => (hF.out.kL0_1 h1).on hb⟩
  refine FSteps.op3 hz rfl (dv := []) (by kernel_rfl) (by kernel_rfl) (by kernel_rfl) (fun D s W bA kK hD hW hF hA hK => ?_) ?_
  · have x0 := hA.o 0 _ rfl u0
    have hF := Lib.hid hF
    clear hA
    go_simp
    exact hK.out _ _ ⟨hF.out.zb, hF.out.zq, hF.out.zt.step rfl rfl, hF.out.kL0_0, hF.out.kL0_1⟩
  refine FSteps.op3 hz rfl (dv := [1]) (by kernel_rfl) (by kernel_rfl) (by kernel_rfl) (fun D s W bA kK hD hW hF hA hK => ?_) ?_
  · have x43 := hA.i 43 _ rfl rfl (hF.zt.get (j := 1) rfl hW.1)
    have hF := Lib.hid hF
    clear hA
    go_simp
    exact hK.out _ _ ⟨hF.out.zb, hF.out.zq, hF.out.zt.step rfl rfl, hF.out.kL0_0, hF.out.kL0_1⟩
  refine FSteps.op3 hz rfl (dv := [0, 2]) (by kernel_rfl) (by kernel_rfl) (by kernel_rfl) (fun D s W bA kK hD hW hF hA hK => ?_) ?_
  · have x42 := hA.i 42 _ rfl rfl (hF.zt.get (j := 0) rfl hW.1)
    have x44 := hA.i 44 _ rfl rfl (hF.zt.get (j := 2) rfl hW.2.1)
    have hF := Lib.hid hF
    clear hA
    have hix : ∀ W, (Instr.index 75 (Value.agg #[Value.func (.func 74) #[] #[], Value.func (.func 75) #[] #[], Value.func (.func 76) #[] #[], Value.func (.func 77) #[] #[], Value.func (.func 78) #[] #[], Value.func (.func 79) #[] #[], Value.func (.func 80) #[] #[]]) (.int .i64 4)).run Try.prog W = .ok (Value.func (.func 78) #[] #[]) W := fun W => by kernel_rfl
    go_simp
    exact hK.out _ _ ⟨hF.out.zb, hF.out.zq, hF.out.zt.step rfl rfl, hF.out.kL0_0, hF.out.kL0_1⟩
  refine FSteps.op3 hz rfl (dv := []) (by kernel_rfl) (by kernel_rfl) (by kernel_rfl) (fun D s W bA kK hD hW hF hA hK => ?_) ?_
  · have x7 := hA.o 7 _ rfl u7
    obtain ⟨⟨c0, z0⟩, -⟩ := hF.zq.rules
    have hF := Lib.hid hF
    clear hA
    go_simp
    exact hK.out _ _ ⟨hF.out.zb, hF.out.zq, hF.out.zt.step rfl rfl, hF.out.kL0_0, hF.out.kL0_1⟩
  refine FSteps.op3 hz rfl (dv := [3, 4, 0]) (by kernel_rfl) (by kernel_rfl) (by kernel_rfl) (fun D s W bA kK hD hW hF hA hK => ?_) ?_
  · have x45 := hA.i 45 _ rfl rfl (hF.zt.get (j := 3) rfl hW.1)
    have x46 := hA.i 46 _ rfl rfl (hF.zt.get (j := 4) rfl hW.2.1)
    have hF := Lib.hid hF
    clear hA
    go_simp
    (go_at_call 78; ((with_reducible_and_instances refine (GC.out _).mono ?_)); rintro e W1 ⟨rfl, hb⟩; (try unfold abVal))
    (try go_wp2_with fail)
    exact hK.out _ _ ⟨hF.out.zb.on hb, Bks.on hb hF.out.zq, hF.out.zt.step rfl rfl, fun h2 => (hF.out.kL0_0 h2).on hb, fun h1 => (hF.out.kL0_1 h1).on hb⟩
  refine FSteps.op3 hz rfl (dv := [5, 5, 0, 1, 2, 3, 4, 5]) (by kernel_rfl) (by kernel_rfl) (by kernel_rfl) (fun D s W bA kK hD hW hF hA hK => ?_) ?_
  · have x6 := hA.o 6 _ rfl u6
    have x47 := hA.i 47 _ rfl rfl (hF.zt.get (j := 5) rfl hW.1)
    have kk := hF.kL0_0 hD
    have kc := kk.cell; have kf := kk.free
    have hF := Lib.hid hF
    have kk := Lib.hid kk
    clear hA
    go_simp
    exact hK.out undef _ ⟨hF.out.zb.sAll (hw_n1_2) 0 [Value.int .i64 z.lo, Value.int .i64 z.hi, Value.int .i64 z.m, Value.int .i64 z.r, Value.int .i64 z.k], Bks.oAll [Value.int .i64 z.lo, Value.int .i64 z.hi, Value.int .i64 z.m, Value.int .i64 z.r, Value.int .i64 z.k] 0 (⟨(by omega), trivial⟩) hF.out.zq, hF.out.zt.skip rfl, fun h2 => no_of h2, fun _ => kk.out.full [Value.int .i64 z.lo, Value.int .i64 z.hi, Value.int .i64 z.m, Value.int .i64 z.r, Value.int .i64 z.k] rfl⟩
  exact FSteps.nil
  intro D s W aF1 hD hF hz' df' hA
  obtain ⟨d0, d1, d2, d3, d4, d5, d6, -⟩ := hD
  clear u0 u7
  replace u6 : Sl aF1 6 _ := hA.o 6 _ rfl u6
  have hkXL0 := hF.kL0_1 d6
  have hM := hF.zb
  have hB := hF.zq
  have hB : Bks W [(n1_2, #[Value.int .i64 z.lo, Value.int .i64 z.hi, Value.int .i64 z.m, Value.int .i64 z.r, Value.int .i64 z.k], 27)] := ⟨hkXL0, trivial⟩
  clear hF hA hz df d0 d1 d2 d3 d4 d5 d6 
  have hz := hz'; have df := df'; clear hz' df'
  clear aF
  show Code.wp _ _ _ _ _
  refine wp_ret ?_
  show bodyPost _ _ _ _ _ _
  have hB2 := hB.rules
  obtain ⟨⟨c0, z0⟩, -⟩ := hB2
  unfold Sl at u6
  refine end_go df (v := (Value.agg #[Value.int .i64 z.lo, Value.int .i64 z.hi, Value.int .i64 z.m, Value.int .i64 z.r, Value.int .i64 z.k])) (by simp [results, Try.results14, go_sem, u6, c0]) ⟨rfl, hM.b⟩

structure op9_t_r4_1 (a b z : Ab) (n1_2 n2_8 : Nat) (w : World) (m1 : Nat) (D : Nat → Bool) (s : Nat → Value) (W : World) : Prop where
  zb : Mk0 w m1 W
  zq : Bks W [(n2_8, #[Value.int .i64 a.lo, Value.int .i64 a.hi, Value.int .i64 a.m, Value.int .i64 a.r, Value.int .i64 a.k, Value.int .i64 b.lo, Value.int .i64 b.hi, Value.int .i64 b.m, Value.int .i64 b.r, Value.int .i64 b.k, Value.int .i64 (bits .or .i64 a.k b.k)], 72)]
  zt : Vals D s [(0, 42, Value.agg #[Value.func (.func 74) #[] #[], Value.func (.func 75) #[] #[], Value.func (.func 76) #[] #[], Value.func (.func 77) #[] #[], Value.func (.func 78) #[] #[], Value.func (.func 79) #[] #[], Value.func (.func 80) #[] #[]]), (1, 43, Value.int .i64 9), (2, 44, Value.int .i64 5), (3, 45, Value.func (.func 79) #[] #[]), (4, 46, Value.agg #[Value.int .i64 a.lo, Value.int .i64 a.hi, Value.int .i64 a.m, Value.int .i64 a.r, Value.int .i64 a.k, Value.int .i64 b.lo, Value.int .i64 b.hi, Value.int .i64 b.m, Value.int .i64 b.r, Value.int .i64 b.k, Value.int .i64 (bits .or .i64 a.k b.k)]), (5, 47, Value.agg #[Value.int .i64 z.lo, Value.int .i64 z.hi, Value.int .i64 z.m, Value.int .i64 z.r, Value.int .i64 z.k])]
  kL0_0 : D 6 = false → Bk W n1_2 #[Value.int .i64 0, Value.int .i64 0, Value.int .i64 0, Value.int .i64 0, Value.int .i64 0] 27
  kL0_1 : D 6 = true → Bk W n1_2 #[Value.int .i64 z.lo, Value.int .i64 z.hi, Value.int .i64 z.m, Value.int .i64 z.r, Value.int .i64 z.k] 27

set_option maxRecDepth 100000 in
set_option maxHeartbeats 4000000 in
theorem op9_t {a b z : Ab} (GC : Hid (∀ w, Calls Try.prog 79 #[Value.agg #[Value.int .i64 a.lo, Value.int .i64 a.hi, Value.int .i64 a.m, Value.int .i64 a.r, Value.int .i64 a.k, Value.int .i64 b.lo, Value.int .i64 b.hi, Value.int .i64 b.m, Value.int .i64 b.r, Value.int .i64 b.k, Value.int .i64 (bits .or .i64 a.k b.k)]] w fun e w' => e = .returned (abVal z) ∧ Below w.heap.size w w')) : OpTail 9 a b z := by
  intro w aF W n1_2 n2_8 hw_n1_2 hne_n1_2_n2_8 hz df u0 u6 u7 hb0 hB
  have hM : Mk0 w W.heap.size W := ⟨hb0, Nat.le_refl _⟩
  refine wp_seq ?_
  obtain ⟨m1, hM, hU, hwm⟩ := start_region hM.b hB
  obtain ⟨hk_0, hk_1, -⟩ := hB
  obtain ⟨hl_0, hl_1, -⟩ := hU
  have hB : Bks _ [(n2_8, #[Value.int .i64 a.lo, Value.int .i64 a.hi, Value.int .i64 a.m, Value.int .i64 a.r, Value.int .i64 a.k, Value.int .i64 b.lo, Value.int .i64 b.hi, Value.int .i64 b.m, Value.int .i64 b.r, Value.int .i64 b.k, Value.int .i64 (bits .or .i64 a.k b.k)], 72)] := ⟨hk_1, trivial⟩
  have hU : Under m1 [(n2_8, #[Value.int .i64 a.lo, Value.int .i64 a.hi, Value.int .i64 a.m, Value.int .i64 a.r, Value.int .i64 a.k, Value.int .i64 b.lo, Value.int .i64 b.hi, Value.int .i64 b.m, Value.int .i64 b.r, Value.int .i64 b.k, Value.int .i64 (bits .or .i64 a.k b.k)], 72)] := ⟨hl_1, trivial⟩
  refine region_go (F := op9_t_r4_1 a b z n1_2 n2_8 w m1) [42, 43, 44, 45, 46, 47] [0, 1, 2, 3, 4, 5, 6] hz df (by kernel_rfl) (by kernel_rfl) (by kernel_rfl) (fun s hs0 => ⟨hM.drew, Bks.drew hB, Vals.none s _, fun _ => hk_0.drew, fun h => no_of' h⟩) ?_ ?_
  refine FSteps.op3 hz rfl (dv := []) (by kernel_rfl) (by kernel_rfl) (by kernel_rfl) (fun D s W bA kK hD hW hF hA hK => ?_) ?_
  · have hF := Lib.hid hF
    clear hA
    go_simp
    (go_at_call 45; ((with_reducible_and_instances refine (spanops_is _).mono ?_)); rintro e W1 ⟨rfl, hb⟩; (try unfold abVal))
    (try go_wp2_with fail)
    exact hK.out _ _ ⟨hF.out.zb.on hb, Bks.on hb hF.out.zq, hF.out.zt.step rfl rfl, fun h2 => (hF.out.kL0_0 h2).on hb, fun h1 => (hF.out.kL0_1 h1).on hb⟩
  refine FSteps.op3 hz rfl (dv := []) (by kernel_rfl) (by kernel_rfl) (by kernel_rfl) (fun D s W bA kK hD hW hF hA hK => ?_) ?_
  · have x0 := hA.o 0 _ rfl u0
    have hF := Lib.hid hF
    clear hA
    go_simp
    exact hK.out _ _ ⟨hF.out.zb, hF.out.zq, hF.out.zt.step rfl rfl, hF.out.kL0_0, hF.out.kL0_1⟩
  refine FSteps.op3 hz rfl (dv := [1]) (by kernel_rfl) (by kernel_rfl) (by kernel_rfl) (fun D s W bA kK hD hW hF hA hK => ?_) ?_
  · have x43 := hA.i 43 _ rfl rfl (hF.zt.get (j := 1) rfl hW.1)
    have hF := Lib.hid hF
    clear hA
    go_simp
    exact hK.out _ _ ⟨hF.out.zb, hF.out.zq, hF.out.zt.step rfl rfl, hF.out.kL0_0, hF.out.kL0_1⟩
  refine FSteps.op3 hz rfl (dv := [0, 2]) (by kernel_rfl) (by kernel_rfl) (by kernel_rfl) (fun D s W bA kK hD hW hF hA hK => ?_) ?_
  · have x42 := hA.i 42 _ rfl rfl (hF.zt.get (j := 0) rfl hW.1)
    have x44 := hA.i 44 _ rfl rfl (hF.zt.get (j := 2) rfl hW.2.1)
    have hF := Lib.hid hF
    clear hA
    have hix : ∀ W, (Instr.index 75 (Value.agg #[Value.func (.func 74) #[] #[], Value.func (.func 75) #[] #[], Value.func (.func 76) #[] #[], Value.func (.func 77) #[] #[], Value.func (.func 78) #[] #[], Value.func (.func 79) #[] #[], Value.func (.func 80) #[] #[]]) (.int .i64 5)).run Try.prog W = .ok (Value.func (.func 79) #[] #[]) W := fun W => by kernel_rfl
    go_simp
    exact hK.out _ _ ⟨hF.out.zb, hF.out.zq, hF.out.zt.step rfl rfl, hF.out.kL0_0, hF.out.kL0_1⟩
  refine FSteps.op3 hz rfl (dv := []) (by kernel_rfl) (by kernel_rfl) (by kernel_rfl) (fun D s W bA kK hD hW hF hA hK => ?_) ?_
  · have x7 := hA.o 7 _ rfl u7
    obtain ⟨⟨c0, z0⟩, -⟩ := hF.zq.rules
    have hF := Lib.hid hF
    clear hA
    go_simp
    exact hK.out _ _ ⟨hF.out.zb, hF.out.zq, hF.out.zt.step rfl rfl, hF.out.kL0_0, hF.out.kL0_1⟩
  refine FSteps.op3 hz rfl (dv := [3, 4, 0]) (by kernel_rfl) (by kernel_rfl) (by kernel_rfl) (fun D s W bA kK hD hW hF hA hK => ?_) ?_
  · have x45 := hA.i 45 _ rfl rfl (hF.zt.get (j := 3) rfl hW.1)
    have x46 := hA.i 46 _ rfl rfl (hF.zt.get (j := 4) rfl hW.2.1)
    have hF := Lib.hid hF
    clear hA
    go_simp
    (go_at_call 79; ((with_reducible_and_instances refine (GC.out _).mono ?_)); rintro e W1 ⟨rfl, hb⟩; (try unfold abVal))
    (try go_wp2_with fail)
    exact hK.out _ _ ⟨hF.out.zb.on hb, Bks.on hb hF.out.zq, hF.out.zt.step rfl rfl, fun h2 => (hF.out.kL0_0 h2).on hb, fun h1 => (hF.out.kL0_1 h1).on hb⟩
  refine FSteps.op3 hz rfl (dv := [5, 5, 0, 1, 2, 3, 4, 5]) (by kernel_rfl) (by kernel_rfl) (by kernel_rfl) (fun D s W bA kK hD hW hF hA hK => ?_) ?_
  · have x6 := hA.o 6 _ rfl u6
    have x47 := hA.i 47 _ rfl rfl (hF.zt.get (j := 5) rfl hW.1)
    have kk := hF.kL0_0 hD
    have kc := kk.cell; have kf := kk.free
    have hF := Lib.hid hF
    have kk := Lib.hid kk
    clear hA
    go_simp
    exact hK.out undef _ ⟨hF.out.zb.sAll (hw_n1_2) 0 [Value.int .i64 z.lo, Value.int .i64 z.hi, Value.int .i64 z.m, Value.int .i64 z.r, Value.int .i64 z.k], Bks.oAll [Value.int .i64 z.lo, Value.int .i64 z.hi, Value.int .i64 z.m, Value.int .i64 z.r, Value.int .i64 z.k] 0 (⟨(by omega), trivial⟩) hF.out.zq, hF.out.zt.skip rfl, fun h2 => no_of h2, fun _ => kk.out.full [Value.int .i64 z.lo, Value.int .i64 z.hi, Value.int .i64 z.m, Value.int .i64 z.r, Value.int .i64 z.k] rfl⟩
  exact FSteps.nil
  intro D s W aF1 hD hF hz' df' hA
  obtain ⟨d0, d1, d2, d3, d4, d5, d6, -⟩ := hD
  clear u0 u7
  replace u6 : Sl aF1 6 _ := hA.o 6 _ rfl u6
  have hkXL0 := hF.kL0_1 d6
  have hM := hF.zb
  have hB := hF.zq
  have hB : Bks W [(n1_2, #[Value.int .i64 z.lo, Value.int .i64 z.hi, Value.int .i64 z.m, Value.int .i64 z.r, Value.int .i64 z.k], 27)] := ⟨hkXL0, trivial⟩
  clear hF hA hz df d0 d1 d2 d3 d4 d5 d6 
  have hz := hz'; have df := df'; clear hz' df'
  clear aF
  show Code.wp _ _ _ _ _
  refine wp_ret ?_
  show bodyPost _ _ _ _ _ _
  have hB2 := hB.rules
  obtain ⟨⟨c0, z0⟩, -⟩ := hB2
  unfold Sl at u6
  refine end_go df (v := (Value.agg #[Value.int .i64 z.lo, Value.int .i64 z.hi, Value.int .i64 z.m, Value.int .i64 z.r, Value.int .i64 z.k])) (by simp [results, Try.results14, go_sem, u6, c0]) ⟨rfl, hM.b⟩

structure op10_t_r4_1 (a b z : Ab) (n1_2 n2_8 : Nat) (w : World) (m1 : Nat) (D : Nat → Bool) (s : Nat → Value) (W : World) : Prop where
  zb : Mk0 w m1 W
  zq : Bks W [(n2_8, #[Value.int .i64 a.lo, Value.int .i64 a.hi, Value.int .i64 a.m, Value.int .i64 a.r, Value.int .i64 a.k, Value.int .i64 b.lo, Value.int .i64 b.hi, Value.int .i64 b.m, Value.int .i64 b.r, Value.int .i64 b.k, Value.int .i64 (bits .or .i64 a.k b.k)], 72)]
  zt : Vals D s [(0, 42, Value.agg #[Value.func (.func 74) #[] #[], Value.func (.func 75) #[] #[], Value.func (.func 76) #[] #[], Value.func (.func 77) #[] #[], Value.func (.func 78) #[] #[], Value.func (.func 79) #[] #[], Value.func (.func 80) #[] #[]]), (1, 43, Value.int .i64 10), (2, 44, Value.int .i64 6), (3, 45, Value.func (.func 80) #[] #[]), (4, 46, Value.agg #[Value.int .i64 a.lo, Value.int .i64 a.hi, Value.int .i64 a.m, Value.int .i64 a.r, Value.int .i64 a.k, Value.int .i64 b.lo, Value.int .i64 b.hi, Value.int .i64 b.m, Value.int .i64 b.r, Value.int .i64 b.k, Value.int .i64 (bits .or .i64 a.k b.k)]), (5, 47, Value.agg #[Value.int .i64 z.lo, Value.int .i64 z.hi, Value.int .i64 z.m, Value.int .i64 z.r, Value.int .i64 z.k])]
  kL0_0 : D 6 = false → Bk W n1_2 #[Value.int .i64 0, Value.int .i64 0, Value.int .i64 0, Value.int .i64 0, Value.int .i64 0] 27
  kL0_1 : D 6 = true → Bk W n1_2 #[Value.int .i64 z.lo, Value.int .i64 z.hi, Value.int .i64 z.m, Value.int .i64 z.r, Value.int .i64 z.k] 27

set_option maxRecDepth 100000 in
set_option maxHeartbeats 4000000 in
theorem op10_t {a b z : Ab} (GC : Hid (∀ w, Calls Try.prog 80 #[Value.agg #[Value.int .i64 a.lo, Value.int .i64 a.hi, Value.int .i64 a.m, Value.int .i64 a.r, Value.int .i64 a.k, Value.int .i64 b.lo, Value.int .i64 b.hi, Value.int .i64 b.m, Value.int .i64 b.r, Value.int .i64 b.k, Value.int .i64 (bits .or .i64 a.k b.k)]] w fun e w' => e = .returned (abVal z) ∧ Below w.heap.size w w')) : OpTail 10 a b z := by
  intro w aF W n1_2 n2_8 hw_n1_2 hne_n1_2_n2_8 hz df u0 u6 u7 hb0 hB
  have hM : Mk0 w W.heap.size W := ⟨hb0, Nat.le_refl _⟩
  refine wp_seq ?_
  obtain ⟨m1, hM, hU, hwm⟩ := start_region hM.b hB
  obtain ⟨hk_0, hk_1, -⟩ := hB
  obtain ⟨hl_0, hl_1, -⟩ := hU
  have hB : Bks _ [(n2_8, #[Value.int .i64 a.lo, Value.int .i64 a.hi, Value.int .i64 a.m, Value.int .i64 a.r, Value.int .i64 a.k, Value.int .i64 b.lo, Value.int .i64 b.hi, Value.int .i64 b.m, Value.int .i64 b.r, Value.int .i64 b.k, Value.int .i64 (bits .or .i64 a.k b.k)], 72)] := ⟨hk_1, trivial⟩
  have hU : Under m1 [(n2_8, #[Value.int .i64 a.lo, Value.int .i64 a.hi, Value.int .i64 a.m, Value.int .i64 a.r, Value.int .i64 a.k, Value.int .i64 b.lo, Value.int .i64 b.hi, Value.int .i64 b.m, Value.int .i64 b.r, Value.int .i64 b.k, Value.int .i64 (bits .or .i64 a.k b.k)], 72)] := ⟨hl_1, trivial⟩
  refine region_go (F := op10_t_r4_1 a b z n1_2 n2_8 w m1) [42, 43, 44, 45, 46, 47] [0, 1, 2, 3, 4, 5, 6] hz df (by kernel_rfl) (by kernel_rfl) (by kernel_rfl) (fun s hs0 => ⟨hM.drew, Bks.drew hB, Vals.none s _, fun _ => hk_0.drew, fun h => no_of' h⟩) ?_ ?_
  refine FSteps.op3 hz rfl (dv := []) (by kernel_rfl) (by kernel_rfl) (by kernel_rfl) (fun D s W bA kK hD hW hF hA hK => ?_) ?_
  · have hF := Lib.hid hF
    clear hA
    go_simp
    (go_at_call 45; ((with_reducible_and_instances refine (spanops_is _).mono ?_)); rintro e W1 ⟨rfl, hb⟩; (try unfold abVal))
    (try go_wp2_with fail)
    exact hK.out _ _ ⟨hF.out.zb.on hb, Bks.on hb hF.out.zq, hF.out.zt.step rfl rfl, fun h2 => (hF.out.kL0_0 h2).on hb, fun h1 => (hF.out.kL0_1 h1).on hb⟩
  refine FSteps.op3 hz rfl (dv := []) (by kernel_rfl) (by kernel_rfl) (by kernel_rfl) (fun D s W bA kK hD hW hF hA hK => ?_) ?_
  · have x0 := hA.o 0 _ rfl u0
    have hF := Lib.hid hF
    clear hA
    go_simp
    exact hK.out _ _ ⟨hF.out.zb, hF.out.zq, hF.out.zt.step rfl rfl, hF.out.kL0_0, hF.out.kL0_1⟩
  refine FSteps.op3 hz rfl (dv := [1]) (by kernel_rfl) (by kernel_rfl) (by kernel_rfl) (fun D s W bA kK hD hW hF hA hK => ?_) ?_
  · have x43 := hA.i 43 _ rfl rfl (hF.zt.get (j := 1) rfl hW.1)
    have hF := Lib.hid hF
    clear hA
    go_simp
    exact hK.out _ _ ⟨hF.out.zb, hF.out.zq, hF.out.zt.step rfl rfl, hF.out.kL0_0, hF.out.kL0_1⟩
  refine FSteps.op3 hz rfl (dv := [0, 2]) (by kernel_rfl) (by kernel_rfl) (by kernel_rfl) (fun D s W bA kK hD hW hF hA hK => ?_) ?_
  · have x42 := hA.i 42 _ rfl rfl (hF.zt.get (j := 0) rfl hW.1)
    have x44 := hA.i 44 _ rfl rfl (hF.zt.get (j := 2) rfl hW.2.1)
    have hF := Lib.hid hF
    clear hA
    have hix : ∀ W, (Instr.index 75 (Value.agg #[Value.func (.func 74) #[] #[], Value.func (.func 75) #[] #[], Value.func (.func 76) #[] #[], Value.func (.func 77) #[] #[], Value.func (.func 78) #[] #[], Value.func (.func 79) #[] #[], Value.func (.func 80) #[] #[]]) (.int .i64 6)).run Try.prog W = .ok (Value.func (.func 80) #[] #[]) W := fun W => by kernel_rfl
    go_simp
    exact hK.out _ _ ⟨hF.out.zb, hF.out.zq, hF.out.zt.step rfl rfl, hF.out.kL0_0, hF.out.kL0_1⟩
  refine FSteps.op3 hz rfl (dv := []) (by kernel_rfl) (by kernel_rfl) (by kernel_rfl) (fun D s W bA kK hD hW hF hA hK => ?_) ?_
  · have x7 := hA.o 7 _ rfl u7
    obtain ⟨⟨c0, z0⟩, -⟩ := hF.zq.rules
    have hF := Lib.hid hF
    clear hA
    go_simp
    exact hK.out _ _ ⟨hF.out.zb, hF.out.zq, hF.out.zt.step rfl rfl, hF.out.kL0_0, hF.out.kL0_1⟩
  refine FSteps.op3 hz rfl (dv := [3, 4, 0]) (by kernel_rfl) (by kernel_rfl) (by kernel_rfl) (fun D s W bA kK hD hW hF hA hK => ?_) ?_
  · have x45 := hA.i 45 _ rfl rfl (hF.zt.get (j := 3) rfl hW.1)
    have x46 := hA.i 46 _ rfl rfl (hF.zt.get (j := 4) rfl hW.2.1)
    have hF := Lib.hid hF
    clear hA
    go_simp
    (go_at_call 80; ((with_reducible_and_instances refine (GC.out _).mono ?_)); rintro e W1 ⟨rfl, hb⟩; (try unfold abVal))
    (try go_wp2_with fail)
    exact hK.out _ _ ⟨hF.out.zb.on hb, Bks.on hb hF.out.zq, hF.out.zt.step rfl rfl, fun h2 => (hF.out.kL0_0 h2).on hb, fun h1 => (hF.out.kL0_1 h1).on hb⟩
  refine FSteps.op3 hz rfl (dv := [5, 5, 0, 1, 2, 3, 4, 5]) (by kernel_rfl) (by kernel_rfl) (by kernel_rfl) (fun D s W bA kK hD hW hF hA hK => ?_) ?_
  · have x6 := hA.o 6 _ rfl u6
    have x47 := hA.i 47 _ rfl rfl (hF.zt.get (j := 5) rfl hW.1)
    have kk := hF.kL0_0 hD
    have kc := kk.cell; have kf := kk.free
    have hF := Lib.hid hF
    have kk := Lib.hid kk
    clear hA
    go_simp
    exact hK.out undef _ ⟨hF.out.zb.sAll (hw_n1_2) 0 [Value.int .i64 z.lo, Value.int .i64 z.hi, Value.int .i64 z.m, Value.int .i64 z.r, Value.int .i64 z.k], Bks.oAll [Value.int .i64 z.lo, Value.int .i64 z.hi, Value.int .i64 z.m, Value.int .i64 z.r, Value.int .i64 z.k] 0 (⟨(by omega), trivial⟩) hF.out.zq, hF.out.zt.skip rfl, fun h2 => no_of h2, fun _ => kk.out.full [Value.int .i64 z.lo, Value.int .i64 z.hi, Value.int .i64 z.m, Value.int .i64 z.r, Value.int .i64 z.k] rfl⟩
  exact FSteps.nil
  intro D s W aF1 hD hF hz' df' hA
  obtain ⟨d0, d1, d2, d3, d4, d5, d6, -⟩ := hD
  clear u0 u7
  replace u6 : Sl aF1 6 _ := hA.o 6 _ rfl u6
  have hkXL0 := hF.kL0_1 d6
  have hM := hF.zb
  have hB := hF.zq
  have hB : Bks W [(n1_2, #[Value.int .i64 z.lo, Value.int .i64 z.hi, Value.int .i64 z.m, Value.int .i64 z.r, Value.int .i64 z.k], 27)] := ⟨hkXL0, trivial⟩
  clear hF hA hz df d0 d1 d2 d3 d4 d5 d6 
  have hz := hz'; have df := df'; clear hz' df'
  clear aF
  show Code.wp _ _ _ _ _
  refine wp_ret ?_
  show bodyPost _ _ _ _ _ _
  have hB2 := hB.rules
  obtain ⟨⟨c0, z0⟩, -⟩ := hB2
  unfold Sl at u6
  refine end_go df (v := (Value.agg #[Value.int .i64 z.lo, Value.int .i64 z.hi, Value.int .i64 z.m, Value.int .i64 z.r, Value.int .i64 z.k])) (by simp [results, Try.results14, go_sem, u6, c0]) ⟨rfl, hM.b⟩

theorem op4_ab {a b : Ab} (ha : Good a) (hb : Good b) (hns : ¬ (stepS a = 0 ∧ stepS b = 0)) (w : World) : Calls Try.prog 14 #[.int .i64 4, Value.agg #[Value.int .i64 a.lo, Value.int .i64 a.hi, Value.int .i64 a.m, Value.int .i64 a.r, Value.int .i64 a.k], Value.agg #[Value.int .i64 b.lo, Value.int .i64 b.hi, Value.int .i64 b.m, Value.int .i64 b.r, Value.int .i64 b.k]] w fun e w' => e = .returned (abVal (addS a b (bits .or .i64 a.k b.k))) ∧ Below w.heap.size w w' :=
  opg_is 4 w ha hb hns (by omega) (op4_t (Lib.hid fun w => padd_is _ w ha hb))
theorem op5_ab {a b : Ab} (ha : Good a) (hb : Good b) (hns : ¬ (stepS a = 0 ∧ stepS b = 0)) (w : World) : Calls Try.prog 14 #[.int .i64 5, Value.agg #[Value.int .i64 a.lo, Value.int .i64 a.hi, Value.int .i64 a.m, Value.int .i64 a.r, Value.int .i64 a.k], Value.agg #[Value.int .i64 b.lo, Value.int .i64 b.hi, Value.int .i64 b.m, Value.int .i64 b.r, Value.int .i64 b.k]] w fun e w' => e = .returned (abVal (subS a b (bits .or .i64 a.k b.k))) ∧ Below w.heap.size w w' :=
  opg_is 5 w ha hb hns (by omega) (op5_t (Lib.hid fun w => psub_is _ w ha hb))
theorem op6_ab {a b : Ab} (ha : Good a) (hb : Good b) (hns : ¬ (stepS a = 0 ∧ stepS b = 0)) (hs : stepS a * stepS b ≤ 9223372036854775807) (hg : 0 ≤ gcdS (absS a.lo * stepS b) [absS b.lo * stepS a, stepS a * stepS b] ∧ gcdS (absS a.lo * stepS b) [absS b.lo * stepS a, stepS a * stepS b] ≤ 9223372036854775807) (hg1 : absS a.lo * stepS b ≤ 9223372036854775807) (hg2 : absS b.lo * stepS a ≤ 9223372036854775807) (w : World) : Calls Try.prog 14 #[.int .i64 6, Value.agg #[Value.int .i64 a.lo, Value.int .i64 a.hi, Value.int .i64 a.m, Value.int .i64 a.r, Value.int .i64 a.k], Value.agg #[Value.int .i64 b.lo, Value.int .i64 b.hi, Value.int .i64 b.m, Value.int .i64 b.r, Value.int .i64 b.k]] w fun e w' => e = .returned (abVal (mulS a b (bits .or .i64 a.k b.k))) ∧ Below w.heap.size w w' :=
  opg_is 6 w ha hb hns (by omega) (op6_t (Lib.hid fun w => pmul_is _ w ha hb hs hg hg1 hg2))
theorem op7_ab {a b : Ab} (ha : Good a) (hb : Good b) (hns : ¬ (stepS a = 0 ∧ stepS b = 0)) (w : World) : Calls Try.prog 14 #[.int .i64 7, Value.agg #[Value.int .i64 a.lo, Value.int .i64 a.hi, Value.int .i64 a.m, Value.int .i64 a.r, Value.int .i64 a.k], Value.agg #[Value.int .i64 b.lo, Value.int .i64 b.hi, Value.int .i64 b.m, Value.int .i64 b.r, Value.int .i64 b.k]] w fun e w' => e = .returned (abVal (divS' a b (bits .or .i64 a.k b.k))) ∧ Below w.heap.size w w' :=
  opg_is 7 w ha hb hns (by omega) (op7_t (Lib.hid fun w => pdiv_is _ w ha hb))
theorem op8_ab {a b : Ab} (ha : Good a) (hb : Good b) (hns : ¬ (stepS a = 0 ∧ stepS b = 0)) (w : World) : Calls Try.prog 14 #[.int .i64 8, Value.agg #[Value.int .i64 a.lo, Value.int .i64 a.hi, Value.int .i64 a.m, Value.int .i64 a.r, Value.int .i64 a.k], Value.agg #[Value.int .i64 b.lo, Value.int .i64 b.hi, Value.int .i64 b.m, Value.int .i64 b.r, Value.int .i64 b.k]] w fun e w' => e = .returned (abVal (remS a b (bits .or .i64 a.k b.k))) ∧ Below w.heap.size w w' :=
  opg_is 8 w ha hb hns (by omega) (op8_t (Lib.hid fun w => prem_is _ w ha hb))
theorem op9_ab {a b : Ab} (ha : Good a) (hb : Good b) (hns : ¬ (stepS a = 0 ∧ stepS b = 0)) (w : World) : Calls Try.prog 14 #[.int .i64 9, Value.agg #[Value.int .i64 a.lo, Value.int .i64 a.hi, Value.int .i64 a.m, Value.int .i64 a.r, Value.int .i64 a.k], Value.agg #[Value.int .i64 b.lo, Value.int .i64 b.hi, Value.int .i64 b.m, Value.int .i64 b.r, Value.int .i64 b.k]] w fun e w' => e = .returned (abVal (lesserS a b (bits .or .i64 a.k b.k))) ∧ Below w.heap.size w w' :=
  opg_is 9 w ha hb hns (by omega) (op9_t (Lib.hid fun w => plesser_is _ w ha hb))
theorem op10_ab {a b : Ab} (ha : Good a) (hb : Good b) (hns : ¬ (stepS a = 0 ∧ stepS b = 0)) (w : World) : Calls Try.prog 14 #[.int .i64 10, Value.agg #[Value.int .i64 a.lo, Value.int .i64 a.hi, Value.int .i64 a.m, Value.int .i64 a.r, Value.int .i64 a.k], Value.agg #[Value.int .i64 b.lo, Value.int .i64 b.hi, Value.int .i64 b.m, Value.int .i64 b.r, Value.int .i64 b.k]] w fun e w' => e = .returned (abVal (greaterS a b (bits .or .i64 a.k b.k))) ∧ Below w.heap.size w w' :=
  opg_is 10 w ha hb hns (by omega) (op10_t (Lib.hid fun w => pgreater_is _ w ha hb))

end Go.Proofs.Ytlokjiniigfaiaa
