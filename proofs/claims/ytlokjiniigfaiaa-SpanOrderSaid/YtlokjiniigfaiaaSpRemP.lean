/- Contracts of rem of span's pair, at sets that are right. -/
import Derived.Test.YtlokjiniigfaiaaSpPm
set_option linter.unusedVariables false
set_option linter.unusedSimpArgs false
namespace Go.Proofs.Ytlokjiniigfaiaa
open Go.ChangeShapes Go.WideShapes Go.ChangeAt Go.RowKit

structure prem_s_r0_1 (a b : Ab) (k : Int) (w : World) (m1 : Nat) (D : Nat → Bool) (s : Nat → Value) (W : World) : Prop where
  zb : Mk0 w m1 W
  zq : Bks W []
  zt : Vals D s []
  v0 : D 0 = true → s 1 = (Value.pointer (some ⟨pblk (s 1), 0, none⟩))
  v1 : D 1 = true → s 2 = (Value.pointer (some ⟨pblk (s 2), 0, none⟩))
  k0_0 : D 0 = true → Bk W (pblk (s 1)) #[Value.int .i64 a.lo, Value.int .i64 a.hi, Value.int .i64 a.m, Value.int .i64 a.r, Value.int .i64 a.k, Value.int .i64 b.lo, Value.int .i64 b.hi, Value.int .i64 b.m, Value.int .i64 b.r, Value.int .i64 b.k, Value.int .i64 k] 72
  g0 : D 0 = true → m1 ≤ (pblk (s 1))
  k1_0 : D 1 = true → Bk W (pblk (s 2)) #[Value.int .i64 0, Value.int .i64 0, Value.int .i64 0, Value.int .i64 0, Value.int .i64 0] 27
  g1 : D 1 = true → m1 ≤ (pblk (s 2))
  e0_1 : D 0 = true → D 1 = true → pblk (s 1) ≠ pblk (s 2)

structure prem_s_r1_2 (a b : Ab) (k : Int) (n1_0 n1_1 : Nat) (w : World) (m2 : Nat) (D : Nat → Bool) (s : Nat → Value) (W : World) : Prop where
  zb : Mk0 w m2 W
  zq : Bks W [(n1_0, #[Value.int .i64 a.lo, Value.int .i64 a.hi, Value.int .i64 a.m, Value.int .i64 a.r, Value.int .i64 a.k, Value.int .i64 b.lo, Value.int .i64 b.hi, Value.int .i64 b.m, Value.int .i64 b.r, Value.int .i64 b.k, Value.int .i64 k], 72), (n1_1, #[Value.int .i64 0, Value.int .i64 0, Value.int .i64 0, Value.int .i64 0, Value.int .i64 0], 27)]
  zt : Vals D s [(0, 5, Value.pointer (some ⟨n1_0, 0, none⟩)), (1, 6, Value.agg #[Value.int .i64 a.lo, Value.int .i64 a.hi, Value.int .i64 a.m, Value.int .i64 a.r, Value.int .i64 a.k]), (2, 7, Value.pointer (some ⟨n1_0, 5, none⟩)), (3, 8, Value.pointer (some ⟨n1_0, 5, none⟩)), (4, 9, Value.int .i64 b.lo), (5, 10, Value.int .i64 (absS b.lo)), (8, 4, Value.int .i64 (absS b.lo))]
  v6 : D 6 = true → s 3 = (Value.pointer (some ⟨pblk (s 3), 0, none⟩))
  k6_0 : D 6 = true → D 7 = false → Bk W (pblk (s 3)) #[Value.int .i64 0, Value.int .i64 0, Value.int .i64 0, Value.int .i64 0, Value.int .i64 0] 27
  k6_1 : D 7 = true → Bk W (pblk (s 3)) #[Value.int .i64 a.lo, Value.int .i64 a.hi, Value.int .i64 a.m, Value.int .i64 a.r, Value.int .i64 a.k] 27
  c6_1 : D 7 = true → D 6 = true
  g6 : D 6 = true → m2 ≤ (pblk (s 3))

structure prem_s_r2_3 (a b : Ab) (k : Int) (n1_0 n1_1 n2_6 : Nat) (w : World) (m3 : Nat) (D : Nat → Bool) (s : Nat → Value) (W : World) : Prop where
  zb : Mk0 w m3 W
  zq : Bks W [(n1_0, #[Value.int .i64 a.lo, Value.int .i64 a.hi, Value.int .i64 a.m, Value.int .i64 a.r, Value.int .i64 a.k, Value.int .i64 b.lo, Value.int .i64 b.hi, Value.int .i64 b.m, Value.int .i64 b.r, Value.int .i64 b.k, Value.int .i64 k], 72), (n1_1, #[Value.int .i64 0, Value.int .i64 0, Value.int .i64 0, Value.int .i64 0, Value.int .i64 0], 27), (n2_6, #[Value.int .i64 a.lo, Value.int .i64 a.hi, Value.int .i64 a.m, Value.int .i64 a.r, Value.int .i64 a.k], 27)]
  zt : Vals D s [(0, 11, Value.pointer (some ⟨n1_0, 5, none⟩)), (1, 12, Value.agg #[Value.int .i64 b.lo, Value.int .i64 b.hi, Value.int .i64 b.m, Value.int .i64 b.r, Value.int .i64 b.k]), (2, 13, Value.int .i64 (stepS b)), (3, 14, Value.bool true)]

structure prem_s_r3_4 (a b : Ab) (k : Int) (n1_0 n1_1 n2_6 : Nat) (w : World) (m4 : Nat) (D : Nat → Bool) (s : Nat → Value) (W : World) : Prop where
  zb : Mk0 w m4 W
  zq : Bks W [(n1_0, #[Value.int .i64 a.lo, Value.int .i64 a.hi, Value.int .i64 a.m, Value.int .i64 a.r, Value.int .i64 a.k, Value.int .i64 b.lo, Value.int .i64 b.hi, Value.int .i64 b.m, Value.int .i64 b.r, Value.int .i64 b.k, Value.int .i64 k], 72), (n2_6, #[Value.int .i64 a.lo, Value.int .i64 a.hi, Value.int .i64 a.m, Value.int .i64 a.r, Value.int .i64 a.k], 27)]
  zt : Vals D s [(0, 15, Value.pointer (some ⟨n2_6, 0, none⟩)), (1, 16, Value.int .i64 a.lo), (2, 17, Value.int .i64 (min a.lo 0)), (3, 18, Value.pointer (some ⟨n2_6, 1, none⟩)), (4, 19, Value.int .i64 a.hi), (5, 20, Value.int .i64 (max a.hi 0)), (6, 21, Value.pointer (some ⟨n1_0, 10, none⟩)), (7, 22, Value.int .i64 k), (8, 23, Value.agg #[Value.int .i64 (byS (min a.lo 0) (max a.hi 0) 1 k).lo, Value.int .i64 (byS (min a.lo 0) (max a.hi 0) 1 k).hi, Value.int .i64 (byS (min a.lo 0) (max a.hi 0) 1 k).m, Value.int .i64 (byS (min a.lo 0) (max a.hi 0) 1 k).r, Value.int .i64 (byS (min a.lo 0) (max a.hi 0) 1 k).k])]
  kL0_0 : D 9 = false → Bk W n1_1 #[Value.int .i64 0, Value.int .i64 0, Value.int .i64 0, Value.int .i64 0, Value.int .i64 0] 27
  kL0_1 : D 9 = true → Bk W n1_1 #[Value.int .i64 (byS (min a.lo 0) (max a.hi 0) 1 k).lo, Value.int .i64 (byS (min a.lo 0) (max a.hi 0) 1 k).hi, Value.int .i64 (byS (min a.lo 0) (max a.hi 0) 1 k).m, Value.int .i64 (byS (min a.lo 0) (max a.hi 0) 1 k).r, Value.int .i64 (byS (min a.lo 0) (max a.hi 0) 1 k).k] 27

set_option maxRecDepth 100000 in
set_option maxHeartbeats 4000000 in
theorem prem_s {a b : Ab} (k : Int) (w : World) (ha : Good a) (hb : Good b) (hs : stepS b ≠ 0) :
    Calls Try.prog 78 #[Value.agg #[Value.int .i64 a.lo, Value.int .i64 a.hi, Value.int .i64 a.m, Value.int .i64 a.r, Value.int .i64 a.k, Value.int .i64 b.lo, Value.int .i64 b.hi, Value.int .i64 b.m, Value.int .i64 b.r, Value.int .i64 b.k, Value.int .i64 k]] w fun e w' => e = .returned (Value.agg #[Value.int .i64 (byS (min a.lo 0) (max a.hi 0) 1 k).lo, Value.int .i64 (byS (min a.lo 0) (max a.hi 0) 1 k).hi, Value.int .i64 (byS (min a.lo 0) (max a.hi 0) 1 k).m, Value.int .i64 (byS (min a.lo 0) (max a.hi 0) 1 k).r, Value.int .i64 (byS (min a.lo 0) (max a.hi 0) 1 k).k]) ∧ Below w.heap.size w w' := by
  have a1 := ha.h1; have a2 := ha.h2; have a3 := ha.h3
  have b1 := hb.h1; have b2 := hb.h2; have b3 := hb.h3
  have sa := ha.step0; have sb := hb.step0
  have ab1 : 0 ≤ absS b.lo ∧ absS b.lo ≤ 2147483648 := by unfold absS; omega
  replace hs := Lib.hid hs
  have GY := by_G (min a.lo 0) (max a.hi 0) 1 k (by omega) (by omega) (by omega) (by omega) (by omega) (by omega)
  refine calls_go Try.func78 rfl 63 rfl rfl (fun aF hz df hu => ?_)
  have u0 : Sl aF 0 (Value.agg #[Value.int .i64 a.lo, Value.int .i64 a.hi, Value.int .i64 a.m, Value.int .i64 a.r, Value.int .i64 a.k, Value.int .i64 b.lo, Value.int .i64 b.hi, Value.int .i64 b.m, Value.int .i64 b.r, Value.int .i64 b.k, Value.int .i64 k]) := hu 0 _ rfl
  clear hu
  have hM : Mk0 w w.heap.size w := ⟨Below.refl _ _, Nat.le_refl _⟩
  have hB : Bks w [] := trivial
  refine wp_seq ?_
  obtain ⟨m1, hM, hU, hwm⟩ := start_region hM.b hB
  refine region_run (F := prem_s_r0_1 a b k w m1) [1, 2] [0, 1] hz df (by kernel_rfl) (by kernel_rfl) (fun s hs0 => ⟨hM, hB, Vals.none s _, fun h => no_of' h, fun h => no_of' h, fun h => no_of' h, fun h => no_of' h, fun h => no_of' h, fun h => no_of' h, fun h => no_of' h⟩) ?_ ?_
  refine FSteps.op3 hz rfl (dv := []) (by kernel_rfl) (by kernel_rfl) (by kernel_rfl) (fun D s W bA kK hD hW hF hA hK => ?_) ?_
  · have x0 := hA.o 0 _ rfl u0
    have hF := Lib.hid hF
    clear hA
    go_simp
    exact hK.out _ _ ⟨hF.out.zb.al _, Bks.al _ hF.out.zq, hF.out.zt.skip rfl, fun _ => rfl, hF.out.v1, fun _ => Bk.new _ _ _, fun _ => hF.out.zb.g, fun h1 => (hF.out.k1_0 h1).al _, hF.out.g1, fun _ h => Nat.ne_of_gt ((hF.out.k1_0 h).lt)⟩
  refine FSteps.op3 hz rfl (dv := []) (by kernel_rfl) (by kernel_rfl) (by kernel_rfl) (fun D s W bA kK hD hW hF hA hK => ?_) ?_
  · have hF := Lib.hid hF
    clear hA
    go_simp
    exact hK.out _ _ ⟨hF.out.zb.al _, Bks.al _ hF.out.zq, hF.out.zt.skip rfl, hF.out.v0, fun _ => rfl, fun h1 => (hF.out.k0_0 h1).al _, hF.out.g0, fun _ => Bk.new _ _ _, fun _ => hF.out.zb.g, fun h _ => Nat.ne_of_lt ((hF.out.k0_0 h).lt)⟩
  exact FSteps.nil
  intro D s W aF1 hD hF hz' df' hA
  obtain ⟨d0, d1, -⟩ := hD
  clear u0
  have u1 : Sl aF1 1 _ := hA.i 1 _ rfl rfl (hF.v0 d0)
  have u2 : Sl aF1 2 _ := hA.i 2 _ rfl rfl (hF.v1 d1)
  have hkX0 := hF.k0_0 d0
  have hgX0 := hF.g0 d0
  have hkX1 := hF.k1_0 d1
  have hgX1 := hF.g1 d1
  have heX0_1 := hF.e0_1 d0 d1
  have hM := hF.zb
  have hB := hF.zq
  generalize pblk (s 1) = n1_0 at hkX0 hgX0 hkX1 hgX1 heX0_1 u1 u2
  generalize pblk (s 2) = n1_1 at hkX0 hgX0 hkX1 hgX1 heX0_1 u1 u2
  have hB : Bks W [(n1_0, #[Value.int .i64 a.lo, Value.int .i64 a.hi, Value.int .i64 a.m, Value.int .i64 a.r, Value.int .i64 a.k, Value.int .i64 b.lo, Value.int .i64 b.hi, Value.int .i64 b.m, Value.int .i64 b.r, Value.int .i64 b.k, Value.int .i64 k], 72), (n1_1, #[Value.int .i64 0, Value.int .i64 0, Value.int .i64 0, Value.int .i64 0, Value.int .i64 0], 27)] := ⟨hkX0, hkX1, trivial⟩
  have hw_n1_1 : w.heap.size ≤ n1_1 := Nat.le_trans hwm hgX1
  clear hF hA hz df d0 d1 hU
  have hz := hz'; have df := df'; clear hz' df'
  clear aF
  show Code.wp _ _ _ _ _
  refine wp_seq ?_
  obtain ⟨m2, hM, hU, hwm⟩ := start_region hM.b hB
  refine region_go (F := prem_s_r1_2 a b k n1_0 n1_1 w m2) [5, 6, 7, 8, 9, 10, 3, 4] [0, 1, 2, 3, 4, 5, 6, 7, 8] hz df (by kernel_rfl) (by kernel_rfl) (by kernel_rfl) (fun s hs0 => ⟨hM.drew, Bks.drew hB, Vals.none s _, fun h => no_of' h, fun h => no_of' h, fun h => no_of' h, fun h => no_of' h, fun h => no_of' h⟩) ?_ ?_
  refine FSteps.op3 hz rfl (dv := []) (by kernel_rfl) (by kernel_rfl) (by kernel_rfl) (fun D s W bA kK hD hW hF hA hK => ?_) ?_
  · have x1 := hA.o 1 _ rfl u1
    have hF := Lib.hid hF
    clear hA
    go_simp
    exact hK.out _ _ ⟨hF.out.zb, hF.out.zq, hF.out.zt.step rfl rfl, hF.out.v6, hF.out.k6_0, hF.out.k6_1, hF.out.c6_1, hF.out.g6⟩
  refine FSteps.op3 hz rfl (dv := [0]) (by kernel_rfl) (by kernel_rfl) (by kernel_rfl) (fun D s W bA kK hD hW hF hA hK => ?_) ?_
  · have x5 := hA.i 5 _ rfl rfl (hF.zt.get (j := 0) rfl hW.1)
    obtain ⟨⟨c0, z0⟩, -, -⟩ := hF.zq.rules
    have hF := Lib.hid hF
    clear hA
    go_simp
    exact hK.out _ _ ⟨hF.out.zb, hF.out.zq, hF.out.zt.step rfl rfl, hF.out.v6, hF.out.k6_0, hF.out.k6_1, hF.out.c6_1, hF.out.g6⟩
  refine FSteps.op3 hz rfl (dv := []) (by kernel_rfl) (by kernel_rfl) (by kernel_rfl) (fun D s W bA kK hD hW hF hA hK => ?_) ?_
  · have x1 := hA.o 1 _ rfl u1
    have hF := Lib.hid hF
    clear hA
    go_simp
    exact hK.out _ _ ⟨hF.out.zb, hF.out.zq, hF.out.zt.step rfl rfl, hF.out.v6, hF.out.k6_0, hF.out.k6_1, hF.out.c6_1, hF.out.g6⟩
  refine FSteps.op3 hz rfl (dv := [2]) (by kernel_rfl) (by kernel_rfl) (by kernel_rfl) (fun D s W bA kK hD hW hF hA hK => ?_) ?_
  · have x7 := hA.i 7 _ rfl rfl (hF.zt.get (j := 2) rfl hW.1)
    have hF := Lib.hid hF
    clear hA
    go_simp
    exact hK.out _ _ ⟨hF.out.zb, hF.out.zq, hF.out.zt.step rfl rfl, hF.out.v6, hF.out.k6_0, hF.out.k6_1, hF.out.c6_1, hF.out.g6⟩
  refine FSteps.op3 hz rfl (dv := [3]) (by kernel_rfl) (by kernel_rfl) (by kernel_rfl) (fun D s W bA kK hD hW hF hA hK => ?_) ?_
  · have x8 := hA.i 8 _ rfl rfl (hF.zt.get (j := 3) rfl hW.1)
    obtain ⟨⟨c0, z0⟩, -, -⟩ := hF.zq.rules
    have hF := Lib.hid hF
    clear hA
    go_simp
    exact hK.out _ _ ⟨hF.out.zb, hF.out.zq, hF.out.zt.step rfl rfl, hF.out.v6, hF.out.k6_0, hF.out.k6_1, hF.out.c6_1, hF.out.g6⟩
  refine FSteps.op3 hz rfl (dv := [4]) (by kernel_rfl) (by kernel_rfl) (by kernel_rfl) (fun D s W bA kK hD hW hF hA hK => ?_) ?_
  · have x9 := hA.i 9 _ rfl rfl (hF.zt.get (j := 4) rfl hW.1)
    have hF := Lib.hid hF
    clear hA
    go_simp
    (go_at_call 50; ((with_reducible_and_instances refine (abs_b _ (by omega) _).mono ?_)); rintro e W1 ⟨rfl, hb⟩; (try unfold abVal))
    (try go_wp2_with fail)
    exact hK.out _ _ ⟨hF.out.zb.on hb, Bks.on hb hF.out.zq, hF.out.zt.step rfl rfl, hF.out.v6, fun h1 h2 => (hF.out.k6_0 h1 h2).on hb, fun h1 => (hF.out.k6_1 h1).on hb, hF.out.c6_1, hF.out.g6⟩
  refine FSteps.op3 hz rfl (dv := []) (by kernel_rfl) (by kernel_rfl) (by kernel_rfl) (fun D s W bA kK hD hW hF hA hK => ?_) ?_
  · have hF := Lib.hid hF
    clear hA
    go_simp
    exact hK.out _ _ ⟨hF.out.zb.al _, Bks.al _ hF.out.zq, hF.out.zt.skip rfl, fun _ => rfl, fun _ _ => Bk.new _ _ _, fun h1 => absurd (hF.out.c6_1 h1) (by rw [hD]; decide), fun _ => rfl, fun _ => hF.out.zb.g⟩
  refine FSteps.op3 hz rfl (dv := [6, 1, 5, 0, 1, 6]) (by kernel_rfl) (by kernel_rfl) (by kernel_rfl) (fun D s W bA kK hD hW hF hA hK => ?_) ?_
  · have x3 := hA.i 3 _ rfl rfl (hF.v6 hW.1)
    have x6 := hA.i 6 _ rfl rfl (hF.zt.get (j := 1) rfl hW.2.1)
    have kk := hF.k6_0 hW.1 hD
    have hge := Nat.le_trans hwm (hF.g6 hW.1); have hge2 := hF.g6 hW.1
    have kc := kk.cell; have kf := kk.free
    have hF := Lib.hid hF
    have kk := Lib.hid kk; have hge := Lib.hid hge; have hge2 := Lib.hid hge2
    clear hA
    go_simp
    exact hK.out undef _ ⟨hF.out.zb.sAll (hge.out) 0 [Value.int .i64 a.lo, Value.int .i64 a.hi, Value.int .i64 a.m, Value.int .i64 a.r, Value.int .i64 a.k], Bks.oAll [Value.int .i64 a.lo, Value.int .i64 a.hi, Value.int .i64 a.m, Value.int .i64 a.r, Value.int .i64 a.k] 0 (Under.outside hge2.out hU) hF.out.zq, hF.out.zt.skip rfl, hF.out.v6, fun h1 h2 => no_of h2, fun _ => kk.out.full [Value.int .i64 a.lo, Value.int .i64 a.hi, Value.int .i64 a.m, Value.int .i64 a.r, Value.int .i64 a.k] rfl, fun _ => hW.1, hF.out.g6⟩
  refine FSteps.op3 hz rfl (dv := [5, 7, 0, 1, 2, 3, 4, 5, 6, 7]) (by kernel_rfl) (by kernel_rfl) (by kernel_rfl) (fun D s W bA kK hD hW hF hA hK => ?_) ?_
  · have x10 := hA.i 10 _ rfl rfl (hF.zt.get (j := 5) rfl hW.1)
    have hF := Lib.hid hF
    clear hA
    go_simp
    exact hK.out _ _ ⟨hF.out.zb, hF.out.zq, hF.out.zt.step rfl rfl, hF.out.v6, hF.out.k6_0, hF.out.k6_1, hF.out.c6_1, hF.out.g6⟩
  exact FSteps.nil
  intro D s W aF2 hD hF hz' df' hA
  obtain ⟨d0, d1, d2, d3, d4, d5, d6, d7, d8, -⟩ := hD
  replace u1 : Sl aF2 1 _ := hA.o 1 _ rfl u1
  replace u2 : Sl aF2 2 _ := hA.o 2 _ rfl u2
  have u3 : Sl aF2 3 _ := hA.i 3 _ rfl rfl (hF.v6 d6)
  have u4 : Sl aF2 4 _ := hA.i 4 _ rfl rfl (hF.zt.get (j := 8) rfl d8)
  have hkX6 := hF.k6_1 d7
  have hgX6 := hF.g6 d6
  have hM := hF.zb
  have hB := hF.zq
  generalize pblk (s 3) = n2_6 at hkX6 hgX6 u3 u4
  have hB : Bks W [(n1_0, #[Value.int .i64 a.lo, Value.int .i64 a.hi, Value.int .i64 a.m, Value.int .i64 a.r, Value.int .i64 a.k, Value.int .i64 b.lo, Value.int .i64 b.hi, Value.int .i64 b.m, Value.int .i64 b.r, Value.int .i64 b.k, Value.int .i64 k], 72), (n1_1, #[Value.int .i64 0, Value.int .i64 0, Value.int .i64 0, Value.int .i64 0, Value.int .i64 0], 27), (n2_6, #[Value.int .i64 a.lo, Value.int .i64 a.hi, Value.int .i64 a.m, Value.int .i64 a.r, Value.int .i64 a.k], 27)] := ⟨hB.1, hB.2.1, hkX6, trivial⟩
  obtain ⟨hl_0, hl_1, -⟩ := hU
  have hne_n1_1_n2_6 : n1_1 ≠ n2_6 := by omega
  clear hF hA hz df d0 d1 d2 d3 d4 d5 d6 d7 d8 
  have hz := hz'; have df := df'; clear hz' df'
  clear aF1
  show Code.wp _ _ _ _ _
  refine wp_seq ?_
  refine wp_seq ?_
  obtain ⟨m3, hM, hU, hwm⟩ := start_region hM.b hB
  refine region_run (F := prem_s_r2_3 a b k n1_0 n1_1 n2_6 w m3) [11, 12, 13, 14] [0, 1, 2, 3] hz df (by kernel_rfl) (by kernel_rfl) (fun s hs0 => ⟨hM, hB, Vals.none s _⟩) ?_ ?_
  refine FSteps.op3 hz rfl (dv := []) (by kernel_rfl) (by kernel_rfl) (by kernel_rfl) (fun D s W bA kK hD hW hF hA hK => ?_) ?_
  · have x1 := hA.o 1 _ rfl u1
    have hF := Lib.hid hF
    clear hA
    go_simp
    exact hK.out _ _ ⟨hF.out.zb, hF.out.zq, hF.out.zt.step rfl rfl⟩
  refine FSteps.op3 hz rfl (dv := [0]) (by kernel_rfl) (by kernel_rfl) (by kernel_rfl) (fun D s W bA kK hD hW hF hA hK => ?_) ?_
  · have x11 := hA.i 11 _ rfl rfl (hF.zt.get (j := 0) rfl hW.1)
    obtain ⟨⟨c0, z0⟩, -, -, -⟩ := hF.zq.rules
    have hF := Lib.hid hF
    clear hA
    go_simp
    exact hK.out _ _ ⟨hF.out.zb, hF.out.zq, hF.out.zt.step rfl rfl⟩
  refine FSteps.op3 hz rfl (dv := [1]) (by kernel_rfl) (by kernel_rfl) (by kernel_rfl) (fun D s W bA kK hD hW hF hA hK => ?_) ?_
  · have x12 := hA.i 12 _ rfl rfl (hF.zt.get (j := 1) rfl hW.1)
    have hF := Lib.hid hF
    clear hA
    go_simp
    (go_at_call 44; ((with_reducible_and_instances refine (step_ab b _).mono ?_)); rintro e W1 ⟨rfl, hb⟩; (try unfold abVal))
    (try go_wp2_with fail)
    exact hK.out _ _ ⟨hF.out.zb.on hb, Bks.on hb hF.out.zq, hF.out.zt.step rfl rfl⟩
  refine FSteps.op3 hz rfl (dv := [2]) (by kernel_rfl) (by kernel_rfl) (by kernel_rfl) (fun D s W bA kK hD hW hF hA hK => ?_) ?_
  · have x13 := hA.i 13 _ rfl rfl (hF.zt.get (j := 2) rfl hW.1)
    have hF := Lib.hid hF
    clear hA
    have hd3 : ((stepS b) != 0) = true := bne_iff_ne.2 (by exact hs.out)
    go_simp
    exact hK.out _ _ ⟨hF.out.zb, hF.out.zq, hF.out.zt.step rfl rfl⟩
  exact FSteps.nil
  intro D s W aF3 hD hF hz' df' hA
  obtain ⟨d0, d1, d2, d3, -⟩ := hD
  replace u1 : Sl aF3 1 _ := hA.o 1 _ rfl u1
  replace u2 : Sl aF3 2 _ := hA.o 2 _ rfl u2
  replace u3 : Sl aF3 3 _ := hA.o 3 _ rfl u3
  replace u4 : Sl aF3 4 _ := hA.o 4 _ rfl u4
  have u14 : Sl aF3 14 _ := hA.i 14 _ rfl rfl (hF.zt.get (j := 3) rfl d3)
  have hM := hF.zb
  have hB := hF.zq
  have hB : Bks W [(n1_0, #[Value.int .i64 a.lo, Value.int .i64 a.hi, Value.int .i64 a.m, Value.int .i64 a.r, Value.int .i64 a.k, Value.int .i64 b.lo, Value.int .i64 b.hi, Value.int .i64 b.m, Value.int .i64 b.r, Value.int .i64 b.k, Value.int .i64 k], 72), (n1_1, #[Value.int .i64 0, Value.int .i64 0, Value.int .i64 0, Value.int .i64 0, Value.int .i64 0], 27), (n2_6, #[Value.int .i64 a.lo, Value.int .i64 a.hi, Value.int .i64 a.m, Value.int .i64 a.r, Value.int .i64 a.k], 27)] := ⟨hB.1, hB.2.1, hB.2.2.1, trivial⟩
  clear hF hA hz df d0 d1 d2 d3 hU
  have hz := hz'; have df := df'; clear hz' df'
  clear aF2
  show Code.wp _ _ _ _ _
  refine cond_t u14 ?_
  refine wp_seq ?_
  obtain ⟨m4, hM, hU, hwm⟩ := start_region hM.b hB
  obtain ⟨hk_0, hk_1, hk_2, -⟩ := hB
  obtain ⟨hl_0, hl_1, hl_2, -⟩ := hU
  have hB : Bks _ [(n1_0, #[Value.int .i64 a.lo, Value.int .i64 a.hi, Value.int .i64 a.m, Value.int .i64 a.r, Value.int .i64 a.k, Value.int .i64 b.lo, Value.int .i64 b.hi, Value.int .i64 b.m, Value.int .i64 b.r, Value.int .i64 b.k, Value.int .i64 k], 72), (n2_6, #[Value.int .i64 a.lo, Value.int .i64 a.hi, Value.int .i64 a.m, Value.int .i64 a.r, Value.int .i64 a.k], 27)] := ⟨hk_0, hk_2, trivial⟩
  have hU : Under m4 [(n1_0, #[Value.int .i64 a.lo, Value.int .i64 a.hi, Value.int .i64 a.m, Value.int .i64 a.r, Value.int .i64 a.k, Value.int .i64 b.lo, Value.int .i64 b.hi, Value.int .i64 b.m, Value.int .i64 b.r, Value.int .i64 b.k, Value.int .i64 k], 72), (n2_6, #[Value.int .i64 a.lo, Value.int .i64 a.hi, Value.int .i64 a.m, Value.int .i64 a.r, Value.int .i64 a.k], 27)] := ⟨hl_0, hl_2, trivial⟩
  refine region_run (F := prem_s_r3_4 a b k n1_0 n1_1 n2_6 w m4) [15, 16, 17, 18, 19, 20, 21, 22, 23] [0, 1, 2, 3, 4, 5, 6, 7, 8, 9] hz df (by kernel_rfl) (by kernel_rfl) (fun s hs0 => ⟨hM, hB, Vals.none s _, fun _ => hk_1, fun h => no_of' h⟩) ?_ ?_
  refine FSteps.op3 hz rfl (dv := []) (by kernel_rfl) (by kernel_rfl) (by kernel_rfl) (fun D s W bA kK hD hW hF hA hK => ?_) ?_
  · have x3 := hA.o 3 _ rfl u3
    have hF := Lib.hid hF
    clear hA
    go_simp
    exact hK.out _ _ ⟨hF.out.zb, hF.out.zq, hF.out.zt.step rfl rfl, hF.out.kL0_0, hF.out.kL0_1⟩
  refine FSteps.op3 hz rfl (dv := [0]) (by kernel_rfl) (by kernel_rfl) (by kernel_rfl) (fun D s W bA kK hD hW hF hA hK => ?_) ?_
  · have x15 := hA.i 15 _ rfl rfl (hF.zt.get (j := 0) rfl hW.1)
    obtain ⟨-, ⟨c1, z1⟩, -⟩ := hF.zq.rules
    have hF := Lib.hid hF
    clear hA
    go_simp
    exact hK.out _ _ ⟨hF.out.zb, hF.out.zq, hF.out.zt.step rfl rfl, hF.out.kL0_0, hF.out.kL0_1⟩
  refine FSteps.op3 hz rfl (dv := [1]) (by kernel_rfl) (by kernel_rfl) (by kernel_rfl) (fun D s W bA kK hD hW hF hA hK => ?_) ?_
  · have x16 := hA.i 16 _ rfl rfl (hF.zt.get (j := 1) rfl hW.1)
    have hF := Lib.hid hF
    clear hA
    have hm2_0 : (if 0 < a.lo then 0 else a.lo) = min a.lo 0 := min_is _ _
    go_simp
    exact hK.out _ _ ⟨hF.out.zb, hF.out.zq, hF.out.zt.step rfl rfl, hF.out.kL0_0, hF.out.kL0_1⟩
  refine FSteps.op3 hz rfl (dv := []) (by kernel_rfl) (by kernel_rfl) (by kernel_rfl) (fun D s W bA kK hD hW hF hA hK => ?_) ?_
  · have x3 := hA.o 3 _ rfl u3
    have hF := Lib.hid hF
    clear hA
    go_simp
    exact hK.out _ _ ⟨hF.out.zb, hF.out.zq, hF.out.zt.step rfl rfl, hF.out.kL0_0, hF.out.kL0_1⟩
  refine FSteps.op3 hz rfl (dv := [3]) (by kernel_rfl) (by kernel_rfl) (by kernel_rfl) (fun D s W bA kK hD hW hF hA hK => ?_) ?_
  · have x18 := hA.i 18 _ rfl rfl (hF.zt.get (j := 3) rfl hW.1)
    obtain ⟨-, ⟨c1, z1⟩, -⟩ := hF.zq.rules
    have hF := Lib.hid hF
    clear hA
    go_simp
    exact hK.out _ _ ⟨hF.out.zb, hF.out.zq, hF.out.zt.step rfl rfl, hF.out.kL0_0, hF.out.kL0_1⟩
  refine FSteps.op3 hz rfl (dv := [4]) (by kernel_rfl) (by kernel_rfl) (by kernel_rfl) (fun D s W bA kK hD hW hF hA hK => ?_) ?_
  · have x19 := hA.i 19 _ rfl rfl (hF.zt.get (j := 4) rfl hW.1)
    have hF := Lib.hid hF
    clear hA
    have hm5_0 : (if a.hi < 0 then 0 else a.hi) = max a.hi 0 := max_is _ _
    go_simp
    exact hK.out _ _ ⟨hF.out.zb, hF.out.zq, hF.out.zt.step rfl rfl, hF.out.kL0_0, hF.out.kL0_1⟩
  refine FSteps.op3 hz rfl (dv := []) (by kernel_rfl) (by kernel_rfl) (by kernel_rfl) (fun D s W bA kK hD hW hF hA hK => ?_) ?_
  · have x1 := hA.o 1 _ rfl u1
    have hF := Lib.hid hF
    clear hA
    go_simp
    exact hK.out _ _ ⟨hF.out.zb, hF.out.zq, hF.out.zt.step rfl rfl, hF.out.kL0_0, hF.out.kL0_1⟩
  refine FSteps.op3 hz rfl (dv := [6]) (by kernel_rfl) (by kernel_rfl) (by kernel_rfl) (fun D s W bA kK hD hW hF hA hK => ?_) ?_
  · have x21 := hA.i 21 _ rfl rfl (hF.zt.get (j := 6) rfl hW.1)
    obtain ⟨⟨c0, z0⟩, -, -⟩ := hF.zq.rules
    have hF := Lib.hid hF
    clear hA
    go_simp
    exact hK.out _ _ ⟨hF.out.zb, hF.out.zq, hF.out.zt.step rfl rfl, hF.out.kL0_0, hF.out.kL0_1⟩
  refine FSteps.op3 hz rfl (dv := [2, 5, 7]) (by kernel_rfl) (by kernel_rfl) (by kernel_rfl) (fun D s W bA kK hD hW hF hA hK => ?_) ?_
  · have x17 := hA.i 17 _ rfl rfl (hF.zt.get (j := 2) rfl hW.1)
    have x20 := hA.i 20 _ rfl rfl (hF.zt.get (j := 5) rfl hW.2.1)
    have x22 := hA.i 22 _ rfl rfl (hF.zt.get (j := 7) rfl hW.2.2.1)
    have hF := Lib.hid hF
    clear hA
    go_simp
    (go_at_call 46; ((with_reducible_and_instances refine (GY.out _).mono ?_)); rintro e W1 ⟨rfl, hb⟩; (try unfold abVal))
    (try go_wp2_with fail)
    exact hK.out _ _ ⟨hF.out.zb.on hb, Bks.on hb hF.out.zq, hF.out.zt.step rfl rfl, fun h2 => (hF.out.kL0_0 h2).on hb, fun h1 => (hF.out.kL0_1 h1).on hb⟩
  refine FSteps.op3 hz rfl (dv := [8, 8, 0, 1, 2, 3, 4, 5, 6, 7, 8]) (by kernel_rfl) (by kernel_rfl) (by kernel_rfl) (fun D s W bA kK hD hW hF hA hK => ?_) ?_
  · have x2 := hA.o 2 _ rfl u2
    have x23 := hA.i 23 _ rfl rfl (hF.zt.get (j := 8) rfl hW.1)
    have kk := hF.kL0_0 hD
    have kc := kk.cell; have kf := kk.free
    have hF := Lib.hid hF
    have kk := Lib.hid kk
    clear hA
    go_simp
    exact hK.out undef _ ⟨hF.out.zb.sAll (hw_n1_1) 0 [Value.int .i64 (byS (min a.lo 0) (max a.hi 0) 1 k).lo, Value.int .i64 (byS (min a.lo 0) (max a.hi 0) 1 k).hi, Value.int .i64 (byS (min a.lo 0) (max a.hi 0) 1 k).m, Value.int .i64 (byS (min a.lo 0) (max a.hi 0) 1 k).r, Value.int .i64 (byS (min a.lo 0) (max a.hi 0) 1 k).k], Bks.oAll [Value.int .i64 (byS (min a.lo 0) (max a.hi 0) 1 k).lo, Value.int .i64 (byS (min a.lo 0) (max a.hi 0) 1 k).hi, Value.int .i64 (byS (min a.lo 0) (max a.hi 0) 1 k).m, Value.int .i64 (byS (min a.lo 0) (max a.hi 0) 1 k).r, Value.int .i64 (byS (min a.lo 0) (max a.hi 0) 1 k).k] 0 (⟨(by omega), (by omega), trivial⟩) hF.out.zq, hF.out.zt.skip rfl, fun h2 => no_of h2, fun _ => kk.out.full [Value.int .i64 (byS (min a.lo 0) (max a.hi 0) 1 k).lo, Value.int .i64 (byS (min a.lo 0) (max a.hi 0) 1 k).hi, Value.int .i64 (byS (min a.lo 0) (max a.hi 0) 1 k).m, Value.int .i64 (byS (min a.lo 0) (max a.hi 0) 1 k).r, Value.int .i64 (byS (min a.lo 0) (max a.hi 0) 1 k).k] rfl⟩
  exact FSteps.nil
  intro D s W aF4 hD hF hz' df' hA
  obtain ⟨d0, d1, d2, d3, d4, d5, d6, d7, d8, d9, -⟩ := hD
  clear u14
  replace u1 : Sl aF4 1 _ := hA.o 1 _ rfl u1
  replace u2 : Sl aF4 2 _ := hA.o 2 _ rfl u2
  replace u3 : Sl aF4 3 _ := hA.o 3 _ rfl u3
  replace u4 : Sl aF4 4 _ := hA.o 4 _ rfl u4
  have hkXL0 := hF.kL0_1 d9
  have hM := hF.zb
  have hB := hF.zq
  have hB : Bks W [(n1_0, #[Value.int .i64 a.lo, Value.int .i64 a.hi, Value.int .i64 a.m, Value.int .i64 a.r, Value.int .i64 a.k, Value.int .i64 b.lo, Value.int .i64 b.hi, Value.int .i64 b.m, Value.int .i64 b.r, Value.int .i64 b.k, Value.int .i64 k], 72), (n2_6, #[Value.int .i64 a.lo, Value.int .i64 a.hi, Value.int .i64 a.m, Value.int .i64 a.r, Value.int .i64 a.k], 27), (n1_1, #[Value.int .i64 (byS (min a.lo 0) (max a.hi 0) 1 k).lo, Value.int .i64 (byS (min a.lo 0) (max a.hi 0) 1 k).hi, Value.int .i64 (byS (min a.lo 0) (max a.hi 0) 1 k).m, Value.int .i64 (byS (min a.lo 0) (max a.hi 0) 1 k).r, Value.int .i64 (byS (min a.lo 0) (max a.hi 0) 1 k).k], 27)] := ⟨hB.1, hB.2.1, hkXL0, trivial⟩
  clear hF hA hz df d0 d1 d2 d3 d4 d5 d6 d7 d8 d9 
  have hz := hz'; have df := df'; clear hz' df'
  clear aF3
  show Code.wp _ _ _ _ _
  refine wp_ret ?_
  refine then_ret ?_
  show bodyPost _ _ _ _ _ _
  have hB2 := hB.rules
  obtain ⟨⟨c0, z0⟩, ⟨c1, z1⟩, ⟨c2, z2⟩, -⟩ := hB2
  unfold Sl at u2
  refine end_go df (v := (Value.agg #[Value.int .i64 (byS (min a.lo 0) (max a.hi 0) 1 k).lo, Value.int .i64 (byS (min a.lo 0) (max a.hi 0) 1 k).hi, Value.int .i64 (byS (min a.lo 0) (max a.hi 0) 1 k).m, Value.int .i64 (byS (min a.lo 0) (max a.hi 0) 1 k).r, Value.int .i64 (byS (min a.lo 0) (max a.hi 0) 1 k).k])) (by simp [results, Try.results78, go_sem, u2, c2]) ⟨rfl, hM.b⟩

structure prem_z_r0_1 (a b : Ab) (k : Int) (w : World) (m1 : Nat) (D : Nat → Bool) (s : Nat → Value) (W : World) : Prop where
  zb : Mk0 w m1 W
  zq : Bks W []
  zt : Vals D s []
  v0 : D 0 = true → s 1 = (Value.pointer (some ⟨pblk (s 1), 0, none⟩))
  v1 : D 1 = true → s 2 = (Value.pointer (some ⟨pblk (s 2), 0, none⟩))
  k0_0 : D 0 = true → Bk W (pblk (s 1)) #[Value.int .i64 a.lo, Value.int .i64 a.hi, Value.int .i64 a.m, Value.int .i64 a.r, Value.int .i64 a.k, Value.int .i64 b.lo, Value.int .i64 b.hi, Value.int .i64 b.m, Value.int .i64 b.r, Value.int .i64 b.k, Value.int .i64 k] 72
  g0 : D 0 = true → m1 ≤ (pblk (s 1))
  k1_0 : D 1 = true → Bk W (pblk (s 2)) #[Value.int .i64 0, Value.int .i64 0, Value.int .i64 0, Value.int .i64 0, Value.int .i64 0] 27
  g1 : D 1 = true → m1 ≤ (pblk (s 2))
  e0_1 : D 0 = true → D 1 = true → pblk (s 1) ≠ pblk (s 2)

structure prem_z_r1_2 (a b : Ab) (k : Int) (n1_0 n1_1 : Nat) (w : World) (m2 : Nat) (D : Nat → Bool) (s : Nat → Value) (W : World) : Prop where
  zb : Mk0 w m2 W
  zq : Bks W [(n1_0, #[Value.int .i64 a.lo, Value.int .i64 a.hi, Value.int .i64 a.m, Value.int .i64 a.r, Value.int .i64 a.k, Value.int .i64 b.lo, Value.int .i64 b.hi, Value.int .i64 b.m, Value.int .i64 b.r, Value.int .i64 b.k, Value.int .i64 k], 72), (n1_1, #[Value.int .i64 0, Value.int .i64 0, Value.int .i64 0, Value.int .i64 0, Value.int .i64 0], 27)]
  zt : Vals D s [(0, 5, Value.pointer (some ⟨n1_0, 0, none⟩)), (1, 6, Value.agg #[Value.int .i64 a.lo, Value.int .i64 a.hi, Value.int .i64 a.m, Value.int .i64 a.r, Value.int .i64 a.k]), (2, 7, Value.pointer (some ⟨n1_0, 5, none⟩)), (3, 8, Value.pointer (some ⟨n1_0, 5, none⟩)), (4, 9, Value.int .i64 b.lo), (5, 10, Value.int .i64 (absS b.lo)), (8, 4, Value.int .i64 (absS b.lo))]
  v6 : D 6 = true → s 3 = (Value.pointer (some ⟨pblk (s 3), 0, none⟩))
  k6_0 : D 6 = true → D 7 = false → Bk W (pblk (s 3)) #[Value.int .i64 0, Value.int .i64 0, Value.int .i64 0, Value.int .i64 0, Value.int .i64 0] 27
  k6_1 : D 7 = true → Bk W (pblk (s 3)) #[Value.int .i64 a.lo, Value.int .i64 a.hi, Value.int .i64 a.m, Value.int .i64 a.r, Value.int .i64 a.k] 27
  c6_1 : D 7 = true → D 6 = true
  g6 : D 6 = true → m2 ≤ (pblk (s 3))

structure prem_z_r2_3 (a b : Ab) (k : Int) (n1_0 n1_1 n2_6 : Nat) (w : World) (m3 : Nat) (D : Nat → Bool) (s : Nat → Value) (W : World) : Prop where
  zb : Mk0 w m3 W
  zq : Bks W [(n1_0, #[Value.int .i64 a.lo, Value.int .i64 a.hi, Value.int .i64 a.m, Value.int .i64 a.r, Value.int .i64 a.k, Value.int .i64 b.lo, Value.int .i64 b.hi, Value.int .i64 b.m, Value.int .i64 b.r, Value.int .i64 b.k, Value.int .i64 k], 72), (n1_1, #[Value.int .i64 0, Value.int .i64 0, Value.int .i64 0, Value.int .i64 0, Value.int .i64 0], 27), (n2_6, #[Value.int .i64 a.lo, Value.int .i64 a.hi, Value.int .i64 a.m, Value.int .i64 a.r, Value.int .i64 a.k], 27)]
  zt : Vals D s [(0, 11, Value.pointer (some ⟨n1_0, 5, none⟩)), (1, 12, Value.agg #[Value.int .i64 b.lo, Value.int .i64 b.hi, Value.int .i64 b.m, Value.int .i64 b.r, Value.int .i64 b.k]), (2, 13, Value.int .i64 (stepS b)), (3, 14, Value.bool false)]

structure prem_z_r4_4 (a b : Ab) (k : Int) (n1_0 n1_1 n2_6 : Nat) (w : World) (m4 : Nat) (D : Nat → Bool) (s : Nat → Value) (W : World) : Prop where
  zb : Mk0 w m4 W
  zq : Bks W [(n1_0, #[Value.int .i64 a.lo, Value.int .i64 a.hi, Value.int .i64 a.m, Value.int .i64 a.r, Value.int .i64 a.k, Value.int .i64 b.lo, Value.int .i64 b.hi, Value.int .i64 b.m, Value.int .i64 b.r, Value.int .i64 b.k, Value.int .i64 k], 72), (n1_1, #[Value.int .i64 0, Value.int .i64 0, Value.int .i64 0, Value.int .i64 0, Value.int .i64 0], 27)]
  zt : Vals D s [(0, 24, Value.pointer (some ⟨n1_0, 10, none⟩)), (1, 25, Value.int .i64 k), (2, 26, Value.pointer (some ⟨n2_6, 4, none⟩))]
  kL0_0 : D 3 = false → Bk W n2_6 #[Value.int .i64 a.lo, Value.int .i64 a.hi, Value.int .i64 a.m, Value.int .i64 a.r, Value.int .i64 a.k] 27
  kL0_1 : D 3 = true → Bk W n2_6 #[Value.int .i64 a.lo, Value.int .i64 a.hi, Value.int .i64 a.m, Value.int .i64 a.r, Value.int .i64 k] 27

structure prem_z_r5_5 (a b : Ab) (k : Int) (n1_0 n1_1 n2_6 : Nat) (w : World) (m5 : Nat) (D : Nat → Bool) (s : Nat → Value) (W : World) : Prop where
  zb : Mk0 w m5 W
  zq : Bks W [(n1_0, #[Value.int .i64 a.lo, Value.int .i64 a.hi, Value.int .i64 a.m, Value.int .i64 a.r, Value.int .i64 a.k, Value.int .i64 b.lo, Value.int .i64 b.hi, Value.int .i64 b.m, Value.int .i64 b.r, Value.int .i64 b.k, Value.int .i64 k], 72), (n1_1, #[Value.int .i64 0, Value.int .i64 0, Value.int .i64 0, Value.int .i64 0, Value.int .i64 0], 27), (n2_6, #[Value.int .i64 a.lo, Value.int .i64 a.hi, Value.int .i64 a.m, Value.int .i64 a.r, Value.int .i64 k], 27)]
  zt : Vals D s [(0, 27, Value.int .i64 (absS b.lo)), (1, 28, Value.bool true), (2, 29, Value.bool true), (3, 30, undef), (4, 31, undef), (5, 32, undef), (6, 33, undef), (7, 34, undef), (8, 35, undef), (9, 36, undef), (10, 37, undef), (11, 38, undef), (12, 39, Value.bool true)]

structure prem_z_r6_6 (a b : Ab) (k : Int) (n1_0 n1_1 n2_6 : Nat) (w : World) (m6 : Nat) (D : Nat → Bool) (s : Nat → Value) (W : World) : Prop where
  zb : Mk0 w m6 W
  zq : Bks W [(n1_0, #[Value.int .i64 a.lo, Value.int .i64 a.hi, Value.int .i64 a.m, Value.int .i64 a.r, Value.int .i64 a.k, Value.int .i64 b.lo, Value.int .i64 b.hi, Value.int .i64 b.m, Value.int .i64 b.r, Value.int .i64 b.k, Value.int .i64 k], 72), (n2_6, #[Value.int .i64 a.lo, Value.int .i64 a.hi, Value.int .i64 a.m, Value.int .i64 a.r, Value.int .i64 k], 27)]
  zt : Vals D s [(0, 40, Value.agg #[Value.int .i64 a.lo, Value.int .i64 a.hi, Value.int .i64 a.m, Value.int .i64 a.r, Value.int .i64 k])]
  kL0_0 : D 1 = false → Bk W n1_1 #[Value.int .i64 0, Value.int .i64 0, Value.int .i64 0, Value.int .i64 0, Value.int .i64 0] 27
  kL0_1 : D 1 = true → Bk W n1_1 #[Value.int .i64 a.lo, Value.int .i64 a.hi, Value.int .i64 a.m, Value.int .i64 a.r, Value.int .i64 k] 27

set_option maxRecDepth 100000 in
set_option maxHeartbeats 4000000 in
theorem prem_z {a b : Ab} (k : Int) (w : World) (ha : Good a) (hb : Good b) (hs : stepS b = 0) (h5 : absS b.lo = 0) :
    Calls Try.prog 78 #[Value.agg #[Value.int .i64 a.lo, Value.int .i64 a.hi, Value.int .i64 a.m, Value.int .i64 a.r, Value.int .i64 a.k, Value.int .i64 b.lo, Value.int .i64 b.hi, Value.int .i64 b.m, Value.int .i64 b.r, Value.int .i64 b.k, Value.int .i64 k]] w fun e w' => e = .returned (Value.agg #[Value.int .i64 a.lo, Value.int .i64 a.hi, Value.int .i64 a.m, Value.int .i64 a.r, Value.int .i64 k]) ∧ Below w.heap.size w w' := by
  have a1 := ha.h1; have a2 := ha.h2; have a3 := ha.h3
  have b1 := hb.h1; have b2 := hb.h2; have b3 := hb.h3
  have sa := ha.step0; have sb := hb.step0
  have ab1 : 0 ≤ absS b.lo ∧ absS b.lo ≤ 2147483648 := by unfold absS; omega
  replace hs := Lib.hid hs
  replace h5 := Lib.hid h5
  refine calls_go Try.func78 rfl 63 rfl rfl (fun aF hz df hu => ?_)
  have u0 : Sl aF 0 (Value.agg #[Value.int .i64 a.lo, Value.int .i64 a.hi, Value.int .i64 a.m, Value.int .i64 a.r, Value.int .i64 a.k, Value.int .i64 b.lo, Value.int .i64 b.hi, Value.int .i64 b.m, Value.int .i64 b.r, Value.int .i64 b.k, Value.int .i64 k]) := hu 0 _ rfl
  clear hu
  have hM : Mk0 w w.heap.size w := ⟨Below.refl _ _, Nat.le_refl _⟩
  have hB : Bks w [] := trivial
  refine wp_seq ?_
  obtain ⟨m1, hM, hU, hwm⟩ := start_region hM.b hB
  refine region_run (F := prem_z_r0_1 a b k w m1) [1, 2] [0, 1] hz df (by kernel_rfl) (by kernel_rfl) (fun s hs0 => ⟨hM, hB, Vals.none s _, fun h => no_of' h, fun h => no_of' h, fun h => no_of' h, fun h => no_of' h, fun h => no_of' h, fun h => no_of' h, fun h => no_of' h⟩) ?_ ?_
  refine FSteps.op3 hz rfl (dv := []) (by kernel_rfl) (by kernel_rfl) (by kernel_rfl) (fun D s W bA kK hD hW hF hA hK => ?_) ?_
  · have x0 := hA.o 0 _ rfl u0
    have hF := Lib.hid hF
    clear hA
    go_simp
    exact hK.out _ _ ⟨hF.out.zb.al _, Bks.al _ hF.out.zq, hF.out.zt.skip rfl, fun _ => rfl, hF.out.v1, fun _ => Bk.new _ _ _, fun _ => hF.out.zb.g, fun h1 => (hF.out.k1_0 h1).al _, hF.out.g1, fun _ h => Nat.ne_of_gt ((hF.out.k1_0 h).lt)⟩
  refine FSteps.op3 hz rfl (dv := []) (by kernel_rfl) (by kernel_rfl) (by kernel_rfl) (fun D s W bA kK hD hW hF hA hK => ?_) ?_
  · have hF := Lib.hid hF
    clear hA
    go_simp
    exact hK.out _ _ ⟨hF.out.zb.al _, Bks.al _ hF.out.zq, hF.out.zt.skip rfl, hF.out.v0, fun _ => rfl, fun h1 => (hF.out.k0_0 h1).al _, hF.out.g0, fun _ => Bk.new _ _ _, fun _ => hF.out.zb.g, fun h _ => Nat.ne_of_lt ((hF.out.k0_0 h).lt)⟩
  exact FSteps.nil
  intro D s W aF1 hD hF hz' df' hA
  obtain ⟨d0, d1, -⟩ := hD
  clear u0
  have u1 : Sl aF1 1 _ := hA.i 1 _ rfl rfl (hF.v0 d0)
  have u2 : Sl aF1 2 _ := hA.i 2 _ rfl rfl (hF.v1 d1)
  have hkX0 := hF.k0_0 d0
  have hgX0 := hF.g0 d0
  have hkX1 := hF.k1_0 d1
  have hgX1 := hF.g1 d1
  have heX0_1 := hF.e0_1 d0 d1
  have hM := hF.zb
  have hB := hF.zq
  generalize pblk (s 1) = n1_0 at hkX0 hgX0 hkX1 hgX1 heX0_1 u1 u2
  generalize pblk (s 2) = n1_1 at hkX0 hgX0 hkX1 hgX1 heX0_1 u1 u2
  have hB : Bks W [(n1_0, #[Value.int .i64 a.lo, Value.int .i64 a.hi, Value.int .i64 a.m, Value.int .i64 a.r, Value.int .i64 a.k, Value.int .i64 b.lo, Value.int .i64 b.hi, Value.int .i64 b.m, Value.int .i64 b.r, Value.int .i64 b.k, Value.int .i64 k], 72), (n1_1, #[Value.int .i64 0, Value.int .i64 0, Value.int .i64 0, Value.int .i64 0, Value.int .i64 0], 27)] := ⟨hkX0, hkX1, trivial⟩
  have hw_n1_1 : w.heap.size ≤ n1_1 := Nat.le_trans hwm hgX1
  clear hF hA hz df d0 d1 hU
  have hz := hz'; have df := df'; clear hz' df'
  clear aF
  show Code.wp _ _ _ _ _
  refine wp_seq ?_
  obtain ⟨m2, hM, hU, hwm⟩ := start_region hM.b hB
  refine region_go (F := prem_z_r1_2 a b k n1_0 n1_1 w m2) [5, 6, 7, 8, 9, 10, 3, 4] [0, 1, 2, 3, 4, 5, 6, 7, 8] hz df (by kernel_rfl) (by kernel_rfl) (by kernel_rfl) (fun s hs0 => ⟨hM.drew, Bks.drew hB, Vals.none s _, fun h => no_of' h, fun h => no_of' h, fun h => no_of' h, fun h => no_of' h, fun h => no_of' h⟩) ?_ ?_
  refine FSteps.op3 hz rfl (dv := []) (by kernel_rfl) (by kernel_rfl) (by kernel_rfl) (fun D s W bA kK hD hW hF hA hK => ?_) ?_
  · have x1 := hA.o 1 _ rfl u1
    have hF := Lib.hid hF
    clear hA
    go_simp
    exact hK.out _ _ ⟨hF.out.zb, hF.out.zq, hF.out.zt.step rfl rfl, hF.out.v6, hF.out.k6_0, hF.out.k6_1, hF.out.c6_1, hF.out.g6⟩
  refine FSteps.op3 hz rfl (dv := [0]) (by kernel_rfl) (by kernel_rfl) (by kernel_rfl) (fun D s W bA kK hD hW hF hA hK => ?_) ?_
  · have x5 := hA.i 5 _ rfl rfl (hF.zt.get (j := 0) rfl hW.1)
    obtain ⟨⟨c0, z0⟩, -, -⟩ := hF.zq.rules
    have hF := Lib.hid hF
    clear hA
    go_simp
    exact hK.out _ _ ⟨hF.out.zb, hF.out.zq, hF.out.zt.step rfl rfl, hF.out.v6, hF.out.k6_0, hF.out.k6_1, hF.out.c6_1, hF.out.g6⟩
  refine FSteps.op3 hz rfl (dv := []) (by kernel_rfl) (by kernel_rfl) (by kernel_rfl) (fun D s W bA kK hD hW hF hA hK => ?_) ?_
  · have x1 := hA.o 1 _ rfl u1
    have hF := Lib.hid hF
    clear hA
    go_simp
    exact hK.out _ _ ⟨hF.out.zb, hF.out.zq, hF.out.zt.step rfl rfl, hF.out.v6, hF.out.k6_0, hF.out.k6_1, hF.out.c6_1, hF.out.g6⟩
  refine FSteps.op3 hz rfl (dv := [2]) (by kernel_rfl) (by kernel_rfl) (by kernel_rfl) (fun D s W bA kK hD hW hF hA hK => ?_) ?_
  · have x7 := hA.i 7 _ rfl rfl (hF.zt.get (j := 2) rfl hW.1)
    have hF := Lib.hid hF
    clear hA
    go_simp
    exact hK.out _ _ ⟨hF.out.zb, hF.out.zq, hF.out.zt.step rfl rfl, hF.out.v6, hF.out.k6_0, hF.out.k6_1, hF.out.c6_1, hF.out.g6⟩
  refine FSteps.op3 hz rfl (dv := [3]) (by kernel_rfl) (by kernel_rfl) (by kernel_rfl) (fun D s W bA kK hD hW hF hA hK => ?_) ?_
  · have x8 := hA.i 8 _ rfl rfl (hF.zt.get (j := 3) rfl hW.1)
    obtain ⟨⟨c0, z0⟩, -, -⟩ := hF.zq.rules
    have hF := Lib.hid hF
    clear hA
    go_simp
    exact hK.out _ _ ⟨hF.out.zb, hF.out.zq, hF.out.zt.step rfl rfl, hF.out.v6, hF.out.k6_0, hF.out.k6_1, hF.out.c6_1, hF.out.g6⟩
  refine FSteps.op3 hz rfl (dv := [4]) (by kernel_rfl) (by kernel_rfl) (by kernel_rfl) (fun D s W bA kK hD hW hF hA hK => ?_) ?_
  · have x9 := hA.i 9 _ rfl rfl (hF.zt.get (j := 4) rfl hW.1)
    have hF := Lib.hid hF
    clear hA
    go_simp
    (go_at_call 50; ((with_reducible_and_instances refine (abs_b _ (by omega) _).mono ?_)); rintro e W1 ⟨rfl, hb⟩; (try unfold abVal))
    (try go_wp2_with fail)
    exact hK.out _ _ ⟨hF.out.zb.on hb, Bks.on hb hF.out.zq, hF.out.zt.step rfl rfl, hF.out.v6, fun h1 h2 => (hF.out.k6_0 h1 h2).on hb, fun h1 => (hF.out.k6_1 h1).on hb, hF.out.c6_1, hF.out.g6⟩
  refine FSteps.op3 hz rfl (dv := []) (by kernel_rfl) (by kernel_rfl) (by kernel_rfl) (fun D s W bA kK hD hW hF hA hK => ?_) ?_
  · have hF := Lib.hid hF
    clear hA
    go_simp
    exact hK.out _ _ ⟨hF.out.zb.al _, Bks.al _ hF.out.zq, hF.out.zt.skip rfl, fun _ => rfl, fun _ _ => Bk.new _ _ _, fun h1 => absurd (hF.out.c6_1 h1) (by rw [hD]; decide), fun _ => rfl, fun _ => hF.out.zb.g⟩
  refine FSteps.op3 hz rfl (dv := [6, 1, 5, 0, 1, 6]) (by kernel_rfl) (by kernel_rfl) (by kernel_rfl) (fun D s W bA kK hD hW hF hA hK => ?_) ?_
  · have x3 := hA.i 3 _ rfl rfl (hF.v6 hW.1)
    have x6 := hA.i 6 _ rfl rfl (hF.zt.get (j := 1) rfl hW.2.1)
    have kk := hF.k6_0 hW.1 hD
    have hge := Nat.le_trans hwm (hF.g6 hW.1); have hge2 := hF.g6 hW.1
    have kc := kk.cell; have kf := kk.free
    have hF := Lib.hid hF
    have kk := Lib.hid kk; have hge := Lib.hid hge; have hge2 := Lib.hid hge2
    clear hA
    go_simp
    exact hK.out undef _ ⟨hF.out.zb.sAll (hge.out) 0 [Value.int .i64 a.lo, Value.int .i64 a.hi, Value.int .i64 a.m, Value.int .i64 a.r, Value.int .i64 a.k], Bks.oAll [Value.int .i64 a.lo, Value.int .i64 a.hi, Value.int .i64 a.m, Value.int .i64 a.r, Value.int .i64 a.k] 0 (Under.outside hge2.out hU) hF.out.zq, hF.out.zt.skip rfl, hF.out.v6, fun h1 h2 => no_of h2, fun _ => kk.out.full [Value.int .i64 a.lo, Value.int .i64 a.hi, Value.int .i64 a.m, Value.int .i64 a.r, Value.int .i64 a.k] rfl, fun _ => hW.1, hF.out.g6⟩
  refine FSteps.op3 hz rfl (dv := [5, 7, 0, 1, 2, 3, 4, 5, 6, 7]) (by kernel_rfl) (by kernel_rfl) (by kernel_rfl) (fun D s W bA kK hD hW hF hA hK => ?_) ?_
  · have x10 := hA.i 10 _ rfl rfl (hF.zt.get (j := 5) rfl hW.1)
    have hF := Lib.hid hF
    clear hA
    go_simp
    exact hK.out _ _ ⟨hF.out.zb, hF.out.zq, hF.out.zt.step rfl rfl, hF.out.v6, hF.out.k6_0, hF.out.k6_1, hF.out.c6_1, hF.out.g6⟩
  exact FSteps.nil
  intro D s W aF2 hD hF hz' df' hA
  obtain ⟨d0, d1, d2, d3, d4, d5, d6, d7, d8, -⟩ := hD
  replace u1 : Sl aF2 1 _ := hA.o 1 _ rfl u1
  replace u2 : Sl aF2 2 _ := hA.o 2 _ rfl u2
  have u3 : Sl aF2 3 _ := hA.i 3 _ rfl rfl (hF.v6 d6)
  have u4 : Sl aF2 4 _ := hA.i 4 _ rfl rfl (hF.zt.get (j := 8) rfl d8)
  have hkX6 := hF.k6_1 d7
  have hgX6 := hF.g6 d6
  have hM := hF.zb
  have hB := hF.zq
  generalize pblk (s 3) = n2_6 at hkX6 hgX6 u3 u4
  have hB : Bks W [(n1_0, #[Value.int .i64 a.lo, Value.int .i64 a.hi, Value.int .i64 a.m, Value.int .i64 a.r, Value.int .i64 a.k, Value.int .i64 b.lo, Value.int .i64 b.hi, Value.int .i64 b.m, Value.int .i64 b.r, Value.int .i64 b.k, Value.int .i64 k], 72), (n1_1, #[Value.int .i64 0, Value.int .i64 0, Value.int .i64 0, Value.int .i64 0, Value.int .i64 0], 27), (n2_6, #[Value.int .i64 a.lo, Value.int .i64 a.hi, Value.int .i64 a.m, Value.int .i64 a.r, Value.int .i64 a.k], 27)] := ⟨hB.1, hB.2.1, hkX6, trivial⟩
  have hw_n2_6 : w.heap.size ≤ n2_6 := Nat.le_trans hwm hgX6
  obtain ⟨hl_0, hl_1, -⟩ := hU
  have hne_n1_0_n2_6 : n1_0 ≠ n2_6 := by omega
  have hne_n1_1_n2_6 : n1_1 ≠ n2_6 := by omega
  clear hF hA hz df d0 d1 d2 d3 d4 d5 d6 d7 d8 
  have hz := hz'; have df := df'; clear hz' df'
  clear aF1
  show Code.wp _ _ _ _ _
  refine wp_seq ?_
  refine wp_seq ?_
  obtain ⟨m3, hM, hU, hwm⟩ := start_region hM.b hB
  refine region_run (F := prem_z_r2_3 a b k n1_0 n1_1 n2_6 w m3) [11, 12, 13, 14] [0, 1, 2, 3] hz df (by kernel_rfl) (by kernel_rfl) (fun s hs0 => ⟨hM, hB, Vals.none s _⟩) ?_ ?_
  refine FSteps.op3 hz rfl (dv := []) (by kernel_rfl) (by kernel_rfl) (by kernel_rfl) (fun D s W bA kK hD hW hF hA hK => ?_) ?_
  · have x1 := hA.o 1 _ rfl u1
    have hF := Lib.hid hF
    clear hA
    go_simp
    exact hK.out _ _ ⟨hF.out.zb, hF.out.zq, hF.out.zt.step rfl rfl⟩
  refine FSteps.op3 hz rfl (dv := [0]) (by kernel_rfl) (by kernel_rfl) (by kernel_rfl) (fun D s W bA kK hD hW hF hA hK => ?_) ?_
  · have x11 := hA.i 11 _ rfl rfl (hF.zt.get (j := 0) rfl hW.1)
    obtain ⟨⟨c0, z0⟩, -, -, -⟩ := hF.zq.rules
    have hF := Lib.hid hF
    clear hA
    go_simp
    exact hK.out _ _ ⟨hF.out.zb, hF.out.zq, hF.out.zt.step rfl rfl⟩
  refine FSteps.op3 hz rfl (dv := [1]) (by kernel_rfl) (by kernel_rfl) (by kernel_rfl) (fun D s W bA kK hD hW hF hA hK => ?_) ?_
  · have x12 := hA.i 12 _ rfl rfl (hF.zt.get (j := 1) rfl hW.1)
    have hF := Lib.hid hF
    clear hA
    go_simp
    (go_at_call 44; ((with_reducible_and_instances refine (step_ab b _).mono ?_)); rintro e W1 ⟨rfl, hb⟩; (try unfold abVal))
    (try go_wp2_with fail)
    exact hK.out _ _ ⟨hF.out.zb.on hb, Bks.on hb hF.out.zq, hF.out.zt.step rfl rfl⟩
  refine FSteps.op3 hz rfl (dv := [2]) (by kernel_rfl) (by kernel_rfl) (by kernel_rfl) (fun D s W bA kK hD hW hF hA hK => ?_) ?_
  · have x13 := hA.i 13 _ rfl rfl (hF.zt.get (j := 2) rfl hW.1)
    have hF := Lib.hid hF
    clear hA
    have hd3 : ((stepS b) != 0) = false := (by rw [bne_eq_false_iff_eq]; exact hs.out)
    go_simp
    exact hK.out _ _ ⟨hF.out.zb, hF.out.zq, hF.out.zt.step rfl rfl⟩
  exact FSteps.nil
  intro D s W aF3 hD hF hz' df' hA
  obtain ⟨d0, d1, d2, d3, -⟩ := hD
  replace u1 : Sl aF3 1 _ := hA.o 1 _ rfl u1
  replace u2 : Sl aF3 2 _ := hA.o 2 _ rfl u2
  replace u3 : Sl aF3 3 _ := hA.o 3 _ rfl u3
  replace u4 : Sl aF3 4 _ := hA.o 4 _ rfl u4
  have u14 : Sl aF3 14 _ := hA.i 14 _ rfl rfl (hF.zt.get (j := 3) rfl d3)
  have hM := hF.zb
  have hB := hF.zq
  have hB : Bks W [(n1_0, #[Value.int .i64 a.lo, Value.int .i64 a.hi, Value.int .i64 a.m, Value.int .i64 a.r, Value.int .i64 a.k, Value.int .i64 b.lo, Value.int .i64 b.hi, Value.int .i64 b.m, Value.int .i64 b.r, Value.int .i64 b.k, Value.int .i64 k], 72), (n1_1, #[Value.int .i64 0, Value.int .i64 0, Value.int .i64 0, Value.int .i64 0, Value.int .i64 0], 27), (n2_6, #[Value.int .i64 a.lo, Value.int .i64 a.hi, Value.int .i64 a.m, Value.int .i64 a.r, Value.int .i64 a.k], 27)] := ⟨hB.1, hB.2.1, hB.2.2.1, trivial⟩
  clear hF hA hz df d0 d1 d2 d3 hU
  have hz := hz'; have df := df'; clear hz' df'
  clear aF2
  show Code.wp _ _ _ _ _
  refine cond_f u14 ?_
  refine wp_skip ?_
  show Code.wp _ _ _ _ _
  refine wp_seq ?_
  obtain ⟨m4, hM, hU, hwm⟩ := start_region hM.b hB
  obtain ⟨hk_0, hk_1, hk_2, -⟩ := hB
  obtain ⟨hl_0, hl_1, hl_2, -⟩ := hU
  have hB : Bks _ [(n1_0, #[Value.int .i64 a.lo, Value.int .i64 a.hi, Value.int .i64 a.m, Value.int .i64 a.r, Value.int .i64 a.k, Value.int .i64 b.lo, Value.int .i64 b.hi, Value.int .i64 b.m, Value.int .i64 b.r, Value.int .i64 b.k, Value.int .i64 k], 72), (n1_1, #[Value.int .i64 0, Value.int .i64 0, Value.int .i64 0, Value.int .i64 0, Value.int .i64 0], 27)] := ⟨hk_0, hk_1, trivial⟩
  have hU : Under m4 [(n1_0, #[Value.int .i64 a.lo, Value.int .i64 a.hi, Value.int .i64 a.m, Value.int .i64 a.r, Value.int .i64 a.k, Value.int .i64 b.lo, Value.int .i64 b.hi, Value.int .i64 b.m, Value.int .i64 b.r, Value.int .i64 b.k, Value.int .i64 k], 72), (n1_1, #[Value.int .i64 0, Value.int .i64 0, Value.int .i64 0, Value.int .i64 0, Value.int .i64 0], 27)] := ⟨hl_0, hl_1, trivial⟩
  refine region_run (F := prem_z_r4_4 a b k n1_0 n1_1 n2_6 w m4) [24, 25, 26] [0, 1, 2, 3] hz df (by kernel_rfl) (by kernel_rfl) (fun s hs0 => ⟨hM, hB, Vals.none s _, fun _ => hk_2, fun h => no_of' h⟩) ?_ ?_
  refine FSteps.op3 hz rfl (dv := []) (by kernel_rfl) (by kernel_rfl) (by kernel_rfl) (fun D s W bA kK hD hW hF hA hK => ?_) ?_
  · have x1 := hA.o 1 _ rfl u1
    have hF := Lib.hid hF
    clear hA
    go_simp
    exact hK.out _ _ ⟨hF.out.zb, hF.out.zq, hF.out.zt.step rfl rfl, hF.out.kL0_0, hF.out.kL0_1⟩
  refine FSteps.op3 hz rfl (dv := [0]) (by kernel_rfl) (by kernel_rfl) (by kernel_rfl) (fun D s W bA kK hD hW hF hA hK => ?_) ?_
  · have x24 := hA.i 24 _ rfl rfl (hF.zt.get (j := 0) rfl hW.1)
    obtain ⟨⟨c0, z0⟩, -, -⟩ := hF.zq.rules
    have hF := Lib.hid hF
    clear hA
    go_simp
    exact hK.out _ _ ⟨hF.out.zb, hF.out.zq, hF.out.zt.step rfl rfl, hF.out.kL0_0, hF.out.kL0_1⟩
  refine FSteps.op3 hz rfl (dv := [0, 1]) (by kernel_rfl) (by kernel_rfl) (by kernel_rfl) (fun D s W bA kK hD hW hF hA hK => ?_) ?_
  · have x3 := hA.o 3 _ rfl u3
    have hF := Lib.hid hF
    clear hA
    go_simp
    exact hK.out _ _ ⟨hF.out.zb, hF.out.zq, hF.out.zt.step rfl rfl, hF.out.kL0_0, hF.out.kL0_1⟩
  refine FSteps.op3 hz rfl (dv := [2, 1, 0, 1]) (by kernel_rfl) (by kernel_rfl) (by kernel_rfl) (fun D s W bA kK hD hW hF hA hK => ?_) ?_
  · have x26 := hA.i 26 _ rfl rfl (hF.zt.get (j := 2) rfl hW.1)
    have x25 := hA.i 25 _ rfl rfl (hF.zt.get (j := 1) rfl hW.2.1)
    have kk := hF.kL0_0 hD
    have kc := kk.cell; have kf := kk.free
    have hF := Lib.hid hF
    have kk := Lib.hid kk
    clear hA
    go_simp
    exact hK.out undef _ ⟨hF.out.zb.sAll (hw_n2_6) 4 [Value.int .i64 k], Bks.oAll [Value.int .i64 k] 4 (⟨(by omega), (by omega), trivial⟩) hF.out.zq, hF.out.zt.skip rfl, fun h2 => no_of h2, fun _ => kk.out.sAll [Value.int .i64 k] 4⟩
  exact FSteps.nil
  intro D s W aF4 hD hF hz' df' hA
  obtain ⟨d0, d1, d2, d3, -⟩ := hD
  clear u14
  replace u1 : Sl aF4 1 _ := hA.o 1 _ rfl u1
  replace u2 : Sl aF4 2 _ := hA.o 2 _ rfl u2
  replace u3 : Sl aF4 3 _ := hA.o 3 _ rfl u3
  replace u4 : Sl aF4 4 _ := hA.o 4 _ rfl u4
  have hkXL0 := hF.kL0_1 d3
  have hM := hF.zb
  have hB := hF.zq
  have hB : Bks W [(n1_0, #[Value.int .i64 a.lo, Value.int .i64 a.hi, Value.int .i64 a.m, Value.int .i64 a.r, Value.int .i64 a.k, Value.int .i64 b.lo, Value.int .i64 b.hi, Value.int .i64 b.m, Value.int .i64 b.r, Value.int .i64 b.k, Value.int .i64 k], 72), (n1_1, #[Value.int .i64 0, Value.int .i64 0, Value.int .i64 0, Value.int .i64 0, Value.int .i64 0], 27), (n2_6, #[Value.int .i64 a.lo, Value.int .i64 a.hi, Value.int .i64 a.m, Value.int .i64 a.r, Value.int .i64 k], 27)] := ⟨hB.1, hB.2.1, hkXL0, trivial⟩
  clear hF hA hz df d0 d1 d2 d3 
  have hz := hz'; have df := df'; clear hz' df'
  clear aF3
  show Code.wp _ _ _ _ _
  refine wp_seq ?_
  refine wp_seq ?_
  obtain ⟨m5, hM, hU, hwm⟩ := start_region hM.b hB
  refine region_run (F := prem_z_r5_5 a b k n1_0 n1_1 n2_6 w m5) [27, 28, 29, 30, 31, 32, 33, 34, 35, 36, 37, 38, 39] [0, 1, 2, 3, 4, 5, 6, 7, 8, 9, 10, 11, 12] hz df (by kernel_rfl) (by kernel_rfl) (fun s hs0 => ⟨hM, hB, Vals.none s _⟩) ?_ ?_
  refine FSteps.op3 hz rfl (dv := []) (by kernel_rfl) (by kernel_rfl) (by kernel_rfl) (fun D s W bA kK hD hW hF hA hK => ?_) ?_
  · have x4 := hA.o 4 _ rfl u4
    have hF := Lib.hid hF
    clear hA
    go_simp
    exact hK.out _ _ ⟨hF.out.zb, hF.out.zq, hF.out.zt.step rfl rfl⟩
  refine FSteps.op3 hz rfl (dv := [0]) (by kernel_rfl) (by kernel_rfl) (by kernel_rfl) (fun D s W bA kK hD hW hF hA hK => ?_) ?_
  · have x27 := hA.i 27 _ rfl rfl (hF.zt.get (j := 0) rfl hW.1)
    have hF := Lib.hid hF
    clear hA
    have hd1 : ((absS b.lo) == 0) = true := beq_iff_eq.2 (by exact h5.out)
    go_simp
    exact hK.out _ _ ⟨hF.out.zb, hF.out.zq, hF.out.zt.step rfl rfl⟩
  refine FSteps.op3 hz rfl (dv := [1]) (by kernel_rfl) (by kernel_rfl) (by kernel_rfl) (fun D s W bA kK hD hW hF hA hK => ?_) ?_
  · have x28 := hA.i 28 _ rfl rfl (hF.zt.get (j := 1) rfl hW.1)
    have hF := Lib.hid hF
    clear hA
    go_simp
    exact hK.out _ _ ⟨hF.out.zb, hF.out.zq, hF.out.zt.step rfl rfl⟩
  refine FSteps.no3 (bv := false) hz rfl (dv := [2]) (by kernel_rfl) rfl (by kernel_rfl) (by kernel_rfl) (fun D s W hW hF => (hF.zt.get (j := 2) rfl hW.1)) (by kernel_rfl) (by kernel_rfl) (fun D s W hD hF => ⟨hF.zb, hF.zq, hF.zt.step rfl rfl⟩) ?_
  refine FSteps.no3 (bv := false) hz rfl (dv := [3, 2]) (by kernel_rfl) rfl (by kernel_rfl) (by kernel_rfl) (fun D s W hW hF => (hF.zt.get (j := 2) rfl hW.2.1)) (by kernel_rfl) (by kernel_rfl) (fun D s W hD hF => ⟨hF.zb, hF.zq, hF.zt.step rfl rfl⟩) ?_
  refine FSteps.no3 (bv := false) hz rfl (dv := [4, 2]) (by kernel_rfl) rfl (by kernel_rfl) (by kernel_rfl) (fun D s W hW hF => (hF.zt.get (j := 2) rfl hW.2.1)) (by kernel_rfl) (by kernel_rfl) (fun D s W hD hF => ⟨hF.zb, hF.zq, hF.zt.step rfl rfl⟩) ?_
  refine FSteps.no3 (bv := false) hz rfl (dv := [5, 2, 2]) (by kernel_rfl) rfl (by kernel_rfl) (by kernel_rfl) (fun D s W hW hF => (hF.zt.get (j := 2) rfl hW.2.1)) (by kernel_rfl) (by kernel_rfl) (fun D s W hD hF => ⟨hF.zb, hF.zq, hF.zt.step rfl rfl⟩) ?_
  refine FSteps.nu (bv := true) hz rfl (dv := [6]) (by kernel_rfl) rfl (by kernel_rfl) (by kernel_rfl) (fun D s W hW hF => (hF.zt.get (j := 6) rfl hW.1)) (by kernel_rfl) (by kernel_rfl) (fun D s W hD hF => ⟨hF.zb, hF.zq, hF.zt.step rfl rfl⟩) ?_
  refine FSteps.nu (bv := true) hz rfl (dv := [7, 6]) (by kernel_rfl) rfl (by kernel_rfl) (by kernel_rfl) (fun D s W hW hF => (hF.zt.get (j := 6) rfl hW.2.1)) (by kernel_rfl) (by kernel_rfl) (fun D s W hD hF => ⟨hF.zb, hF.zq, hF.zt.step rfl rfl⟩) ?_
  refine FSteps.nu (bv := true) hz rfl (dv := [6]) (by kernel_rfl) rfl (by kernel_rfl) (by kernel_rfl) (fun D s W hW hF => (hF.zt.get (j := 6) rfl hW.1)) (by kernel_rfl) (by kernel_rfl) (fun D s W hD hF => ⟨hF.zb, hF.zq, hF.zt.step rfl rfl⟩) ?_
  refine FSteps.nu (bv := true) hz rfl (dv := [8, 9, 6]) (by kernel_rfl) rfl (by kernel_rfl) (by kernel_rfl) (fun D s W hW hF => (hF.zt.get (j := 6) rfl hW.2.2.1)) (by kernel_rfl) (by kernel_rfl) (fun D s W hD hF => ⟨hF.zb, hF.zq, hF.zt.step rfl rfl⟩) ?_
  refine FSteps.no3 (bv := false) hz rfl (dv := [6, 10, 2]) (by kernel_rfl) rfl (by kernel_rfl) (by kernel_rfl) (fun D s W hW hF => (hF.zt.get (j := 2) rfl hW.2.2.1)) (by kernel_rfl) (by kernel_rfl) (fun D s W hD hF => ⟨hF.zb, hF.zq, hF.zt.step rfl rfl⟩) ?_
  refine FSteps.op3 hz rfl (dv := [2, 11]) (by kernel_rfl) (by kernel_rfl) (by kernel_rfl) (fun D s W bA kK hD hW hF hA hK => ?_) ?_
  · have x29 := hA.i 29 _ rfl rfl (hF.zt.get (j := 2) rfl hW.1)
    have x38 := hA.i 38 _ rfl rfl (hF.zt.get (j := 11) rfl hW.2.1)
    have hF := Lib.hid hF
    clear hA
    go_simp
    exact hK.out _ _ ⟨hF.out.zb, hF.out.zq, hF.out.zt.step rfl rfl⟩
  exact FSteps.nil
  intro D s W aF5 hD hF hz' df' hA
  obtain ⟨d0, d1, d2, d3, d4, d5, d6, d7, d8, d9, d10, d11, d12, -⟩ := hD
  replace u1 : Sl aF5 1 _ := hA.o 1 _ rfl u1
  replace u2 : Sl aF5 2 _ := hA.o 2 _ rfl u2
  replace u3 : Sl aF5 3 _ := hA.o 3 _ rfl u3
  replace u4 : Sl aF5 4 _ := hA.o 4 _ rfl u4
  have u39 : Sl aF5 39 _ := hA.i 39 _ rfl rfl (hF.zt.get (j := 12) rfl d12)
  have hM := hF.zb
  have hB := hF.zq
  have hB : Bks W [(n1_0, #[Value.int .i64 a.lo, Value.int .i64 a.hi, Value.int .i64 a.m, Value.int .i64 a.r, Value.int .i64 a.k, Value.int .i64 b.lo, Value.int .i64 b.hi, Value.int .i64 b.m, Value.int .i64 b.r, Value.int .i64 b.k, Value.int .i64 k], 72), (n1_1, #[Value.int .i64 0, Value.int .i64 0, Value.int .i64 0, Value.int .i64 0, Value.int .i64 0], 27), (n2_6, #[Value.int .i64 a.lo, Value.int .i64 a.hi, Value.int .i64 a.m, Value.int .i64 a.r, Value.int .i64 k], 27)] := ⟨hB.1, hB.2.1, hB.2.2.1, trivial⟩
  clear hF hA hz df d0 d1 d2 d3 d4 d5 d6 d7 d8 d9 d10 d11 d12 hU
  have hz := hz'; have df := df'; clear hz' df'
  clear aF4
  show Code.wp _ _ _ _ _
  refine cond_t u39 ?_
  refine wp_seq ?_
  obtain ⟨m6, hM, hU, hwm⟩ := start_region hM.b hB
  obtain ⟨hk_0, hk_1, hk_2, -⟩ := hB
  obtain ⟨hl_0, hl_1, hl_2, -⟩ := hU
  have hB : Bks _ [(n1_0, #[Value.int .i64 a.lo, Value.int .i64 a.hi, Value.int .i64 a.m, Value.int .i64 a.r, Value.int .i64 a.k, Value.int .i64 b.lo, Value.int .i64 b.hi, Value.int .i64 b.m, Value.int .i64 b.r, Value.int .i64 b.k, Value.int .i64 k], 72), (n2_6, #[Value.int .i64 a.lo, Value.int .i64 a.hi, Value.int .i64 a.m, Value.int .i64 a.r, Value.int .i64 k], 27)] := ⟨hk_0, hk_2, trivial⟩
  have hU : Under m6 [(n1_0, #[Value.int .i64 a.lo, Value.int .i64 a.hi, Value.int .i64 a.m, Value.int .i64 a.r, Value.int .i64 a.k, Value.int .i64 b.lo, Value.int .i64 b.hi, Value.int .i64 b.m, Value.int .i64 b.r, Value.int .i64 b.k, Value.int .i64 k], 72), (n2_6, #[Value.int .i64 a.lo, Value.int .i64 a.hi, Value.int .i64 a.m, Value.int .i64 a.r, Value.int .i64 k], 27)] := ⟨hl_0, hl_2, trivial⟩
  refine region_run (F := prem_z_r6_6 a b k n1_0 n1_1 n2_6 w m6) [40] [0, 1] hz df (by kernel_rfl) (by kernel_rfl) (fun s hs0 => ⟨hM, hB, Vals.none s _, fun _ => hk_1, fun h => no_of' h⟩) ?_ ?_
  refine FSteps.op3 hz rfl (dv := []) (by kernel_rfl) (by kernel_rfl) (by kernel_rfl) (fun D s W bA kK hD hW hF hA hK => ?_) ?_
  · have x3 := hA.o 3 _ rfl u3
    obtain ⟨-, ⟨c1, z1⟩, -⟩ := hF.zq.rules
    have hF := Lib.hid hF
    clear hA
    go_simp
    exact hK.out _ _ ⟨hF.out.zb, hF.out.zq, hF.out.zt.step rfl rfl, hF.out.kL0_0, hF.out.kL0_1⟩
  refine FSteps.op3 hz rfl (dv := [0, 0]) (by kernel_rfl) (by kernel_rfl) (by kernel_rfl) (fun D s W bA kK hD hW hF hA hK => ?_) ?_
  · have x2 := hA.o 2 _ rfl u2
    have x40 := hA.i 40 _ rfl rfl (hF.zt.get (j := 0) rfl hW.1)
    have kk := hF.kL0_0 hD
    have kc := kk.cell; have kf := kk.free
    have hF := Lib.hid hF
    have kk := Lib.hid kk
    clear hA
    go_simp
    exact hK.out undef _ ⟨hF.out.zb.sAll (hw_n1_1) 0 [Value.int .i64 a.lo, Value.int .i64 a.hi, Value.int .i64 a.m, Value.int .i64 a.r, Value.int .i64 k], Bks.oAll [Value.int .i64 a.lo, Value.int .i64 a.hi, Value.int .i64 a.m, Value.int .i64 a.r, Value.int .i64 k] 0 (⟨(by omega), (by omega), trivial⟩) hF.out.zq, hF.out.zt.skip rfl, fun h2 => no_of h2, fun _ => kk.out.full [Value.int .i64 a.lo, Value.int .i64 a.hi, Value.int .i64 a.m, Value.int .i64 a.r, Value.int .i64 k] rfl⟩
  exact FSteps.nil
  intro D s W aF6 hD hF hz' df' hA
  obtain ⟨d0, d1, -⟩ := hD
  clear u39
  replace u1 : Sl aF6 1 _ := hA.o 1 _ rfl u1
  replace u2 : Sl aF6 2 _ := hA.o 2 _ rfl u2
  replace u3 : Sl aF6 3 _ := hA.o 3 _ rfl u3
  replace u4 : Sl aF6 4 _ := hA.o 4 _ rfl u4
  have hkXL0 := hF.kL0_1 d1
  have hM := hF.zb
  have hB := hF.zq
  have hB : Bks W [(n1_0, #[Value.int .i64 a.lo, Value.int .i64 a.hi, Value.int .i64 a.m, Value.int .i64 a.r, Value.int .i64 a.k, Value.int .i64 b.lo, Value.int .i64 b.hi, Value.int .i64 b.m, Value.int .i64 b.r, Value.int .i64 b.k, Value.int .i64 k], 72), (n2_6, #[Value.int .i64 a.lo, Value.int .i64 a.hi, Value.int .i64 a.m, Value.int .i64 a.r, Value.int .i64 k], 27), (n1_1, #[Value.int .i64 a.lo, Value.int .i64 a.hi, Value.int .i64 a.m, Value.int .i64 a.r, Value.int .i64 k], 27)] := ⟨hB.1, hB.2.1, hkXL0, trivial⟩
  clear hF hA hz df d0 d1 
  have hz := hz'; have df := df'; clear hz' df'
  clear aF5
  show Code.wp _ _ _ _ _
  refine wp_ret ?_
  refine then_ret ?_
  show bodyPost _ _ _ _ _ _
  have hB2 := hB.rules
  obtain ⟨⟨c0, z0⟩, ⟨c1, z1⟩, ⟨c2, z2⟩, -⟩ := hB2
  unfold Sl at u2
  refine end_go df (v := (Value.agg #[Value.int .i64 a.lo, Value.int .i64 a.hi, Value.int .i64 a.m, Value.int .i64 a.r, Value.int .i64 k])) (by simp [results, Try.results78, go_sem, u2, c2]) ⟨rfl, hM.b⟩

structure prem_i_r0_1 (a b : Ab) (k : Int) (w : World) (m1 : Nat) (D : Nat → Bool) (s : Nat → Value) (W : World) : Prop where
  zb : Mk0 w m1 W
  zq : Bks W []
  zt : Vals D s []
  v0 : D 0 = true → s 1 = (Value.pointer (some ⟨pblk (s 1), 0, none⟩))
  v1 : D 1 = true → s 2 = (Value.pointer (some ⟨pblk (s 2), 0, none⟩))
  k0_0 : D 0 = true → Bk W (pblk (s 1)) #[Value.int .i64 a.lo, Value.int .i64 a.hi, Value.int .i64 a.m, Value.int .i64 a.r, Value.int .i64 a.k, Value.int .i64 b.lo, Value.int .i64 b.hi, Value.int .i64 b.m, Value.int .i64 b.r, Value.int .i64 b.k, Value.int .i64 k] 72
  g0 : D 0 = true → m1 ≤ (pblk (s 1))
  k1_0 : D 1 = true → Bk W (pblk (s 2)) #[Value.int .i64 0, Value.int .i64 0, Value.int .i64 0, Value.int .i64 0, Value.int .i64 0] 27
  g1 : D 1 = true → m1 ≤ (pblk (s 2))
  e0_1 : D 0 = true → D 1 = true → pblk (s 1) ≠ pblk (s 2)

structure prem_i_r1_2 (a b : Ab) (k : Int) (n1_0 n1_1 : Nat) (w : World) (m2 : Nat) (D : Nat → Bool) (s : Nat → Value) (W : World) : Prop where
  zb : Mk0 w m2 W
  zq : Bks W [(n1_0, #[Value.int .i64 a.lo, Value.int .i64 a.hi, Value.int .i64 a.m, Value.int .i64 a.r, Value.int .i64 a.k, Value.int .i64 b.lo, Value.int .i64 b.hi, Value.int .i64 b.m, Value.int .i64 b.r, Value.int .i64 b.k, Value.int .i64 k], 72), (n1_1, #[Value.int .i64 0, Value.int .i64 0, Value.int .i64 0, Value.int .i64 0, Value.int .i64 0], 27)]
  zt : Vals D s [(0, 5, Value.pointer (some ⟨n1_0, 0, none⟩)), (1, 6, Value.agg #[Value.int .i64 a.lo, Value.int .i64 a.hi, Value.int .i64 a.m, Value.int .i64 a.r, Value.int .i64 a.k]), (2, 7, Value.pointer (some ⟨n1_0, 5, none⟩)), (3, 8, Value.pointer (some ⟨n1_0, 5, none⟩)), (4, 9, Value.int .i64 b.lo), (5, 10, Value.int .i64 (absS b.lo)), (8, 4, Value.int .i64 (absS b.lo))]
  v6 : D 6 = true → s 3 = (Value.pointer (some ⟨pblk (s 3), 0, none⟩))
  k6_0 : D 6 = true → D 7 = false → Bk W (pblk (s 3)) #[Value.int .i64 0, Value.int .i64 0, Value.int .i64 0, Value.int .i64 0, Value.int .i64 0] 27
  k6_1 : D 7 = true → Bk W (pblk (s 3)) #[Value.int .i64 a.lo, Value.int .i64 a.hi, Value.int .i64 a.m, Value.int .i64 a.r, Value.int .i64 a.k] 27
  c6_1 : D 7 = true → D 6 = true
  g6 : D 6 = true → m2 ≤ (pblk (s 3))

structure prem_i_r2_3 (a b : Ab) (k : Int) (n1_0 n1_1 n2_6 : Nat) (w : World) (m3 : Nat) (D : Nat → Bool) (s : Nat → Value) (W : World) : Prop where
  zb : Mk0 w m3 W
  zq : Bks W [(n1_0, #[Value.int .i64 a.lo, Value.int .i64 a.hi, Value.int .i64 a.m, Value.int .i64 a.r, Value.int .i64 a.k, Value.int .i64 b.lo, Value.int .i64 b.hi, Value.int .i64 b.m, Value.int .i64 b.r, Value.int .i64 b.k, Value.int .i64 k], 72), (n1_1, #[Value.int .i64 0, Value.int .i64 0, Value.int .i64 0, Value.int .i64 0, Value.int .i64 0], 27), (n2_6, #[Value.int .i64 a.lo, Value.int .i64 a.hi, Value.int .i64 a.m, Value.int .i64 a.r, Value.int .i64 a.k], 27)]
  zt : Vals D s [(0, 11, Value.pointer (some ⟨n1_0, 5, none⟩)), (1, 12, Value.agg #[Value.int .i64 b.lo, Value.int .i64 b.hi, Value.int .i64 b.m, Value.int .i64 b.r, Value.int .i64 b.k]), (2, 13, Value.int .i64 (stepS b)), (3, 14, Value.bool false)]

structure prem_i_r4_4 (a b : Ab) (k : Int) (n1_0 n1_1 n2_6 : Nat) (w : World) (m4 : Nat) (D : Nat → Bool) (s : Nat → Value) (W : World) : Prop where
  zb : Mk0 w m4 W
  zq : Bks W [(n1_0, #[Value.int .i64 a.lo, Value.int .i64 a.hi, Value.int .i64 a.m, Value.int .i64 a.r, Value.int .i64 a.k, Value.int .i64 b.lo, Value.int .i64 b.hi, Value.int .i64 b.m, Value.int .i64 b.r, Value.int .i64 b.k, Value.int .i64 k], 72), (n1_1, #[Value.int .i64 0, Value.int .i64 0, Value.int .i64 0, Value.int .i64 0, Value.int .i64 0], 27)]
  zt : Vals D s [(0, 24, Value.pointer (some ⟨n1_0, 10, none⟩)), (1, 25, Value.int .i64 k), (2, 26, Value.pointer (some ⟨n2_6, 4, none⟩))]
  kL0_0 : D 3 = false → Bk W n2_6 #[Value.int .i64 a.lo, Value.int .i64 a.hi, Value.int .i64 a.m, Value.int .i64 a.r, Value.int .i64 a.k] 27
  kL0_1 : D 3 = true → Bk W n2_6 #[Value.int .i64 a.lo, Value.int .i64 a.hi, Value.int .i64 a.m, Value.int .i64 a.r, Value.int .i64 k] 27

structure prem_i_r5_5 (a b : Ab) (k : Int) (n1_0 n1_1 n2_6 : Nat) (w : World) (m5 : Nat) (D : Nat → Bool) (s : Nat → Value) (W : World) : Prop where
  zb : Mk0 w m5 W
  zq : Bks W [(n1_0, #[Value.int .i64 a.lo, Value.int .i64 a.hi, Value.int .i64 a.m, Value.int .i64 a.r, Value.int .i64 a.k, Value.int .i64 b.lo, Value.int .i64 b.hi, Value.int .i64 b.m, Value.int .i64 b.r, Value.int .i64 b.k, Value.int .i64 k], 72), (n1_1, #[Value.int .i64 0, Value.int .i64 0, Value.int .i64 0, Value.int .i64 0, Value.int .i64 0], 27), (n2_6, #[Value.int .i64 a.lo, Value.int .i64 a.hi, Value.int .i64 a.m, Value.int .i64 a.r, Value.int .i64 k], 27)]
  zt : Vals D s [(0, 27, Value.int .i64 (absS b.lo)), (1, 28, Value.bool false), (2, 29, Value.bool false), (3, 30, Value.pointer (some ⟨n2_6, 0, none⟩)), (4, 31, Value.int .i64 a.lo), (5, 32, Value.bool true), (6, 33, Value.bool true), (7, 34, Value.pointer (some ⟨n2_6, 1, none⟩)), (8, 35, Value.int .i64 a.hi), (9, 36, Value.int .i64 (absS b.lo)), (10, 37, Value.bool true), (11, 38, Value.bool true), (12, 39, Value.bool true)]

structure prem_i_r6_6 (a b : Ab) (k : Int) (n1_0 n1_1 n2_6 : Nat) (w : World) (m6 : Nat) (D : Nat → Bool) (s : Nat → Value) (W : World) : Prop where
  zb : Mk0 w m6 W
  zq : Bks W [(n1_0, #[Value.int .i64 a.lo, Value.int .i64 a.hi, Value.int .i64 a.m, Value.int .i64 a.r, Value.int .i64 a.k, Value.int .i64 b.lo, Value.int .i64 b.hi, Value.int .i64 b.m, Value.int .i64 b.r, Value.int .i64 b.k, Value.int .i64 k], 72), (n2_6, #[Value.int .i64 a.lo, Value.int .i64 a.hi, Value.int .i64 a.m, Value.int .i64 a.r, Value.int .i64 k], 27)]
  zt : Vals D s [(0, 40, Value.agg #[Value.int .i64 a.lo, Value.int .i64 a.hi, Value.int .i64 a.m, Value.int .i64 a.r, Value.int .i64 k])]
  kL0_0 : D 1 = false → Bk W n1_1 #[Value.int .i64 0, Value.int .i64 0, Value.int .i64 0, Value.int .i64 0, Value.int .i64 0] 27
  kL0_1 : D 1 = true → Bk W n1_1 #[Value.int .i64 a.lo, Value.int .i64 a.hi, Value.int .i64 a.m, Value.int .i64 a.r, Value.int .i64 k] 27

set_option maxRecDepth 100000 in
set_option maxHeartbeats 4000000 in
theorem prem_i {a b : Ab} (k : Int) (w : World) (ha : Good a) (hb : Good b) (hs : stepS b = 0) (h4 : absS b.lo ≠ 0) (h5 : 0 ≤ a.lo) (h6 : a.hi < absS b.lo) :
    Calls Try.prog 78 #[Value.agg #[Value.int .i64 a.lo, Value.int .i64 a.hi, Value.int .i64 a.m, Value.int .i64 a.r, Value.int .i64 a.k, Value.int .i64 b.lo, Value.int .i64 b.hi, Value.int .i64 b.m, Value.int .i64 b.r, Value.int .i64 b.k, Value.int .i64 k]] w fun e w' => e = .returned (Value.agg #[Value.int .i64 a.lo, Value.int .i64 a.hi, Value.int .i64 a.m, Value.int .i64 a.r, Value.int .i64 k]) ∧ Below w.heap.size w w' := by
  have a1 := ha.h1; have a2 := ha.h2; have a3 := ha.h3
  have b1 := hb.h1; have b2 := hb.h2; have b3 := hb.h3
  have sa := ha.step0; have sb := hb.step0
  have ab1 : 0 ≤ absS b.lo ∧ absS b.lo ≤ 2147483648 := by unfold absS; omega
  replace hs := Lib.hid hs
  replace h4 := Lib.hid h4
  refine calls_go Try.func78 rfl 63 rfl rfl (fun aF hz df hu => ?_)
  have u0 : Sl aF 0 (Value.agg #[Value.int .i64 a.lo, Value.int .i64 a.hi, Value.int .i64 a.m, Value.int .i64 a.r, Value.int .i64 a.k, Value.int .i64 b.lo, Value.int .i64 b.hi, Value.int .i64 b.m, Value.int .i64 b.r, Value.int .i64 b.k, Value.int .i64 k]) := hu 0 _ rfl
  clear hu
  have hM : Mk0 w w.heap.size w := ⟨Below.refl _ _, Nat.le_refl _⟩
  have hB : Bks w [] := trivial
  refine wp_seq ?_
  obtain ⟨m1, hM, hU, hwm⟩ := start_region hM.b hB
  refine region_run (F := prem_i_r0_1 a b k w m1) [1, 2] [0, 1] hz df (by kernel_rfl) (by kernel_rfl) (fun s hs0 => ⟨hM, hB, Vals.none s _, fun h => no_of' h, fun h => no_of' h, fun h => no_of' h, fun h => no_of' h, fun h => no_of' h, fun h => no_of' h, fun h => no_of' h⟩) ?_ ?_
  refine FSteps.op3 hz rfl (dv := []) (by kernel_rfl) (by kernel_rfl) (by kernel_rfl) (fun D s W bA kK hD hW hF hA hK => ?_) ?_
  · have x0 := hA.o 0 _ rfl u0
    have hF := Lib.hid hF
    clear hA
    go_simp
    exact hK.out _ _ ⟨hF.out.zb.al _, Bks.al _ hF.out.zq, hF.out.zt.skip rfl, fun _ => rfl, hF.out.v1, fun _ => Bk.new _ _ _, fun _ => hF.out.zb.g, fun h1 => (hF.out.k1_0 h1).al _, hF.out.g1, fun _ h => Nat.ne_of_gt ((hF.out.k1_0 h).lt)⟩
  refine FSteps.op3 hz rfl (dv := []) (by kernel_rfl) (by kernel_rfl) (by kernel_rfl) (fun D s W bA kK hD hW hF hA hK => ?_) ?_
  · have hF := Lib.hid hF
    clear hA
    go_simp
    exact hK.out _ _ ⟨hF.out.zb.al _, Bks.al _ hF.out.zq, hF.out.zt.skip rfl, hF.out.v0, fun _ => rfl, fun h1 => (hF.out.k0_0 h1).al _, hF.out.g0, fun _ => Bk.new _ _ _, fun _ => hF.out.zb.g, fun h _ => Nat.ne_of_lt ((hF.out.k0_0 h).lt)⟩
  exact FSteps.nil
  intro D s W aF1 hD hF hz' df' hA
  obtain ⟨d0, d1, -⟩ := hD
  clear u0
  have u1 : Sl aF1 1 _ := hA.i 1 _ rfl rfl (hF.v0 d0)
  have u2 : Sl aF1 2 _ := hA.i 2 _ rfl rfl (hF.v1 d1)
  have hkX0 := hF.k0_0 d0
  have hgX0 := hF.g0 d0
  have hkX1 := hF.k1_0 d1
  have hgX1 := hF.g1 d1
  have heX0_1 := hF.e0_1 d0 d1
  have hM := hF.zb
  have hB := hF.zq
  generalize pblk (s 1) = n1_0 at hkX0 hgX0 hkX1 hgX1 heX0_1 u1 u2
  generalize pblk (s 2) = n1_1 at hkX0 hgX0 hkX1 hgX1 heX0_1 u1 u2
  have hB : Bks W [(n1_0, #[Value.int .i64 a.lo, Value.int .i64 a.hi, Value.int .i64 a.m, Value.int .i64 a.r, Value.int .i64 a.k, Value.int .i64 b.lo, Value.int .i64 b.hi, Value.int .i64 b.m, Value.int .i64 b.r, Value.int .i64 b.k, Value.int .i64 k], 72), (n1_1, #[Value.int .i64 0, Value.int .i64 0, Value.int .i64 0, Value.int .i64 0, Value.int .i64 0], 27)] := ⟨hkX0, hkX1, trivial⟩
  have hw_n1_1 : w.heap.size ≤ n1_1 := Nat.le_trans hwm hgX1
  clear hF hA hz df d0 d1 hU
  have hz := hz'; have df := df'; clear hz' df'
  clear aF
  show Code.wp _ _ _ _ _
  refine wp_seq ?_
  obtain ⟨m2, hM, hU, hwm⟩ := start_region hM.b hB
  refine region_go (F := prem_i_r1_2 a b k n1_0 n1_1 w m2) [5, 6, 7, 8, 9, 10, 3, 4] [0, 1, 2, 3, 4, 5, 6, 7, 8] hz df (by kernel_rfl) (by kernel_rfl) (by kernel_rfl) (fun s hs0 => ⟨hM.drew, Bks.drew hB, Vals.none s _, fun h => no_of' h, fun h => no_of' h, fun h => no_of' h, fun h => no_of' h, fun h => no_of' h⟩) ?_ ?_
  refine FSteps.op3 hz rfl (dv := []) (by kernel_rfl) (by kernel_rfl) (by kernel_rfl) (fun D s W bA kK hD hW hF hA hK => ?_) ?_
  · have x1 := hA.o 1 _ rfl u1
    have hF := Lib.hid hF
    clear hA
    go_simp
    exact hK.out _ _ ⟨hF.out.zb, hF.out.zq, hF.out.zt.step rfl rfl, hF.out.v6, hF.out.k6_0, hF.out.k6_1, hF.out.c6_1, hF.out.g6⟩
  refine FSteps.op3 hz rfl (dv := [0]) (by kernel_rfl) (by kernel_rfl) (by kernel_rfl) (fun D s W bA kK hD hW hF hA hK => ?_) ?_
  · have x5 := hA.i 5 _ rfl rfl (hF.zt.get (j := 0) rfl hW.1)
    obtain ⟨⟨c0, z0⟩, -, -⟩ := hF.zq.rules
    have hF := Lib.hid hF
    clear hA
    go_simp
    exact hK.out _ _ ⟨hF.out.zb, hF.out.zq, hF.out.zt.step rfl rfl, hF.out.v6, hF.out.k6_0, hF.out.k6_1, hF.out.c6_1, hF.out.g6⟩
  refine FSteps.op3 hz rfl (dv := []) (by kernel_rfl) (by kernel_rfl) (by kernel_rfl) (fun D s W bA kK hD hW hF hA hK => ?_) ?_
  · have x1 := hA.o 1 _ rfl u1
    have hF := Lib.hid hF
    clear hA
    go_simp
    exact hK.out _ _ ⟨hF.out.zb, hF.out.zq, hF.out.zt.step rfl rfl, hF.out.v6, hF.out.k6_0, hF.out.k6_1, hF.out.c6_1, hF.out.g6⟩
  refine FSteps.op3 hz rfl (dv := [2]) (by kernel_rfl) (by kernel_rfl) (by kernel_rfl) (fun D s W bA kK hD hW hF hA hK => ?_) ?_
  · have x7 := hA.i 7 _ rfl rfl (hF.zt.get (j := 2) rfl hW.1)
    have hF := Lib.hid hF
    clear hA
    go_simp
    exact hK.out _ _ ⟨hF.out.zb, hF.out.zq, hF.out.zt.step rfl rfl, hF.out.v6, hF.out.k6_0, hF.out.k6_1, hF.out.c6_1, hF.out.g6⟩
  refine FSteps.op3 hz rfl (dv := [3]) (by kernel_rfl) (by kernel_rfl) (by kernel_rfl) (fun D s W bA kK hD hW hF hA hK => ?_) ?_
  · have x8 := hA.i 8 _ rfl rfl (hF.zt.get (j := 3) rfl hW.1)
    obtain ⟨⟨c0, z0⟩, -, -⟩ := hF.zq.rules
    have hF := Lib.hid hF
    clear hA
    go_simp
    exact hK.out _ _ ⟨hF.out.zb, hF.out.zq, hF.out.zt.step rfl rfl, hF.out.v6, hF.out.k6_0, hF.out.k6_1, hF.out.c6_1, hF.out.g6⟩
  refine FSteps.op3 hz rfl (dv := [4]) (by kernel_rfl) (by kernel_rfl) (by kernel_rfl) (fun D s W bA kK hD hW hF hA hK => ?_) ?_
  · have x9 := hA.i 9 _ rfl rfl (hF.zt.get (j := 4) rfl hW.1)
    have hF := Lib.hid hF
    clear hA
    go_simp
    (go_at_call 50; ((with_reducible_and_instances refine (abs_b _ (by omega) _).mono ?_)); rintro e W1 ⟨rfl, hb⟩; (try unfold abVal))
    (try go_wp2_with fail)
    exact hK.out _ _ ⟨hF.out.zb.on hb, Bks.on hb hF.out.zq, hF.out.zt.step rfl rfl, hF.out.v6, fun h1 h2 => (hF.out.k6_0 h1 h2).on hb, fun h1 => (hF.out.k6_1 h1).on hb, hF.out.c6_1, hF.out.g6⟩
  refine FSteps.op3 hz rfl (dv := []) (by kernel_rfl) (by kernel_rfl) (by kernel_rfl) (fun D s W bA kK hD hW hF hA hK => ?_) ?_
  · have hF := Lib.hid hF
    clear hA
    go_simp
    exact hK.out _ _ ⟨hF.out.zb.al _, Bks.al _ hF.out.zq, hF.out.zt.skip rfl, fun _ => rfl, fun _ _ => Bk.new _ _ _, fun h1 => absurd (hF.out.c6_1 h1) (by rw [hD]; decide), fun _ => rfl, fun _ => hF.out.zb.g⟩
  refine FSteps.op3 hz rfl (dv := [6, 1, 5, 0, 1, 6]) (by kernel_rfl) (by kernel_rfl) (by kernel_rfl) (fun D s W bA kK hD hW hF hA hK => ?_) ?_
  · have x3 := hA.i 3 _ rfl rfl (hF.v6 hW.1)
    have x6 := hA.i 6 _ rfl rfl (hF.zt.get (j := 1) rfl hW.2.1)
    have kk := hF.k6_0 hW.1 hD
    have hge := Nat.le_trans hwm (hF.g6 hW.1); have hge2 := hF.g6 hW.1
    have kc := kk.cell; have kf := kk.free
    have hF := Lib.hid hF
    have kk := Lib.hid kk; have hge := Lib.hid hge; have hge2 := Lib.hid hge2
    clear hA
    go_simp
    exact hK.out undef _ ⟨hF.out.zb.sAll (hge.out) 0 [Value.int .i64 a.lo, Value.int .i64 a.hi, Value.int .i64 a.m, Value.int .i64 a.r, Value.int .i64 a.k], Bks.oAll [Value.int .i64 a.lo, Value.int .i64 a.hi, Value.int .i64 a.m, Value.int .i64 a.r, Value.int .i64 a.k] 0 (Under.outside hge2.out hU) hF.out.zq, hF.out.zt.skip rfl, hF.out.v6, fun h1 h2 => no_of h2, fun _ => kk.out.full [Value.int .i64 a.lo, Value.int .i64 a.hi, Value.int .i64 a.m, Value.int .i64 a.r, Value.int .i64 a.k] rfl, fun _ => hW.1, hF.out.g6⟩
  refine FSteps.op3 hz rfl (dv := [5, 7, 0, 1, 2, 3, 4, 5, 6, 7]) (by kernel_rfl) (by kernel_rfl) (by kernel_rfl) (fun D s W bA kK hD hW hF hA hK => ?_) ?_
  · have x10 := hA.i 10 _ rfl rfl (hF.zt.get (j := 5) rfl hW.1)
    have hF := Lib.hid hF
    clear hA
    go_simp
    exact hK.out _ _ ⟨hF.out.zb, hF.out.zq, hF.out.zt.step rfl rfl, hF.out.v6, hF.out.k6_0, hF.out.k6_1, hF.out.c6_1, hF.out.g6⟩
  exact FSteps.nil
  intro D s W aF2 hD hF hz' df' hA
  obtain ⟨d0, d1, d2, d3, d4, d5, d6, d7, d8, -⟩ := hD
  replace u1 : Sl aF2 1 _ := hA.o 1 _ rfl u1
  replace u2 : Sl aF2 2 _ := hA.o 2 _ rfl u2
  have u3 : Sl aF2 3 _ := hA.i 3 _ rfl rfl (hF.v6 d6)
  have u4 : Sl aF2 4 _ := hA.i 4 _ rfl rfl (hF.zt.get (j := 8) rfl d8)
  have hkX6 := hF.k6_1 d7
  have hgX6 := hF.g6 d6
  have hM := hF.zb
  have hB := hF.zq
  generalize pblk (s 3) = n2_6 at hkX6 hgX6 u3 u4
  have hB : Bks W [(n1_0, #[Value.int .i64 a.lo, Value.int .i64 a.hi, Value.int .i64 a.m, Value.int .i64 a.r, Value.int .i64 a.k, Value.int .i64 b.lo, Value.int .i64 b.hi, Value.int .i64 b.m, Value.int .i64 b.r, Value.int .i64 b.k, Value.int .i64 k], 72), (n1_1, #[Value.int .i64 0, Value.int .i64 0, Value.int .i64 0, Value.int .i64 0, Value.int .i64 0], 27), (n2_6, #[Value.int .i64 a.lo, Value.int .i64 a.hi, Value.int .i64 a.m, Value.int .i64 a.r, Value.int .i64 a.k], 27)] := ⟨hB.1, hB.2.1, hkX6, trivial⟩
  have hw_n2_6 : w.heap.size ≤ n2_6 := Nat.le_trans hwm hgX6
  obtain ⟨hl_0, hl_1, -⟩ := hU
  have hne_n1_0_n2_6 : n1_0 ≠ n2_6 := by omega
  have hne_n1_1_n2_6 : n1_1 ≠ n2_6 := by omega
  clear hF hA hz df d0 d1 d2 d3 d4 d5 d6 d7 d8 
  have hz := hz'; have df := df'; clear hz' df'
  clear aF1
  show Code.wp _ _ _ _ _
  refine wp_seq ?_
  refine wp_seq ?_
  obtain ⟨m3, hM, hU, hwm⟩ := start_region hM.b hB
  refine region_run (F := prem_i_r2_3 a b k n1_0 n1_1 n2_6 w m3) [11, 12, 13, 14] [0, 1, 2, 3] hz df (by kernel_rfl) (by kernel_rfl) (fun s hs0 => ⟨hM, hB, Vals.none s _⟩) ?_ ?_
  refine FSteps.op3 hz rfl (dv := []) (by kernel_rfl) (by kernel_rfl) (by kernel_rfl) (fun D s W bA kK hD hW hF hA hK => ?_) ?_
  · have x1 := hA.o 1 _ rfl u1
    have hF := Lib.hid hF
    clear hA
    go_simp
    exact hK.out _ _ ⟨hF.out.zb, hF.out.zq, hF.out.zt.step rfl rfl⟩
  refine FSteps.op3 hz rfl (dv := [0]) (by kernel_rfl) (by kernel_rfl) (by kernel_rfl) (fun D s W bA kK hD hW hF hA hK => ?_) ?_
  · have x11 := hA.i 11 _ rfl rfl (hF.zt.get (j := 0) rfl hW.1)
    obtain ⟨⟨c0, z0⟩, -, -, -⟩ := hF.zq.rules
    have hF := Lib.hid hF
    clear hA
    go_simp
    exact hK.out _ _ ⟨hF.out.zb, hF.out.zq, hF.out.zt.step rfl rfl⟩
  refine FSteps.op3 hz rfl (dv := [1]) (by kernel_rfl) (by kernel_rfl) (by kernel_rfl) (fun D s W bA kK hD hW hF hA hK => ?_) ?_
  · have x12 := hA.i 12 _ rfl rfl (hF.zt.get (j := 1) rfl hW.1)
    have hF := Lib.hid hF
    clear hA
    go_simp
    (go_at_call 44; ((with_reducible_and_instances refine (step_ab b _).mono ?_)); rintro e W1 ⟨rfl, hb⟩; (try unfold abVal))
    (try go_wp2_with fail)
    exact hK.out _ _ ⟨hF.out.zb.on hb, Bks.on hb hF.out.zq, hF.out.zt.step rfl rfl⟩
  refine FSteps.op3 hz rfl (dv := [2]) (by kernel_rfl) (by kernel_rfl) (by kernel_rfl) (fun D s W bA kK hD hW hF hA hK => ?_) ?_
  · have x13 := hA.i 13 _ rfl rfl (hF.zt.get (j := 2) rfl hW.1)
    have hF := Lib.hid hF
    clear hA
    have hd3 : ((stepS b) != 0) = false := (by rw [bne_eq_false_iff_eq]; exact hs.out)
    go_simp
    exact hK.out _ _ ⟨hF.out.zb, hF.out.zq, hF.out.zt.step rfl rfl⟩
  exact FSteps.nil
  intro D s W aF3 hD hF hz' df' hA
  obtain ⟨d0, d1, d2, d3, -⟩ := hD
  replace u1 : Sl aF3 1 _ := hA.o 1 _ rfl u1
  replace u2 : Sl aF3 2 _ := hA.o 2 _ rfl u2
  replace u3 : Sl aF3 3 _ := hA.o 3 _ rfl u3
  replace u4 : Sl aF3 4 _ := hA.o 4 _ rfl u4
  have u14 : Sl aF3 14 _ := hA.i 14 _ rfl rfl (hF.zt.get (j := 3) rfl d3)
  have hM := hF.zb
  have hB := hF.zq
  have hB : Bks W [(n1_0, #[Value.int .i64 a.lo, Value.int .i64 a.hi, Value.int .i64 a.m, Value.int .i64 a.r, Value.int .i64 a.k, Value.int .i64 b.lo, Value.int .i64 b.hi, Value.int .i64 b.m, Value.int .i64 b.r, Value.int .i64 b.k, Value.int .i64 k], 72), (n1_1, #[Value.int .i64 0, Value.int .i64 0, Value.int .i64 0, Value.int .i64 0, Value.int .i64 0], 27), (n2_6, #[Value.int .i64 a.lo, Value.int .i64 a.hi, Value.int .i64 a.m, Value.int .i64 a.r, Value.int .i64 a.k], 27)] := ⟨hB.1, hB.2.1, hB.2.2.1, trivial⟩
  clear hF hA hz df d0 d1 d2 d3 hU
  have hz := hz'; have df := df'; clear hz' df'
  clear aF2
  show Code.wp _ _ _ _ _
  refine cond_f u14 ?_
  refine wp_skip ?_
  show Code.wp _ _ _ _ _
  refine wp_seq ?_
  obtain ⟨m4, hM, hU, hwm⟩ := start_region hM.b hB
  obtain ⟨hk_0, hk_1, hk_2, -⟩ := hB
  obtain ⟨hl_0, hl_1, hl_2, -⟩ := hU
  have hB : Bks _ [(n1_0, #[Value.int .i64 a.lo, Value.int .i64 a.hi, Value.int .i64 a.m, Value.int .i64 a.r, Value.int .i64 a.k, Value.int .i64 b.lo, Value.int .i64 b.hi, Value.int .i64 b.m, Value.int .i64 b.r, Value.int .i64 b.k, Value.int .i64 k], 72), (n1_1, #[Value.int .i64 0, Value.int .i64 0, Value.int .i64 0, Value.int .i64 0, Value.int .i64 0], 27)] := ⟨hk_0, hk_1, trivial⟩
  have hU : Under m4 [(n1_0, #[Value.int .i64 a.lo, Value.int .i64 a.hi, Value.int .i64 a.m, Value.int .i64 a.r, Value.int .i64 a.k, Value.int .i64 b.lo, Value.int .i64 b.hi, Value.int .i64 b.m, Value.int .i64 b.r, Value.int .i64 b.k, Value.int .i64 k], 72), (n1_1, #[Value.int .i64 0, Value.int .i64 0, Value.int .i64 0, Value.int .i64 0, Value.int .i64 0], 27)] := ⟨hl_0, hl_1, trivial⟩
  refine region_run (F := prem_i_r4_4 a b k n1_0 n1_1 n2_6 w m4) [24, 25, 26] [0, 1, 2, 3] hz df (by kernel_rfl) (by kernel_rfl) (fun s hs0 => ⟨hM, hB, Vals.none s _, fun _ => hk_2, fun h => no_of' h⟩) ?_ ?_
  refine FSteps.op3 hz rfl (dv := []) (by kernel_rfl) (by kernel_rfl) (by kernel_rfl) (fun D s W bA kK hD hW hF hA hK => ?_) ?_
  · have x1 := hA.o 1 _ rfl u1
    have hF := Lib.hid hF
    clear hA
    go_simp
    exact hK.out _ _ ⟨hF.out.zb, hF.out.zq, hF.out.zt.step rfl rfl, hF.out.kL0_0, hF.out.kL0_1⟩
  refine FSteps.op3 hz rfl (dv := [0]) (by kernel_rfl) (by kernel_rfl) (by kernel_rfl) (fun D s W bA kK hD hW hF hA hK => ?_) ?_
  · have x24 := hA.i 24 _ rfl rfl (hF.zt.get (j := 0) rfl hW.1)
    obtain ⟨⟨c0, z0⟩, -, -⟩ := hF.zq.rules
    have hF := Lib.hid hF
    clear hA
    go_simp
    exact hK.out _ _ ⟨hF.out.zb, hF.out.zq, hF.out.zt.step rfl rfl, hF.out.kL0_0, hF.out.kL0_1⟩
  refine FSteps.op3 hz rfl (dv := [0, 1]) (by kernel_rfl) (by kernel_rfl) (by kernel_rfl) (fun D s W bA kK hD hW hF hA hK => ?_) ?_
  · have x3 := hA.o 3 _ rfl u3
    have hF := Lib.hid hF
    clear hA
    go_simp
    exact hK.out _ _ ⟨hF.out.zb, hF.out.zq, hF.out.zt.step rfl rfl, hF.out.kL0_0, hF.out.kL0_1⟩
  refine FSteps.op3 hz rfl (dv := [2, 1, 0, 1]) (by kernel_rfl) (by kernel_rfl) (by kernel_rfl) (fun D s W bA kK hD hW hF hA hK => ?_) ?_
  · have x26 := hA.i 26 _ rfl rfl (hF.zt.get (j := 2) rfl hW.1)
    have x25 := hA.i 25 _ rfl rfl (hF.zt.get (j := 1) rfl hW.2.1)
    have kk := hF.kL0_0 hD
    have kc := kk.cell; have kf := kk.free
    have hF := Lib.hid hF
    have kk := Lib.hid kk
    clear hA
    go_simp
    exact hK.out undef _ ⟨hF.out.zb.sAll (hw_n2_6) 4 [Value.int .i64 k], Bks.oAll [Value.int .i64 k] 4 (⟨(by omega), (by omega), trivial⟩) hF.out.zq, hF.out.zt.skip rfl, fun h2 => no_of h2, fun _ => kk.out.sAll [Value.int .i64 k] 4⟩
  exact FSteps.nil
  intro D s W aF4 hD hF hz' df' hA
  obtain ⟨d0, d1, d2, d3, -⟩ := hD
  clear u14
  replace u1 : Sl aF4 1 _ := hA.o 1 _ rfl u1
  replace u2 : Sl aF4 2 _ := hA.o 2 _ rfl u2
  replace u3 : Sl aF4 3 _ := hA.o 3 _ rfl u3
  replace u4 : Sl aF4 4 _ := hA.o 4 _ rfl u4
  have hkXL0 := hF.kL0_1 d3
  have hM := hF.zb
  have hB := hF.zq
  have hB : Bks W [(n1_0, #[Value.int .i64 a.lo, Value.int .i64 a.hi, Value.int .i64 a.m, Value.int .i64 a.r, Value.int .i64 a.k, Value.int .i64 b.lo, Value.int .i64 b.hi, Value.int .i64 b.m, Value.int .i64 b.r, Value.int .i64 b.k, Value.int .i64 k], 72), (n1_1, #[Value.int .i64 0, Value.int .i64 0, Value.int .i64 0, Value.int .i64 0, Value.int .i64 0], 27), (n2_6, #[Value.int .i64 a.lo, Value.int .i64 a.hi, Value.int .i64 a.m, Value.int .i64 a.r, Value.int .i64 k], 27)] := ⟨hB.1, hB.2.1, hkXL0, trivial⟩
  clear hF hA hz df d0 d1 d2 d3 
  have hz := hz'; have df := df'; clear hz' df'
  clear aF3
  show Code.wp _ _ _ _ _
  refine wp_seq ?_
  refine wp_seq ?_
  obtain ⟨m5, hM, hU, hwm⟩ := start_region hM.b hB
  refine region_run (F := prem_i_r5_5 a b k n1_0 n1_1 n2_6 w m5) [27, 28, 29, 30, 31, 32, 33, 34, 35, 36, 37, 38, 39] [0, 1, 2, 3, 4, 5, 6, 7, 8, 9, 10, 11, 12] hz df (by kernel_rfl) (by kernel_rfl) (fun s hs0 => ⟨hM, hB, Vals.none s _⟩) ?_ ?_
  refine FSteps.op3 hz rfl (dv := []) (by kernel_rfl) (by kernel_rfl) (by kernel_rfl) (fun D s W bA kK hD hW hF hA hK => ?_) ?_
  · have x4 := hA.o 4 _ rfl u4
    have hF := Lib.hid hF
    clear hA
    go_simp
    exact hK.out _ _ ⟨hF.out.zb, hF.out.zq, hF.out.zt.step rfl rfl⟩
  refine FSteps.op3 hz rfl (dv := [0]) (by kernel_rfl) (by kernel_rfl) (by kernel_rfl) (fun D s W bA kK hD hW hF hA hK => ?_) ?_
  · have x27 := hA.i 27 _ rfl rfl (hF.zt.get (j := 0) rfl hW.1)
    have hF := Lib.hid hF
    clear hA
    have hd1 : ((absS b.lo) == 0) = false := beq_eq_false_iff_ne.2 (by exact h4.out)
    go_simp
    exact hK.out _ _ ⟨hF.out.zb, hF.out.zq, hF.out.zt.step rfl rfl⟩
  refine FSteps.op3 hz rfl (dv := [1]) (by kernel_rfl) (by kernel_rfl) (by kernel_rfl) (fun D s W bA kK hD hW hF hA hK => ?_) ?_
  · have x28 := hA.i 28 _ rfl rfl (hF.zt.get (j := 1) rfl hW.1)
    have hF := Lib.hid hF
    clear hA
    go_simp
    exact hK.out _ _ ⟨hF.out.zb, hF.out.zq, hF.out.zt.step rfl rfl⟩
  refine FSteps.yes3 (bv := false) hz rfl (dv := [2]) (by kernel_rfl) rfl (by kernel_rfl) (by kernel_rfl) (fun D s W hW hF => (hF.zt.get (j := 2) rfl hW.1)) (by kernel_rfl) (by kernel_rfl) (fun D s W bA kK hD hW hF hA hK => ?_) ?_
  · have x3 := hA.o 3 _ rfl u3
    have hF := Lib.hid hF
    clear hA
    go_simp
    exact hK.out _ _ ⟨hF.out.zb, hF.out.zq, hF.out.zt.step rfl rfl⟩
  refine FSteps.yes3 (bv := false) hz rfl (dv := [3, 2]) (by kernel_rfl) rfl (by kernel_rfl) (by kernel_rfl) (fun D s W hW hF => (hF.zt.get (j := 2) rfl hW.2.1)) (by kernel_rfl) (by kernel_rfl) (fun D s W bA kK hD hW hF hA hK => ?_) ?_
  · have x30 := hA.i 30 _ rfl rfl (hF.zt.get (j := 3) rfl hW.1)
    obtain ⟨-, -, ⟨c2, z2⟩, -⟩ := hF.zq.rules
    have hF := Lib.hid hF
    clear hA
    go_simp
    exact hK.out _ _ ⟨hF.out.zb, hF.out.zq, hF.out.zt.step rfl rfl⟩
  refine FSteps.yes3 (bv := false) hz rfl (dv := [4, 2]) (by kernel_rfl) rfl (by kernel_rfl) (by kernel_rfl) (fun D s W hW hF => (hF.zt.get (j := 2) rfl hW.2.1)) (by kernel_rfl) (by kernel_rfl) (fun D s W bA kK hD hW hF hA hK => ?_) ?_
  · have x31 := hA.i 31 _ rfl rfl (hF.zt.get (j := 4) rfl hW.1)
    have hF := Lib.hid hF
    clear hA
    have hd5 : decide (0 ≤ a.lo) = true := decide_eq_true (by omega)
    go_simp
    exact hK.out _ _ ⟨hF.out.zb, hF.out.zq, hF.out.zt.step rfl rfl⟩
  refine FSteps.yes3 (bv := false) hz rfl (dv := [5, 2, 2]) (by kernel_rfl) rfl (by kernel_rfl) (by kernel_rfl) (fun D s W hW hF => (hF.zt.get (j := 2) rfl hW.2.1)) (by kernel_rfl) (by kernel_rfl) (fun D s W bA kK hD hW hF hA hK => ?_) ?_
  · have x32 := hA.i 32 _ rfl rfl (hF.zt.get (j := 5) rfl hW.1)
    have hF := Lib.hid hF
    clear hA
    go_simp
    exact hK.out _ _ ⟨hF.out.zb, hF.out.zq, hF.out.zt.step rfl rfl⟩
  refine FSteps.yes3 (bv := true) hz rfl (dv := [6]) (by kernel_rfl) rfl (by kernel_rfl) (by kernel_rfl) (fun D s W hW hF => (hF.zt.get (j := 6) rfl hW.1)) (by kernel_rfl) (by kernel_rfl) (fun D s W bA kK hD hW hF hA hK => ?_) ?_
  · have x3 := hA.o 3 _ rfl u3
    have hF := Lib.hid hF
    clear hA
    go_simp
    exact hK.out _ _ ⟨hF.out.zb, hF.out.zq, hF.out.zt.step rfl rfl⟩
  refine FSteps.yes3 (bv := true) hz rfl (dv := [7, 6]) (by kernel_rfl) rfl (by kernel_rfl) (by kernel_rfl) (fun D s W hW hF => (hF.zt.get (j := 6) rfl hW.2.1)) (by kernel_rfl) (by kernel_rfl) (fun D s W bA kK hD hW hF hA hK => ?_) ?_
  · have x34 := hA.i 34 _ rfl rfl (hF.zt.get (j := 7) rfl hW.1)
    obtain ⟨-, -, ⟨c2, z2⟩, -⟩ := hF.zq.rules
    have hF := Lib.hid hF
    clear hA
    go_simp
    exact hK.out _ _ ⟨hF.out.zb, hF.out.zq, hF.out.zt.step rfl rfl⟩
  refine FSteps.yes3 (bv := true) hz rfl (dv := [6]) (by kernel_rfl) rfl (by kernel_rfl) (by kernel_rfl) (fun D s W hW hF => (hF.zt.get (j := 6) rfl hW.1)) (by kernel_rfl) (by kernel_rfl) (fun D s W bA kK hD hW hF hA hK => ?_) ?_
  · have x4 := hA.o 4 _ rfl u4
    have hF := Lib.hid hF
    clear hA
    go_simp
    exact hK.out _ _ ⟨hF.out.zb, hF.out.zq, hF.out.zt.step rfl rfl⟩
  refine FSteps.yes3 (bv := true) hz rfl (dv := [8, 9, 6]) (by kernel_rfl) rfl (by kernel_rfl) (by kernel_rfl) (fun D s W hW hF => (hF.zt.get (j := 6) rfl hW.2.2.1)) (by kernel_rfl) (by kernel_rfl) (fun D s W bA kK hD hW hF hA hK => ?_) ?_
  · have x35 := hA.i 35 _ rfl rfl (hF.zt.get (j := 8) rfl hW.1)
    have x36 := hA.i 36 _ rfl rfl (hF.zt.get (j := 9) rfl hW.2.1)
    have hF := Lib.hid hF
    clear hA
    have hd10 : decide (a.hi < (absS b.lo)) = true := decide_eq_true (by omega)
    go_simp
    exact hK.out _ _ ⟨hF.out.zb, hF.out.zq, hF.out.zt.step rfl rfl⟩
  refine FSteps.yes3 (bv := false) hz rfl (dv := [6, 10, 2]) (by kernel_rfl) rfl (by kernel_rfl) (by kernel_rfl) (fun D s W hW hF => (hF.zt.get (j := 2) rfl hW.2.2.1)) (by kernel_rfl) (by kernel_rfl) (fun D s W bA kK hD hW hF hA hK => ?_) ?_
  · have x33 := hA.i 33 _ rfl rfl (hF.zt.get (j := 6) rfl hW.1)
    have x37 := hA.i 37 _ rfl rfl (hF.zt.get (j := 10) rfl hW.2.1)
    have hF := Lib.hid hF
    clear hA
    go_simp
    exact hK.out _ _ ⟨hF.out.zb, hF.out.zq, hF.out.zt.step rfl rfl⟩
  refine FSteps.op3 hz rfl (dv := [2, 11]) (by kernel_rfl) (by kernel_rfl) (by kernel_rfl) (fun D s W bA kK hD hW hF hA hK => ?_) ?_
  · have x29 := hA.i 29 _ rfl rfl (hF.zt.get (j := 2) rfl hW.1)
    have x38 := hA.i 38 _ rfl rfl (hF.zt.get (j := 11) rfl hW.2.1)
    have hF := Lib.hid hF
    clear hA
    go_simp
    exact hK.out _ _ ⟨hF.out.zb, hF.out.zq, hF.out.zt.step rfl rfl⟩
  exact FSteps.nil
  intro D s W aF5 hD hF hz' df' hA
  obtain ⟨d0, d1, d2, d3, d4, d5, d6, d7, d8, d9, d10, d11, d12, -⟩ := hD
  replace u1 : Sl aF5 1 _ := hA.o 1 _ rfl u1
  replace u2 : Sl aF5 2 _ := hA.o 2 _ rfl u2
  replace u3 : Sl aF5 3 _ := hA.o 3 _ rfl u3
  replace u4 : Sl aF5 4 _ := hA.o 4 _ rfl u4
  have u39 : Sl aF5 39 _ := hA.i 39 _ rfl rfl (hF.zt.get (j := 12) rfl d12)
  have hM := hF.zb
  have hB := hF.zq
  have hB : Bks W [(n1_0, #[Value.int .i64 a.lo, Value.int .i64 a.hi, Value.int .i64 a.m, Value.int .i64 a.r, Value.int .i64 a.k, Value.int .i64 b.lo, Value.int .i64 b.hi, Value.int .i64 b.m, Value.int .i64 b.r, Value.int .i64 b.k, Value.int .i64 k], 72), (n1_1, #[Value.int .i64 0, Value.int .i64 0, Value.int .i64 0, Value.int .i64 0, Value.int .i64 0], 27), (n2_6, #[Value.int .i64 a.lo, Value.int .i64 a.hi, Value.int .i64 a.m, Value.int .i64 a.r, Value.int .i64 k], 27)] := ⟨hB.1, hB.2.1, hB.2.2.1, trivial⟩
  clear hF hA hz df d0 d1 d2 d3 d4 d5 d6 d7 d8 d9 d10 d11 d12 hU
  have hz := hz'; have df := df'; clear hz' df'
  clear aF4
  show Code.wp _ _ _ _ _
  refine cond_t u39 ?_
  refine wp_seq ?_
  obtain ⟨m6, hM, hU, hwm⟩ := start_region hM.b hB
  obtain ⟨hk_0, hk_1, hk_2, -⟩ := hB
  obtain ⟨hl_0, hl_1, hl_2, -⟩ := hU
  have hB : Bks _ [(n1_0, #[Value.int .i64 a.lo, Value.int .i64 a.hi, Value.int .i64 a.m, Value.int .i64 a.r, Value.int .i64 a.k, Value.int .i64 b.lo, Value.int .i64 b.hi, Value.int .i64 b.m, Value.int .i64 b.r, Value.int .i64 b.k, Value.int .i64 k], 72), (n2_6, #[Value.int .i64 a.lo, Value.int .i64 a.hi, Value.int .i64 a.m, Value.int .i64 a.r, Value.int .i64 k], 27)] := ⟨hk_0, hk_2, trivial⟩
  have hU : Under m6 [(n1_0, #[Value.int .i64 a.lo, Value.int .i64 a.hi, Value.int .i64 a.m, Value.int .i64 a.r, Value.int .i64 a.k, Value.int .i64 b.lo, Value.int .i64 b.hi, Value.int .i64 b.m, Value.int .i64 b.r, Value.int .i64 b.k, Value.int .i64 k], 72), (n2_6, #[Value.int .i64 a.lo, Value.int .i64 a.hi, Value.int .i64 a.m, Value.int .i64 a.r, Value.int .i64 k], 27)] := ⟨hl_0, hl_2, trivial⟩
  refine region_run (F := prem_i_r6_6 a b k n1_0 n1_1 n2_6 w m6) [40] [0, 1] hz df (by kernel_rfl) (by kernel_rfl) (fun s hs0 => ⟨hM, hB, Vals.none s _, fun _ => hk_1, fun h => no_of' h⟩) ?_ ?_
  refine FSteps.op3 hz rfl (dv := []) (by kernel_rfl) (by kernel_rfl) (by kernel_rfl) (fun D s W bA kK hD hW hF hA hK => ?_) ?_
  · have x3 := hA.o 3 _ rfl u3
    obtain ⟨-, ⟨c1, z1⟩, -⟩ := hF.zq.rules
    have hF := Lib.hid hF
    clear hA
    go_simp
    exact hK.out _ _ ⟨hF.out.zb, hF.out.zq, hF.out.zt.step rfl rfl, hF.out.kL0_0, hF.out.kL0_1⟩
  refine FSteps.op3 hz rfl (dv := [0, 0]) (by kernel_rfl) (by kernel_rfl) (by kernel_rfl) (fun D s W bA kK hD hW hF hA hK => ?_) ?_
  · have x2 := hA.o 2 _ rfl u2
    have x40 := hA.i 40 _ rfl rfl (hF.zt.get (j := 0) rfl hW.1)
    have kk := hF.kL0_0 hD
    have kc := kk.cell; have kf := kk.free
    have hF := Lib.hid hF
    have kk := Lib.hid kk
    clear hA
    go_simp
    exact hK.out undef _ ⟨hF.out.zb.sAll (hw_n1_1) 0 [Value.int .i64 a.lo, Value.int .i64 a.hi, Value.int .i64 a.m, Value.int .i64 a.r, Value.int .i64 k], Bks.oAll [Value.int .i64 a.lo, Value.int .i64 a.hi, Value.int .i64 a.m, Value.int .i64 a.r, Value.int .i64 k] 0 (⟨(by omega), (by omega), trivial⟩) hF.out.zq, hF.out.zt.skip rfl, fun h2 => no_of h2, fun _ => kk.out.full [Value.int .i64 a.lo, Value.int .i64 a.hi, Value.int .i64 a.m, Value.int .i64 a.r, Value.int .i64 k] rfl⟩
  exact FSteps.nil
  intro D s W aF6 hD hF hz' df' hA
  obtain ⟨d0, d1, -⟩ := hD
  clear u39
  replace u1 : Sl aF6 1 _ := hA.o 1 _ rfl u1
  replace u2 : Sl aF6 2 _ := hA.o 2 _ rfl u2
  replace u3 : Sl aF6 3 _ := hA.o 3 _ rfl u3
  replace u4 : Sl aF6 4 _ := hA.o 4 _ rfl u4
  have hkXL0 := hF.kL0_1 d1
  have hM := hF.zb
  have hB := hF.zq
  have hB : Bks W [(n1_0, #[Value.int .i64 a.lo, Value.int .i64 a.hi, Value.int .i64 a.m, Value.int .i64 a.r, Value.int .i64 a.k, Value.int .i64 b.lo, Value.int .i64 b.hi, Value.int .i64 b.m, Value.int .i64 b.r, Value.int .i64 b.k, Value.int .i64 k], 72), (n2_6, #[Value.int .i64 a.lo, Value.int .i64 a.hi, Value.int .i64 a.m, Value.int .i64 a.r, Value.int .i64 k], 27), (n1_1, #[Value.int .i64 a.lo, Value.int .i64 a.hi, Value.int .i64 a.m, Value.int .i64 a.r, Value.int .i64 k], 27)] := ⟨hB.1, hB.2.1, hkXL0, trivial⟩
  clear hF hA hz df d0 d1 
  have hz := hz'; have df := df'; clear hz' df'
  clear aF5
  show Code.wp _ _ _ _ _
  refine wp_ret ?_
  refine then_ret ?_
  show bodyPost _ _ _ _ _ _
  have hB2 := hB.rules
  obtain ⟨⟨c0, z0⟩, ⟨c1, z1⟩, ⟨c2, z2⟩, -⟩ := hB2
  unfold Sl at u2
  refine end_go df (v := (Value.agg #[Value.int .i64 a.lo, Value.int .i64 a.hi, Value.int .i64 a.m, Value.int .i64 a.r, Value.int .i64 k])) (by simp [results, Try.results78, go_sem, u2, c2]) ⟨rfl, hM.b⟩

theorem step_ak (a : Ab) (k : Int) (w : World) : Calls Try.prog 44 #[Value.agg #[Value.int .i64 a.lo, Value.int .i64 a.hi, Value.int .i64 a.m, Value.int .i64 a.r, Value.int .i64 k]] w fun e w' => e = .returned (.int .i64 (stepS a)) ∧ Below w.heap.size w w' := step_is a.lo a.hi a.m a.r k w

theorem rem_fits {a b : Ab} (ha : Good a) (hs : stepS b = 0) (h4 : absS b.lo ≠ 0) (hx : ¬ (0 ≤ a.lo ∧ a.hi < absS b.lo)) :
    max (min a.lo 0) (1 - absS b.lo) + (a.lo - max (min a.lo 0) (1 - absS b.lo)) % gcdS (stepS a) [absS b.lo] ≤ min (max a.hi 0) (absS b.lo - 1) := by
  have hp : 0 ≤ absS b.lo := by unfold absS; omega
  have s0 := ha.step0
  have a2 := ha.h2
  have hg : 0 < gcdS (stepS a) [absS b.lo] := by
    show 0 < (Int.gcd (stepS a) (absS b.lo) : Int)
    have : Int.gcd (stepS a) (absS b.lo) ≠ 0 := fun h => h4 (Int.gcd_eq_zero_iff.1 h).2
    omega
  have hd : gcdS (stepS a) [absS b.lo] ∣ stepS a := by show (Int.gcd (stepS a) (absS b.lo) : Int) ∣ _; exact Int.gcd_dvd_left ..
  have hn : gcdS (stepS a) [absS b.lo] ∣ absS b.lo := by show (Int.gcd (stepS a) (absS b.lo) : Int) ∣ _; exact Int.gcd_dvd_right ..
  have hle : gcdS (stepS a) [absS b.lo] ≤ absS b.lo := Int.le_of_dvd (by omega) hn
  have hdv := Int.dvd_trans hd ha.step_dvd
  generalize gcdS (stepS a) [absS b.lo] = g at *
  generalize absS b.lo = n at *
  have e1 := Int.emod_nonneg (a.lo - max (min a.lo 0) (1 - n)) (show g ≠ 0 by omega)
  have e2 := Int.emod_lt_of_pos (a.lo - max (min a.lo 0) (1 - n)) hg
  by_cases c1 : 0 ≤ a.lo
  · have : max (min a.lo 0) (1 - n) = 0 := by omega
    rw [this] at e1 e2 ⊢
    omega
  · by_cases c2 : a.lo ≤ 1 - n
    · have : max (min a.lo 0) (1 - n) = 1 - n := by omega
      rw [this] at e1 e2 ⊢
      by_cases c3 : 0 ≤ a.hi
      · omega
      · -- the whole set is negative: the first value at least 1 - n like a.lo is at most -(n mod ..)
        have : min (max a.hi 0) (n - 1) = 0 := by omega
        rw [this]
        omega
    · have : max (min a.lo 0) (1 - n) = a.lo := by omega
      rw [this]
      simp
      omega

structure prem_l_r0_1 (a b : Ab) (k : Int) (w : World) (m1 : Nat) (D : Nat → Bool) (s : Nat → Value) (W : World) : Prop where
  zb : Mk0 w m1 W
  zq : Bks W []
  zt : Vals D s []
  v0 : D 0 = true → s 1 = (Value.pointer (some ⟨pblk (s 1), 0, none⟩))
  v1 : D 1 = true → s 2 = (Value.pointer (some ⟨pblk (s 2), 0, none⟩))
  k0_0 : D 0 = true → Bk W (pblk (s 1)) #[Value.int .i64 a.lo, Value.int .i64 a.hi, Value.int .i64 a.m, Value.int .i64 a.r, Value.int .i64 a.k, Value.int .i64 b.lo, Value.int .i64 b.hi, Value.int .i64 b.m, Value.int .i64 b.r, Value.int .i64 b.k, Value.int .i64 k] 72
  g0 : D 0 = true → m1 ≤ (pblk (s 1))
  k1_0 : D 1 = true → Bk W (pblk (s 2)) #[Value.int .i64 0, Value.int .i64 0, Value.int .i64 0, Value.int .i64 0, Value.int .i64 0] 27
  g1 : D 1 = true → m1 ≤ (pblk (s 2))
  e0_1 : D 0 = true → D 1 = true → pblk (s 1) ≠ pblk (s 2)

structure prem_l_r1_2 (a b : Ab) (k : Int) (n1_0 n1_1 : Nat) (w : World) (m2 : Nat) (D : Nat → Bool) (s : Nat → Value) (W : World) : Prop where
  zb : Mk0 w m2 W
  zq : Bks W [(n1_0, #[Value.int .i64 a.lo, Value.int .i64 a.hi, Value.int .i64 a.m, Value.int .i64 a.r, Value.int .i64 a.k, Value.int .i64 b.lo, Value.int .i64 b.hi, Value.int .i64 b.m, Value.int .i64 b.r, Value.int .i64 b.k, Value.int .i64 k], 72), (n1_1, #[Value.int .i64 0, Value.int .i64 0, Value.int .i64 0, Value.int .i64 0, Value.int .i64 0], 27)]
  zt : Vals D s [(0, 5, Value.pointer (some ⟨n1_0, 0, none⟩)), (1, 6, Value.agg #[Value.int .i64 a.lo, Value.int .i64 a.hi, Value.int .i64 a.m, Value.int .i64 a.r, Value.int .i64 a.k]), (2, 7, Value.pointer (some ⟨n1_0, 5, none⟩)), (3, 8, Value.pointer (some ⟨n1_0, 5, none⟩)), (4, 9, Value.int .i64 b.lo), (5, 10, Value.int .i64 (absS b.lo)), (8, 4, Value.int .i64 (absS b.lo))]
  v6 : D 6 = true → s 3 = (Value.pointer (some ⟨pblk (s 3), 0, none⟩))
  k6_0 : D 6 = true → D 7 = false → Bk W (pblk (s 3)) #[Value.int .i64 0, Value.int .i64 0, Value.int .i64 0, Value.int .i64 0, Value.int .i64 0] 27
  k6_1 : D 7 = true → Bk W (pblk (s 3)) #[Value.int .i64 a.lo, Value.int .i64 a.hi, Value.int .i64 a.m, Value.int .i64 a.r, Value.int .i64 a.k] 27
  c6_1 : D 7 = true → D 6 = true
  g6 : D 6 = true → m2 ≤ (pblk (s 3))

structure prem_l_r2_3 (a b : Ab) (k : Int) (n1_0 n1_1 n2_6 : Nat) (w : World) (m3 : Nat) (D : Nat → Bool) (s : Nat → Value) (W : World) : Prop where
  zb : Mk0 w m3 W
  zq : Bks W [(n1_0, #[Value.int .i64 a.lo, Value.int .i64 a.hi, Value.int .i64 a.m, Value.int .i64 a.r, Value.int .i64 a.k, Value.int .i64 b.lo, Value.int .i64 b.hi, Value.int .i64 b.m, Value.int .i64 b.r, Value.int .i64 b.k, Value.int .i64 k], 72), (n1_1, #[Value.int .i64 0, Value.int .i64 0, Value.int .i64 0, Value.int .i64 0, Value.int .i64 0], 27), (n2_6, #[Value.int .i64 a.lo, Value.int .i64 a.hi, Value.int .i64 a.m, Value.int .i64 a.r, Value.int .i64 a.k], 27)]
  zt : Vals D s [(0, 11, Value.pointer (some ⟨n1_0, 5, none⟩)), (1, 12, Value.agg #[Value.int .i64 b.lo, Value.int .i64 b.hi, Value.int .i64 b.m, Value.int .i64 b.r, Value.int .i64 b.k]), (2, 13, Value.int .i64 (stepS b)), (3, 14, Value.bool false)]

structure prem_l_r4_4 (a b : Ab) (k : Int) (n1_0 n1_1 n2_6 : Nat) (w : World) (m4 : Nat) (D : Nat → Bool) (s : Nat → Value) (W : World) : Prop where
  zb : Mk0 w m4 W
  zq : Bks W [(n1_0, #[Value.int .i64 a.lo, Value.int .i64 a.hi, Value.int .i64 a.m, Value.int .i64 a.r, Value.int .i64 a.k, Value.int .i64 b.lo, Value.int .i64 b.hi, Value.int .i64 b.m, Value.int .i64 b.r, Value.int .i64 b.k, Value.int .i64 k], 72), (n1_1, #[Value.int .i64 0, Value.int .i64 0, Value.int .i64 0, Value.int .i64 0, Value.int .i64 0], 27)]
  zt : Vals D s [(0, 24, Value.pointer (some ⟨n1_0, 10, none⟩)), (1, 25, Value.int .i64 k), (2, 26, Value.pointer (some ⟨n2_6, 4, none⟩))]
  kL0_0 : D 3 = false → Bk W n2_6 #[Value.int .i64 a.lo, Value.int .i64 a.hi, Value.int .i64 a.m, Value.int .i64 a.r, Value.int .i64 a.k] 27
  kL0_1 : D 3 = true → Bk W n2_6 #[Value.int .i64 a.lo, Value.int .i64 a.hi, Value.int .i64 a.m, Value.int .i64 a.r, Value.int .i64 k] 27

structure prem_l_r5_5 (a b : Ab) (k : Int) (n1_0 n1_1 n2_6 : Nat) (w : World) (m5 : Nat) (D : Nat → Bool) (s : Nat → Value) (W : World) : Prop where
  zb : Mk0 w m5 W
  zq : Bks W [(n1_0, #[Value.int .i64 a.lo, Value.int .i64 a.hi, Value.int .i64 a.m, Value.int .i64 a.r, Value.int .i64 a.k, Value.int .i64 b.lo, Value.int .i64 b.hi, Value.int .i64 b.m, Value.int .i64 b.r, Value.int .i64 b.k, Value.int .i64 k], 72), (n1_1, #[Value.int .i64 0, Value.int .i64 0, Value.int .i64 0, Value.int .i64 0, Value.int .i64 0], 27), (n2_6, #[Value.int .i64 a.lo, Value.int .i64 a.hi, Value.int .i64 a.m, Value.int .i64 a.r, Value.int .i64 k], 27)]
  zt : Vals D s [(0, 27, Value.int .i64 (absS b.lo)), (1, 28, Value.bool false), (2, 29, Value.bool false), (3, 30, Value.pointer (some ⟨n2_6, 0, none⟩)), (4, 31, Value.int .i64 a.lo), (5, 32, Value.bool false), (6, 33, Value.bool false), (7, 34, undef), (8, 35, undef), (9, 36, undef), (10, 37, undef), (11, 38, Value.bool false), (12, 39, Value.bool false)]

structure prem_l_r7_6 (a b : Ab) (k : Int) (n1_0 n1_1 n2_6 : Nat) (w : World) (m6 : Nat) (D : Nat → Bool) (s : Nat → Value) (W : World) : Prop where
  zb : Mk0 w m6 W
  zq : Bks W [(n1_0, #[Value.int .i64 a.lo, Value.int .i64 a.hi, Value.int .i64 a.m, Value.int .i64 a.r, Value.int .i64 a.k, Value.int .i64 b.lo, Value.int .i64 b.hi, Value.int .i64 b.m, Value.int .i64 b.r, Value.int .i64 b.k, Value.int .i64 k], 72), (n2_6, #[Value.int .i64 a.lo, Value.int .i64 a.hi, Value.int .i64 a.m, Value.int .i64 a.r, Value.int .i64 k], 27)]
  zt : Vals D s [(0, 41, Value.pointer (some ⟨n2_6, 0, none⟩)), (1, 42, Value.int .i64 a.lo), (2, 43, Value.agg #[Value.int .i64 a.lo, Value.int .i64 a.hi, Value.int .i64 a.m, Value.int .i64 a.r, Value.int .i64 k]), (3, 44, Value.int .i64 (stepS a)), (4, 45, Value.int .i64 (absS b.lo)), (6, 47, Value.int .i64 (gcdS (stepS a) [absS b.lo])), (7, 48, Value.pointer (some ⟨n2_6, 0, none⟩)), (8, 49, Value.int .i64 a.lo), (9, 50, Value.int .i64 (min a.lo 0)), (10, 51, Value.int .i64 (absS b.lo)), (11, 52, Value.int .i64 (1 - (absS b.lo))), (12, 53, Value.int .i64 (max (min a.lo 0) (1 - (absS b.lo)))), (13, 54, Value.pointer (some ⟨n2_6, 1, none⟩)), (14, 55, Value.int .i64 a.hi), (15, 56, Value.int .i64 (max a.hi 0)), (16, 57, Value.int .i64 (absS b.lo)), (17, 58, Value.int .i64 ((absS b.lo) - 1)), (18, 59, Value.int .i64 (min (max a.hi 0) ((absS b.lo) - 1))), (19, 60, Value.pointer (some ⟨n1_0, 10, none⟩)), (20, 61, Value.int .i64 k), (21, 62, Value.agg #[Value.int .i64 (likeS a.lo (gcdS (stepS a) [absS b.lo]) (max (min a.lo 0) (1 - absS b.lo)) (min (max a.hi 0) (absS b.lo - 1)) k).lo, Value.int .i64 (likeS a.lo (gcdS (stepS a) [absS b.lo]) (max (min a.lo 0) (1 - absS b.lo)) (min (max a.hi 0) (absS b.lo - 1)) k).hi, Value.int .i64 (likeS a.lo (gcdS (stepS a) [absS b.lo]) (max (min a.lo 0) (1 - absS b.lo)) (min (max a.hi 0) (absS b.lo - 1)) k).m, Value.int .i64 (likeS a.lo (gcdS (stepS a) [absS b.lo]) (max (min a.lo 0) (1 - absS b.lo)) (min (max a.hi 0) (absS b.lo - 1)) k).r, Value.int .i64 (likeS a.lo (gcdS (stepS a) [absS b.lo]) (max (min a.lo 0) (1 - absS b.lo)) (min (max a.hi 0) (absS b.lo - 1)) k).k])]
  v5 : D 5 = true → s 46 = (Value.slice (some ⟨pblk (s 46), 0, none⟩) 1 1)
  k5_0 : D 5 = true → Bk W (pblk (s 46)) #[Value.int .i64 (absS b.lo)] 3
  g5 : D 5 = true → m6 ≤ (pblk (s 46))
  kL0_0 : D 22 = false → Bk W n1_1 #[Value.int .i64 0, Value.int .i64 0, Value.int .i64 0, Value.int .i64 0, Value.int .i64 0] 27
  kL0_1 : D 22 = true → Bk W n1_1 #[Value.int .i64 (likeS a.lo (gcdS (stepS a) [absS b.lo]) (max (min a.lo 0) (1 - absS b.lo)) (min (max a.hi 0) (absS b.lo - 1)) k).lo, Value.int .i64 (likeS a.lo (gcdS (stepS a) [absS b.lo]) (max (min a.lo 0) (1 - absS b.lo)) (min (max a.hi 0) (absS b.lo - 1)) k).hi, Value.int .i64 (likeS a.lo (gcdS (stepS a) [absS b.lo]) (max (min a.lo 0) (1 - absS b.lo)) (min (max a.hi 0) (absS b.lo - 1)) k).m, Value.int .i64 (likeS a.lo (gcdS (stepS a) [absS b.lo]) (max (min a.lo 0) (1 - absS b.lo)) (min (max a.hi 0) (absS b.lo - 1)) k).r, Value.int .i64 (likeS a.lo (gcdS (stepS a) [absS b.lo]) (max (min a.lo 0) (1 - absS b.lo)) (min (max a.hi 0) (absS b.lo - 1)) k).k] 27

set_option maxRecDepth 100000 in
set_option maxHeartbeats 4000000 in
theorem prem_l {a b : Ab} (k : Int) (w : World) (ha : Good a) (hb : Good b) (hs : stepS b = 0) (h4 : absS b.lo ≠ 0) (h5 : a.lo < 0) :
    Calls Try.prog 78 #[Value.agg #[Value.int .i64 a.lo, Value.int .i64 a.hi, Value.int .i64 a.m, Value.int .i64 a.r, Value.int .i64 a.k, Value.int .i64 b.lo, Value.int .i64 b.hi, Value.int .i64 b.m, Value.int .i64 b.r, Value.int .i64 b.k, Value.int .i64 k]] w fun e w' => e = .returned (Value.agg #[Value.int .i64 (likeS a.lo (gcdS (stepS a) [absS b.lo]) (max (min a.lo 0) (1 - absS b.lo)) (min (max a.hi 0) (absS b.lo - 1)) k).lo, Value.int .i64 (likeS a.lo (gcdS (stepS a) [absS b.lo]) (max (min a.lo 0) (1 - absS b.lo)) (min (max a.hi 0) (absS b.lo - 1)) k).hi, Value.int .i64 (likeS a.lo (gcdS (stepS a) [absS b.lo]) (max (min a.lo 0) (1 - absS b.lo)) (min (max a.hi 0) (absS b.lo - 1)) k).m, Value.int .i64 (likeS a.lo (gcdS (stepS a) [absS b.lo]) (max (min a.lo 0) (1 - absS b.lo)) (min (max a.hi 0) (absS b.lo - 1)) k).r, Value.int .i64 (likeS a.lo (gcdS (stepS a) [absS b.lo]) (max (min a.lo 0) (1 - absS b.lo)) (min (max a.hi 0) (absS b.lo - 1)) k).k]) ∧ Below w.heap.size w w' := by
  have a1 := ha.h1; have a2 := ha.h2; have a3 := ha.h3
  have b1 := hb.h1; have b2 := hb.h2; have b3 := hb.h3
  have sa := ha.step0; have sb := hb.step0
  have ab1 : 0 ≤ absS b.lo ∧ absS b.lo ≤ 2147483648 := by unfold absS; omega
  have hx : ¬ (0 ≤ a.lo ∧ a.hi < absS b.lo) := by omega
  have gg := gcd_le (x := stepS a) (y := absS b.lo) (B := 4294967296) sa (by omega)
  have gpos : 0 < gcdS (stepS a) [absS b.lo] := by
    show 0 < (Int.gcd (stepS a) (absS b.lo) : Int)
    have : Int.gcd (stepS a) (absS b.lo) ≠ 0 := fun h => h4 (Int.gcd_eq_zero_iff.1 h).2
    omega
  have GY := Lib.hid (like_is a.lo (gcdS (stepS a) [absS b.lo]) (max (min a.lo 0) (1 - absS b.lo)) (min (max a.hi 0) (absS b.lo - 1)) k (by omega) (rem_fits ha hs h4 hx) (by omega) (by omega) gpos (Int.le_trans gg.2 (by omega)))
  clear gg gpos hx
  replace h4 := Lib.hid h4; replace hs := Lib.hid hs
  refine calls_go Try.func78 rfl 63 rfl rfl (fun aF hz df hu => ?_)
  have u0 : Sl aF 0 (Value.agg #[Value.int .i64 a.lo, Value.int .i64 a.hi, Value.int .i64 a.m, Value.int .i64 a.r, Value.int .i64 a.k, Value.int .i64 b.lo, Value.int .i64 b.hi, Value.int .i64 b.m, Value.int .i64 b.r, Value.int .i64 b.k, Value.int .i64 k]) := hu 0 _ rfl
  clear hu
  have hM : Mk0 w w.heap.size w := ⟨Below.refl _ _, Nat.le_refl _⟩
  have hB : Bks w [] := trivial
  refine wp_seq ?_
  obtain ⟨m1, hM, hU, hwm⟩ := start_region hM.b hB
  refine region_run (F := prem_l_r0_1 a b k w m1) [1, 2] [0, 1] hz df (by kernel_rfl) (by kernel_rfl) (fun s hs0 => ⟨hM, hB, Vals.none s _, fun h => no_of' h, fun h => no_of' h, fun h => no_of' h, fun h => no_of' h, fun h => no_of' h, fun h => no_of' h, fun h => no_of' h⟩) ?_ ?_
  refine FSteps.op3 hz rfl (dv := []) (by kernel_rfl) (by kernel_rfl) (by kernel_rfl) (fun D s W bA kK hD hW hF hA hK => ?_) ?_
  · have x0 := hA.o 0 _ rfl u0
    have hF := Lib.hid hF
    clear hA
    go_simp
    exact hK.out _ _ ⟨hF.out.zb.al _, Bks.al _ hF.out.zq, hF.out.zt.skip rfl, fun _ => rfl, hF.out.v1, fun _ => Bk.new _ _ _, fun _ => hF.out.zb.g, fun h1 => (hF.out.k1_0 h1).al _, hF.out.g1, fun _ h => Nat.ne_of_gt ((hF.out.k1_0 h).lt)⟩
  refine FSteps.op3 hz rfl (dv := []) (by kernel_rfl) (by kernel_rfl) (by kernel_rfl) (fun D s W bA kK hD hW hF hA hK => ?_) ?_
  · have hF := Lib.hid hF
    clear hA
    go_simp
    exact hK.out _ _ ⟨hF.out.zb.al _, Bks.al _ hF.out.zq, hF.out.zt.skip rfl, hF.out.v0, fun _ => rfl, fun h1 => (hF.out.k0_0 h1).al _, hF.out.g0, fun _ => Bk.new _ _ _, fun _ => hF.out.zb.g, fun h _ => Nat.ne_of_lt ((hF.out.k0_0 h).lt)⟩
  exact FSteps.nil
  intro D s W aF1 hD hF hz' df' hA
  obtain ⟨d0, d1, -⟩ := hD
  clear u0
  have u1 : Sl aF1 1 _ := hA.i 1 _ rfl rfl (hF.v0 d0)
  have u2 : Sl aF1 2 _ := hA.i 2 _ rfl rfl (hF.v1 d1)
  have hkX0 := hF.k0_0 d0
  have hgX0 := hF.g0 d0
  have hkX1 := hF.k1_0 d1
  have hgX1 := hF.g1 d1
  have heX0_1 := hF.e0_1 d0 d1
  have hM := hF.zb
  have hB := hF.zq
  generalize pblk (s 1) = n1_0 at hkX0 hgX0 hkX1 hgX1 heX0_1 u1 u2
  generalize pblk (s 2) = n1_1 at hkX0 hgX0 hkX1 hgX1 heX0_1 u1 u2
  have hB : Bks W [(n1_0, #[Value.int .i64 a.lo, Value.int .i64 a.hi, Value.int .i64 a.m, Value.int .i64 a.r, Value.int .i64 a.k, Value.int .i64 b.lo, Value.int .i64 b.hi, Value.int .i64 b.m, Value.int .i64 b.r, Value.int .i64 b.k, Value.int .i64 k], 72), (n1_1, #[Value.int .i64 0, Value.int .i64 0, Value.int .i64 0, Value.int .i64 0, Value.int .i64 0], 27)] := ⟨hkX0, hkX1, trivial⟩
  have hw_n1_1 : w.heap.size ≤ n1_1 := Nat.le_trans hwm hgX1
  clear hF hA hz df d0 d1 hU
  have hz := hz'; have df := df'; clear hz' df'
  clear aF
  show Code.wp _ _ _ _ _
  refine wp_seq ?_
  obtain ⟨m2, hM, hU, hwm⟩ := start_region hM.b hB
  refine region_go (F := prem_l_r1_2 a b k n1_0 n1_1 w m2) [5, 6, 7, 8, 9, 10, 3, 4] [0, 1, 2, 3, 4, 5, 6, 7, 8] hz df (by kernel_rfl) (by kernel_rfl) (by kernel_rfl) (fun s hs0 => ⟨hM.drew, Bks.drew hB, Vals.none s _, fun h => no_of' h, fun h => no_of' h, fun h => no_of' h, fun h => no_of' h, fun h => no_of' h⟩) ?_ ?_
  refine FSteps.op3 hz rfl (dv := []) (by kernel_rfl) (by kernel_rfl) (by kernel_rfl) (fun D s W bA kK hD hW hF hA hK => ?_) ?_
  · have x1 := hA.o 1 _ rfl u1
    have hF := Lib.hid hF
    clear hA
    go_simp
    exact hK.out _ _ ⟨hF.out.zb, hF.out.zq, hF.out.zt.step rfl rfl, hF.out.v6, hF.out.k6_0, hF.out.k6_1, hF.out.c6_1, hF.out.g6⟩
  refine FSteps.op3 hz rfl (dv := [0]) (by kernel_rfl) (by kernel_rfl) (by kernel_rfl) (fun D s W bA kK hD hW hF hA hK => ?_) ?_
  · have x5 := hA.i 5 _ rfl rfl (hF.zt.get (j := 0) rfl hW.1)
    obtain ⟨⟨c0, z0⟩, -, -⟩ := hF.zq.rules
    have hF := Lib.hid hF
    clear hA
    go_simp
    exact hK.out _ _ ⟨hF.out.zb, hF.out.zq, hF.out.zt.step rfl rfl, hF.out.v6, hF.out.k6_0, hF.out.k6_1, hF.out.c6_1, hF.out.g6⟩
  refine FSteps.op3 hz rfl (dv := []) (by kernel_rfl) (by kernel_rfl) (by kernel_rfl) (fun D s W bA kK hD hW hF hA hK => ?_) ?_
  · have x1 := hA.o 1 _ rfl u1
    have hF := Lib.hid hF
    clear hA
    go_simp
    exact hK.out _ _ ⟨hF.out.zb, hF.out.zq, hF.out.zt.step rfl rfl, hF.out.v6, hF.out.k6_0, hF.out.k6_1, hF.out.c6_1, hF.out.g6⟩
  refine FSteps.op3 hz rfl (dv := [2]) (by kernel_rfl) (by kernel_rfl) (by kernel_rfl) (fun D s W bA kK hD hW hF hA hK => ?_) ?_
  · have x7 := hA.i 7 _ rfl rfl (hF.zt.get (j := 2) rfl hW.1)
    have hF := Lib.hid hF
    clear hA
    go_simp
    exact hK.out _ _ ⟨hF.out.zb, hF.out.zq, hF.out.zt.step rfl rfl, hF.out.v6, hF.out.k6_0, hF.out.k6_1, hF.out.c6_1, hF.out.g6⟩
  refine FSteps.op3 hz rfl (dv := [3]) (by kernel_rfl) (by kernel_rfl) (by kernel_rfl) (fun D s W bA kK hD hW hF hA hK => ?_) ?_
  · have x8 := hA.i 8 _ rfl rfl (hF.zt.get (j := 3) rfl hW.1)
    obtain ⟨⟨c0, z0⟩, -, -⟩ := hF.zq.rules
    have hF := Lib.hid hF
    clear hA
    go_simp
    exact hK.out _ _ ⟨hF.out.zb, hF.out.zq, hF.out.zt.step rfl rfl, hF.out.v6, hF.out.k6_0, hF.out.k6_1, hF.out.c6_1, hF.out.g6⟩
  refine FSteps.op3 hz rfl (dv := [4]) (by kernel_rfl) (by kernel_rfl) (by kernel_rfl) (fun D s W bA kK hD hW hF hA hK => ?_) ?_
  · have x9 := hA.i 9 _ rfl rfl (hF.zt.get (j := 4) rfl hW.1)
    have hF := Lib.hid hF
    clear hA
    go_simp
    (go_at_call 50; ((with_reducible_and_instances refine (abs_b _ (by omega) _).mono ?_)); rintro e W1 ⟨rfl, hb⟩; (try unfold abVal))
    (try go_wp2_with fail)
    exact hK.out _ _ ⟨hF.out.zb.on hb, Bks.on hb hF.out.zq, hF.out.zt.step rfl rfl, hF.out.v6, fun h1 h2 => (hF.out.k6_0 h1 h2).on hb, fun h1 => (hF.out.k6_1 h1).on hb, hF.out.c6_1, hF.out.g6⟩
  refine FSteps.op3 hz rfl (dv := []) (by kernel_rfl) (by kernel_rfl) (by kernel_rfl) (fun D s W bA kK hD hW hF hA hK => ?_) ?_
  · have hF := Lib.hid hF
    clear hA
    go_simp
    exact hK.out _ _ ⟨hF.out.zb.al _, Bks.al _ hF.out.zq, hF.out.zt.skip rfl, fun _ => rfl, fun _ _ => Bk.new _ _ _, fun h1 => absurd (hF.out.c6_1 h1) (by rw [hD]; decide), fun _ => rfl, fun _ => hF.out.zb.g⟩
  refine FSteps.op3 hz rfl (dv := [6, 1, 5, 0, 1, 6]) (by kernel_rfl) (by kernel_rfl) (by kernel_rfl) (fun D s W bA kK hD hW hF hA hK => ?_) ?_
  · have x3 := hA.i 3 _ rfl rfl (hF.v6 hW.1)
    have x6 := hA.i 6 _ rfl rfl (hF.zt.get (j := 1) rfl hW.2.1)
    have kk := hF.k6_0 hW.1 hD
    have hge := Nat.le_trans hwm (hF.g6 hW.1); have hge2 := hF.g6 hW.1
    have kc := kk.cell; have kf := kk.free
    have hF := Lib.hid hF
    have kk := Lib.hid kk; have hge := Lib.hid hge; have hge2 := Lib.hid hge2
    clear hA
    go_simp
    exact hK.out undef _ ⟨hF.out.zb.sAll (hge.out) 0 [Value.int .i64 a.lo, Value.int .i64 a.hi, Value.int .i64 a.m, Value.int .i64 a.r, Value.int .i64 a.k], Bks.oAll [Value.int .i64 a.lo, Value.int .i64 a.hi, Value.int .i64 a.m, Value.int .i64 a.r, Value.int .i64 a.k] 0 (Under.outside hge2.out hU) hF.out.zq, hF.out.zt.skip rfl, hF.out.v6, fun h1 h2 => no_of h2, fun _ => kk.out.full [Value.int .i64 a.lo, Value.int .i64 a.hi, Value.int .i64 a.m, Value.int .i64 a.r, Value.int .i64 a.k] rfl, fun _ => hW.1, hF.out.g6⟩
  refine FSteps.op3 hz rfl (dv := [5, 7, 0, 1, 2, 3, 4, 5, 6, 7]) (by kernel_rfl) (by kernel_rfl) (by kernel_rfl) (fun D s W bA kK hD hW hF hA hK => ?_) ?_
  · have x10 := hA.i 10 _ rfl rfl (hF.zt.get (j := 5) rfl hW.1)
    have hF := Lib.hid hF
    clear hA
    go_simp
    exact hK.out _ _ ⟨hF.out.zb, hF.out.zq, hF.out.zt.step rfl rfl, hF.out.v6, hF.out.k6_0, hF.out.k6_1, hF.out.c6_1, hF.out.g6⟩
  exact FSteps.nil
  intro D s W aF2 hD hF hz' df' hA
  obtain ⟨d0, d1, d2, d3, d4, d5, d6, d7, d8, -⟩ := hD
  replace u1 : Sl aF2 1 _ := hA.o 1 _ rfl u1
  replace u2 : Sl aF2 2 _ := hA.o 2 _ rfl u2
  have u3 : Sl aF2 3 _ := hA.i 3 _ rfl rfl (hF.v6 d6)
  have u4 : Sl aF2 4 _ := hA.i 4 _ rfl rfl (hF.zt.get (j := 8) rfl d8)
  have hkX6 := hF.k6_1 d7
  have hgX6 := hF.g6 d6
  have hM := hF.zb
  have hB := hF.zq
  generalize pblk (s 3) = n2_6 at hkX6 hgX6 u3 u4
  have hB : Bks W [(n1_0, #[Value.int .i64 a.lo, Value.int .i64 a.hi, Value.int .i64 a.m, Value.int .i64 a.r, Value.int .i64 a.k, Value.int .i64 b.lo, Value.int .i64 b.hi, Value.int .i64 b.m, Value.int .i64 b.r, Value.int .i64 b.k, Value.int .i64 k], 72), (n1_1, #[Value.int .i64 0, Value.int .i64 0, Value.int .i64 0, Value.int .i64 0, Value.int .i64 0], 27), (n2_6, #[Value.int .i64 a.lo, Value.int .i64 a.hi, Value.int .i64 a.m, Value.int .i64 a.r, Value.int .i64 a.k], 27)] := ⟨hB.1, hB.2.1, hkX6, trivial⟩
  have hw_n2_6 : w.heap.size ≤ n2_6 := Nat.le_trans hwm hgX6
  obtain ⟨hl_0, hl_1, -⟩ := hU
  have hne_n1_0_n2_6 : n1_0 ≠ n2_6 := by omega
  have hne_n1_1_n2_6 : n1_1 ≠ n2_6 := by omega
  clear hF hA hz df d0 d1 d2 d3 d4 d5 d6 d7 d8 
  have hz := hz'; have df := df'; clear hz' df'
  clear aF1
  show Code.wp _ _ _ _ _
  refine wp_seq ?_
  refine wp_seq ?_
  obtain ⟨m3, hM, hU, hwm⟩ := start_region hM.b hB
  refine region_run (F := prem_l_r2_3 a b k n1_0 n1_1 n2_6 w m3) [11, 12, 13, 14] [0, 1, 2, 3] hz df (by kernel_rfl) (by kernel_rfl) (fun s hs0 => ⟨hM, hB, Vals.none s _⟩) ?_ ?_
  refine FSteps.op3 hz rfl (dv := []) (by kernel_rfl) (by kernel_rfl) (by kernel_rfl) (fun D s W bA kK hD hW hF hA hK => ?_) ?_
  · have x1 := hA.o 1 _ rfl u1
    have hF := Lib.hid hF
    clear hA
    go_simp
    exact hK.out _ _ ⟨hF.out.zb, hF.out.zq, hF.out.zt.step rfl rfl⟩
  refine FSteps.op3 hz rfl (dv := [0]) (by kernel_rfl) (by kernel_rfl) (by kernel_rfl) (fun D s W bA kK hD hW hF hA hK => ?_) ?_
  · have x11 := hA.i 11 _ rfl rfl (hF.zt.get (j := 0) rfl hW.1)
    obtain ⟨⟨c0, z0⟩, -, -, -⟩ := hF.zq.rules
    have hF := Lib.hid hF
    clear hA
    go_simp
    exact hK.out _ _ ⟨hF.out.zb, hF.out.zq, hF.out.zt.step rfl rfl⟩
  refine FSteps.op3 hz rfl (dv := [1]) (by kernel_rfl) (by kernel_rfl) (by kernel_rfl) (fun D s W bA kK hD hW hF hA hK => ?_) ?_
  · have x12 := hA.i 12 _ rfl rfl (hF.zt.get (j := 1) rfl hW.1)
    have hF := Lib.hid hF
    clear hA
    go_simp
    (go_at_call 44; ((with_reducible_and_instances refine (step_ab b _).mono ?_)); rintro e W1 ⟨rfl, hb⟩; (try unfold abVal))
    (try go_wp2_with fail)
    exact hK.out _ _ ⟨hF.out.zb.on hb, Bks.on hb hF.out.zq, hF.out.zt.step rfl rfl⟩
  refine FSteps.op3 hz rfl (dv := [2]) (by kernel_rfl) (by kernel_rfl) (by kernel_rfl) (fun D s W bA kK hD hW hF hA hK => ?_) ?_
  · have x13 := hA.i 13 _ rfl rfl (hF.zt.get (j := 2) rfl hW.1)
    have hF := Lib.hid hF
    clear hA
    have hd3 : ((stepS b) != 0) = false := (by rw [bne_eq_false_iff_eq]; exact hs.out)
    go_simp
    exact hK.out _ _ ⟨hF.out.zb, hF.out.zq, hF.out.zt.step rfl rfl⟩
  exact FSteps.nil
  intro D s W aF3 hD hF hz' df' hA
  obtain ⟨d0, d1, d2, d3, -⟩ := hD
  replace u1 : Sl aF3 1 _ := hA.o 1 _ rfl u1
  replace u2 : Sl aF3 2 _ := hA.o 2 _ rfl u2
  replace u3 : Sl aF3 3 _ := hA.o 3 _ rfl u3
  replace u4 : Sl aF3 4 _ := hA.o 4 _ rfl u4
  have u14 : Sl aF3 14 _ := hA.i 14 _ rfl rfl (hF.zt.get (j := 3) rfl d3)
  have hM := hF.zb
  have hB := hF.zq
  have hB : Bks W [(n1_0, #[Value.int .i64 a.lo, Value.int .i64 a.hi, Value.int .i64 a.m, Value.int .i64 a.r, Value.int .i64 a.k, Value.int .i64 b.lo, Value.int .i64 b.hi, Value.int .i64 b.m, Value.int .i64 b.r, Value.int .i64 b.k, Value.int .i64 k], 72), (n1_1, #[Value.int .i64 0, Value.int .i64 0, Value.int .i64 0, Value.int .i64 0, Value.int .i64 0], 27), (n2_6, #[Value.int .i64 a.lo, Value.int .i64 a.hi, Value.int .i64 a.m, Value.int .i64 a.r, Value.int .i64 a.k], 27)] := ⟨hB.1, hB.2.1, hB.2.2.1, trivial⟩
  clear hF hA hz df d0 d1 d2 d3 hU
  have hz := hz'; have df := df'; clear hz' df'
  clear aF2
  show Code.wp _ _ _ _ _
  refine cond_f u14 ?_
  refine wp_skip ?_
  show Code.wp _ _ _ _ _
  refine wp_seq ?_
  obtain ⟨m4, hM, hU, hwm⟩ := start_region hM.b hB
  obtain ⟨hk_0, hk_1, hk_2, -⟩ := hB
  obtain ⟨hl_0, hl_1, hl_2, -⟩ := hU
  have hB : Bks _ [(n1_0, #[Value.int .i64 a.lo, Value.int .i64 a.hi, Value.int .i64 a.m, Value.int .i64 a.r, Value.int .i64 a.k, Value.int .i64 b.lo, Value.int .i64 b.hi, Value.int .i64 b.m, Value.int .i64 b.r, Value.int .i64 b.k, Value.int .i64 k], 72), (n1_1, #[Value.int .i64 0, Value.int .i64 0, Value.int .i64 0, Value.int .i64 0, Value.int .i64 0], 27)] := ⟨hk_0, hk_1, trivial⟩
  have hU : Under m4 [(n1_0, #[Value.int .i64 a.lo, Value.int .i64 a.hi, Value.int .i64 a.m, Value.int .i64 a.r, Value.int .i64 a.k, Value.int .i64 b.lo, Value.int .i64 b.hi, Value.int .i64 b.m, Value.int .i64 b.r, Value.int .i64 b.k, Value.int .i64 k], 72), (n1_1, #[Value.int .i64 0, Value.int .i64 0, Value.int .i64 0, Value.int .i64 0, Value.int .i64 0], 27)] := ⟨hl_0, hl_1, trivial⟩
  refine region_run (F := prem_l_r4_4 a b k n1_0 n1_1 n2_6 w m4) [24, 25, 26] [0, 1, 2, 3] hz df (by kernel_rfl) (by kernel_rfl) (fun s hs0 => ⟨hM, hB, Vals.none s _, fun _ => hk_2, fun h => no_of' h⟩) ?_ ?_
  refine FSteps.op3 hz rfl (dv := []) (by kernel_rfl) (by kernel_rfl) (by kernel_rfl) (fun D s W bA kK hD hW hF hA hK => ?_) ?_
  · have x1 := hA.o 1 _ rfl u1
    have hF := Lib.hid hF
    clear hA
    go_simp
    exact hK.out _ _ ⟨hF.out.zb, hF.out.zq, hF.out.zt.step rfl rfl, hF.out.kL0_0, hF.out.kL0_1⟩
  refine FSteps.op3 hz rfl (dv := [0]) (by kernel_rfl) (by kernel_rfl) (by kernel_rfl) (fun D s W bA kK hD hW hF hA hK => ?_) ?_
  · have x24 := hA.i 24 _ rfl rfl (hF.zt.get (j := 0) rfl hW.1)
    obtain ⟨⟨c0, z0⟩, -, -⟩ := hF.zq.rules
    have hF := Lib.hid hF
    clear hA
    go_simp
    exact hK.out _ _ ⟨hF.out.zb, hF.out.zq, hF.out.zt.step rfl rfl, hF.out.kL0_0, hF.out.kL0_1⟩
  refine FSteps.op3 hz rfl (dv := [0, 1]) (by kernel_rfl) (by kernel_rfl) (by kernel_rfl) (fun D s W bA kK hD hW hF hA hK => ?_) ?_
  · have x3 := hA.o 3 _ rfl u3
    have hF := Lib.hid hF
    clear hA
    go_simp
    exact hK.out _ _ ⟨hF.out.zb, hF.out.zq, hF.out.zt.step rfl rfl, hF.out.kL0_0, hF.out.kL0_1⟩
  refine FSteps.op3 hz rfl (dv := [2, 1, 0, 1]) (by kernel_rfl) (by kernel_rfl) (by kernel_rfl) (fun D s W bA kK hD hW hF hA hK => ?_) ?_
  · have x26 := hA.i 26 _ rfl rfl (hF.zt.get (j := 2) rfl hW.1)
    have x25 := hA.i 25 _ rfl rfl (hF.zt.get (j := 1) rfl hW.2.1)
    have kk := hF.kL0_0 hD
    have kc := kk.cell; have kf := kk.free
    have hF := Lib.hid hF
    have kk := Lib.hid kk
    clear hA
    go_simp
    exact hK.out undef _ ⟨hF.out.zb.sAll (hw_n2_6) 4 [Value.int .i64 k], Bks.oAll [Value.int .i64 k] 4 (⟨(by omega), (by omega), trivial⟩) hF.out.zq, hF.out.zt.skip rfl, fun h2 => no_of h2, fun _ => kk.out.sAll [Value.int .i64 k] 4⟩
  exact FSteps.nil
  intro D s W aF4 hD hF hz' df' hA
  obtain ⟨d0, d1, d2, d3, -⟩ := hD
  clear u14
  replace u1 : Sl aF4 1 _ := hA.o 1 _ rfl u1
  replace u2 : Sl aF4 2 _ := hA.o 2 _ rfl u2
  replace u3 : Sl aF4 3 _ := hA.o 3 _ rfl u3
  replace u4 : Sl aF4 4 _ := hA.o 4 _ rfl u4
  have hkXL0 := hF.kL0_1 d3
  have hM := hF.zb
  have hB := hF.zq
  have hB : Bks W [(n1_0, #[Value.int .i64 a.lo, Value.int .i64 a.hi, Value.int .i64 a.m, Value.int .i64 a.r, Value.int .i64 a.k, Value.int .i64 b.lo, Value.int .i64 b.hi, Value.int .i64 b.m, Value.int .i64 b.r, Value.int .i64 b.k, Value.int .i64 k], 72), (n1_1, #[Value.int .i64 0, Value.int .i64 0, Value.int .i64 0, Value.int .i64 0, Value.int .i64 0], 27), (n2_6, #[Value.int .i64 a.lo, Value.int .i64 a.hi, Value.int .i64 a.m, Value.int .i64 a.r, Value.int .i64 k], 27)] := ⟨hB.1, hB.2.1, hkXL0, trivial⟩
  clear hF hA hz df d0 d1 d2 d3 
  have hz := hz'; have df := df'; clear hz' df'
  clear aF3
  show Code.wp _ _ _ _ _
  refine wp_seq ?_
  refine wp_seq ?_
  obtain ⟨m5, hM, hU, hwm⟩ := start_region hM.b hB
  refine region_run (F := prem_l_r5_5 a b k n1_0 n1_1 n2_6 w m5) [27, 28, 29, 30, 31, 32, 33, 34, 35, 36, 37, 38, 39] [0, 1, 2, 3, 4, 5, 6, 7, 8, 9, 10, 11, 12] hz df (by kernel_rfl) (by kernel_rfl) (fun s hs0 => ⟨hM, hB, Vals.none s _⟩) ?_ ?_
  refine FSteps.op3 hz rfl (dv := []) (by kernel_rfl) (by kernel_rfl) (by kernel_rfl) (fun D s W bA kK hD hW hF hA hK => ?_) ?_
  · have x4 := hA.o 4 _ rfl u4
    have hF := Lib.hid hF
    clear hA
    go_simp
    exact hK.out _ _ ⟨hF.out.zb, hF.out.zq, hF.out.zt.step rfl rfl⟩
  refine FSteps.op3 hz rfl (dv := [0]) (by kernel_rfl) (by kernel_rfl) (by kernel_rfl) (fun D s W bA kK hD hW hF hA hK => ?_) ?_
  · have x27 := hA.i 27 _ rfl rfl (hF.zt.get (j := 0) rfl hW.1)
    have hF := Lib.hid hF
    clear hA
    have hd1 : ((absS b.lo) == 0) = false := beq_eq_false_iff_ne.2 (by exact h4.out)
    go_simp
    exact hK.out _ _ ⟨hF.out.zb, hF.out.zq, hF.out.zt.step rfl rfl⟩
  refine FSteps.op3 hz rfl (dv := [1]) (by kernel_rfl) (by kernel_rfl) (by kernel_rfl) (fun D s W bA kK hD hW hF hA hK => ?_) ?_
  · have x28 := hA.i 28 _ rfl rfl (hF.zt.get (j := 1) rfl hW.1)
    have hF := Lib.hid hF
    clear hA
    go_simp
    exact hK.out _ _ ⟨hF.out.zb, hF.out.zq, hF.out.zt.step rfl rfl⟩
  refine FSteps.yes3 (bv := false) hz rfl (dv := [2]) (by kernel_rfl) rfl (by kernel_rfl) (by kernel_rfl) (fun D s W hW hF => (hF.zt.get (j := 2) rfl hW.1)) (by kernel_rfl) (by kernel_rfl) (fun D s W bA kK hD hW hF hA hK => ?_) ?_
  · have x3 := hA.o 3 _ rfl u3
    have hF := Lib.hid hF
    clear hA
    go_simp
    exact hK.out _ _ ⟨hF.out.zb, hF.out.zq, hF.out.zt.step rfl rfl⟩
  refine FSteps.yes3 (bv := false) hz rfl (dv := [3, 2]) (by kernel_rfl) rfl (by kernel_rfl) (by kernel_rfl) (fun D s W hW hF => (hF.zt.get (j := 2) rfl hW.2.1)) (by kernel_rfl) (by kernel_rfl) (fun D s W bA kK hD hW hF hA hK => ?_) ?_
  · have x30 := hA.i 30 _ rfl rfl (hF.zt.get (j := 3) rfl hW.1)
    obtain ⟨-, -, ⟨c2, z2⟩, -⟩ := hF.zq.rules
    have hF := Lib.hid hF
    clear hA
    go_simp
    exact hK.out _ _ ⟨hF.out.zb, hF.out.zq, hF.out.zt.step rfl rfl⟩
  refine FSteps.yes3 (bv := false) hz rfl (dv := [4, 2]) (by kernel_rfl) rfl (by kernel_rfl) (by kernel_rfl) (fun D s W hW hF => (hF.zt.get (j := 2) rfl hW.2.1)) (by kernel_rfl) (by kernel_rfl) (fun D s W bA kK hD hW hF hA hK => ?_) ?_
  · have x31 := hA.i 31 _ rfl rfl (hF.zt.get (j := 4) rfl hW.1)
    have hF := Lib.hid hF
    clear hA
    have hd5 : decide (0 ≤ a.lo) = false := decide_eq_false (by omega)
    go_simp
    exact hK.out _ _ ⟨hF.out.zb, hF.out.zq, hF.out.zt.step rfl rfl⟩
  refine FSteps.yes3 (bv := false) hz rfl (dv := [5, 2, 2]) (by kernel_rfl) rfl (by kernel_rfl) (by kernel_rfl) (fun D s W hW hF => (hF.zt.get (j := 2) rfl hW.2.1)) (by kernel_rfl) (by kernel_rfl) (fun D s W bA kK hD hW hF hA hK => ?_) ?_
  · have x32 := hA.i 32 _ rfl rfl (hF.zt.get (j := 5) rfl hW.1)
    have hF := Lib.hid hF
    clear hA
    go_simp
    exact hK.out _ _ ⟨hF.out.zb, hF.out.zq, hF.out.zt.step rfl rfl⟩
  refine FSteps.no3 (bv := true) hz rfl (dv := [6]) (by kernel_rfl) rfl (by kernel_rfl) (by kernel_rfl) (fun D s W hW hF => (hF.zt.get (j := 6) rfl hW.1)) (by kernel_rfl) (by kernel_rfl) (fun D s W hD hF => ⟨hF.zb, hF.zq, hF.zt.step rfl rfl⟩) ?_
  refine FSteps.no3 (bv := true) hz rfl (dv := [7, 6]) (by kernel_rfl) rfl (by kernel_rfl) (by kernel_rfl) (fun D s W hW hF => (hF.zt.get (j := 6) rfl hW.2.1)) (by kernel_rfl) (by kernel_rfl) (fun D s W hD hF => ⟨hF.zb, hF.zq, hF.zt.step rfl rfl⟩) ?_
  refine FSteps.no3 (bv := true) hz rfl (dv := [6]) (by kernel_rfl) rfl (by kernel_rfl) (by kernel_rfl) (fun D s W hW hF => (hF.zt.get (j := 6) rfl hW.1)) (by kernel_rfl) (by kernel_rfl) (fun D s W hD hF => ⟨hF.zb, hF.zq, hF.zt.step rfl rfl⟩) ?_
  refine FSteps.no3 (bv := true) hz rfl (dv := [8, 9, 6]) (by kernel_rfl) rfl (by kernel_rfl) (by kernel_rfl) (fun D s W hW hF => (hF.zt.get (j := 6) rfl hW.2.2.1)) (by kernel_rfl) (by kernel_rfl) (fun D s W hD hF => ⟨hF.zb, hF.zq, hF.zt.step rfl rfl⟩) ?_
  refine FSteps.yes3 (bv := false) hz rfl (dv := [6, 10, 2]) (by kernel_rfl) rfl (by kernel_rfl) (by kernel_rfl) (fun D s W hW hF => (hF.zt.get (j := 2) rfl hW.2.2.1)) (by kernel_rfl) (by kernel_rfl) (fun D s W bA kK hD hW hF hA hK => ?_) ?_
  · have x33 := hA.i 33 _ rfl rfl (hF.zt.get (j := 6) rfl hW.1)
    have x37 := hA.i 37 _ rfl rfl (hF.zt.get (j := 10) rfl hW.2.1)
    have hF := Lib.hid hF
    clear hA
    go_simp
    exact hK.out _ _ ⟨hF.out.zb, hF.out.zq, hF.out.zt.step rfl rfl⟩
  refine FSteps.op3 hz rfl (dv := [2, 11]) (by kernel_rfl) (by kernel_rfl) (by kernel_rfl) (fun D s W bA kK hD hW hF hA hK => ?_) ?_
  · have x29 := hA.i 29 _ rfl rfl (hF.zt.get (j := 2) rfl hW.1)
    have x38 := hA.i 38 _ rfl rfl (hF.zt.get (j := 11) rfl hW.2.1)
    have hF := Lib.hid hF
    clear hA
    go_simp
    exact hK.out _ _ ⟨hF.out.zb, hF.out.zq, hF.out.zt.step rfl rfl⟩
  exact FSteps.nil
  intro D s W aF5 hD hF hz' df' hA
  obtain ⟨d0, d1, d2, d3, d4, d5, d6, d7, d8, d9, d10, d11, d12, -⟩ := hD
  replace u1 : Sl aF5 1 _ := hA.o 1 _ rfl u1
  replace u2 : Sl aF5 2 _ := hA.o 2 _ rfl u2
  replace u3 : Sl aF5 3 _ := hA.o 3 _ rfl u3
  replace u4 : Sl aF5 4 _ := hA.o 4 _ rfl u4
  have u39 : Sl aF5 39 _ := hA.i 39 _ rfl rfl (hF.zt.get (j := 12) rfl d12)
  have hM := hF.zb
  have hB := hF.zq
  have hB : Bks W [(n1_0, #[Value.int .i64 a.lo, Value.int .i64 a.hi, Value.int .i64 a.m, Value.int .i64 a.r, Value.int .i64 a.k, Value.int .i64 b.lo, Value.int .i64 b.hi, Value.int .i64 b.m, Value.int .i64 b.r, Value.int .i64 b.k, Value.int .i64 k], 72), (n1_1, #[Value.int .i64 0, Value.int .i64 0, Value.int .i64 0, Value.int .i64 0, Value.int .i64 0], 27), (n2_6, #[Value.int .i64 a.lo, Value.int .i64 a.hi, Value.int .i64 a.m, Value.int .i64 a.r, Value.int .i64 k], 27)] := ⟨hB.1, hB.2.1, hB.2.2.1, trivial⟩
  clear hF hA hz df d0 d1 d2 d3 d4 d5 d6 d7 d8 d9 d10 d11 d12 hU
  have hz := hz'; have df := df'; clear hz' df'
  clear aF4
  show Code.wp _ _ _ _ _
  refine cond_f u39 ?_
  refine wp_skip ?_
  show Code.wp _ _ _ _ _
  refine wp_seq ?_
  obtain ⟨m6, hM, hU, hwm⟩ := start_region hM.b hB
  obtain ⟨hk_0, hk_1, hk_2, -⟩ := hB
  obtain ⟨hl_0, hl_1, hl_2, -⟩ := hU
  have hB : Bks _ [(n1_0, #[Value.int .i64 a.lo, Value.int .i64 a.hi, Value.int .i64 a.m, Value.int .i64 a.r, Value.int .i64 a.k, Value.int .i64 b.lo, Value.int .i64 b.hi, Value.int .i64 b.m, Value.int .i64 b.r, Value.int .i64 b.k, Value.int .i64 k], 72), (n2_6, #[Value.int .i64 a.lo, Value.int .i64 a.hi, Value.int .i64 a.m, Value.int .i64 a.r, Value.int .i64 k], 27)] := ⟨hk_0, hk_2, trivial⟩
  have hU : Under m6 [(n1_0, #[Value.int .i64 a.lo, Value.int .i64 a.hi, Value.int .i64 a.m, Value.int .i64 a.r, Value.int .i64 a.k, Value.int .i64 b.lo, Value.int .i64 b.hi, Value.int .i64 b.m, Value.int .i64 b.r, Value.int .i64 b.k, Value.int .i64 k], 72), (n2_6, #[Value.int .i64 a.lo, Value.int .i64 a.hi, Value.int .i64 a.m, Value.int .i64 a.r, Value.int .i64 k], 27)] := ⟨hl_0, hl_2, trivial⟩
  refine region_go (F := prem_l_r7_6 a b k n1_0 n1_1 n2_6 w m6) [41, 42, 43, 44, 45, 46, 47, 48, 49, 50, 51, 52, 53, 54, 55, 56, 57, 58, 59, 60, 61, 62] [0, 1, 2, 3, 4, 5, 6, 7, 8, 9, 10, 11, 12, 13, 14, 15, 16, 17, 18, 19, 20, 21, 22] hz df (by kernel_rfl) (by kernel_rfl) (by kernel_rfl) (fun s hs0 => ⟨hM.drew, Bks.drew hB, Vals.none s _, fun h => no_of' h, fun h => no_of' h, fun h => no_of' h, fun _ => hk_1.drew, fun h => no_of' h⟩) ?_ ?_
  refine FSteps.op3 hz rfl (dv := []) (by kernel_rfl) (by kernel_rfl) (by kernel_rfl) (fun D s W bA kK hD hW hF hA hK => ?_) ?_
  · have x3 := hA.o 3 _ rfl u3
    have hF := Lib.hid hF
    clear hA
    go_simp
    exact hK.out _ _ ⟨hF.out.zb, hF.out.zq, hF.out.zt.step rfl rfl, hF.out.v5, hF.out.k5_0, hF.out.g5, hF.out.kL0_0, hF.out.kL0_1⟩
  refine FSteps.op3 hz rfl (dv := [0]) (by kernel_rfl) (by kernel_rfl) (by kernel_rfl) (fun D s W bA kK hD hW hF hA hK => ?_) ?_
  · have x41 := hA.i 41 _ rfl rfl (hF.zt.get (j := 0) rfl hW.1)
    obtain ⟨-, ⟨c1, z1⟩, -⟩ := hF.zq.rules
    have hF := Lib.hid hF
    clear hA
    go_simp
    exact hK.out _ _ ⟨hF.out.zb, hF.out.zq, hF.out.zt.step rfl rfl, hF.out.v5, hF.out.k5_0, hF.out.g5, hF.out.kL0_0, hF.out.kL0_1⟩
  refine FSteps.op3 hz rfl (dv := []) (by kernel_rfl) (by kernel_rfl) (by kernel_rfl) (fun D s W bA kK hD hW hF hA hK => ?_) ?_
  · have x3 := hA.o 3 _ rfl u3
    obtain ⟨-, ⟨c1, z1⟩, -⟩ := hF.zq.rules
    have hF := Lib.hid hF
    clear hA
    go_simp
    exact hK.out _ _ ⟨hF.out.zb, hF.out.zq, hF.out.zt.step rfl rfl, hF.out.v5, hF.out.k5_0, hF.out.g5, hF.out.kL0_0, hF.out.kL0_1⟩
  refine FSteps.op3 hz rfl (dv := [2]) (by kernel_rfl) (by kernel_rfl) (by kernel_rfl) (fun D s W bA kK hD hW hF hA hK => ?_) ?_
  · have x43 := hA.i 43 _ rfl rfl (hF.zt.get (j := 2) rfl hW.1)
    have hF := Lib.hid hF
    clear hA
    go_simp
    (go_at_call 44; ((with_reducible_and_instances refine (step_ak a k _).mono ?_)); rintro e W1 ⟨rfl, hb⟩; (try unfold abVal))
    (try go_wp2_with fail)
    exact hK.out _ _ ⟨hF.out.zb.on hb, Bks.on hb hF.out.zq, hF.out.zt.step rfl rfl, hF.out.v5, fun h1 => (hF.out.k5_0 h1).on hb, hF.out.g5, fun h2 => (hF.out.kL0_0 h2).on hb, fun h1 => (hF.out.kL0_1 h1).on hb⟩
  refine FSteps.op3 hz rfl (dv := []) (by kernel_rfl) (by kernel_rfl) (by kernel_rfl) (fun D s W bA kK hD hW hF hA hK => ?_) ?_
  · have x4 := hA.o 4 _ rfl u4
    have hF := Lib.hid hF
    clear hA
    go_simp
    exact hK.out _ _ ⟨hF.out.zb, hF.out.zq, hF.out.zt.step rfl rfl, hF.out.v5, hF.out.k5_0, hF.out.g5, hF.out.kL0_0, hF.out.kL0_1⟩
  refine FSteps.op3 hz rfl (dv := [4]) (by kernel_rfl) (by kernel_rfl) (by kernel_rfl) (fun D s W bA kK hD hW hF hA hK => ?_) ?_
  · have x45 := hA.i 45 _ rfl rfl (hF.zt.get (j := 4) rfl hW.1)
    have hF := Lib.hid hF
    clear hA
    go_simp
    exact hK.out _ _ ⟨hF.out.zb.al _, Bks.al _ hF.out.zq, hF.out.zt.skip rfl, fun _ => rfl, fun _ => Bk.new _ _ _, fun _ => hF.out.zb.g, fun h2 => (hF.out.kL0_0 h2).al _, fun h1 => (hF.out.kL0_1 h1).al _⟩
  refine FSteps.op3 hz rfl (dv := [3, 5, 3]) (by kernel_rfl) (by kernel_rfl) (by kernel_rfl) (fun D s W bA kK hD hW hF hA hK => ?_) ?_
  · have x44 := hA.i 44 _ rfl rfl (hF.zt.get (j := 3) rfl hW.1)
    have x46 := hA.i 46 _ rfl rfl (hF.v5 hW.2.1)
    have kk := hF.k5_0 hW.2.1
    have kc := kk.cell; have kf := kk.free
    have hF := Lib.hid hF
    clear hA
    go_simp
    (go_at_call 49; ((with_reducible_and_instances refine (gcd1 ⟨sa.1, by omega⟩ ⟨by omega, by omega⟩ kk).mono ?_)); rintro e W1 ⟨rfl, hb⟩; (try unfold abVal))
    (try go_wp2_with fail)
    exact hK.out _ _ ⟨hF.out.zb.on hb, Bks.on hb hF.out.zq, hF.out.zt.step rfl rfl, hF.out.v5, fun h1 => (hF.out.k5_0 h1).on hb, hF.out.g5, fun h2 => (hF.out.kL0_0 h2).on hb, fun h1 => (hF.out.kL0_1 h1).on hb⟩
  refine FSteps.op3 hz rfl (dv := []) (by kernel_rfl) (by kernel_rfl) (by kernel_rfl) (fun D s W bA kK hD hW hF hA hK => ?_) ?_
  · have x3 := hA.o 3 _ rfl u3
    have hF := Lib.hid hF
    clear hA
    go_simp
    exact hK.out _ _ ⟨hF.out.zb, hF.out.zq, hF.out.zt.step rfl rfl, hF.out.v5, hF.out.k5_0, hF.out.g5, hF.out.kL0_0, hF.out.kL0_1⟩
  refine FSteps.op3 hz rfl (dv := [7]) (by kernel_rfl) (by kernel_rfl) (by kernel_rfl) (fun D s W bA kK hD hW hF hA hK => ?_) ?_
  · have x48 := hA.i 48 _ rfl rfl (hF.zt.get (j := 7) rfl hW.1)
    obtain ⟨-, ⟨c1, z1⟩, -⟩ := hF.zq.rules
    have hF := Lib.hid hF
    clear hA
    go_simp
    exact hK.out _ _ ⟨hF.out.zb, hF.out.zq, hF.out.zt.step rfl rfl, hF.out.v5, hF.out.k5_0, hF.out.g5, hF.out.kL0_0, hF.out.kL0_1⟩
  refine FSteps.op3 hz rfl (dv := [8]) (by kernel_rfl) (by kernel_rfl) (by kernel_rfl) (fun D s W bA kK hD hW hF hA hK => ?_) ?_
  · have x49 := hA.i 49 _ rfl rfl (hF.zt.get (j := 8) rfl hW.1)
    have hF := Lib.hid hF
    clear hA
    clear h5
    have hm9_1 : (if 0 < a.lo then 0 else a.lo) = min a.lo 0 := min_is _ _
    go_simp
    exact hK.out _ _ ⟨hF.out.zb, hF.out.zq, hF.out.zt.step rfl rfl, hF.out.v5, hF.out.k5_0, hF.out.g5, hF.out.kL0_0, hF.out.kL0_1⟩
  refine FSteps.op3 hz rfl (dv := []) (by kernel_rfl) (by kernel_rfl) (by kernel_rfl) (fun D s W bA kK hD hW hF hA hK => ?_) ?_
  · have x4 := hA.o 4 _ rfl u4
    have hF := Lib.hid hF
    clear hA
    go_simp
    exact hK.out _ _ ⟨hF.out.zb, hF.out.zq, hF.out.zt.step rfl rfl, hF.out.v5, hF.out.k5_0, hF.out.g5, hF.out.kL0_0, hF.out.kL0_1⟩
  refine FSteps.op3 hz rfl (dv := [10]) (by kernel_rfl) (by kernel_rfl) (by kernel_rfl) (fun D s W bA kK hD hW hF hA hK => ?_) ?_
  · have x51 := hA.i 51 _ rfl rfl (hF.zt.get (j := 10) rfl hW.1)
    have hF := Lib.hid hF
    clear hA
    have hw11 : IntKind.i64.wrap (1 - (absS b.lo)) = 1 - (absS b.lo) := IntWalk.i64_in _ (by omega)
    go_simp
    exact hK.out _ _ ⟨hF.out.zb, hF.out.zq, hF.out.zt.step rfl rfl, hF.out.v5, hF.out.k5_0, hF.out.g5, hF.out.kL0_0, hF.out.kL0_1⟩
  refine FSteps.op3 hz rfl (dv := [9, 11]) (by kernel_rfl) (by kernel_rfl) (by kernel_rfl) (fun D s W bA kK hD hW hF hA hK => ?_) ?_
  · have x50 := hA.i 50 _ rfl rfl (hF.zt.get (j := 9) rfl hW.1)
    have x52 := hA.i 52 _ rfl rfl (hF.zt.get (j := 11) rfl hW.2.1)
    have hF := Lib.hid hF
    clear hA
    clear h5
    have hm12_1 : (if (min a.lo 0) < (1 - (absS b.lo)) then (1 - (absS b.lo)) else (min a.lo 0)) = max (min a.lo 0) (1 - (absS b.lo)) := max_is _ _
    go_simp
    exact hK.out _ _ ⟨hF.out.zb, hF.out.zq, hF.out.zt.step rfl rfl, hF.out.v5, hF.out.k5_0, hF.out.g5, hF.out.kL0_0, hF.out.kL0_1⟩
  refine FSteps.op3 hz rfl (dv := []) (by kernel_rfl) (by kernel_rfl) (by kernel_rfl) (fun D s W bA kK hD hW hF hA hK => ?_) ?_
  · have x3 := hA.o 3 _ rfl u3
    have hF := Lib.hid hF
    clear hA
    go_simp
    exact hK.out _ _ ⟨hF.out.zb, hF.out.zq, hF.out.zt.step rfl rfl, hF.out.v5, hF.out.k5_0, hF.out.g5, hF.out.kL0_0, hF.out.kL0_1⟩
  refine FSteps.op3 hz rfl (dv := [13]) (by kernel_rfl) (by kernel_rfl) (by kernel_rfl) (fun D s W bA kK hD hW hF hA hK => ?_) ?_
  · have x54 := hA.i 54 _ rfl rfl (hF.zt.get (j := 13) rfl hW.1)
    obtain ⟨-, ⟨c1, z1⟩, -⟩ := hF.zq.rules
    have hF := Lib.hid hF
    clear hA
    go_simp
    exact hK.out _ _ ⟨hF.out.zb, hF.out.zq, hF.out.zt.step rfl rfl, hF.out.v5, hF.out.k5_0, hF.out.g5, hF.out.kL0_0, hF.out.kL0_1⟩
  refine FSteps.op3 hz rfl (dv := [14]) (by kernel_rfl) (by kernel_rfl) (by kernel_rfl) (fun D s W bA kK hD hW hF hA hK => ?_) ?_
  · have x55 := hA.i 55 _ rfl rfl (hF.zt.get (j := 14) rfl hW.1)
    have hF := Lib.hid hF
    clear hA
    clear h5
    have hm15_1 : (if a.hi < 0 then 0 else a.hi) = max a.hi 0 := max_is _ _
    go_simp
    exact hK.out _ _ ⟨hF.out.zb, hF.out.zq, hF.out.zt.step rfl rfl, hF.out.v5, hF.out.k5_0, hF.out.g5, hF.out.kL0_0, hF.out.kL0_1⟩
  refine FSteps.op3 hz rfl (dv := []) (by kernel_rfl) (by kernel_rfl) (by kernel_rfl) (fun D s W bA kK hD hW hF hA hK => ?_) ?_
  · have x4 := hA.o 4 _ rfl u4
    have hF := Lib.hid hF
    clear hA
    go_simp
    exact hK.out _ _ ⟨hF.out.zb, hF.out.zq, hF.out.zt.step rfl rfl, hF.out.v5, hF.out.k5_0, hF.out.g5, hF.out.kL0_0, hF.out.kL0_1⟩
  refine FSteps.op3 hz rfl (dv := [16]) (by kernel_rfl) (by kernel_rfl) (by kernel_rfl) (fun D s W bA kK hD hW hF hA hK => ?_) ?_
  · have x57 := hA.i 57 _ rfl rfl (hF.zt.get (j := 16) rfl hW.1)
    have hF := Lib.hid hF
    clear hA
    have hw17 : IntKind.i64.wrap ((absS b.lo) - 1) = (absS b.lo) - 1 := IntWalk.i64_in _ (by omega)
    go_simp
    exact hK.out _ _ ⟨hF.out.zb, hF.out.zq, hF.out.zt.step rfl rfl, hF.out.v5, hF.out.k5_0, hF.out.g5, hF.out.kL0_0, hF.out.kL0_1⟩
  refine FSteps.op3 hz rfl (dv := [15, 17]) (by kernel_rfl) (by kernel_rfl) (by kernel_rfl) (fun D s W bA kK hD hW hF hA hK => ?_) ?_
  · have x56 := hA.i 56 _ rfl rfl (hF.zt.get (j := 15) rfl hW.1)
    have x58 := hA.i 58 _ rfl rfl (hF.zt.get (j := 17) rfl hW.2.1)
    have hF := Lib.hid hF
    clear hA
    clear h5
    have hm18_1 : (if ((absS b.lo) - 1) < (max a.hi 0) then ((absS b.lo) - 1) else (max a.hi 0)) = min (max a.hi 0) ((absS b.lo) - 1) := min_is _ _
    go_simp
    exact hK.out _ _ ⟨hF.out.zb, hF.out.zq, hF.out.zt.step rfl rfl, hF.out.v5, hF.out.k5_0, hF.out.g5, hF.out.kL0_0, hF.out.kL0_1⟩
  refine FSteps.op3 hz rfl (dv := []) (by kernel_rfl) (by kernel_rfl) (by kernel_rfl) (fun D s W bA kK hD hW hF hA hK => ?_) ?_
  · have x1 := hA.o 1 _ rfl u1
    have hF := Lib.hid hF
    clear hA
    go_simp
    exact hK.out _ _ ⟨hF.out.zb, hF.out.zq, hF.out.zt.step rfl rfl, hF.out.v5, hF.out.k5_0, hF.out.g5, hF.out.kL0_0, hF.out.kL0_1⟩
  refine FSteps.op3 hz rfl (dv := [19]) (by kernel_rfl) (by kernel_rfl) (by kernel_rfl) (fun D s W bA kK hD hW hF hA hK => ?_) ?_
  · have x60 := hA.i 60 _ rfl rfl (hF.zt.get (j := 19) rfl hW.1)
    obtain ⟨⟨c0, z0⟩, -, -⟩ := hF.zq.rules
    have hF := Lib.hid hF
    clear hA
    go_simp
    exact hK.out _ _ ⟨hF.out.zb, hF.out.zq, hF.out.zt.step rfl rfl, hF.out.v5, hF.out.k5_0, hF.out.g5, hF.out.kL0_0, hF.out.kL0_1⟩
  refine FSteps.op3 hz rfl (dv := [1, 6, 12, 18, 20, 6]) (by kernel_rfl) (by kernel_rfl) (by kernel_rfl) (fun D s W bA kK hD hW hF hA hK => ?_) ?_
  · have x42 := hA.i 42 _ rfl rfl (hF.zt.get (j := 1) rfl hW.1)
    have x47 := hA.i 47 _ rfl rfl (hF.zt.get (j := 6) rfl hW.2.1)
    have x53 := hA.i 53 _ rfl rfl (hF.zt.get (j := 12) rfl hW.2.2.1)
    have x59 := hA.i 59 _ rfl rfl (hF.zt.get (j := 18) rfl hW.2.2.2.1)
    have x61 := hA.i 61 _ rfl rfl (hF.zt.get (j := 20) rfl hW.2.2.2.2.1)
    have hF := Lib.hid hF
    clear hA
    go_simp
    (go_at_call 51; ((with_reducible_and_instances refine (GY.out _).mono ?_)); rintro e W1 ⟨rfl, hb⟩; (try unfold abVal))
    (try go_wp2_with fail)
    exact hK.out _ _ ⟨hF.out.zb.on hb, Bks.on hb hF.out.zq, hF.out.zt.step rfl rfl, hF.out.v5, fun h1 => (hF.out.k5_0 h1).on hb, hF.out.g5, fun h2 => (hF.out.kL0_0 h2).on hb, fun h1 => (hF.out.kL0_1 h1).on hb⟩
  refine FSteps.op3 hz rfl (dv := [21, 21, 0, 1, 2, 3, 4, 5, 6, 7, 8, 9, 10, 11, 12, 13, 14, 15, 16, 17, 18, 19, 20, 21]) (by kernel_rfl) (by kernel_rfl) (by kernel_rfl) (fun D s W bA kK hD hW hF hA hK => ?_) ?_
  · have x2 := hA.o 2 _ rfl u2
    have x62 := hA.i 62 _ rfl rfl (hF.zt.get (j := 21) rfl hW.1)
    have kk := hF.kL0_0 hD
    have kc := kk.cell; have kf := kk.free
    have hF := Lib.hid hF
    have kk := Lib.hid kk
    clear hA
    go_simp
    exact hK.out undef _ ⟨hF.out.zb.sAll (hw_n1_1) 0 [Value.int .i64 (likeS a.lo (gcdS (stepS a) [absS b.lo]) (max (min a.lo 0) (1 - absS b.lo)) (min (max a.hi 0) (absS b.lo - 1)) k).lo, Value.int .i64 (likeS a.lo (gcdS (stepS a) [absS b.lo]) (max (min a.lo 0) (1 - absS b.lo)) (min (max a.hi 0) (absS b.lo - 1)) k).hi, Value.int .i64 (likeS a.lo (gcdS (stepS a) [absS b.lo]) (max (min a.lo 0) (1 - absS b.lo)) (min (max a.hi 0) (absS b.lo - 1)) k).m, Value.int .i64 (likeS a.lo (gcdS (stepS a) [absS b.lo]) (max (min a.lo 0) (1 - absS b.lo)) (min (max a.hi 0) (absS b.lo - 1)) k).r, Value.int .i64 (likeS a.lo (gcdS (stepS a) [absS b.lo]) (max (min a.lo 0) (1 - absS b.lo)) (min (max a.hi 0) (absS b.lo - 1)) k).k], Bks.oAll [Value.int .i64 (likeS a.lo (gcdS (stepS a) [absS b.lo]) (max (min a.lo 0) (1 - absS b.lo)) (min (max a.hi 0) (absS b.lo - 1)) k).lo, Value.int .i64 (likeS a.lo (gcdS (stepS a) [absS b.lo]) (max (min a.lo 0) (1 - absS b.lo)) (min (max a.hi 0) (absS b.lo - 1)) k).hi, Value.int .i64 (likeS a.lo (gcdS (stepS a) [absS b.lo]) (max (min a.lo 0) (1 - absS b.lo)) (min (max a.hi 0) (absS b.lo - 1)) k).m, Value.int .i64 (likeS a.lo (gcdS (stepS a) [absS b.lo]) (max (min a.lo 0) (1 - absS b.lo)) (min (max a.hi 0) (absS b.lo - 1)) k).r, Value.int .i64 (likeS a.lo (gcdS (stepS a) [absS b.lo]) (max (min a.lo 0) (1 - absS b.lo)) (min (max a.hi 0) (absS b.lo - 1)) k).k] 0 (⟨(by omega), (by omega), trivial⟩) hF.out.zq, hF.out.zt.skip rfl, hF.out.v5, fun h1 => Bk.oAll (Nat.ne_of_gt (Nat.lt_of_lt_of_le hl_1 (hF.out.g5 h1))) [Value.int .i64 (likeS a.lo (gcdS (stepS a) [absS b.lo]) (max (min a.lo 0) (1 - absS b.lo)) (min (max a.hi 0) (absS b.lo - 1)) k).lo, Value.int .i64 (likeS a.lo (gcdS (stepS a) [absS b.lo]) (max (min a.lo 0) (1 - absS b.lo)) (min (max a.hi 0) (absS b.lo - 1)) k).hi, Value.int .i64 (likeS a.lo (gcdS (stepS a) [absS b.lo]) (max (min a.lo 0) (1 - absS b.lo)) (min (max a.hi 0) (absS b.lo - 1)) k).m, Value.int .i64 (likeS a.lo (gcdS (stepS a) [absS b.lo]) (max (min a.lo 0) (1 - absS b.lo)) (min (max a.hi 0) (absS b.lo - 1)) k).r, Value.int .i64 (likeS a.lo (gcdS (stepS a) [absS b.lo]) (max (min a.lo 0) (1 - absS b.lo)) (min (max a.hi 0) (absS b.lo - 1)) k).k] 0 (hF.out.k5_0 h1), hF.out.g5, fun h2 => no_of h2, fun _ => kk.out.full [Value.int .i64 (likeS a.lo (gcdS (stepS a) [absS b.lo]) (max (min a.lo 0) (1 - absS b.lo)) (min (max a.hi 0) (absS b.lo - 1)) k).lo, Value.int .i64 (likeS a.lo (gcdS (stepS a) [absS b.lo]) (max (min a.lo 0) (1 - absS b.lo)) (min (max a.hi 0) (absS b.lo - 1)) k).hi, Value.int .i64 (likeS a.lo (gcdS (stepS a) [absS b.lo]) (max (min a.lo 0) (1 - absS b.lo)) (min (max a.hi 0) (absS b.lo - 1)) k).m, Value.int .i64 (likeS a.lo (gcdS (stepS a) [absS b.lo]) (max (min a.lo 0) (1 - absS b.lo)) (min (max a.hi 0) (absS b.lo - 1)) k).r, Value.int .i64 (likeS a.lo (gcdS (stepS a) [absS b.lo]) (max (min a.lo 0) (1 - absS b.lo)) (min (max a.hi 0) (absS b.lo - 1)) k).k] rfl⟩
  exact FSteps.nil
  intro D s W aF6 hD hF hz' df' hA
  obtain ⟨d0, d1, d2, d3, d4, d5, d6, d7, d8, d9, d10, d11, d12, d13, d14, d15, d16, d17, d18, d19, d20, d21, d22, -⟩ := hD
  clear u1 u3 u4 u39
  replace u2 : Sl aF6 2 _ := hA.o 2 _ rfl u2
  have hkX5 := hF.k5_0 d5
  have hgX5 := hF.g5 d5
  have hkXL0 := hF.kL0_1 d22
  have hM := hF.zb
  have hB := hF.zq
  generalize pblk (s 46) = n6_5 at hkX5 hgX5 hkXL0
  have hB : Bks W [(n1_1, #[Value.int .i64 (likeS a.lo (gcdS (stepS a) [absS b.lo]) (max (min a.lo 0) (1 - absS b.lo)) (min (max a.hi 0) (absS b.lo - 1)) k).lo, Value.int .i64 (likeS a.lo (gcdS (stepS a) [absS b.lo]) (max (min a.lo 0) (1 - absS b.lo)) (min (max a.hi 0) (absS b.lo - 1)) k).hi, Value.int .i64 (likeS a.lo (gcdS (stepS a) [absS b.lo]) (max (min a.lo 0) (1 - absS b.lo)) (min (max a.hi 0) (absS b.lo - 1)) k).m, Value.int .i64 (likeS a.lo (gcdS (stepS a) [absS b.lo]) (max (min a.lo 0) (1 - absS b.lo)) (min (max a.hi 0) (absS b.lo - 1)) k).r, Value.int .i64 (likeS a.lo (gcdS (stepS a) [absS b.lo]) (max (min a.lo 0) (1 - absS b.lo)) (min (max a.hi 0) (absS b.lo - 1)) k).k], 27)] := ⟨hkXL0, trivial⟩
  have hne_n1_1_n6_5 : n1_1 ≠ n6_5 := by omega
  clear hF hA hz df d0 d1 d2 d3 d4 d5 d6 d7 d8 d9 d10 d11 d12 d13 d14 d15 d16 d17 d18 d19 d20 d21 d22 
  have hz := hz'; have df := df'; clear hz' df'
  clear aF5
  show Code.wp _ _ _ _ _
  refine wp_ret ?_
  show bodyPost _ _ _ _ _ _
  have hB2 := hB.rules
  obtain ⟨⟨c0, z0⟩, -⟩ := hB2
  unfold Sl at u2
  refine end_go df (v := (Value.agg #[Value.int .i64 (likeS a.lo (gcdS (stepS a) [absS b.lo]) (max (min a.lo 0) (1 - absS b.lo)) (min (max a.hi 0) (absS b.lo - 1)) k).lo, Value.int .i64 (likeS a.lo (gcdS (stepS a) [absS b.lo]) (max (min a.lo 0) (1 - absS b.lo)) (min (max a.hi 0) (absS b.lo - 1)) k).hi, Value.int .i64 (likeS a.lo (gcdS (stepS a) [absS b.lo]) (max (min a.lo 0) (1 - absS b.lo)) (min (max a.hi 0) (absS b.lo - 1)) k).m, Value.int .i64 (likeS a.lo (gcdS (stepS a) [absS b.lo]) (max (min a.lo 0) (1 - absS b.lo)) (min (max a.hi 0) (absS b.lo - 1)) k).r, Value.int .i64 (likeS a.lo (gcdS (stepS a) [absS b.lo]) (max (min a.lo 0) (1 - absS b.lo)) (min (max a.hi 0) (absS b.lo - 1)) k).k])) (by simp [results, Try.results78, go_sem, u2, c0]) ⟨rfl, hM.b⟩

structure prem_m_r0_1 (a b : Ab) (k : Int) (w : World) (m1 : Nat) (D : Nat → Bool) (s : Nat → Value) (W : World) : Prop where
  zb : Mk0 w m1 W
  zq : Bks W []
  zt : Vals D s []
  v0 : D 0 = true → s 1 = (Value.pointer (some ⟨pblk (s 1), 0, none⟩))
  v1 : D 1 = true → s 2 = (Value.pointer (some ⟨pblk (s 2), 0, none⟩))
  k0_0 : D 0 = true → Bk W (pblk (s 1)) #[Value.int .i64 a.lo, Value.int .i64 a.hi, Value.int .i64 a.m, Value.int .i64 a.r, Value.int .i64 a.k, Value.int .i64 b.lo, Value.int .i64 b.hi, Value.int .i64 b.m, Value.int .i64 b.r, Value.int .i64 b.k, Value.int .i64 k] 72
  g0 : D 0 = true → m1 ≤ (pblk (s 1))
  k1_0 : D 1 = true → Bk W (pblk (s 2)) #[Value.int .i64 0, Value.int .i64 0, Value.int .i64 0, Value.int .i64 0, Value.int .i64 0] 27
  g1 : D 1 = true → m1 ≤ (pblk (s 2))
  e0_1 : D 0 = true → D 1 = true → pblk (s 1) ≠ pblk (s 2)

structure prem_m_r1_2 (a b : Ab) (k : Int) (n1_0 n1_1 : Nat) (w : World) (m2 : Nat) (D : Nat → Bool) (s : Nat → Value) (W : World) : Prop where
  zb : Mk0 w m2 W
  zq : Bks W [(n1_0, #[Value.int .i64 a.lo, Value.int .i64 a.hi, Value.int .i64 a.m, Value.int .i64 a.r, Value.int .i64 a.k, Value.int .i64 b.lo, Value.int .i64 b.hi, Value.int .i64 b.m, Value.int .i64 b.r, Value.int .i64 b.k, Value.int .i64 k], 72), (n1_1, #[Value.int .i64 0, Value.int .i64 0, Value.int .i64 0, Value.int .i64 0, Value.int .i64 0], 27)]
  zt : Vals D s [(0, 5, Value.pointer (some ⟨n1_0, 0, none⟩)), (1, 6, Value.agg #[Value.int .i64 a.lo, Value.int .i64 a.hi, Value.int .i64 a.m, Value.int .i64 a.r, Value.int .i64 a.k]), (2, 7, Value.pointer (some ⟨n1_0, 5, none⟩)), (3, 8, Value.pointer (some ⟨n1_0, 5, none⟩)), (4, 9, Value.int .i64 b.lo), (5, 10, Value.int .i64 (absS b.lo)), (8, 4, Value.int .i64 (absS b.lo))]
  v6 : D 6 = true → s 3 = (Value.pointer (some ⟨pblk (s 3), 0, none⟩))
  k6_0 : D 6 = true → D 7 = false → Bk W (pblk (s 3)) #[Value.int .i64 0, Value.int .i64 0, Value.int .i64 0, Value.int .i64 0, Value.int .i64 0] 27
  k6_1 : D 7 = true → Bk W (pblk (s 3)) #[Value.int .i64 a.lo, Value.int .i64 a.hi, Value.int .i64 a.m, Value.int .i64 a.r, Value.int .i64 a.k] 27
  c6_1 : D 7 = true → D 6 = true
  g6 : D 6 = true → m2 ≤ (pblk (s 3))

structure prem_m_r2_3 (a b : Ab) (k : Int) (n1_0 n1_1 n2_6 : Nat) (w : World) (m3 : Nat) (D : Nat → Bool) (s : Nat → Value) (W : World) : Prop where
  zb : Mk0 w m3 W
  zq : Bks W [(n1_0, #[Value.int .i64 a.lo, Value.int .i64 a.hi, Value.int .i64 a.m, Value.int .i64 a.r, Value.int .i64 a.k, Value.int .i64 b.lo, Value.int .i64 b.hi, Value.int .i64 b.m, Value.int .i64 b.r, Value.int .i64 b.k, Value.int .i64 k], 72), (n1_1, #[Value.int .i64 0, Value.int .i64 0, Value.int .i64 0, Value.int .i64 0, Value.int .i64 0], 27), (n2_6, #[Value.int .i64 a.lo, Value.int .i64 a.hi, Value.int .i64 a.m, Value.int .i64 a.r, Value.int .i64 a.k], 27)]
  zt : Vals D s [(0, 11, Value.pointer (some ⟨n1_0, 5, none⟩)), (1, 12, Value.agg #[Value.int .i64 b.lo, Value.int .i64 b.hi, Value.int .i64 b.m, Value.int .i64 b.r, Value.int .i64 b.k]), (2, 13, Value.int .i64 (stepS b)), (3, 14, Value.bool false)]

structure prem_m_r4_4 (a b : Ab) (k : Int) (n1_0 n1_1 n2_6 : Nat) (w : World) (m4 : Nat) (D : Nat → Bool) (s : Nat → Value) (W : World) : Prop where
  zb : Mk0 w m4 W
  zq : Bks W [(n1_0, #[Value.int .i64 a.lo, Value.int .i64 a.hi, Value.int .i64 a.m, Value.int .i64 a.r, Value.int .i64 a.k, Value.int .i64 b.lo, Value.int .i64 b.hi, Value.int .i64 b.m, Value.int .i64 b.r, Value.int .i64 b.k, Value.int .i64 k], 72), (n1_1, #[Value.int .i64 0, Value.int .i64 0, Value.int .i64 0, Value.int .i64 0, Value.int .i64 0], 27)]
  zt : Vals D s [(0, 24, Value.pointer (some ⟨n1_0, 10, none⟩)), (1, 25, Value.int .i64 k), (2, 26, Value.pointer (some ⟨n2_6, 4, none⟩))]
  kL0_0 : D 3 = false → Bk W n2_6 #[Value.int .i64 a.lo, Value.int .i64 a.hi, Value.int .i64 a.m, Value.int .i64 a.r, Value.int .i64 a.k] 27
  kL0_1 : D 3 = true → Bk W n2_6 #[Value.int .i64 a.lo, Value.int .i64 a.hi, Value.int .i64 a.m, Value.int .i64 a.r, Value.int .i64 k] 27

structure prem_m_r5_5 (a b : Ab) (k : Int) (n1_0 n1_1 n2_6 : Nat) (w : World) (m5 : Nat) (D : Nat → Bool) (s : Nat → Value) (W : World) : Prop where
  zb : Mk0 w m5 W
  zq : Bks W [(n1_0, #[Value.int .i64 a.lo, Value.int .i64 a.hi, Value.int .i64 a.m, Value.int .i64 a.r, Value.int .i64 a.k, Value.int .i64 b.lo, Value.int .i64 b.hi, Value.int .i64 b.m, Value.int .i64 b.r, Value.int .i64 b.k, Value.int .i64 k], 72), (n1_1, #[Value.int .i64 0, Value.int .i64 0, Value.int .i64 0, Value.int .i64 0, Value.int .i64 0], 27), (n2_6, #[Value.int .i64 a.lo, Value.int .i64 a.hi, Value.int .i64 a.m, Value.int .i64 a.r, Value.int .i64 k], 27)]
  zt : Vals D s [(0, 27, Value.int .i64 (absS b.lo)), (1, 28, Value.bool false), (2, 29, Value.bool false), (3, 30, Value.pointer (some ⟨n2_6, 0, none⟩)), (4, 31, Value.int .i64 a.lo), (5, 32, Value.bool true), (6, 33, Value.bool true), (7, 34, Value.pointer (some ⟨n2_6, 1, none⟩)), (8, 35, Value.int .i64 a.hi), (9, 36, Value.int .i64 (absS b.lo)), (10, 37, Value.bool false), (11, 38, Value.bool false), (12, 39, Value.bool false)]

structure prem_m_r7_6 (a b : Ab) (k : Int) (n1_0 n1_1 n2_6 : Nat) (w : World) (m6 : Nat) (D : Nat → Bool) (s : Nat → Value) (W : World) : Prop where
  zb : Mk0 w m6 W
  zq : Bks W [(n1_0, #[Value.int .i64 a.lo, Value.int .i64 a.hi, Value.int .i64 a.m, Value.int .i64 a.r, Value.int .i64 a.k, Value.int .i64 b.lo, Value.int .i64 b.hi, Value.int .i64 b.m, Value.int .i64 b.r, Value.int .i64 b.k, Value.int .i64 k], 72), (n2_6, #[Value.int .i64 a.lo, Value.int .i64 a.hi, Value.int .i64 a.m, Value.int .i64 a.r, Value.int .i64 k], 27)]
  zt : Vals D s [(0, 41, Value.pointer (some ⟨n2_6, 0, none⟩)), (1, 42, Value.int .i64 a.lo), (2, 43, Value.agg #[Value.int .i64 a.lo, Value.int .i64 a.hi, Value.int .i64 a.m, Value.int .i64 a.r, Value.int .i64 k]), (3, 44, Value.int .i64 (stepS a)), (4, 45, Value.int .i64 (absS b.lo)), (6, 47, Value.int .i64 (gcdS (stepS a) [absS b.lo])), (7, 48, Value.pointer (some ⟨n2_6, 0, none⟩)), (8, 49, Value.int .i64 a.lo), (9, 50, Value.int .i64 (min a.lo 0)), (10, 51, Value.int .i64 (absS b.lo)), (11, 52, Value.int .i64 (1 - (absS b.lo))), (12, 53, Value.int .i64 (max (min a.lo 0) (1 - (absS b.lo)))), (13, 54, Value.pointer (some ⟨n2_6, 1, none⟩)), (14, 55, Value.int .i64 a.hi), (15, 56, Value.int .i64 (max a.hi 0)), (16, 57, Value.int .i64 (absS b.lo)), (17, 58, Value.int .i64 ((absS b.lo) - 1)), (18, 59, Value.int .i64 (min (max a.hi 0) ((absS b.lo) - 1))), (19, 60, Value.pointer (some ⟨n1_0, 10, none⟩)), (20, 61, Value.int .i64 k), (21, 62, Value.agg #[Value.int .i64 (likeS a.lo (gcdS (stepS a) [absS b.lo]) (max (min a.lo 0) (1 - absS b.lo)) (min (max a.hi 0) (absS b.lo - 1)) k).lo, Value.int .i64 (likeS a.lo (gcdS (stepS a) [absS b.lo]) (max (min a.lo 0) (1 - absS b.lo)) (min (max a.hi 0) (absS b.lo - 1)) k).hi, Value.int .i64 (likeS a.lo (gcdS (stepS a) [absS b.lo]) (max (min a.lo 0) (1 - absS b.lo)) (min (max a.hi 0) (absS b.lo - 1)) k).m, Value.int .i64 (likeS a.lo (gcdS (stepS a) [absS b.lo]) (max (min a.lo 0) (1 - absS b.lo)) (min (max a.hi 0) (absS b.lo - 1)) k).r, Value.int .i64 (likeS a.lo (gcdS (stepS a) [absS b.lo]) (max (min a.lo 0) (1 - absS b.lo)) (min (max a.hi 0) (absS b.lo - 1)) k).k])]
  v5 : D 5 = true → s 46 = (Value.slice (some ⟨pblk (s 46), 0, none⟩) 1 1)
  k5_0 : D 5 = true → Bk W (pblk (s 46)) #[Value.int .i64 (absS b.lo)] 3
  g5 : D 5 = true → m6 ≤ (pblk (s 46))
  kL0_0 : D 22 = false → Bk W n1_1 #[Value.int .i64 0, Value.int .i64 0, Value.int .i64 0, Value.int .i64 0, Value.int .i64 0] 27
  kL0_1 : D 22 = true → Bk W n1_1 #[Value.int .i64 (likeS a.lo (gcdS (stepS a) [absS b.lo]) (max (min a.lo 0) (1 - absS b.lo)) (min (max a.hi 0) (absS b.lo - 1)) k).lo, Value.int .i64 (likeS a.lo (gcdS (stepS a) [absS b.lo]) (max (min a.lo 0) (1 - absS b.lo)) (min (max a.hi 0) (absS b.lo - 1)) k).hi, Value.int .i64 (likeS a.lo (gcdS (stepS a) [absS b.lo]) (max (min a.lo 0) (1 - absS b.lo)) (min (max a.hi 0) (absS b.lo - 1)) k).m, Value.int .i64 (likeS a.lo (gcdS (stepS a) [absS b.lo]) (max (min a.lo 0) (1 - absS b.lo)) (min (max a.hi 0) (absS b.lo - 1)) k).r, Value.int .i64 (likeS a.lo (gcdS (stepS a) [absS b.lo]) (max (min a.lo 0) (1 - absS b.lo)) (min (max a.hi 0) (absS b.lo - 1)) k).k] 27

set_option maxRecDepth 100000 in
set_option maxHeartbeats 4000000 in
theorem prem_m {a b : Ab} (k : Int) (w : World) (ha : Good a) (hb : Good b) (hs : stepS b = 0) (h4 : absS b.lo ≠ 0) (h5 : 0 ≤ a.lo) (h6 : absS b.lo ≤ a.hi) :
    Calls Try.prog 78 #[Value.agg #[Value.int .i64 a.lo, Value.int .i64 a.hi, Value.int .i64 a.m, Value.int .i64 a.r, Value.int .i64 a.k, Value.int .i64 b.lo, Value.int .i64 b.hi, Value.int .i64 b.m, Value.int .i64 b.r, Value.int .i64 b.k, Value.int .i64 k]] w fun e w' => e = .returned (Value.agg #[Value.int .i64 (likeS a.lo (gcdS (stepS a) [absS b.lo]) (max (min a.lo 0) (1 - absS b.lo)) (min (max a.hi 0) (absS b.lo - 1)) k).lo, Value.int .i64 (likeS a.lo (gcdS (stepS a) [absS b.lo]) (max (min a.lo 0) (1 - absS b.lo)) (min (max a.hi 0) (absS b.lo - 1)) k).hi, Value.int .i64 (likeS a.lo (gcdS (stepS a) [absS b.lo]) (max (min a.lo 0) (1 - absS b.lo)) (min (max a.hi 0) (absS b.lo - 1)) k).m, Value.int .i64 (likeS a.lo (gcdS (stepS a) [absS b.lo]) (max (min a.lo 0) (1 - absS b.lo)) (min (max a.hi 0) (absS b.lo - 1)) k).r, Value.int .i64 (likeS a.lo (gcdS (stepS a) [absS b.lo]) (max (min a.lo 0) (1 - absS b.lo)) (min (max a.hi 0) (absS b.lo - 1)) k).k]) ∧ Below w.heap.size w w' := by
  have a1 := ha.h1; have a2 := ha.h2; have a3 := ha.h3
  have b1 := hb.h1; have b2 := hb.h2; have b3 := hb.h3
  have sa := ha.step0; have sb := hb.step0
  have ab1 : 0 ≤ absS b.lo ∧ absS b.lo ≤ 2147483648 := by unfold absS; omega
  have hx : ¬ (0 ≤ a.lo ∧ a.hi < absS b.lo) := by omega
  have gg := gcd_le (x := stepS a) (y := absS b.lo) (B := 4294967296) sa (by omega)
  have gpos : 0 < gcdS (stepS a) [absS b.lo] := by
    show 0 < (Int.gcd (stepS a) (absS b.lo) : Int)
    have : Int.gcd (stepS a) (absS b.lo) ≠ 0 := fun h => h4 (Int.gcd_eq_zero_iff.1 h).2
    omega
  have GY := Lib.hid (like_is a.lo (gcdS (stepS a) [absS b.lo]) (max (min a.lo 0) (1 - absS b.lo)) (min (max a.hi 0) (absS b.lo - 1)) k (by omega) (rem_fits ha hs h4 hx) (by omega) (by omega) gpos (Int.le_trans gg.2 (by omega)))
  clear gg gpos hx
  replace h4 := Lib.hid h4; replace hs := Lib.hid hs
  refine calls_go Try.func78 rfl 63 rfl rfl (fun aF hz df hu => ?_)
  have u0 : Sl aF 0 (Value.agg #[Value.int .i64 a.lo, Value.int .i64 a.hi, Value.int .i64 a.m, Value.int .i64 a.r, Value.int .i64 a.k, Value.int .i64 b.lo, Value.int .i64 b.hi, Value.int .i64 b.m, Value.int .i64 b.r, Value.int .i64 b.k, Value.int .i64 k]) := hu 0 _ rfl
  clear hu
  have hM : Mk0 w w.heap.size w := ⟨Below.refl _ _, Nat.le_refl _⟩
  have hB : Bks w [] := trivial
  refine wp_seq ?_
  obtain ⟨m1, hM, hU, hwm⟩ := start_region hM.b hB
  refine region_run (F := prem_m_r0_1 a b k w m1) [1, 2] [0, 1] hz df (by kernel_rfl) (by kernel_rfl) (fun s hs0 => ⟨hM, hB, Vals.none s _, fun h => no_of' h, fun h => no_of' h, fun h => no_of' h, fun h => no_of' h, fun h => no_of' h, fun h => no_of' h, fun h => no_of' h⟩) ?_ ?_
  refine FSteps.op3 hz rfl (dv := []) (by kernel_rfl) (by kernel_rfl) (by kernel_rfl) (fun D s W bA kK hD hW hF hA hK => ?_) ?_
  · have x0 := hA.o 0 _ rfl u0
    have hF := Lib.hid hF
    clear hA
    go_simp
    exact hK.out _ _ ⟨hF.out.zb.al _, Bks.al _ hF.out.zq, hF.out.zt.skip rfl, fun _ => rfl, hF.out.v1, fun _ => Bk.new _ _ _, fun _ => hF.out.zb.g, fun h1 => (hF.out.k1_0 h1).al _, hF.out.g1, fun _ h => Nat.ne_of_gt ((hF.out.k1_0 h).lt)⟩
  refine FSteps.op3 hz rfl (dv := []) (by kernel_rfl) (by kernel_rfl) (by kernel_rfl) (fun D s W bA kK hD hW hF hA hK => ?_) ?_
  · have hF := Lib.hid hF
    clear hA
    go_simp
    exact hK.out _ _ ⟨hF.out.zb.al _, Bks.al _ hF.out.zq, hF.out.zt.skip rfl, hF.out.v0, fun _ => rfl, fun h1 => (hF.out.k0_0 h1).al _, hF.out.g0, fun _ => Bk.new _ _ _, fun _ => hF.out.zb.g, fun h _ => Nat.ne_of_lt ((hF.out.k0_0 h).lt)⟩
  exact FSteps.nil
  intro D s W aF1 hD hF hz' df' hA
  obtain ⟨d0, d1, -⟩ := hD
  clear u0
  have u1 : Sl aF1 1 _ := hA.i 1 _ rfl rfl (hF.v0 d0)
  have u2 : Sl aF1 2 _ := hA.i 2 _ rfl rfl (hF.v1 d1)
  have hkX0 := hF.k0_0 d0
  have hgX0 := hF.g0 d0
  have hkX1 := hF.k1_0 d1
  have hgX1 := hF.g1 d1
  have heX0_1 := hF.e0_1 d0 d1
  have hM := hF.zb
  have hB := hF.zq
  generalize pblk (s 1) = n1_0 at hkX0 hgX0 hkX1 hgX1 heX0_1 u1 u2
  generalize pblk (s 2) = n1_1 at hkX0 hgX0 hkX1 hgX1 heX0_1 u1 u2
  have hB : Bks W [(n1_0, #[Value.int .i64 a.lo, Value.int .i64 a.hi, Value.int .i64 a.m, Value.int .i64 a.r, Value.int .i64 a.k, Value.int .i64 b.lo, Value.int .i64 b.hi, Value.int .i64 b.m, Value.int .i64 b.r, Value.int .i64 b.k, Value.int .i64 k], 72), (n1_1, #[Value.int .i64 0, Value.int .i64 0, Value.int .i64 0, Value.int .i64 0, Value.int .i64 0], 27)] := ⟨hkX0, hkX1, trivial⟩
  have hw_n1_1 : w.heap.size ≤ n1_1 := Nat.le_trans hwm hgX1
  clear hF hA hz df d0 d1 hU
  have hz := hz'; have df := df'; clear hz' df'
  clear aF
  show Code.wp _ _ _ _ _
  refine wp_seq ?_
  obtain ⟨m2, hM, hU, hwm⟩ := start_region hM.b hB
  refine region_go (F := prem_m_r1_2 a b k n1_0 n1_1 w m2) [5, 6, 7, 8, 9, 10, 3, 4] [0, 1, 2, 3, 4, 5, 6, 7, 8] hz df (by kernel_rfl) (by kernel_rfl) (by kernel_rfl) (fun s hs0 => ⟨hM.drew, Bks.drew hB, Vals.none s _, fun h => no_of' h, fun h => no_of' h, fun h => no_of' h, fun h => no_of' h, fun h => no_of' h⟩) ?_ ?_
  refine FSteps.op3 hz rfl (dv := []) (by kernel_rfl) (by kernel_rfl) (by kernel_rfl) (fun D s W bA kK hD hW hF hA hK => ?_) ?_
  · have x1 := hA.o 1 _ rfl u1
    have hF := Lib.hid hF
    clear hA
    go_simp
    exact hK.out _ _ ⟨hF.out.zb, hF.out.zq, hF.out.zt.step rfl rfl, hF.out.v6, hF.out.k6_0, hF.out.k6_1, hF.out.c6_1, hF.out.g6⟩
  refine FSteps.op3 hz rfl (dv := [0]) (by kernel_rfl) (by kernel_rfl) (by kernel_rfl) (fun D s W bA kK hD hW hF hA hK => ?_) ?_
  · have x5 := hA.i 5 _ rfl rfl (hF.zt.get (j := 0) rfl hW.1)
    obtain ⟨⟨c0, z0⟩, -, -⟩ := hF.zq.rules
    have hF := Lib.hid hF
    clear hA
    go_simp
    exact hK.out _ _ ⟨hF.out.zb, hF.out.zq, hF.out.zt.step rfl rfl, hF.out.v6, hF.out.k6_0, hF.out.k6_1, hF.out.c6_1, hF.out.g6⟩
  refine FSteps.op3 hz rfl (dv := []) (by kernel_rfl) (by kernel_rfl) (by kernel_rfl) (fun D s W bA kK hD hW hF hA hK => ?_) ?_
  · have x1 := hA.o 1 _ rfl u1
    have hF := Lib.hid hF
    clear hA
    go_simp
    exact hK.out _ _ ⟨hF.out.zb, hF.out.zq, hF.out.zt.step rfl rfl, hF.out.v6, hF.out.k6_0, hF.out.k6_1, hF.out.c6_1, hF.out.g6⟩
  refine FSteps.op3 hz rfl (dv := [2]) (by kernel_rfl) (by kernel_rfl) (by kernel_rfl) (fun D s W bA kK hD hW hF hA hK => ?_) ?_
  · have x7 := hA.i 7 _ rfl rfl (hF.zt.get (j := 2) rfl hW.1)
    have hF := Lib.hid hF
    clear hA
    go_simp
    exact hK.out _ _ ⟨hF.out.zb, hF.out.zq, hF.out.zt.step rfl rfl, hF.out.v6, hF.out.k6_0, hF.out.k6_1, hF.out.c6_1, hF.out.g6⟩
  refine FSteps.op3 hz rfl (dv := [3]) (by kernel_rfl) (by kernel_rfl) (by kernel_rfl) (fun D s W bA kK hD hW hF hA hK => ?_) ?_
  · have x8 := hA.i 8 _ rfl rfl (hF.zt.get (j := 3) rfl hW.1)
    obtain ⟨⟨c0, z0⟩, -, -⟩ := hF.zq.rules
    have hF := Lib.hid hF
    clear hA
    go_simp
    exact hK.out _ _ ⟨hF.out.zb, hF.out.zq, hF.out.zt.step rfl rfl, hF.out.v6, hF.out.k6_0, hF.out.k6_1, hF.out.c6_1, hF.out.g6⟩
  refine FSteps.op3 hz rfl (dv := [4]) (by kernel_rfl) (by kernel_rfl) (by kernel_rfl) (fun D s W bA kK hD hW hF hA hK => ?_) ?_
  · have x9 := hA.i 9 _ rfl rfl (hF.zt.get (j := 4) rfl hW.1)
    have hF := Lib.hid hF
    clear hA
    go_simp
    (go_at_call 50; ((with_reducible_and_instances refine (abs_b _ (by omega) _).mono ?_)); rintro e W1 ⟨rfl, hb⟩; (try unfold abVal))
    (try go_wp2_with fail)
    exact hK.out _ _ ⟨hF.out.zb.on hb, Bks.on hb hF.out.zq, hF.out.zt.step rfl rfl, hF.out.v6, fun h1 h2 => (hF.out.k6_0 h1 h2).on hb, fun h1 => (hF.out.k6_1 h1).on hb, hF.out.c6_1, hF.out.g6⟩
  refine FSteps.op3 hz rfl (dv := []) (by kernel_rfl) (by kernel_rfl) (by kernel_rfl) (fun D s W bA kK hD hW hF hA hK => ?_) ?_
  · have hF := Lib.hid hF
    clear hA
    go_simp
    exact hK.out _ _ ⟨hF.out.zb.al _, Bks.al _ hF.out.zq, hF.out.zt.skip rfl, fun _ => rfl, fun _ _ => Bk.new _ _ _, fun h1 => absurd (hF.out.c6_1 h1) (by rw [hD]; decide), fun _ => rfl, fun _ => hF.out.zb.g⟩
  refine FSteps.op3 hz rfl (dv := [6, 1, 5, 0, 1, 6]) (by kernel_rfl) (by kernel_rfl) (by kernel_rfl) (fun D s W bA kK hD hW hF hA hK => ?_) ?_
  · have x3 := hA.i 3 _ rfl rfl (hF.v6 hW.1)
    have x6 := hA.i 6 _ rfl rfl (hF.zt.get (j := 1) rfl hW.2.1)
    have kk := hF.k6_0 hW.1 hD
    have hge := Nat.le_trans hwm (hF.g6 hW.1); have hge2 := hF.g6 hW.1
    have kc := kk.cell; have kf := kk.free
    have hF := Lib.hid hF
    have kk := Lib.hid kk; have hge := Lib.hid hge; have hge2 := Lib.hid hge2
    clear hA
    go_simp
    exact hK.out undef _ ⟨hF.out.zb.sAll (hge.out) 0 [Value.int .i64 a.lo, Value.int .i64 a.hi, Value.int .i64 a.m, Value.int .i64 a.r, Value.int .i64 a.k], Bks.oAll [Value.int .i64 a.lo, Value.int .i64 a.hi, Value.int .i64 a.m, Value.int .i64 a.r, Value.int .i64 a.k] 0 (Under.outside hge2.out hU) hF.out.zq, hF.out.zt.skip rfl, hF.out.v6, fun h1 h2 => no_of h2, fun _ => kk.out.full [Value.int .i64 a.lo, Value.int .i64 a.hi, Value.int .i64 a.m, Value.int .i64 a.r, Value.int .i64 a.k] rfl, fun _ => hW.1, hF.out.g6⟩
  refine FSteps.op3 hz rfl (dv := [5, 7, 0, 1, 2, 3, 4, 5, 6, 7]) (by kernel_rfl) (by kernel_rfl) (by kernel_rfl) (fun D s W bA kK hD hW hF hA hK => ?_) ?_
  · have x10 := hA.i 10 _ rfl rfl (hF.zt.get (j := 5) rfl hW.1)
    have hF := Lib.hid hF
    clear hA
    go_simp
    exact hK.out _ _ ⟨hF.out.zb, hF.out.zq, hF.out.zt.step rfl rfl, hF.out.v6, hF.out.k6_0, hF.out.k6_1, hF.out.c6_1, hF.out.g6⟩
  exact FSteps.nil
  intro D s W aF2 hD hF hz' df' hA
  obtain ⟨d0, d1, d2, d3, d4, d5, d6, d7, d8, -⟩ := hD
  replace u1 : Sl aF2 1 _ := hA.o 1 _ rfl u1
  replace u2 : Sl aF2 2 _ := hA.o 2 _ rfl u2
  have u3 : Sl aF2 3 _ := hA.i 3 _ rfl rfl (hF.v6 d6)
  have u4 : Sl aF2 4 _ := hA.i 4 _ rfl rfl (hF.zt.get (j := 8) rfl d8)
  have hkX6 := hF.k6_1 d7
  have hgX6 := hF.g6 d6
  have hM := hF.zb
  have hB := hF.zq
  generalize pblk (s 3) = n2_6 at hkX6 hgX6 u3 u4
  have hB : Bks W [(n1_0, #[Value.int .i64 a.lo, Value.int .i64 a.hi, Value.int .i64 a.m, Value.int .i64 a.r, Value.int .i64 a.k, Value.int .i64 b.lo, Value.int .i64 b.hi, Value.int .i64 b.m, Value.int .i64 b.r, Value.int .i64 b.k, Value.int .i64 k], 72), (n1_1, #[Value.int .i64 0, Value.int .i64 0, Value.int .i64 0, Value.int .i64 0, Value.int .i64 0], 27), (n2_6, #[Value.int .i64 a.lo, Value.int .i64 a.hi, Value.int .i64 a.m, Value.int .i64 a.r, Value.int .i64 a.k], 27)] := ⟨hB.1, hB.2.1, hkX6, trivial⟩
  have hw_n2_6 : w.heap.size ≤ n2_6 := Nat.le_trans hwm hgX6
  obtain ⟨hl_0, hl_1, -⟩ := hU
  have hne_n1_0_n2_6 : n1_0 ≠ n2_6 := by omega
  have hne_n1_1_n2_6 : n1_1 ≠ n2_6 := by omega
  clear hF hA hz df d0 d1 d2 d3 d4 d5 d6 d7 d8 
  have hz := hz'; have df := df'; clear hz' df'
  clear aF1
  show Code.wp _ _ _ _ _
  refine wp_seq ?_
  refine wp_seq ?_
  obtain ⟨m3, hM, hU, hwm⟩ := start_region hM.b hB
  refine region_run (F := prem_m_r2_3 a b k n1_0 n1_1 n2_6 w m3) [11, 12, 13, 14] [0, 1, 2, 3] hz df (by kernel_rfl) (by kernel_rfl) (fun s hs0 => ⟨hM, hB, Vals.none s _⟩) ?_ ?_
  refine FSteps.op3 hz rfl (dv := []) (by kernel_rfl) (by kernel_rfl) (by kernel_rfl) (fun D s W bA kK hD hW hF hA hK => ?_) ?_
  · have x1 := hA.o 1 _ rfl u1
    have hF := Lib.hid hF
    clear hA
    go_simp
    exact hK.out _ _ ⟨hF.out.zb, hF.out.zq, hF.out.zt.step rfl rfl⟩
  refine FSteps.op3 hz rfl (dv := [0]) (by kernel_rfl) (by kernel_rfl) (by kernel_rfl) (fun D s W bA kK hD hW hF hA hK => ?_) ?_
  · have x11 := hA.i 11 _ rfl rfl (hF.zt.get (j := 0) rfl hW.1)
    obtain ⟨⟨c0, z0⟩, -, -, -⟩ := hF.zq.rules
    have hF := Lib.hid hF
    clear hA
    go_simp
    exact hK.out _ _ ⟨hF.out.zb, hF.out.zq, hF.out.zt.step rfl rfl⟩
  refine FSteps.op3 hz rfl (dv := [1]) (by kernel_rfl) (by kernel_rfl) (by kernel_rfl) (fun D s W bA kK hD hW hF hA hK => ?_) ?_
  · have x12 := hA.i 12 _ rfl rfl (hF.zt.get (j := 1) rfl hW.1)
    have hF := Lib.hid hF
    clear hA
    go_simp
    (go_at_call 44; ((with_reducible_and_instances refine (step_ab b _).mono ?_)); rintro e W1 ⟨rfl, hb⟩; (try unfold abVal))
    (try go_wp2_with fail)
    exact hK.out _ _ ⟨hF.out.zb.on hb, Bks.on hb hF.out.zq, hF.out.zt.step rfl rfl⟩
  refine FSteps.op3 hz rfl (dv := [2]) (by kernel_rfl) (by kernel_rfl) (by kernel_rfl) (fun D s W bA kK hD hW hF hA hK => ?_) ?_
  · have x13 := hA.i 13 _ rfl rfl (hF.zt.get (j := 2) rfl hW.1)
    have hF := Lib.hid hF
    clear hA
    have hd3 : ((stepS b) != 0) = false := (by rw [bne_eq_false_iff_eq]; exact hs.out)
    go_simp
    exact hK.out _ _ ⟨hF.out.zb, hF.out.zq, hF.out.zt.step rfl rfl⟩
  exact FSteps.nil
  intro D s W aF3 hD hF hz' df' hA
  obtain ⟨d0, d1, d2, d3, -⟩ := hD
  replace u1 : Sl aF3 1 _ := hA.o 1 _ rfl u1
  replace u2 : Sl aF3 2 _ := hA.o 2 _ rfl u2
  replace u3 : Sl aF3 3 _ := hA.o 3 _ rfl u3
  replace u4 : Sl aF3 4 _ := hA.o 4 _ rfl u4
  have u14 : Sl aF3 14 _ := hA.i 14 _ rfl rfl (hF.zt.get (j := 3) rfl d3)
  have hM := hF.zb
  have hB := hF.zq
  have hB : Bks W [(n1_0, #[Value.int .i64 a.lo, Value.int .i64 a.hi, Value.int .i64 a.m, Value.int .i64 a.r, Value.int .i64 a.k, Value.int .i64 b.lo, Value.int .i64 b.hi, Value.int .i64 b.m, Value.int .i64 b.r, Value.int .i64 b.k, Value.int .i64 k], 72), (n1_1, #[Value.int .i64 0, Value.int .i64 0, Value.int .i64 0, Value.int .i64 0, Value.int .i64 0], 27), (n2_6, #[Value.int .i64 a.lo, Value.int .i64 a.hi, Value.int .i64 a.m, Value.int .i64 a.r, Value.int .i64 a.k], 27)] := ⟨hB.1, hB.2.1, hB.2.2.1, trivial⟩
  clear hF hA hz df d0 d1 d2 d3 hU
  have hz := hz'; have df := df'; clear hz' df'
  clear aF2
  show Code.wp _ _ _ _ _
  refine cond_f u14 ?_
  refine wp_skip ?_
  show Code.wp _ _ _ _ _
  refine wp_seq ?_
  obtain ⟨m4, hM, hU, hwm⟩ := start_region hM.b hB
  obtain ⟨hk_0, hk_1, hk_2, -⟩ := hB
  obtain ⟨hl_0, hl_1, hl_2, -⟩ := hU
  have hB : Bks _ [(n1_0, #[Value.int .i64 a.lo, Value.int .i64 a.hi, Value.int .i64 a.m, Value.int .i64 a.r, Value.int .i64 a.k, Value.int .i64 b.lo, Value.int .i64 b.hi, Value.int .i64 b.m, Value.int .i64 b.r, Value.int .i64 b.k, Value.int .i64 k], 72), (n1_1, #[Value.int .i64 0, Value.int .i64 0, Value.int .i64 0, Value.int .i64 0, Value.int .i64 0], 27)] := ⟨hk_0, hk_1, trivial⟩
  have hU : Under m4 [(n1_0, #[Value.int .i64 a.lo, Value.int .i64 a.hi, Value.int .i64 a.m, Value.int .i64 a.r, Value.int .i64 a.k, Value.int .i64 b.lo, Value.int .i64 b.hi, Value.int .i64 b.m, Value.int .i64 b.r, Value.int .i64 b.k, Value.int .i64 k], 72), (n1_1, #[Value.int .i64 0, Value.int .i64 0, Value.int .i64 0, Value.int .i64 0, Value.int .i64 0], 27)] := ⟨hl_0, hl_1, trivial⟩
  refine region_run (F := prem_m_r4_4 a b k n1_0 n1_1 n2_6 w m4) [24, 25, 26] [0, 1, 2, 3] hz df (by kernel_rfl) (by kernel_rfl) (fun s hs0 => ⟨hM, hB, Vals.none s _, fun _ => hk_2, fun h => no_of' h⟩) ?_ ?_
  refine FSteps.op3 hz rfl (dv := []) (by kernel_rfl) (by kernel_rfl) (by kernel_rfl) (fun D s W bA kK hD hW hF hA hK => ?_) ?_
  · have x1 := hA.o 1 _ rfl u1
    have hF := Lib.hid hF
    clear hA
    go_simp
    exact hK.out _ _ ⟨hF.out.zb, hF.out.zq, hF.out.zt.step rfl rfl, hF.out.kL0_0, hF.out.kL0_1⟩
  refine FSteps.op3 hz rfl (dv := [0]) (by kernel_rfl) (by kernel_rfl) (by kernel_rfl) (fun D s W bA kK hD hW hF hA hK => ?_) ?_
  · have x24 := hA.i 24 _ rfl rfl (hF.zt.get (j := 0) rfl hW.1)
    obtain ⟨⟨c0, z0⟩, -, -⟩ := hF.zq.rules
    have hF := Lib.hid hF
    clear hA
    go_simp
    exact hK.out _ _ ⟨hF.out.zb, hF.out.zq, hF.out.zt.step rfl rfl, hF.out.kL0_0, hF.out.kL0_1⟩
  refine FSteps.op3 hz rfl (dv := [0, 1]) (by kernel_rfl) (by kernel_rfl) (by kernel_rfl) (fun D s W bA kK hD hW hF hA hK => ?_) ?_
  · have x3 := hA.o 3 _ rfl u3
    have hF := Lib.hid hF
    clear hA
    go_simp
    exact hK.out _ _ ⟨hF.out.zb, hF.out.zq, hF.out.zt.step rfl rfl, hF.out.kL0_0, hF.out.kL0_1⟩
  refine FSteps.op3 hz rfl (dv := [2, 1, 0, 1]) (by kernel_rfl) (by kernel_rfl) (by kernel_rfl) (fun D s W bA kK hD hW hF hA hK => ?_) ?_
  · have x26 := hA.i 26 _ rfl rfl (hF.zt.get (j := 2) rfl hW.1)
    have x25 := hA.i 25 _ rfl rfl (hF.zt.get (j := 1) rfl hW.2.1)
    have kk := hF.kL0_0 hD
    have kc := kk.cell; have kf := kk.free
    have hF := Lib.hid hF
    have kk := Lib.hid kk
    clear hA
    go_simp
    exact hK.out undef _ ⟨hF.out.zb.sAll (hw_n2_6) 4 [Value.int .i64 k], Bks.oAll [Value.int .i64 k] 4 (⟨(by omega), (by omega), trivial⟩) hF.out.zq, hF.out.zt.skip rfl, fun h2 => no_of h2, fun _ => kk.out.sAll [Value.int .i64 k] 4⟩
  exact FSteps.nil
  intro D s W aF4 hD hF hz' df' hA
  obtain ⟨d0, d1, d2, d3, -⟩ := hD
  clear u14
  replace u1 : Sl aF4 1 _ := hA.o 1 _ rfl u1
  replace u2 : Sl aF4 2 _ := hA.o 2 _ rfl u2
  replace u3 : Sl aF4 3 _ := hA.o 3 _ rfl u3
  replace u4 : Sl aF4 4 _ := hA.o 4 _ rfl u4
  have hkXL0 := hF.kL0_1 d3
  have hM := hF.zb
  have hB := hF.zq
  have hB : Bks W [(n1_0, #[Value.int .i64 a.lo, Value.int .i64 a.hi, Value.int .i64 a.m, Value.int .i64 a.r, Value.int .i64 a.k, Value.int .i64 b.lo, Value.int .i64 b.hi, Value.int .i64 b.m, Value.int .i64 b.r, Value.int .i64 b.k, Value.int .i64 k], 72), (n1_1, #[Value.int .i64 0, Value.int .i64 0, Value.int .i64 0, Value.int .i64 0, Value.int .i64 0], 27), (n2_6, #[Value.int .i64 a.lo, Value.int .i64 a.hi, Value.int .i64 a.m, Value.int .i64 a.r, Value.int .i64 k], 27)] := ⟨hB.1, hB.2.1, hkXL0, trivial⟩
  clear hF hA hz df d0 d1 d2 d3 
  have hz := hz'; have df := df'; clear hz' df'
  clear aF3
  show Code.wp _ _ _ _ _
  refine wp_seq ?_
  refine wp_seq ?_
  obtain ⟨m5, hM, hU, hwm⟩ := start_region hM.b hB
  refine region_run (F := prem_m_r5_5 a b k n1_0 n1_1 n2_6 w m5) [27, 28, 29, 30, 31, 32, 33, 34, 35, 36, 37, 38, 39] [0, 1, 2, 3, 4, 5, 6, 7, 8, 9, 10, 11, 12] hz df (by kernel_rfl) (by kernel_rfl) (fun s hs0 => ⟨hM, hB, Vals.none s _⟩) ?_ ?_
  refine FSteps.op3 hz rfl (dv := []) (by kernel_rfl) (by kernel_rfl) (by kernel_rfl) (fun D s W bA kK hD hW hF hA hK => ?_) ?_
  · have x4 := hA.o 4 _ rfl u4
    have hF := Lib.hid hF
    clear hA
    go_simp
    exact hK.out _ _ ⟨hF.out.zb, hF.out.zq, hF.out.zt.step rfl rfl⟩
  refine FSteps.op3 hz rfl (dv := [0]) (by kernel_rfl) (by kernel_rfl) (by kernel_rfl) (fun D s W bA kK hD hW hF hA hK => ?_) ?_
  · have x27 := hA.i 27 _ rfl rfl (hF.zt.get (j := 0) rfl hW.1)
    have hF := Lib.hid hF
    clear hA
    have hd1 : ((absS b.lo) == 0) = false := beq_eq_false_iff_ne.2 (by exact h4.out)
    go_simp
    exact hK.out _ _ ⟨hF.out.zb, hF.out.zq, hF.out.zt.step rfl rfl⟩
  refine FSteps.op3 hz rfl (dv := [1]) (by kernel_rfl) (by kernel_rfl) (by kernel_rfl) (fun D s W bA kK hD hW hF hA hK => ?_) ?_
  · have x28 := hA.i 28 _ rfl rfl (hF.zt.get (j := 1) rfl hW.1)
    have hF := Lib.hid hF
    clear hA
    go_simp
    exact hK.out _ _ ⟨hF.out.zb, hF.out.zq, hF.out.zt.step rfl rfl⟩
  refine FSteps.yes3 (bv := false) hz rfl (dv := [2]) (by kernel_rfl) rfl (by kernel_rfl) (by kernel_rfl) (fun D s W hW hF => (hF.zt.get (j := 2) rfl hW.1)) (by kernel_rfl) (by kernel_rfl) (fun D s W bA kK hD hW hF hA hK => ?_) ?_
  · have x3 := hA.o 3 _ rfl u3
    have hF := Lib.hid hF
    clear hA
    go_simp
    exact hK.out _ _ ⟨hF.out.zb, hF.out.zq, hF.out.zt.step rfl rfl⟩
  refine FSteps.yes3 (bv := false) hz rfl (dv := [3, 2]) (by kernel_rfl) rfl (by kernel_rfl) (by kernel_rfl) (fun D s W hW hF => (hF.zt.get (j := 2) rfl hW.2.1)) (by kernel_rfl) (by kernel_rfl) (fun D s W bA kK hD hW hF hA hK => ?_) ?_
  · have x30 := hA.i 30 _ rfl rfl (hF.zt.get (j := 3) rfl hW.1)
    obtain ⟨-, -, ⟨c2, z2⟩, -⟩ := hF.zq.rules
    have hF := Lib.hid hF
    clear hA
    go_simp
    exact hK.out _ _ ⟨hF.out.zb, hF.out.zq, hF.out.zt.step rfl rfl⟩
  refine FSteps.yes3 (bv := false) hz rfl (dv := [4, 2]) (by kernel_rfl) rfl (by kernel_rfl) (by kernel_rfl) (fun D s W hW hF => (hF.zt.get (j := 2) rfl hW.2.1)) (by kernel_rfl) (by kernel_rfl) (fun D s W bA kK hD hW hF hA hK => ?_) ?_
  · have x31 := hA.i 31 _ rfl rfl (hF.zt.get (j := 4) rfl hW.1)
    have hF := Lib.hid hF
    clear hA
    have hd5 : decide (0 ≤ a.lo) = true := decide_eq_true (by omega)
    go_simp
    exact hK.out _ _ ⟨hF.out.zb, hF.out.zq, hF.out.zt.step rfl rfl⟩
  refine FSteps.yes3 (bv := false) hz rfl (dv := [5, 2, 2]) (by kernel_rfl) rfl (by kernel_rfl) (by kernel_rfl) (fun D s W hW hF => (hF.zt.get (j := 2) rfl hW.2.1)) (by kernel_rfl) (by kernel_rfl) (fun D s W bA kK hD hW hF hA hK => ?_) ?_
  · have x32 := hA.i 32 _ rfl rfl (hF.zt.get (j := 5) rfl hW.1)
    have hF := Lib.hid hF
    clear hA
    go_simp
    exact hK.out _ _ ⟨hF.out.zb, hF.out.zq, hF.out.zt.step rfl rfl⟩
  refine FSteps.yes3 (bv := true) hz rfl (dv := [6]) (by kernel_rfl) rfl (by kernel_rfl) (by kernel_rfl) (fun D s W hW hF => (hF.zt.get (j := 6) rfl hW.1)) (by kernel_rfl) (by kernel_rfl) (fun D s W bA kK hD hW hF hA hK => ?_) ?_
  · have x3 := hA.o 3 _ rfl u3
    have hF := Lib.hid hF
    clear hA
    go_simp
    exact hK.out _ _ ⟨hF.out.zb, hF.out.zq, hF.out.zt.step rfl rfl⟩
  refine FSteps.yes3 (bv := true) hz rfl (dv := [7, 6]) (by kernel_rfl) rfl (by kernel_rfl) (by kernel_rfl) (fun D s W hW hF => (hF.zt.get (j := 6) rfl hW.2.1)) (by kernel_rfl) (by kernel_rfl) (fun D s W bA kK hD hW hF hA hK => ?_) ?_
  · have x34 := hA.i 34 _ rfl rfl (hF.zt.get (j := 7) rfl hW.1)
    obtain ⟨-, -, ⟨c2, z2⟩, -⟩ := hF.zq.rules
    have hF := Lib.hid hF
    clear hA
    go_simp
    exact hK.out _ _ ⟨hF.out.zb, hF.out.zq, hF.out.zt.step rfl rfl⟩
  refine FSteps.yes3 (bv := true) hz rfl (dv := [6]) (by kernel_rfl) rfl (by kernel_rfl) (by kernel_rfl) (fun D s W hW hF => (hF.zt.get (j := 6) rfl hW.1)) (by kernel_rfl) (by kernel_rfl) (fun D s W bA kK hD hW hF hA hK => ?_) ?_
  · have x4 := hA.o 4 _ rfl u4
    have hF := Lib.hid hF
    clear hA
    go_simp
    exact hK.out _ _ ⟨hF.out.zb, hF.out.zq, hF.out.zt.step rfl rfl⟩
  refine FSteps.yes3 (bv := true) hz rfl (dv := [8, 9, 6]) (by kernel_rfl) rfl (by kernel_rfl) (by kernel_rfl) (fun D s W hW hF => (hF.zt.get (j := 6) rfl hW.2.2.1)) (by kernel_rfl) (by kernel_rfl) (fun D s W bA kK hD hW hF hA hK => ?_) ?_
  · have x35 := hA.i 35 _ rfl rfl (hF.zt.get (j := 8) rfl hW.1)
    have x36 := hA.i 36 _ rfl rfl (hF.zt.get (j := 9) rfl hW.2.1)
    have hF := Lib.hid hF
    clear hA
    have hd10 : decide (a.hi < (absS b.lo)) = false := decide_eq_false (by omega)
    go_simp
    exact hK.out _ _ ⟨hF.out.zb, hF.out.zq, hF.out.zt.step rfl rfl⟩
  refine FSteps.yes3 (bv := false) hz rfl (dv := [6, 10, 2]) (by kernel_rfl) rfl (by kernel_rfl) (by kernel_rfl) (fun D s W hW hF => (hF.zt.get (j := 2) rfl hW.2.2.1)) (by kernel_rfl) (by kernel_rfl) (fun D s W bA kK hD hW hF hA hK => ?_) ?_
  · have x33 := hA.i 33 _ rfl rfl (hF.zt.get (j := 6) rfl hW.1)
    have x37 := hA.i 37 _ rfl rfl (hF.zt.get (j := 10) rfl hW.2.1)
    have hF := Lib.hid hF
    clear hA
    go_simp
    exact hK.out _ _ ⟨hF.out.zb, hF.out.zq, hF.out.zt.step rfl rfl⟩
  refine FSteps.op3 hz rfl (dv := [2, 11]) (by kernel_rfl) (by kernel_rfl) (by kernel_rfl) (fun D s W bA kK hD hW hF hA hK => ?_) ?_
  · have x29 := hA.i 29 _ rfl rfl (hF.zt.get (j := 2) rfl hW.1)
    have x38 := hA.i 38 _ rfl rfl (hF.zt.get (j := 11) rfl hW.2.1)
    have hF := Lib.hid hF
    clear hA
    go_simp
    exact hK.out _ _ ⟨hF.out.zb, hF.out.zq, hF.out.zt.step rfl rfl⟩
  exact FSteps.nil
  intro D s W aF5 hD hF hz' df' hA
  obtain ⟨d0, d1, d2, d3, d4, d5, d6, d7, d8, d9, d10, d11, d12, -⟩ := hD
  replace u1 : Sl aF5 1 _ := hA.o 1 _ rfl u1
  replace u2 : Sl aF5 2 _ := hA.o 2 _ rfl u2
  replace u3 : Sl aF5 3 _ := hA.o 3 _ rfl u3
  replace u4 : Sl aF5 4 _ := hA.o 4 _ rfl u4
  have u39 : Sl aF5 39 _ := hA.i 39 _ rfl rfl (hF.zt.get (j := 12) rfl d12)
  have hM := hF.zb
  have hB := hF.zq
  have hB : Bks W [(n1_0, #[Value.int .i64 a.lo, Value.int .i64 a.hi, Value.int .i64 a.m, Value.int .i64 a.r, Value.int .i64 a.k, Value.int .i64 b.lo, Value.int .i64 b.hi, Value.int .i64 b.m, Value.int .i64 b.r, Value.int .i64 b.k, Value.int .i64 k], 72), (n1_1, #[Value.int .i64 0, Value.int .i64 0, Value.int .i64 0, Value.int .i64 0, Value.int .i64 0], 27), (n2_6, #[Value.int .i64 a.lo, Value.int .i64 a.hi, Value.int .i64 a.m, Value.int .i64 a.r, Value.int .i64 k], 27)] := ⟨hB.1, hB.2.1, hB.2.2.1, trivial⟩
  clear hF hA hz df d0 d1 d2 d3 d4 d5 d6 d7 d8 d9 d10 d11 d12 hU
  have hz := hz'; have df := df'; clear hz' df'
  clear aF4
  show Code.wp _ _ _ _ _
  refine cond_f u39 ?_
  refine wp_skip ?_
  show Code.wp _ _ _ _ _
  refine wp_seq ?_
  obtain ⟨m6, hM, hU, hwm⟩ := start_region hM.b hB
  obtain ⟨hk_0, hk_1, hk_2, -⟩ := hB
  obtain ⟨hl_0, hl_1, hl_2, -⟩ := hU
  have hB : Bks _ [(n1_0, #[Value.int .i64 a.lo, Value.int .i64 a.hi, Value.int .i64 a.m, Value.int .i64 a.r, Value.int .i64 a.k, Value.int .i64 b.lo, Value.int .i64 b.hi, Value.int .i64 b.m, Value.int .i64 b.r, Value.int .i64 b.k, Value.int .i64 k], 72), (n2_6, #[Value.int .i64 a.lo, Value.int .i64 a.hi, Value.int .i64 a.m, Value.int .i64 a.r, Value.int .i64 k], 27)] := ⟨hk_0, hk_2, trivial⟩
  have hU : Under m6 [(n1_0, #[Value.int .i64 a.lo, Value.int .i64 a.hi, Value.int .i64 a.m, Value.int .i64 a.r, Value.int .i64 a.k, Value.int .i64 b.lo, Value.int .i64 b.hi, Value.int .i64 b.m, Value.int .i64 b.r, Value.int .i64 b.k, Value.int .i64 k], 72), (n2_6, #[Value.int .i64 a.lo, Value.int .i64 a.hi, Value.int .i64 a.m, Value.int .i64 a.r, Value.int .i64 k], 27)] := ⟨hl_0, hl_2, trivial⟩
  refine region_go (F := prem_m_r7_6 a b k n1_0 n1_1 n2_6 w m6) [41, 42, 43, 44, 45, 46, 47, 48, 49, 50, 51, 52, 53, 54, 55, 56, 57, 58, 59, 60, 61, 62] [0, 1, 2, 3, 4, 5, 6, 7, 8, 9, 10, 11, 12, 13, 14, 15, 16, 17, 18, 19, 20, 21, 22] hz df (by kernel_rfl) (by kernel_rfl) (by kernel_rfl) (fun s hs0 => ⟨hM.drew, Bks.drew hB, Vals.none s _, fun h => no_of' h, fun h => no_of' h, fun h => no_of' h, fun _ => hk_1.drew, fun h => no_of' h⟩) ?_ ?_
  refine FSteps.op3 hz rfl (dv := []) (by kernel_rfl) (by kernel_rfl) (by kernel_rfl) (fun D s W bA kK hD hW hF hA hK => ?_) ?_
  · have x3 := hA.o 3 _ rfl u3
    have hF := Lib.hid hF
    clear hA
    go_simp
    exact hK.out _ _ ⟨hF.out.zb, hF.out.zq, hF.out.zt.step rfl rfl, hF.out.v5, hF.out.k5_0, hF.out.g5, hF.out.kL0_0, hF.out.kL0_1⟩
  refine FSteps.op3 hz rfl (dv := [0]) (by kernel_rfl) (by kernel_rfl) (by kernel_rfl) (fun D s W bA kK hD hW hF hA hK => ?_) ?_
  · have x41 := hA.i 41 _ rfl rfl (hF.zt.get (j := 0) rfl hW.1)
    obtain ⟨-, ⟨c1, z1⟩, -⟩ := hF.zq.rules
    have hF := Lib.hid hF
    clear hA
    go_simp
    exact hK.out _ _ ⟨hF.out.zb, hF.out.zq, hF.out.zt.step rfl rfl, hF.out.v5, hF.out.k5_0, hF.out.g5, hF.out.kL0_0, hF.out.kL0_1⟩
  refine FSteps.op3 hz rfl (dv := []) (by kernel_rfl) (by kernel_rfl) (by kernel_rfl) (fun D s W bA kK hD hW hF hA hK => ?_) ?_
  · have x3 := hA.o 3 _ rfl u3
    obtain ⟨-, ⟨c1, z1⟩, -⟩ := hF.zq.rules
    have hF := Lib.hid hF
    clear hA
    go_simp
    exact hK.out _ _ ⟨hF.out.zb, hF.out.zq, hF.out.zt.step rfl rfl, hF.out.v5, hF.out.k5_0, hF.out.g5, hF.out.kL0_0, hF.out.kL0_1⟩
  refine FSteps.op3 hz rfl (dv := [2]) (by kernel_rfl) (by kernel_rfl) (by kernel_rfl) (fun D s W bA kK hD hW hF hA hK => ?_) ?_
  · have x43 := hA.i 43 _ rfl rfl (hF.zt.get (j := 2) rfl hW.1)
    have hF := Lib.hid hF
    clear hA
    go_simp
    (go_at_call 44; ((with_reducible_and_instances refine (step_ak a k _).mono ?_)); rintro e W1 ⟨rfl, hb⟩; (try unfold abVal))
    (try go_wp2_with fail)
    exact hK.out _ _ ⟨hF.out.zb.on hb, Bks.on hb hF.out.zq, hF.out.zt.step rfl rfl, hF.out.v5, fun h1 => (hF.out.k5_0 h1).on hb, hF.out.g5, fun h2 => (hF.out.kL0_0 h2).on hb, fun h1 => (hF.out.kL0_1 h1).on hb⟩
  refine FSteps.op3 hz rfl (dv := []) (by kernel_rfl) (by kernel_rfl) (by kernel_rfl) (fun D s W bA kK hD hW hF hA hK => ?_) ?_
  · have x4 := hA.o 4 _ rfl u4
    have hF := Lib.hid hF
    clear hA
    go_simp
    exact hK.out _ _ ⟨hF.out.zb, hF.out.zq, hF.out.zt.step rfl rfl, hF.out.v5, hF.out.k5_0, hF.out.g5, hF.out.kL0_0, hF.out.kL0_1⟩
  refine FSteps.op3 hz rfl (dv := [4]) (by kernel_rfl) (by kernel_rfl) (by kernel_rfl) (fun D s W bA kK hD hW hF hA hK => ?_) ?_
  · have x45 := hA.i 45 _ rfl rfl (hF.zt.get (j := 4) rfl hW.1)
    have hF := Lib.hid hF
    clear hA
    go_simp
    exact hK.out _ _ ⟨hF.out.zb.al _, Bks.al _ hF.out.zq, hF.out.zt.skip rfl, fun _ => rfl, fun _ => Bk.new _ _ _, fun _ => hF.out.zb.g, fun h2 => (hF.out.kL0_0 h2).al _, fun h1 => (hF.out.kL0_1 h1).al _⟩
  refine FSteps.op3 hz rfl (dv := [3, 5, 3]) (by kernel_rfl) (by kernel_rfl) (by kernel_rfl) (fun D s W bA kK hD hW hF hA hK => ?_) ?_
  · have x44 := hA.i 44 _ rfl rfl (hF.zt.get (j := 3) rfl hW.1)
    have x46 := hA.i 46 _ rfl rfl (hF.v5 hW.2.1)
    have kk := hF.k5_0 hW.2.1
    have kc := kk.cell; have kf := kk.free
    have hF := Lib.hid hF
    clear hA
    go_simp
    (go_at_call 49; ((with_reducible_and_instances refine (gcd1 ⟨sa.1, by omega⟩ ⟨by omega, by omega⟩ kk).mono ?_)); rintro e W1 ⟨rfl, hb⟩; (try unfold abVal))
    (try go_wp2_with fail)
    exact hK.out _ _ ⟨hF.out.zb.on hb, Bks.on hb hF.out.zq, hF.out.zt.step rfl rfl, hF.out.v5, fun h1 => (hF.out.k5_0 h1).on hb, hF.out.g5, fun h2 => (hF.out.kL0_0 h2).on hb, fun h1 => (hF.out.kL0_1 h1).on hb⟩
  refine FSteps.op3 hz rfl (dv := []) (by kernel_rfl) (by kernel_rfl) (by kernel_rfl) (fun D s W bA kK hD hW hF hA hK => ?_) ?_
  · have x3 := hA.o 3 _ rfl u3
    have hF := Lib.hid hF
    clear hA
    go_simp
    exact hK.out _ _ ⟨hF.out.zb, hF.out.zq, hF.out.zt.step rfl rfl, hF.out.v5, hF.out.k5_0, hF.out.g5, hF.out.kL0_0, hF.out.kL0_1⟩
  refine FSteps.op3 hz rfl (dv := [7]) (by kernel_rfl) (by kernel_rfl) (by kernel_rfl) (fun D s W bA kK hD hW hF hA hK => ?_) ?_
  · have x48 := hA.i 48 _ rfl rfl (hF.zt.get (j := 7) rfl hW.1)
    obtain ⟨-, ⟨c1, z1⟩, -⟩ := hF.zq.rules
    have hF := Lib.hid hF
    clear hA
    go_simp
    exact hK.out _ _ ⟨hF.out.zb, hF.out.zq, hF.out.zt.step rfl rfl, hF.out.v5, hF.out.k5_0, hF.out.g5, hF.out.kL0_0, hF.out.kL0_1⟩
  refine FSteps.op3 hz rfl (dv := [8]) (by kernel_rfl) (by kernel_rfl) (by kernel_rfl) (fun D s W bA kK hD hW hF hA hK => ?_) ?_
  · have x49 := hA.i 49 _ rfl rfl (hF.zt.get (j := 8) rfl hW.1)
    have hF := Lib.hid hF
    clear hA
    clear h5 h6
    have hm9_1 : (if 0 < a.lo then 0 else a.lo) = min a.lo 0 := min_is _ _
    go_simp
    exact hK.out _ _ ⟨hF.out.zb, hF.out.zq, hF.out.zt.step rfl rfl, hF.out.v5, hF.out.k5_0, hF.out.g5, hF.out.kL0_0, hF.out.kL0_1⟩
  refine FSteps.op3 hz rfl (dv := []) (by kernel_rfl) (by kernel_rfl) (by kernel_rfl) (fun D s W bA kK hD hW hF hA hK => ?_) ?_
  · have x4 := hA.o 4 _ rfl u4
    have hF := Lib.hid hF
    clear hA
    go_simp
    exact hK.out _ _ ⟨hF.out.zb, hF.out.zq, hF.out.zt.step rfl rfl, hF.out.v5, hF.out.k5_0, hF.out.g5, hF.out.kL0_0, hF.out.kL0_1⟩
  refine FSteps.op3 hz rfl (dv := [10]) (by kernel_rfl) (by kernel_rfl) (by kernel_rfl) (fun D s W bA kK hD hW hF hA hK => ?_) ?_
  · have x51 := hA.i 51 _ rfl rfl (hF.zt.get (j := 10) rfl hW.1)
    have hF := Lib.hid hF
    clear hA
    have hw11 : IntKind.i64.wrap (1 - (absS b.lo)) = 1 - (absS b.lo) := IntWalk.i64_in _ (by omega)
    go_simp
    exact hK.out _ _ ⟨hF.out.zb, hF.out.zq, hF.out.zt.step rfl rfl, hF.out.v5, hF.out.k5_0, hF.out.g5, hF.out.kL0_0, hF.out.kL0_1⟩
  refine FSteps.op3 hz rfl (dv := [9, 11]) (by kernel_rfl) (by kernel_rfl) (by kernel_rfl) (fun D s W bA kK hD hW hF hA hK => ?_) ?_
  · have x50 := hA.i 50 _ rfl rfl (hF.zt.get (j := 9) rfl hW.1)
    have x52 := hA.i 52 _ rfl rfl (hF.zt.get (j := 11) rfl hW.2.1)
    have hF := Lib.hid hF
    clear hA
    clear h5 h6
    have hm12_1 : (if (min a.lo 0) < (1 - (absS b.lo)) then (1 - (absS b.lo)) else (min a.lo 0)) = max (min a.lo 0) (1 - (absS b.lo)) := max_is _ _
    go_simp
    exact hK.out _ _ ⟨hF.out.zb, hF.out.zq, hF.out.zt.step rfl rfl, hF.out.v5, hF.out.k5_0, hF.out.g5, hF.out.kL0_0, hF.out.kL0_1⟩
  refine FSteps.op3 hz rfl (dv := []) (by kernel_rfl) (by kernel_rfl) (by kernel_rfl) (fun D s W bA kK hD hW hF hA hK => ?_) ?_
  · have x3 := hA.o 3 _ rfl u3
    have hF := Lib.hid hF
    clear hA
    go_simp
    exact hK.out _ _ ⟨hF.out.zb, hF.out.zq, hF.out.zt.step rfl rfl, hF.out.v5, hF.out.k5_0, hF.out.g5, hF.out.kL0_0, hF.out.kL0_1⟩
  refine FSteps.op3 hz rfl (dv := [13]) (by kernel_rfl) (by kernel_rfl) (by kernel_rfl) (fun D s W bA kK hD hW hF hA hK => ?_) ?_
  · have x54 := hA.i 54 _ rfl rfl (hF.zt.get (j := 13) rfl hW.1)
    obtain ⟨-, ⟨c1, z1⟩, -⟩ := hF.zq.rules
    have hF := Lib.hid hF
    clear hA
    go_simp
    exact hK.out _ _ ⟨hF.out.zb, hF.out.zq, hF.out.zt.step rfl rfl, hF.out.v5, hF.out.k5_0, hF.out.g5, hF.out.kL0_0, hF.out.kL0_1⟩
  refine FSteps.op3 hz rfl (dv := [14]) (by kernel_rfl) (by kernel_rfl) (by kernel_rfl) (fun D s W bA kK hD hW hF hA hK => ?_) ?_
  · have x55 := hA.i 55 _ rfl rfl (hF.zt.get (j := 14) rfl hW.1)
    have hF := Lib.hid hF
    clear hA
    clear h5 h6
    have hm15_1 : (if a.hi < 0 then 0 else a.hi) = max a.hi 0 := max_is _ _
    go_simp
    exact hK.out _ _ ⟨hF.out.zb, hF.out.zq, hF.out.zt.step rfl rfl, hF.out.v5, hF.out.k5_0, hF.out.g5, hF.out.kL0_0, hF.out.kL0_1⟩
  refine FSteps.op3 hz rfl (dv := []) (by kernel_rfl) (by kernel_rfl) (by kernel_rfl) (fun D s W bA kK hD hW hF hA hK => ?_) ?_
  · have x4 := hA.o 4 _ rfl u4
    have hF := Lib.hid hF
    clear hA
    go_simp
    exact hK.out _ _ ⟨hF.out.zb, hF.out.zq, hF.out.zt.step rfl rfl, hF.out.v5, hF.out.k5_0, hF.out.g5, hF.out.kL0_0, hF.out.kL0_1⟩
  refine FSteps.op3 hz rfl (dv := [16]) (by kernel_rfl) (by kernel_rfl) (by kernel_rfl) (fun D s W bA kK hD hW hF hA hK => ?_) ?_
  · have x57 := hA.i 57 _ rfl rfl (hF.zt.get (j := 16) rfl hW.1)
    have hF := Lib.hid hF
    clear hA
    have hw17 : IntKind.i64.wrap ((absS b.lo) - 1) = (absS b.lo) - 1 := IntWalk.i64_in _ (by omega)
    go_simp
    exact hK.out _ _ ⟨hF.out.zb, hF.out.zq, hF.out.zt.step rfl rfl, hF.out.v5, hF.out.k5_0, hF.out.g5, hF.out.kL0_0, hF.out.kL0_1⟩
  refine FSteps.op3 hz rfl (dv := [15, 17]) (by kernel_rfl) (by kernel_rfl) (by kernel_rfl) (fun D s W bA kK hD hW hF hA hK => ?_) ?_
  · have x56 := hA.i 56 _ rfl rfl (hF.zt.get (j := 15) rfl hW.1)
    have x58 := hA.i 58 _ rfl rfl (hF.zt.get (j := 17) rfl hW.2.1)
    have hF := Lib.hid hF
    clear hA
    clear h5 h6
    have hm18_1 : (if ((absS b.lo) - 1) < (max a.hi 0) then ((absS b.lo) - 1) else (max a.hi 0)) = min (max a.hi 0) ((absS b.lo) - 1) := min_is _ _
    go_simp
    exact hK.out _ _ ⟨hF.out.zb, hF.out.zq, hF.out.zt.step rfl rfl, hF.out.v5, hF.out.k5_0, hF.out.g5, hF.out.kL0_0, hF.out.kL0_1⟩
  refine FSteps.op3 hz rfl (dv := []) (by kernel_rfl) (by kernel_rfl) (by kernel_rfl) (fun D s W bA kK hD hW hF hA hK => ?_) ?_
  · have x1 := hA.o 1 _ rfl u1
    have hF := Lib.hid hF
    clear hA
    go_simp
    exact hK.out _ _ ⟨hF.out.zb, hF.out.zq, hF.out.zt.step rfl rfl, hF.out.v5, hF.out.k5_0, hF.out.g5, hF.out.kL0_0, hF.out.kL0_1⟩
  refine FSteps.op3 hz rfl (dv := [19]) (by kernel_rfl) (by kernel_rfl) (by kernel_rfl) (fun D s W bA kK hD hW hF hA hK => ?_) ?_
  · have x60 := hA.i 60 _ rfl rfl (hF.zt.get (j := 19) rfl hW.1)
    obtain ⟨⟨c0, z0⟩, -, -⟩ := hF.zq.rules
    have hF := Lib.hid hF
    clear hA
    go_simp
    exact hK.out _ _ ⟨hF.out.zb, hF.out.zq, hF.out.zt.step rfl rfl, hF.out.v5, hF.out.k5_0, hF.out.g5, hF.out.kL0_0, hF.out.kL0_1⟩
  refine FSteps.op3 hz rfl (dv := [1, 6, 12, 18, 20, 6]) (by kernel_rfl) (by kernel_rfl) (by kernel_rfl) (fun D s W bA kK hD hW hF hA hK => ?_) ?_
  · have x42 := hA.i 42 _ rfl rfl (hF.zt.get (j := 1) rfl hW.1)
    have x47 := hA.i 47 _ rfl rfl (hF.zt.get (j := 6) rfl hW.2.1)
    have x53 := hA.i 53 _ rfl rfl (hF.zt.get (j := 12) rfl hW.2.2.1)
    have x59 := hA.i 59 _ rfl rfl (hF.zt.get (j := 18) rfl hW.2.2.2.1)
    have x61 := hA.i 61 _ rfl rfl (hF.zt.get (j := 20) rfl hW.2.2.2.2.1)
    have hF := Lib.hid hF
    clear hA
    go_simp
    (go_at_call 51; ((with_reducible_and_instances refine (GY.out _).mono ?_)); rintro e W1 ⟨rfl, hb⟩; (try unfold abVal))
    (try go_wp2_with fail)
    exact hK.out _ _ ⟨hF.out.zb.on hb, Bks.on hb hF.out.zq, hF.out.zt.step rfl rfl, hF.out.v5, fun h1 => (hF.out.k5_0 h1).on hb, hF.out.g5, fun h2 => (hF.out.kL0_0 h2).on hb, fun h1 => (hF.out.kL0_1 h1).on hb⟩
  refine FSteps.op3 hz rfl (dv := [21, 21, 0, 1, 2, 3, 4, 5, 6, 7, 8, 9, 10, 11, 12, 13, 14, 15, 16, 17, 18, 19, 20, 21]) (by kernel_rfl) (by kernel_rfl) (by kernel_rfl) (fun D s W bA kK hD hW hF hA hK => ?_) ?_
  · have x2 := hA.o 2 _ rfl u2
    have x62 := hA.i 62 _ rfl rfl (hF.zt.get (j := 21) rfl hW.1)
    have kk := hF.kL0_0 hD
    have kc := kk.cell; have kf := kk.free
    have hF := Lib.hid hF
    have kk := Lib.hid kk
    clear hA
    go_simp
    exact hK.out undef _ ⟨hF.out.zb.sAll (hw_n1_1) 0 [Value.int .i64 (likeS a.lo (gcdS (stepS a) [absS b.lo]) (max (min a.lo 0) (1 - absS b.lo)) (min (max a.hi 0) (absS b.lo - 1)) k).lo, Value.int .i64 (likeS a.lo (gcdS (stepS a) [absS b.lo]) (max (min a.lo 0) (1 - absS b.lo)) (min (max a.hi 0) (absS b.lo - 1)) k).hi, Value.int .i64 (likeS a.lo (gcdS (stepS a) [absS b.lo]) (max (min a.lo 0) (1 - absS b.lo)) (min (max a.hi 0) (absS b.lo - 1)) k).m, Value.int .i64 (likeS a.lo (gcdS (stepS a) [absS b.lo]) (max (min a.lo 0) (1 - absS b.lo)) (min (max a.hi 0) (absS b.lo - 1)) k).r, Value.int .i64 (likeS a.lo (gcdS (stepS a) [absS b.lo]) (max (min a.lo 0) (1 - absS b.lo)) (min (max a.hi 0) (absS b.lo - 1)) k).k], Bks.oAll [Value.int .i64 (likeS a.lo (gcdS (stepS a) [absS b.lo]) (max (min a.lo 0) (1 - absS b.lo)) (min (max a.hi 0) (absS b.lo - 1)) k).lo, Value.int .i64 (likeS a.lo (gcdS (stepS a) [absS b.lo]) (max (min a.lo 0) (1 - absS b.lo)) (min (max a.hi 0) (absS b.lo - 1)) k).hi, Value.int .i64 (likeS a.lo (gcdS (stepS a) [absS b.lo]) (max (min a.lo 0) (1 - absS b.lo)) (min (max a.hi 0) (absS b.lo - 1)) k).m, Value.int .i64 (likeS a.lo (gcdS (stepS a) [absS b.lo]) (max (min a.lo 0) (1 - absS b.lo)) (min (max a.hi 0) (absS b.lo - 1)) k).r, Value.int .i64 (likeS a.lo (gcdS (stepS a) [absS b.lo]) (max (min a.lo 0) (1 - absS b.lo)) (min (max a.hi 0) (absS b.lo - 1)) k).k] 0 (⟨(by omega), (by omega), trivial⟩) hF.out.zq, hF.out.zt.skip rfl, hF.out.v5, fun h1 => Bk.oAll (Nat.ne_of_gt (Nat.lt_of_lt_of_le hl_1 (hF.out.g5 h1))) [Value.int .i64 (likeS a.lo (gcdS (stepS a) [absS b.lo]) (max (min a.lo 0) (1 - absS b.lo)) (min (max a.hi 0) (absS b.lo - 1)) k).lo, Value.int .i64 (likeS a.lo (gcdS (stepS a) [absS b.lo]) (max (min a.lo 0) (1 - absS b.lo)) (min (max a.hi 0) (absS b.lo - 1)) k).hi, Value.int .i64 (likeS a.lo (gcdS (stepS a) [absS b.lo]) (max (min a.lo 0) (1 - absS b.lo)) (min (max a.hi 0) (absS b.lo - 1)) k).m, Value.int .i64 (likeS a.lo (gcdS (stepS a) [absS b.lo]) (max (min a.lo 0) (1 - absS b.lo)) (min (max a.hi 0) (absS b.lo - 1)) k).r, Value.int .i64 (likeS a.lo (gcdS (stepS a) [absS b.lo]) (max (min a.lo 0) (1 - absS b.lo)) (min (max a.hi 0) (absS b.lo - 1)) k).k] 0 (hF.out.k5_0 h1), hF.out.g5, fun h2 => no_of h2, fun _ => kk.out.full [Value.int .i64 (likeS a.lo (gcdS (stepS a) [absS b.lo]) (max (min a.lo 0) (1 - absS b.lo)) (min (max a.hi 0) (absS b.lo - 1)) k).lo, Value.int .i64 (likeS a.lo (gcdS (stepS a) [absS b.lo]) (max (min a.lo 0) (1 - absS b.lo)) (min (max a.hi 0) (absS b.lo - 1)) k).hi, Value.int .i64 (likeS a.lo (gcdS (stepS a) [absS b.lo]) (max (min a.lo 0) (1 - absS b.lo)) (min (max a.hi 0) (absS b.lo - 1)) k).m, Value.int .i64 (likeS a.lo (gcdS (stepS a) [absS b.lo]) (max (min a.lo 0) (1 - absS b.lo)) (min (max a.hi 0) (absS b.lo - 1)) k).r, Value.int .i64 (likeS a.lo (gcdS (stepS a) [absS b.lo]) (max (min a.lo 0) (1 - absS b.lo)) (min (max a.hi 0) (absS b.lo - 1)) k).k] rfl⟩
  exact FSteps.nil
  intro D s W aF6 hD hF hz' df' hA
  obtain ⟨d0, d1, d2, d3, d4, d5, d6, d7, d8, d9, d10, d11, d12, d13, d14, d15, d16, d17, d18, d19, d20, d21, d22, -⟩ := hD
  clear u1 u3 u4 u39
  replace u2 : Sl aF6 2 _ := hA.o 2 _ rfl u2
  have hkX5 := hF.k5_0 d5
  have hgX5 := hF.g5 d5
  have hkXL0 := hF.kL0_1 d22
  have hM := hF.zb
  have hB := hF.zq
  generalize pblk (s 46) = n6_5 at hkX5 hgX5 hkXL0
  have hB : Bks W [(n1_1, #[Value.int .i64 (likeS a.lo (gcdS (stepS a) [absS b.lo]) (max (min a.lo 0) (1 - absS b.lo)) (min (max a.hi 0) (absS b.lo - 1)) k).lo, Value.int .i64 (likeS a.lo (gcdS (stepS a) [absS b.lo]) (max (min a.lo 0) (1 - absS b.lo)) (min (max a.hi 0) (absS b.lo - 1)) k).hi, Value.int .i64 (likeS a.lo (gcdS (stepS a) [absS b.lo]) (max (min a.lo 0) (1 - absS b.lo)) (min (max a.hi 0) (absS b.lo - 1)) k).m, Value.int .i64 (likeS a.lo (gcdS (stepS a) [absS b.lo]) (max (min a.lo 0) (1 - absS b.lo)) (min (max a.hi 0) (absS b.lo - 1)) k).r, Value.int .i64 (likeS a.lo (gcdS (stepS a) [absS b.lo]) (max (min a.lo 0) (1 - absS b.lo)) (min (max a.hi 0) (absS b.lo - 1)) k).k], 27)] := ⟨hkXL0, trivial⟩
  have hne_n1_1_n6_5 : n1_1 ≠ n6_5 := by omega
  clear hF hA hz df d0 d1 d2 d3 d4 d5 d6 d7 d8 d9 d10 d11 d12 d13 d14 d15 d16 d17 d18 d19 d20 d21 d22 
  have hz := hz'; have df := df'; clear hz' df'
  clear aF5
  show Code.wp _ _ _ _ _
  refine wp_ret ?_
  show bodyPost _ _ _ _ _ _
  have hB2 := hB.rules
  obtain ⟨⟨c0, z0⟩, -⟩ := hB2
  unfold Sl at u2
  refine end_go df (v := (Value.agg #[Value.int .i64 (likeS a.lo (gcdS (stepS a) [absS b.lo]) (max (min a.lo 0) (1 - absS b.lo)) (min (max a.hi 0) (absS b.lo - 1)) k).lo, Value.int .i64 (likeS a.lo (gcdS (stepS a) [absS b.lo]) (max (min a.lo 0) (1 - absS b.lo)) (min (max a.hi 0) (absS b.lo - 1)) k).hi, Value.int .i64 (likeS a.lo (gcdS (stepS a) [absS b.lo]) (max (min a.lo 0) (1 - absS b.lo)) (min (max a.hi 0) (absS b.lo - 1)) k).m, Value.int .i64 (likeS a.lo (gcdS (stepS a) [absS b.lo]) (max (min a.lo 0) (1 - absS b.lo)) (min (max a.hi 0) (absS b.lo - 1)) k).r, Value.int .i64 (likeS a.lo (gcdS (stepS a) [absS b.lo]) (max (min a.lo 0) (1 - absS b.lo)) (min (max a.hi 0) (absS b.lo - 1)) k).k])) (by simp [results, Try.results78, go_sem, u2, c0]) ⟨rfl, hM.b⟩

theorem prem_is {a b : Ab} (k : Int) (w : World) (ha : Good a) (hb : Good b) :
    Calls Try.prog 78 #[Value.agg #[Value.int .i64 a.lo, Value.int .i64 a.hi, Value.int .i64 a.m, Value.int .i64 a.r, Value.int .i64 a.k, Value.int .i64 b.lo, Value.int .i64 b.hi, Value.int .i64 b.m, Value.int .i64 b.r, Value.int .i64 b.k, Value.int .i64 k]] w fun e w' => e = .returned (abVal (remS a b k)) ∧ Below w.heap.size w w' := by
  unfold remS
  by_cases hs : stepS b = 0
  · rw [if_neg (fun h => h hs)]
    by_cases h4 : absS b.lo = 0
    · rw [if_pos (Or.inl h4)]; exact prem_z k w ha hb hs h4
    · by_cases h5 : 0 ≤ a.lo
      · by_cases h6 : a.hi < absS b.lo
        · rw [if_pos (Or.inr ⟨h5, h6⟩)]; exact prem_i k w ha hb hs h4 h5 h6
        · rw [if_neg (by omega)]; exact prem_m k w ha hb hs h4 h5 (by omega)
      · rw [if_neg (by omega)]; exact prem_l k w ha hb hs h4 (by omega)
  · rw [if_pos hs]; exact prem_s k w ha hb hs

end Go.Proofs.Ytlokjiniigfaiaa
