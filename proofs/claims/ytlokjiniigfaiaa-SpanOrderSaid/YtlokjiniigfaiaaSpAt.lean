/- Words in sets: paroleref10.At; masks that are within masks. -/
import Derived.Test.YtlokjiniigfaiaaSpLeq
import Derived.Test.YtlokjiniigfaiaaSpRead
import Derived.Test.YtlokjiniigfaiaaWk
set_option linter.unusedVariables false
set_option linter.unusedSimpArgs false
namespace Go.Proofs.Ytlokjiniigfaiaa
open Go.ChangeShapes Go.WideShapes Go.ChangeAt Go.RowKit

theorem ofInt_wrap (n : Int) : BitVec.ofInt 64 (IntKind.i64.wrap n) = BitVec.ofInt 64 n := by
  apply BitVec.eq_of_toNat_eq
  rw [BitVec.toNat_ofInt, BitVec.toNat_ofInt]
  congr 1
  have h : IntKind.i64.wrap n = if 9223372036854775808 ≤ n % 18446744073709551616 then n % 18446744073709551616 - 18446744073709551616 else n % 18446744073709551616 := by simp [IntKind.wrap, IntKind.bits, IntKind.signed]
  rw [h]
  have h2 : ((2 ^ 64 : Nat) : Int) = 18446744073709551616 := by decide
  rw [h2]
  split <;> omega
theorem ofInt_toNat (x : BitVec 64) : BitVec.ofInt 64 (x.toNat : Int) = x := by rw [BitVec.ofInt_natCast]; simp
theorem or_bv (a b : Int) : BitVec.ofInt 64 (orS a b) = BitVec.ofInt 64 a ||| BitVec.ofInt 64 b := by
  show BitVec.ofInt 64 (IntKind.i64.wrap ((BitVec.ofInt 64 a ||| BitVec.ofInt 64 b).toNat : Int)) = _
  rw [ofInt_wrap, ofInt_toNat]
theorem and_bv (a b : Int) : BitVec.ofInt 64 (andS a b) = BitVec.ofInt 64 a &&& BitVec.ofInt 64 b := by
  show BitVec.ofInt 64 (IntKind.i64.wrap ((BitVec.ofInt 64 a &&& BitVec.ofInt 64 b).toNat : Int)) = _
  rw [ofInt_wrap, ofInt_toNat]
/-- The bits of a mask are bits of another one. -/
def Sub (a b : Int) : Prop := BitVec.ofInt 64 a &&& ~~~ BitVec.ofInt 64 b = 0#64
theorem sub_not {a b : Int} (h : Sub a b) : notS a b = 0 := by
  show IntKind.i64.wrap ((BitVec.ofInt 64 a &&& ~~~ BitVec.ofInt 64 b).toNat : Int) = 0
  rw [h]
  rfl
theorem sub_and (n k : Int) : Sub (andS n k) k := by
  unfold Sub
  rw [and_bv]
  ext i hi
  simp
theorem sub_or {a b x y : Int} (h : Sub a x) (k : Sub b y) : Sub (orS a b) (orS x y) := by
  unfold Sub at *
  rw [or_bv, or_bv]
  ext i hi
  have h1 := congrArg (fun z : BitVec 64 => z[i]) h
  have h2 := congrArg (fun z : BitVec 64 => z[i]) k
  simp at h1 h2 ⊢
  intro h3
  rcases h3 with h3 | h3 <;> simp_all
theorem sub_self (a : Int) : Sub a a := by
  unfold Sub
  ext i hi
  simp

theorem at_fits {lo hi m n : Int} (h : lo ≤ hi) (hm : 0 < m) : 0 ≤ n % ((hi - lo).tdiv m + 1) * m ∧ n % ((hi - lo).tdiv m + 1) * m ≤ hi - lo ∧ 0 ≤ n % ((hi - lo).tdiv m + 1) ∧ 0 ≤ (hi - lo).tdiv m ∧ (hi - lo).tdiv m ≤ hi - lo := by
  rw [Int.tdiv_eq_ediv_of_nonneg (show 0 ≤ hi - lo by omega)]
  have q0 : 0 ≤ (hi - lo) / m := Int.ediv_nonneg (by omega) (by omega)
  have e := Int.mul_ediv_add_emod (hi - lo) m
  have e2 := Int.emod_nonneg (hi - lo) (show m ≠ 0 by omega)
  have b1 := Int.emod_nonneg n (show (hi - lo) / m + 1 ≠ 0 by omega)
  have b2 := Int.emod_lt_of_pos n (show 0 < (hi - lo) / m + 1 by omega)
  have q1 : (hi - lo) / m ≤ hi - lo := Int.ediv_le_self _ (by omega)
  generalize (hi - lo) / m = q at *
  generalize n % (q + 1) = r at *
  have h1 := Int.mul_nonneg b1 (show 0 ≤ m by omega)
  have h2 : r * m ≤ q * m := Int.mul_le_mul_of_nonneg_right (by omega) (by omega)
  rw [Int.mul_comm m q] at e
  refine ⟨h1, by omega, b1, q0, q1⟩

theorem rmod_b (a m : Int) (hm : 0 < m) (hm2 : m ≤ 4611686018427387904) (w : World) :
    Calls Try.prog 42 #[.int .i64 a, .int .i64 m] w fun e w' => e = .returned (.int .i64 (a % m)) ∧ Below w.heap.size w w' :=
  (rmod_is a m hm hm2 w).mono fun e w2 ⟨h1, h2⟩ => ⟨h1, h2 ▸ Below.refl _ _⟩
def atS (a : Ab) (n : Int) : Int := a.lo + n % ((a.hi - a.lo).tdiv a.m + 1) * a.m

structure at_is_r0_1 (a : Ab) (n k : Int) (w : World) (m1 : Nat) (D : Nat → Bool) (s : Nat → Value) (W : World) : Prop where
  zb : Mk0 w m1 W
  zq : Bks W []
  zt : Vals D s []
  v0 : D 0 = true → s 3 = (Value.pointer (some ⟨pblk (s 3), 0, none⟩))
  v1 : D 1 = true → s 6 = (Value.pointer (some ⟨pblk (s 6), 0, none⟩))
  k0_0 : D 0 = true → Bk W (pblk (s 3)) #[Value.int .i64 a.lo, Value.int .i64 a.hi, Value.int .i64 a.m, Value.int .i64 a.r, Value.int .i64 a.k] 27
  g0 : D 0 = true → m1 ≤ (pblk (s 3))
  k1_0 : D 1 = true → Bk W (pblk (s 6)) #[Value.int .i64 0, Value.int .i64 0] 30
  g1 : D 1 = true → m1 ≤ (pblk (s 6))
  e0_1 : D 0 = true → D 1 = true → pblk (s 3) ≠ pblk (s 6)

structure at_is_r1_2 (a : Ab) (n k : Int) (n1_0 n1_1 : Nat) (w : World) (m2 : Nat) (D : Nat → Bool) (s : Nat → Value) (W : World) : Prop where
  zb : Mk0 w m2 W
  zq : Bks W [(n1_0, #[Value.int .i64 a.lo, Value.int .i64 a.hi, Value.int .i64 a.m, Value.int .i64 a.r, Value.int .i64 a.k], 27)]
  zt : Vals D s [(0, 7, Value.pointer (some ⟨n1_0, 0, none⟩)), (1, 8, Value.int .i64 a.lo), (2, 9, Value.int .i64 n), (3, 10, Value.pointer (some ⟨n1_0, 1, none⟩)), (4, 11, Value.int .i64 a.hi), (5, 12, Value.pointer (some ⟨n1_0, 0, none⟩)), (6, 13, Value.int .i64 a.lo), (7, 14, Value.int .i64 (a.hi - a.lo)), (8, 15, Value.pointer (some ⟨n1_0, 2, none⟩)), (9, 16, Value.int .i64 a.m), (10, 17, Value.int .i64 ((a.hi - a.lo).tdiv a.m)), (11, 18, Value.int .i64 (((a.hi - a.lo).tdiv a.m) + 1)), (12, 19, Value.int .i64 (n % ((a.hi - a.lo).tdiv a.m + 1))), (13, 20, Value.pointer (some ⟨n1_0, 2, none⟩)), (14, 21, Value.int .i64 a.m), (15, 22, Value.int .i64 ((n % ((a.hi - a.lo).tdiv a.m + 1)) * a.m)), (16, 23, Value.int .i64 (a.lo + ((n % ((a.hi - a.lo).tdiv a.m + 1)) * a.m))), (17, 24, Value.int .i64 k), (18, 25, Value.pointer (some ⟨n1_0, 4, none⟩)), (19, 26, Value.int .i64 a.k), (20, 27, Value.int .i64 (bits .and .i64 k a.k)), (21, 28, Value.agg #[Value.int .i64 (a.lo + ((n % ((a.hi - a.lo).tdiv a.m + 1)) * a.m)), Value.int .i64 (bits .and .i64 k a.k)])]
  kL0_0 : D 22 = false → Bk W n1_1 #[Value.int .i64 0, Value.int .i64 0] 30
  kL0_1 : D 22 = true → Bk W n1_1 #[Value.int .i64 (a.lo + ((n % ((a.hi - a.lo).tdiv a.m + 1)) * a.m)), Value.int .i64 (bits .and .i64 k a.k)] 30

set_option maxRecDepth 100000 in
set_option maxHeartbeats 4000000 in
theorem at_is {a : Ab} (n k : Int) (w : World) (ha : Good a) :
    Calls Try.prog 12 #[Value.agg #[Value.int .i64 a.lo, Value.int .i64 a.hi, Value.int .i64 a.m, Value.int .i64 a.r, Value.int .i64 a.k], Value.int .i64 n, Value.int .i64 k] w fun e w' => e = .returned (Value.agg #[Value.int .i64 (atS a n), Value.int .i64 (bits .and .i64 k a.k)]) ∧ Below w.heap.size w w' := by
  have a1 := ha.h1; have a2 := ha.h2; have a3 := ha.h3; have a6 := ha.h6
  obtain ⟨P1, P2, P3, P4, P5⟩ := at_fits (n := n) a2 (show 0 < a.m by omega)
  have hm0 : ¬ a.m = 0 := by omega
  refine calls_go Try.func12 rfl 29 rfl rfl (fun aF hz df hu => ?_)
  have u0 : Sl aF 0 (Value.agg #[Value.int .i64 a.lo, Value.int .i64 a.hi, Value.int .i64 a.m, Value.int .i64 a.r, Value.int .i64 a.k]) := hu 0 _ rfl
  have u1 : Sl aF 1 (Value.int .i64 n) := hu 1 _ rfl
  have u2 : Sl aF 2 (Value.int .i64 k) := hu 2 _ rfl
  clear hu
  have hM : Mk0 w w.heap.size w := ⟨Below.refl _ _, Nat.le_refl _⟩
  have hB : Bks w [] := trivial
  refine wp_seq ?_
  obtain ⟨m1, hM, hU, hwm⟩ := start_region hM.b hB
  refine region_run (F := at_is_r0_1 a n k w m1) [3, 6] [0, 1] hz df (by kernel_rfl) (by kernel_rfl) (fun s hs0 => ⟨hM, hB, Vals.none s _, fun h => no_of' h, fun h => no_of' h, fun h => no_of' h, fun h => no_of' h, fun h => no_of' h, fun h => no_of' h, fun h => no_of' h⟩) ?_ ?_
  refine FSteps.op3 hz rfl (dv := []) (by kernel_rfl) (by kernel_rfl) (by kernel_rfl) (fun D s W bA kK hD hW hF hA hK => ?_) ?_
  · have x0 := hA.o 0 _ rfl u0
    have hF := Lib.hid hF
    clear hA
    go_simp
    exact hK.out _ _ ⟨hF.out.zb.al _, Bks.al _ hF.out.zq, hF.out.zt.skip rfl, fun _ => rfl, hF.out.v1, fun _ => Bk.new _ _ _, fun _ => hF.out.zb.g, fun h1 => (hF.out.k1_0 h1).al _, hF.out.g1, fun _ h => Nat.ne_of_gt ((hF.out.k1_0 h).lt)⟩
  refine FSteps.op3 hz rfl (dv := []) (by kernel_rfl) (by kernel_rfl) (by kernel_rfl) (fun D s W bA kK hD hW hF hA hK => ?_) ?_
  · have hF := Lib.hid hF
    clear hA
    go_simp
    exact hK.out _ _ ⟨hF.out.zb.al _, Bks.al _ hF.out.zq, hF.out.zt.skip rfl, hF.out.v0, fun _ => rfl, fun h1 => (hF.out.k0_0 h1).al _, hF.out.g0, fun _ => Bk.new _ _ _, fun _ => hF.out.zb.g, fun h _ => Nat.ne_of_lt ((hF.out.k0_0 h).lt)⟩
  exact FSteps.nil
  intro D s W aF1 hD hF hz' df' hA
  obtain ⟨d0, d1, -⟩ := hD
  clear u0
  replace u1 : Sl aF1 1 _ := hA.o 1 _ rfl u1
  replace u2 : Sl aF1 2 _ := hA.o 2 _ rfl u2
  have u3 : Sl aF1 3 _ := hA.i 3 _ rfl rfl (hF.v0 d0)
  have u6 : Sl aF1 6 _ := hA.i 6 _ rfl rfl (hF.v1 d1)
  have hkX0 := hF.k0_0 d0
  have hgX0 := hF.g0 d0
  have hkX1 := hF.k1_0 d1
  have hgX1 := hF.g1 d1
  have heX0_1 := hF.e0_1 d0 d1
  have hM := hF.zb
  have hB := hF.zq
  generalize pblk (s 3) = n1_0 at hkX0 hgX0 hkX1 hgX1 heX0_1 u3 u6
  generalize pblk (s 6) = n1_1 at hkX0 hgX0 hkX1 hgX1 heX0_1 u3 u6
  have hB : Bks W [(n1_0, #[Value.int .i64 a.lo, Value.int .i64 a.hi, Value.int .i64 a.m, Value.int .i64 a.r, Value.int .i64 a.k], 27), (n1_1, #[Value.int .i64 0, Value.int .i64 0], 30)] := ⟨hkX0, hkX1, trivial⟩
  have hw_n1_1 : w.heap.size ≤ n1_1 := Nat.le_trans hwm hgX1
  clear hF hA hz df d0 d1 hU
  have hz := hz'; have df := df'; clear hz' df'
  clear aF
  show Code.wp _ _ _ _ _
  refine wp_seq ?_
  obtain ⟨m2, hM, hU, hwm⟩ := start_region hM.b hB
  obtain ⟨hk_0, hk_1, -⟩ := hB
  obtain ⟨hl_0, hl_1, -⟩ := hU
  have hB : Bks _ [(n1_0, #[Value.int .i64 a.lo, Value.int .i64 a.hi, Value.int .i64 a.m, Value.int .i64 a.r, Value.int .i64 a.k], 27)] := ⟨hk_0, trivial⟩
  have hU : Under m2 [(n1_0, #[Value.int .i64 a.lo, Value.int .i64 a.hi, Value.int .i64 a.m, Value.int .i64 a.r, Value.int .i64 a.k], 27)] := ⟨hl_0, trivial⟩
  refine region_go (F := at_is_r1_2 a n k n1_0 n1_1 w m2) [7, 8, 9, 10, 11, 12, 13, 14, 15, 16, 17, 18, 19, 20, 21, 22, 23, 24, 25, 26, 27, 28] [0, 1, 2, 3, 4, 5, 6, 7, 8, 9, 10, 11, 12, 13, 14, 15, 16, 17, 18, 19, 20, 21, 22] hz df (by kernel_rfl) (by kernel_rfl) (by kernel_rfl) (fun s hs0 => ⟨hM.drew, Bks.drew hB, Vals.none s _, fun _ => hk_1.drew, fun h => no_of' h⟩) ?_ ?_
  refine FSteps.op3 hz rfl (dv := []) (by kernel_rfl) (by kernel_rfl) (by kernel_rfl) (fun D s W bA kK hD hW hF hA hK => ?_) ?_
  · have x3 := hA.o 3 _ rfl u3
    have hF := Lib.hid hF
    clear hA
    go_simp
    exact hK.out _ _ ⟨hF.out.zb, hF.out.zq, hF.out.zt.step rfl rfl, hF.out.kL0_0, hF.out.kL0_1⟩
  refine FSteps.op3 hz rfl (dv := [0]) (by kernel_rfl) (by kernel_rfl) (by kernel_rfl) (fun D s W bA kK hD hW hF hA hK => ?_) ?_
  · have x7 := hA.i 7 _ rfl rfl (hF.zt.get (j := 0) rfl hW.1)
    obtain ⟨⟨c0, z0⟩, -⟩ := hF.zq.rules
    have hF := Lib.hid hF
    clear hA
    go_simp
    exact hK.out _ _ ⟨hF.out.zb, hF.out.zq, hF.out.zt.step rfl rfl, hF.out.kL0_0, hF.out.kL0_1⟩
  refine FSteps.op3 hz rfl (dv := []) (by kernel_rfl) (by kernel_rfl) (by kernel_rfl) (fun D s W bA kK hD hW hF hA hK => ?_) ?_
  · have x1 := hA.o 1 _ rfl u1
    have hF := Lib.hid hF
    clear hA
    go_simp
    exact hK.out _ _ ⟨hF.out.zb, hF.out.zq, hF.out.zt.step rfl rfl, hF.out.kL0_0, hF.out.kL0_1⟩
  refine FSteps.op3 hz rfl (dv := []) (by kernel_rfl) (by kernel_rfl) (by kernel_rfl) (fun D s W bA kK hD hW hF hA hK => ?_) ?_
  · have x3 := hA.o 3 _ rfl u3
    have hF := Lib.hid hF
    clear hA
    go_simp
    exact hK.out _ _ ⟨hF.out.zb, hF.out.zq, hF.out.zt.step rfl rfl, hF.out.kL0_0, hF.out.kL0_1⟩
  refine FSteps.op3 hz rfl (dv := [3]) (by kernel_rfl) (by kernel_rfl) (by kernel_rfl) (fun D s W bA kK hD hW hF hA hK => ?_) ?_
  · have x10 := hA.i 10 _ rfl rfl (hF.zt.get (j := 3) rfl hW.1)
    obtain ⟨⟨c0, z0⟩, -⟩ := hF.zq.rules
    have hF := Lib.hid hF
    clear hA
    go_simp
    exact hK.out _ _ ⟨hF.out.zb, hF.out.zq, hF.out.zt.step rfl rfl, hF.out.kL0_0, hF.out.kL0_1⟩
  refine FSteps.op3 hz rfl (dv := []) (by kernel_rfl) (by kernel_rfl) (by kernel_rfl) (fun D s W bA kK hD hW hF hA hK => ?_) ?_
  · have x3 := hA.o 3 _ rfl u3
    have hF := Lib.hid hF
    clear hA
    go_simp
    exact hK.out _ _ ⟨hF.out.zb, hF.out.zq, hF.out.zt.step rfl rfl, hF.out.kL0_0, hF.out.kL0_1⟩
  refine FSteps.op3 hz rfl (dv := [5]) (by kernel_rfl) (by kernel_rfl) (by kernel_rfl) (fun D s W bA kK hD hW hF hA hK => ?_) ?_
  · have x12 := hA.i 12 _ rfl rfl (hF.zt.get (j := 5) rfl hW.1)
    obtain ⟨⟨c0, z0⟩, -⟩ := hF.zq.rules
    have hF := Lib.hid hF
    clear hA
    go_simp
    exact hK.out _ _ ⟨hF.out.zb, hF.out.zq, hF.out.zt.step rfl rfl, hF.out.kL0_0, hF.out.kL0_1⟩
  refine FSteps.op3 hz rfl (dv := [4, 6]) (by kernel_rfl) (by kernel_rfl) (by kernel_rfl) (fun D s W bA kK hD hW hF hA hK => ?_) ?_
  · have x11 := hA.i 11 _ rfl rfl (hF.zt.get (j := 4) rfl hW.1)
    have x13 := hA.i 13 _ rfl rfl (hF.zt.get (j := 6) rfl hW.2.1)
    have hF := Lib.hid hF
    clear hA
    have hw7 : IntKind.i64.wrap (a.hi - a.lo) = a.hi - a.lo := IntWalk.i64_in _ (by omega)
    go_simp
    exact hK.out _ _ ⟨hF.out.zb, hF.out.zq, hF.out.zt.step rfl rfl, hF.out.kL0_0, hF.out.kL0_1⟩
  refine FSteps.op3 hz rfl (dv := []) (by kernel_rfl) (by kernel_rfl) (by kernel_rfl) (fun D s W bA kK hD hW hF hA hK => ?_) ?_
  · have x3 := hA.o 3 _ rfl u3
    have hF := Lib.hid hF
    clear hA
    go_simp
    exact hK.out _ _ ⟨hF.out.zb, hF.out.zq, hF.out.zt.step rfl rfl, hF.out.kL0_0, hF.out.kL0_1⟩
  refine FSteps.op3 hz rfl (dv := [8]) (by kernel_rfl) (by kernel_rfl) (by kernel_rfl) (fun D s W bA kK hD hW hF hA hK => ?_) ?_
  · have x15 := hA.i 15 _ rfl rfl (hF.zt.get (j := 8) rfl hW.1)
    obtain ⟨⟨c0, z0⟩, -⟩ := hF.zq.rules
    have hF := Lib.hid hF
    clear hA
    go_simp
    exact hK.out _ _ ⟨hF.out.zb, hF.out.zq, hF.out.zt.step rfl rfl, hF.out.kL0_0, hF.out.kL0_1⟩
  refine FSteps.op3 hz rfl (dv := [7, 9]) (by kernel_rfl) (by kernel_rfl) (by kernel_rfl) (fun D s W bA kK hD hW hF hA hK => ?_) ?_
  · have x14 := hA.i 14 _ rfl rfl (hF.zt.get (j := 7) rfl hW.1)
    have x16 := hA.i 16 _ rfl rfl (hF.zt.get (j := 9) rfl hW.2.1)
    have hF := Lib.hid hF
    clear hA
    have hw10 : IntKind.i64.wrap ((a.hi - a.lo).tdiv a.m) = (a.hi - a.lo).tdiv a.m := IntWalk.i64_in _ (by omega)
    go_simp
    exact hK.out _ _ ⟨hF.out.zb, hF.out.zq, hF.out.zt.step rfl rfl, hF.out.kL0_0, hF.out.kL0_1⟩
  refine FSteps.op3 hz rfl (dv := [10]) (by kernel_rfl) (by kernel_rfl) (by kernel_rfl) (fun D s W bA kK hD hW hF hA hK => ?_) ?_
  · have x17 := hA.i 17 _ rfl rfl (hF.zt.get (j := 10) rfl hW.1)
    have hF := Lib.hid hF
    clear hA
    have hw11 : IntKind.i64.wrap (((a.hi - a.lo).tdiv a.m) + 1) = ((a.hi - a.lo).tdiv a.m) + 1 := IntWalk.i64_in _ (by omega)
    go_simp
    exact hK.out _ _ ⟨hF.out.zb, hF.out.zq, hF.out.zt.step rfl rfl, hF.out.kL0_0, hF.out.kL0_1⟩
  refine FSteps.op3 hz rfl (dv := [2, 11]) (by kernel_rfl) (by kernel_rfl) (by kernel_rfl) (fun D s W bA kK hD hW hF hA hK => ?_) ?_
  · have x9 := hA.i 9 _ rfl rfl (hF.zt.get (j := 2) rfl hW.1)
    have x18 := hA.i 18 _ rfl rfl (hF.zt.get (j := 11) rfl hW.2.1)
    have hF := Lib.hid hF
    clear hA
    go_simp
    (go_at_call 42; ((with_reducible_and_instances refine ((rmod_b _ _ (by omega) (by omega) _)).mono ?_)); rintro e W1 ⟨rfl, hb⟩; (try unfold abVal))
    (try go_wp2_with fail)
    exact hK.out _ _ ⟨hF.out.zb.on hb, Bks.on hb hF.out.zq, hF.out.zt.step rfl rfl, fun h2 => (hF.out.kL0_0 h2).on hb, fun h1 => (hF.out.kL0_1 h1).on hb⟩
  refine FSteps.op3 hz rfl (dv := []) (by kernel_rfl) (by kernel_rfl) (by kernel_rfl) (fun D s W bA kK hD hW hF hA hK => ?_) ?_
  · have x3 := hA.o 3 _ rfl u3
    have hF := Lib.hid hF
    clear hA
    go_simp
    exact hK.out _ _ ⟨hF.out.zb, hF.out.zq, hF.out.zt.step rfl rfl, hF.out.kL0_0, hF.out.kL0_1⟩
  refine FSteps.op3 hz rfl (dv := [13]) (by kernel_rfl) (by kernel_rfl) (by kernel_rfl) (fun D s W bA kK hD hW hF hA hK => ?_) ?_
  · have x20 := hA.i 20 _ rfl rfl (hF.zt.get (j := 13) rfl hW.1)
    obtain ⟨⟨c0, z0⟩, -⟩ := hF.zq.rules
    have hF := Lib.hid hF
    clear hA
    go_simp
    exact hK.out _ _ ⟨hF.out.zb, hF.out.zq, hF.out.zt.step rfl rfl, hF.out.kL0_0, hF.out.kL0_1⟩
  refine FSteps.op3 hz rfl (dv := [12, 14]) (by kernel_rfl) (by kernel_rfl) (by kernel_rfl) (fun D s W bA kK hD hW hF hA hK => ?_) ?_
  · have x19 := hA.i 19 _ rfl rfl (hF.zt.get (j := 12) rfl hW.1)
    have x21 := hA.i 21 _ rfl rfl (hF.zt.get (j := 14) rfl hW.2.1)
    have hF := Lib.hid hF
    clear hA
    have hw15 : IntKind.i64.wrap ((n % ((a.hi - a.lo).tdiv a.m + 1)) * a.m) = (n % ((a.hi - a.lo).tdiv a.m + 1)) * a.m := IntWalk.i64_in _ (by omega)
    go_simp
    exact hK.out _ _ ⟨hF.out.zb, hF.out.zq, hF.out.zt.step rfl rfl, hF.out.kL0_0, hF.out.kL0_1⟩
  refine FSteps.op3 hz rfl (dv := [1, 15]) (by kernel_rfl) (by kernel_rfl) (by kernel_rfl) (fun D s W bA kK hD hW hF hA hK => ?_) ?_
  · have x8 := hA.i 8 _ rfl rfl (hF.zt.get (j := 1) rfl hW.1)
    have x22 := hA.i 22 _ rfl rfl (hF.zt.get (j := 15) rfl hW.2.1)
    have hF := Lib.hid hF
    clear hA
    have hw16 : IntKind.i64.wrap (a.lo + ((n % ((a.hi - a.lo).tdiv a.m + 1)) * a.m)) = a.lo + ((n % ((a.hi - a.lo).tdiv a.m + 1)) * a.m) := IntWalk.i64_in _ (by omega)
    go_simp
    exact hK.out _ _ ⟨hF.out.zb, hF.out.zq, hF.out.zt.step rfl rfl, hF.out.kL0_0, hF.out.kL0_1⟩
  refine FSteps.op3 hz rfl (dv := []) (by kernel_rfl) (by kernel_rfl) (by kernel_rfl) (fun D s W bA kK hD hW hF hA hK => ?_) ?_
  · have x2 := hA.o 2 _ rfl u2
    have hF := Lib.hid hF
    clear hA
    go_simp
    exact hK.out _ _ ⟨hF.out.zb, hF.out.zq, hF.out.zt.step rfl rfl, hF.out.kL0_0, hF.out.kL0_1⟩
  refine FSteps.op3 hz rfl (dv := []) (by kernel_rfl) (by kernel_rfl) (by kernel_rfl) (fun D s W bA kK hD hW hF hA hK => ?_) ?_
  · have x3 := hA.o 3 _ rfl u3
    have hF := Lib.hid hF
    clear hA
    go_simp
    exact hK.out _ _ ⟨hF.out.zb, hF.out.zq, hF.out.zt.step rfl rfl, hF.out.kL0_0, hF.out.kL0_1⟩
  refine FSteps.op3 hz rfl (dv := [18]) (by kernel_rfl) (by kernel_rfl) (by kernel_rfl) (fun D s W bA kK hD hW hF hA hK => ?_) ?_
  · have x25 := hA.i 25 _ rfl rfl (hF.zt.get (j := 18) rfl hW.1)
    obtain ⟨⟨c0, z0⟩, -⟩ := hF.zq.rules
    have hF := Lib.hid hF
    clear hA
    go_simp
    exact hK.out _ _ ⟨hF.out.zb, hF.out.zq, hF.out.zt.step rfl rfl, hF.out.kL0_0, hF.out.kL0_1⟩
  refine FSteps.op3 hz rfl (dv := [17, 19]) (by kernel_rfl) (by kernel_rfl) (by kernel_rfl) (fun D s W bA kK hD hW hF hA hK => ?_) ?_
  · have x24 := hA.i 24 _ rfl rfl (hF.zt.get (j := 17) rfl hW.1)
    have x26 := hA.i 26 _ rfl rfl (hF.zt.get (j := 19) rfl hW.2.1)
    have hF := Lib.hid hF
    clear hA
    go_simp
    exact hK.out _ _ ⟨hF.out.zb, hF.out.zq, hF.out.zt.step rfl rfl, hF.out.kL0_0, hF.out.kL0_1⟩
  refine FSteps.op3 hz rfl (dv := [16, 20]) (by kernel_rfl) (by kernel_rfl) (by kernel_rfl) (fun D s W bA kK hD hW hF hA hK => ?_) ?_
  · have x23 := hA.i 23 _ rfl rfl (hF.zt.get (j := 16) rfl hW.1)
    have x27 := hA.i 27 _ rfl rfl (hF.zt.get (j := 20) rfl hW.2.1)
    have hF := Lib.hid hF
    clear hA
    go_simp
    exact hK.out _ _ ⟨hF.out.zb, hF.out.zq, hF.out.zt.step rfl rfl, hF.out.kL0_0, hF.out.kL0_1⟩
  refine FSteps.op3 hz rfl (dv := [21, 12, 0, 1, 2, 3, 4, 5, 6, 7, 8, 9, 10, 11, 12, 13, 14, 15, 16, 17, 18, 19, 20, 21]) (by kernel_rfl) (by kernel_rfl) (by kernel_rfl) (fun D s W bA kK hD hW hF hA hK => ?_) ?_
  · have x6 := hA.o 6 _ rfl u6
    have x28 := hA.i 28 _ rfl rfl (hF.zt.get (j := 21) rfl hW.1)
    have kk := hF.kL0_0 hD
    have kc := kk.cell; have kf := kk.free
    have hF := Lib.hid hF
    have kk := Lib.hid kk
    clear hA
    go_simp
    exact hK.out undef _ ⟨hF.out.zb.sAll (hw_n1_1) 0 [Value.int .i64 (a.lo + ((n % ((a.hi - a.lo).tdiv a.m + 1)) * a.m)), Value.int .i64 (bits .and .i64 k a.k)], Bks.oAll [Value.int .i64 (a.lo + ((n % ((a.hi - a.lo).tdiv a.m + 1)) * a.m)), Value.int .i64 (bits .and .i64 k a.k)] 0 (⟨(by omega), trivial⟩) hF.out.zq, hF.out.zt.skip rfl, fun h2 => no_of h2, fun _ => kk.out.full [Value.int .i64 (a.lo + ((n % ((a.hi - a.lo).tdiv a.m + 1)) * a.m)), Value.int .i64 (bits .and .i64 k a.k)] rfl⟩
  exact FSteps.nil
  intro D s W aF2 hD hF hz' df' hA
  obtain ⟨d0, d1, d2, d3, d4, d5, d6, d7, d8, d9, d10, d11, d12, d13, d14, d15, d16, d17, d18, d19, d20, d21, d22, -⟩ := hD
  clear u1 u2 u3
  replace u6 : Sl aF2 6 _ := hA.o 6 _ rfl u6
  have hkXL0 := hF.kL0_1 d22
  have hM := hF.zb
  have hB := hF.zq
  have hB : Bks W [(n1_1, #[Value.int .i64 (a.lo + ((n % ((a.hi - a.lo).tdiv a.m + 1)) * a.m)), Value.int .i64 (bits .and .i64 k a.k)], 30)] := ⟨hkXL0, trivial⟩
  clear hF hA hz df d0 d1 d2 d3 d4 d5 d6 d7 d8 d9 d10 d11 d12 d13 d14 d15 d16 d17 d18 d19 d20 d21 d22 
  have hz := hz'; have df := df'; clear hz' df'
  clear aF1
  show Code.wp _ _ _ _ _
  refine wp_ret ?_
  show bodyPost _ _ _ _ _ _
  have hB2 := hB.rules
  obtain ⟨⟨c0, z0⟩, -⟩ := hB2
  unfold Sl at u6
  refine end_go df (v := (Value.agg #[Value.int .i64 (a.lo + ((n % ((a.hi - a.lo).tdiv a.m + 1)) * a.m)), Value.int .i64 (bits .and .i64 k a.k)])) (by simp [results, Try.results12, go_sem, u6, c0]) ⟨by rfl, hM.b⟩


end Go.Proofs.Ytlokjiniigfaiaa
