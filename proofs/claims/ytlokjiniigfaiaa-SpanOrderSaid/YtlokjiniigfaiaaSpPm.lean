/- Contracts of the methods of span's pair, at sets that are right. -/
import Derived.Test.YtlokjiniigfaiaaSpLeq
import Derived.Test.YtlokjiniigfaiaaSpRead
import Derived.Test.YtlokjiniigfaiaaWk
set_option linter.unusedVariables false
set_option linter.unusedSimpArgs false
namespace Go.Proofs.Ytlokjiniigfaiaa
open Go.ChangeShapes Go.WideShapes Go.ChangeAt Go.RowKit

theorem step_ab (a : Ab) (w : World) : Calls Try.prog 44 #[Value.agg #[Value.int .i64 a.lo, Value.int .i64 a.hi, Value.int .i64 a.m, Value.int .i64 a.r, Value.int .i64 a.k]] w fun e w' => e = .returned (.int .i64 (stepS a)) ∧ Below w.heap.size w w' := step_is a.lo a.hi a.m a.r a.k w

theorem gcd_le {x y B : Int} (hx : 0 ≤ x ∧ x ≤ B) (hy : 0 ≤ y ∧ y ≤ B) : 0 ≤ (Int.gcd x y : Int) ∧ (Int.gcd x y : Int) ≤ B := by
  refine ⟨by omega, ?_⟩
  by_cases h : x = 0
  · subst h; rw [Int.gcd_zero_left]; omega
  · have := Int.gcd_le_natAbs_left (b := y) h
    omega
theorem ints_bk1 {W : World} {n : Nat} {x : Int} {t : TypeId} (h : Bk W n #[Value.int .i64 x] t) : IntsV W [x] (some ⟨n, 0, none⟩) 1 :=
  ⟨by simp, by unfold maxLen; omega, fun h => (by cases h), fun _ => ⟨n, 0, rfl, fun i hi => by
    match i, hi with
    | 0, _ => exact h.cell 0⟩⟩
theorem ints_bk2 {W : World} {n : Nat} {x y : Int} {t : TypeId} (h : Bk W n #[Value.int .i64 x, Value.int .i64 y] t) : IntsV W [x, y] (some ⟨n, 0, none⟩) 2 :=
  ⟨by simp, by unfold maxLen; omega, fun h => (by cases h), fun _ => ⟨n, 0, rfl, fun i hi => by
    match i, hi with
    | 0, _ => exact h.cell 0
    | 1, _ => exact h.cell 1⟩⟩
theorem gcd1 {x y : Int} (hx : 0 ≤ x ∧ x ≤ 9223372036854775807) (hy : 0 ≤ y ∧ y ≤ 9223372036854775807) {W : World} {n : Nat} {t : TypeId} (h : Bk W n #[Value.int .i64 y] t) :
    Calls Try.prog 49 #[.int .i64 x, .slice (some ⟨n, 0, none⟩) 1 1] W fun e w' => e = .returned (.int .i64 (gcdS x [y])) ∧ Below W.heap.size W w' :=
  gcd_is x [y] (by omega) (by simp; omega) _ 1 W (ints_bk1 h) (gcd_le hx hy).2
theorem gcd2 {x y z : Int} (hx : 0 ≤ x ∧ x ≤ 9223372036854775807) (hy : 0 ≤ y ∧ y ≤ 9223372036854775807) (hz : 0 ≤ z ∧ z ≤ 9223372036854775807) {W : World} {n : Nat} {t : TypeId} (h : Bk W n #[Value.int .i64 y, Value.int .i64 z] t) :
    Calls Try.prog 49 #[.int .i64 x, .slice (some ⟨n, 0, none⟩) 2 2] W fun e w' => e = .returned (.int .i64 (gcdS x [y, z])) ∧ Below W.heap.size W w' :=
  gcd_is x [y, z] (by omega) (by simp; omega) _ 2 W (ints_bk2 h) (gcd_le (gcd_le hx hy) hz).2
theorem abs_b (a : Int) (h : -9223372036854775807 ≤ a ∧ a ≤ 9223372036854775807) (w : World) :
    Calls Try.prog 50 #[.int .i64 a] w fun e w' => e = .returned (.int .i64 (absS a)) ∧ Below w.heap.size w w' :=
  (abs_is a h w).mono fun e w2 ⟨h1, h2⟩ => ⟨h1, h2 ▸ Below.refl _ _⟩
theorem value_b (a : Int) (w : World) : Calls Try.prog 101 #[.int .i64 a] w fun e w' => e = .returned (.bool (decide (-2147483648 ≤ a ∧ a ≤ 2147483647))) ∧ Below w.heap.size w w' :=
  (value_is a w).mono fun e w2 ⟨h1, h2⟩ => ⟨h1, h2 ▸ Below.refl _ _⟩
theorem bounded_ab (a b : Ab) (k lo hi m : Int) (b1 : -4611686018427387904 ≤ lo) (b2 : lo ≤ hi) (b3 : hi ≤ 4611686018427387904) (hm : 0 < m ∨ lo = hi) (hm2 : 0 ≤ m ∧ m ≤ 9223372036854775807) (w : World) :
    Calls Try.prog 100 #[.agg #[Value.int .i64 a.lo, Value.int .i64 a.hi, Value.int .i64 a.m, Value.int .i64 a.r, Value.int .i64 a.k, Value.int .i64 b.lo, Value.int .i64 b.hi, Value.int .i64 b.m, Value.int .i64 b.r, Value.int .i64 b.k, .int .i64 k], .int .i64 lo, .int .i64 hi, .int .i64 m] w fun e w' => e = .returned (abVal (boundedS lo hi m k)) ∧ Below w.heap.size w w' := by
  by_cases h : -2147483648 ≤ lo ∧ lo ≤ 2147483647 ∧ -2147483648 ≤ hi ∧ hi ≤ 2147483647
  · rw [show boundedS lo hi m k = byS lo hi m k from if_pos h]
    exact bounded_in _ _ _ _ _ _ _ _ _ _ _ _ _ _ (by omega) b2 (by omega) hm hm2.2 w
  · rw [show boundedS lo hi m k = likeS lo (Int.gcd 4294967296 m) (-2147483648) 2147483647 k from if_neg h]
    exact bounded_out _ _ _ _ _ _ _ _ _ _ _ _ _ _ b1 (by omega) (by omega) h w

def addS (a b : Ab) (k : Int) : Ab := boundedS (a.lo + b.lo) (a.hi + b.hi) (gcdS (stepS a) [stepS b]) k
def subS (a b : Ab) (k : Int) : Ab := boundedS (a.lo - b.hi) (a.hi - b.lo) (gcdS (stepS a) [stepS b]) k
def mulS (a b : Ab) (k : Int) : Ab := boundedS (min (a.lo * b.lo) (min (a.lo * b.hi) (min (a.hi * b.lo) (a.hi * b.hi)))) (max (a.lo * b.lo) (max (a.lo * b.hi) (max (a.hi * b.lo) (a.hi * b.hi))))
  (gcdS (absS a.lo * stepS b) [absS b.lo * stepS a, stepS a * stepS b]) k
def lesserS (a b : Ab) (k : Int) : Ab := byS (min a.lo b.lo) (min a.hi b.hi) (joinG (stepS a) (stepS b) (a.lo - b.lo)) k
def greaterS (a b : Ab) (k : Int) : Ab := byS (max a.lo b.lo) (max a.hi b.hi) (joinG (stepS a) (stepS b) (a.lo - b.lo)) k
def divS (a b : Ab) (k : Int) : Ab :=
  if stepS b = 0 ∧ b.lo ≠ 0 then
    (if -2147483648 ≤ min (a.lo.tdiv b.lo) (a.hi.tdiv b.lo) ∧ max (a.lo.tdiv b.lo) (a.hi.tdiv b.lo) ≤ 2147483647 then byS (min (a.lo.tdiv b.lo) (a.hi.tdiv b.lo)) (max (a.lo.tdiv b.lo) (a.hi.tdiv b.lo)) 1 k else byS (-2147483648) 2147483647 1 k)
  else if a.lo < 0 ∨ b.lo < 0 then
    (if max (absS a.lo) (absS a.hi) ≤ 2147483647 then byS (-(max (absS a.lo) (absS a.hi))) (max (absS a.lo) (absS a.hi)) 1 k else byS (-2147483648) 2147483647 1 k)
  else byS 0 a.hi 1 k
def remS (a b : Ab) (k : Int) : Ab :=
  if stepS b ≠ 0 then byS (min a.lo 0) (max a.hi 0) 1 k
  else if absS b.lo = 0 ∨ 0 ≤ a.lo ∧ a.hi < absS b.lo then ⟨a.lo, a.hi, a.m, a.r, k⟩
  else likeS a.lo (gcdS (stepS a) [absS b.lo]) (max (min a.lo 0) (1 - absS b.lo)) (min (max a.hi 0) (absS b.lo - 1)) k

theorem Good.step_hi {a : Ab} (h : Good a) : stepS a ≤ 4294967295 := by
  have := h.h1; have := h.h2; have := h.h3
  unfold stepS
  split
  · omega
  · have := (h.h8 ‹_›).1; omega

structure padd_is_r0_1 (a b : Ab) (k : Int) (w : World) (m1 : Nat) (D : Nat → Bool) (s : Nat → Value) (W : World) : Prop where
  zb : Mk0 w m1 W
  zq : Bks W []
  zt : Vals D s []
  v0 : D 0 = true → s 1 = (Value.pointer (some ⟨pblk (s 1), 0, none⟩))
  v1 : D 1 = true → s 2 = (Value.pointer (some ⟨pblk (s 2), 0, none⟩))
  k0_0 : D 0 = true → Bk W (pblk (s 1)) #[Value.int .i64 a.lo, Value.int .i64 a.hi, Value.int .i64 a.m, Value.int .i64 a.r, Value.int .i64 a.k, Value.int .i64 b.lo, Value.int .i64 b.hi, Value.int .i64 b.m, Value.int .i64 b.r, Value.int .i64 b.k, Value.int .i64 k] 72
  g0 : D 0 = true → m1 ≤ (pblk (s 1))
  k1_0 : D 1 = true → Bk W (pblk (s 2)) #[Value.int .i64 0, Value.int .i64 0, Value.int .i64 0, Value.int .i64 0, Value.int .i64 0] 27
  g1 : D 1 = true → m1 ≤ (pblk (s 2))
  e0_1 : D 0 = true → D 1 = true → pblk (s 1) ≠ pblk (s 2)

structure padd_is_r1_2 (a b : Ab) (k : Int) (n1_0 n1_1 : Nat) (w : World) (m2 : Nat) (D : Nat → Bool) (s : Nat → Value) (W : World) : Prop where
  zb : Mk0 w m2 W
  zq : Bks W [(n1_0, #[Value.int .i64 a.lo, Value.int .i64 a.hi, Value.int .i64 a.m, Value.int .i64 a.r, Value.int .i64 a.k, Value.int .i64 b.lo, Value.int .i64 b.hi, Value.int .i64 b.m, Value.int .i64 b.r, Value.int .i64 b.k, Value.int .i64 k], 72)]
  zt : Vals D s [(0, 3, Value.agg #[Value.int .i64 a.lo, Value.int .i64 a.hi, Value.int .i64 a.m, Value.int .i64 a.r, Value.int .i64 a.k, Value.int .i64 b.lo, Value.int .i64 b.hi, Value.int .i64 b.m, Value.int .i64 b.r, Value.int .i64 b.k, Value.int .i64 k]), (1, 4, Value.pointer (some ⟨n1_0, 0, none⟩)), (2, 5, Value.pointer (some ⟨n1_0, 0, none⟩)), (3, 6, Value.int .i64 a.lo), (4, 7, Value.pointer (some ⟨n1_0, 5, none⟩)), (5, 8, Value.pointer (some ⟨n1_0, 5, none⟩)), (6, 9, Value.int .i64 b.lo), (7, 10, Value.int .i64 (a.lo + b.lo)), (8, 11, Value.pointer (some ⟨n1_0, 0, none⟩)), (9, 12, Value.pointer (some ⟨n1_0, 1, none⟩)), (10, 13, Value.int .i64 a.hi), (11, 14, Value.pointer (some ⟨n1_0, 5, none⟩)), (12, 15, Value.pointer (some ⟨n1_0, 6, none⟩)), (13, 16, Value.int .i64 b.hi), (14, 17, Value.int .i64 (a.hi + b.hi)), (15, 18, Value.pointer (some ⟨n1_0, 0, none⟩)), (16, 19, Value.agg #[Value.int .i64 a.lo, Value.int .i64 a.hi, Value.int .i64 a.m, Value.int .i64 a.r, Value.int .i64 a.k]), (17, 20, Value.int .i64 (stepS a)), (18, 21, Value.pointer (some ⟨n1_0, 5, none⟩)), (19, 22, Value.agg #[Value.int .i64 b.lo, Value.int .i64 b.hi, Value.int .i64 b.m, Value.int .i64 b.r, Value.int .i64 b.k]), (20, 23, Value.int .i64 (stepS b)), (22, 25, Value.int .i64 (gcdS (stepS a) [stepS b])), (23, 26, Value.agg #[Value.int .i64 (addS a b k).lo, Value.int .i64 (addS a b k).hi, Value.int .i64 (addS a b k).m, Value.int .i64 (addS a b k).r, Value.int .i64 (addS a b k).k])]
  v21 : D 21 = true → s 24 = (Value.slice (some ⟨pblk (s 24), 0, none⟩) 1 1)
  k21_0 : D 21 = true → Bk W (pblk (s 24)) #[Value.int .i64 (stepS b)] 3
  g21 : D 21 = true → m2 ≤ (pblk (s 24))
  kL0_0 : D 24 = false → Bk W n1_1 #[Value.int .i64 0, Value.int .i64 0, Value.int .i64 0, Value.int .i64 0, Value.int .i64 0] 27
  kL0_1 : D 24 = true → Bk W n1_1 #[Value.int .i64 (addS a b k).lo, Value.int .i64 (addS a b k).hi, Value.int .i64 (addS a b k).m, Value.int .i64 (addS a b k).r, Value.int .i64 (addS a b k).k] 27

set_option maxRecDepth 100000 in
set_option maxHeartbeats 4000000 in
theorem padd_is {a b : Ab} (k : Int) (w : World) (ha : Good a) (hb : Good b) :
    Calls Try.prog 74 #[Value.agg #[Value.int .i64 a.lo, Value.int .i64 a.hi, Value.int .i64 a.m, Value.int .i64 a.r, Value.int .i64 a.k, Value.int .i64 b.lo, Value.int .i64 b.hi, Value.int .i64 b.m, Value.int .i64 b.r, Value.int .i64 b.k, Value.int .i64 k]] w fun e w' => e = .returned (Value.agg #[Value.int .i64 (addS a b k).lo, Value.int .i64 (addS a b k).hi, Value.int .i64 (addS a b k).m, Value.int .i64 (addS a b k).r, Value.int .i64 (addS a b k).k]) ∧ Below w.heap.size w w' := by
  have a1 := ha.h1; have a2 := ha.h2; have a3 := ha.h3
  have b1 := hb.h1; have b2 := hb.h2; have b3 := hb.h3
  have sa := ha.step0; have sb := hb.step0
  have gg := gcd_le (x := stepS a) (y := stepS b) (B := 4294967296) sa sb
  have gz : (Int.gcd (stepS a) (stepS b) : Int) = 0 → stepS a = 0 ∧ stepS b = 0 := fun h => Int.gcd_eq_zero_iff.1 (by omega)
  have za := ha.step_zero; have zb := hb.step_zero
  have GB := Lib.hid (bounded_ab a b k (a.lo + b.lo) (a.hi + b.hi) (gcdS (stepS a) [stepS b]) (by omega) (by omega) (by omega) (by show 0 < (Int.gcd (stepS a) (stepS b) : Int) ∨ _; by_cases h : (Int.gcd (stepS a) (stepS b) : Int) = 0; (have := gz h; right; omega); (left; omega)) ⟨gg.1, Int.le_trans gg.2 (by omega)⟩)
  clear gg gz za zb
  refine calls_go Try.func74 rfl 27 rfl rfl (fun aF hz df hu => ?_)
  have u0 : Sl aF 0 (Value.agg #[Value.int .i64 a.lo, Value.int .i64 a.hi, Value.int .i64 a.m, Value.int .i64 a.r, Value.int .i64 a.k, Value.int .i64 b.lo, Value.int .i64 b.hi, Value.int .i64 b.m, Value.int .i64 b.r, Value.int .i64 b.k, Value.int .i64 k]) := hu 0 _ rfl
  clear hu
  have hM : Mk0 w w.heap.size w := ⟨Below.refl _ _, Nat.le_refl _⟩
  have hB : Bks w [] := trivial
  refine wp_seq ?_
  obtain ⟨m1, hM, hU, hwm⟩ := start_region hM.b hB
  refine region_run (F := padd_is_r0_1 a b k w m1) [1, 2] [0, 1] hz df (by kernel_rfl) (by kernel_rfl) (fun s hs0 => ⟨hM, hB, Vals.none s _, fun h => no_of' h, fun h => no_of' h, fun h => no_of' h, fun h => no_of' h, fun h => no_of' h, fun h => no_of' h, fun h => no_of' h⟩) ?_ ?_
  refine FSteps.op3 hz rfl (dv := []) (by kernel_rfl) (by kernel_rfl) (by kernel_rfl) (fun D s W bA kK hD hW hF hA hK => ?_) ?_
  · have x0 := hA.o 0 _ rfl u0
    have hF := Lib.hid hF
    clear hA
    go_simp
    exact hK.out _ _ ⟨hF.out.zb.al _, Bks.al _ hF.out.zq, hF.out.zt.skip rfl, fun _ => rfl, hF.out.v1, fun _ => Bk.new _ _ _, fun _ => hF.out.zb.g, fun h1 => (hF.out.k1_0 h1).al _, hF.out.g1, fun _ h => Nat.ne_of_gt ((hF.out.k1_0 h).lt)⟩
  refine FSteps.op3 hz rfl (dv := []) (by kernel_rfl) (by kernel_rfl) (by kernel_rfl) (fun D s W bA kK hD hW hF hA hK => ?_) ?_
  · have hF := Lib.hid hF
    clear hA
    go_simp
    exact hK.out _ _ ⟨hF.out.zb.al _, Bks.al _ hF.out.zq, hF.out.zt.skip rfl, hF.out.v0, fun _ => rfl, fun h1 => (hF.out.k0_0 h1).al _, hF.out.g0, fun _ => Bk.new _ _ _, fun _ => hF.out.zb.g, fun h _ => Nat.ne_of_lt ((hF.out.k0_0 h).lt)⟩
  exact FSteps.nil
  intro D s W aF1 hD hF hz' df' hA
  obtain ⟨d0, d1, -⟩ := hD
  clear u0
  have u1 : Sl aF1 1 _ := hA.i 1 _ rfl rfl (hF.v0 d0)
  have u2 : Sl aF1 2 _ := hA.i 2 _ rfl rfl (hF.v1 d1)
  have hkX0 := hF.k0_0 d0
  have hgX0 := hF.g0 d0
  have hkX1 := hF.k1_0 d1
  have hgX1 := hF.g1 d1
  have heX0_1 := hF.e0_1 d0 d1
  have hM := hF.zb
  have hB := hF.zq
  generalize pblk (s 1) = n1_0 at hkX0 hgX0 hkX1 hgX1 heX0_1 u1 u2
  generalize pblk (s 2) = n1_1 at hkX0 hgX0 hkX1 hgX1 heX0_1 u1 u2
  have hB : Bks W [(n1_0, #[Value.int .i64 a.lo, Value.int .i64 a.hi, Value.int .i64 a.m, Value.int .i64 a.r, Value.int .i64 a.k, Value.int .i64 b.lo, Value.int .i64 b.hi, Value.int .i64 b.m, Value.int .i64 b.r, Value.int .i64 b.k, Value.int .i64 k], 72), (n1_1, #[Value.int .i64 0, Value.int .i64 0, Value.int .i64 0, Value.int .i64 0, Value.int .i64 0], 27)] := ⟨hkX0, hkX1, trivial⟩
  have hw_n1_1 : w.heap.size ≤ n1_1 := Nat.le_trans hwm hgX1
  clear hF hA hz df d0 d1 hU
  have hz := hz'; have df := df'; clear hz' df'
  clear aF
  show Code.wp _ _ _ _ _
  refine wp_seq ?_
  obtain ⟨m2, hM, hU, hwm⟩ := start_region hM.b hB
  obtain ⟨hk_0, hk_1, -⟩ := hB
  obtain ⟨hl_0, hl_1, -⟩ := hU
  have hB : Bks _ [(n1_0, #[Value.int .i64 a.lo, Value.int .i64 a.hi, Value.int .i64 a.m, Value.int .i64 a.r, Value.int .i64 a.k, Value.int .i64 b.lo, Value.int .i64 b.hi, Value.int .i64 b.m, Value.int .i64 b.r, Value.int .i64 b.k, Value.int .i64 k], 72)] := ⟨hk_0, trivial⟩
  have hU : Under m2 [(n1_0, #[Value.int .i64 a.lo, Value.int .i64 a.hi, Value.int .i64 a.m, Value.int .i64 a.r, Value.int .i64 a.k, Value.int .i64 b.lo, Value.int .i64 b.hi, Value.int .i64 b.m, Value.int .i64 b.r, Value.int .i64 b.k, Value.int .i64 k], 72)] := ⟨hl_0, trivial⟩
  refine region_go (F := padd_is_r1_2 a b k n1_0 n1_1 w m2) [3, 4, 5, 6, 7, 8, 9, 10, 11, 12, 13, 14, 15, 16, 17, 18, 19, 20, 21, 22, 23, 24, 25, 26] [0, 1, 2, 3, 4, 5, 6, 7, 8, 9, 10, 11, 12, 13, 14, 15, 16, 17, 18, 19, 20, 21, 22, 23, 24] hz df (by kernel_rfl) (by kernel_rfl) (by kernel_rfl) (fun s hs0 => ⟨hM.drew, Bks.drew hB, Vals.none s _, fun h => no_of' h, fun h => no_of' h, fun h => no_of' h, fun _ => hk_1.drew, fun h => no_of' h⟩) ?_ ?_
  refine FSteps.op3 hz rfl (dv := []) (by kernel_rfl) (by kernel_rfl) (by kernel_rfl) (fun D s W bA kK hD hW hF hA hK => ?_) ?_
  · have x1 := hA.o 1 _ rfl u1
    obtain ⟨⟨c0, z0⟩, -⟩ := hF.zq.rules
    have hF := Lib.hid hF
    clear hA
    go_simp
    exact hK.out _ _ ⟨hF.out.zb, hF.out.zq, hF.out.zt.step rfl rfl, hF.out.v21, hF.out.k21_0, hF.out.g21, hF.out.kL0_0, hF.out.kL0_1⟩
  refine FSteps.op3 hz rfl (dv := []) (by kernel_rfl) (by kernel_rfl) (by kernel_rfl) (fun D s W bA kK hD hW hF hA hK => ?_) ?_
  · have x1 := hA.o 1 _ rfl u1
    have hF := Lib.hid hF
    clear hA
    go_simp
    exact hK.out _ _ ⟨hF.out.zb, hF.out.zq, hF.out.zt.step rfl rfl, hF.out.v21, hF.out.k21_0, hF.out.g21, hF.out.kL0_0, hF.out.kL0_1⟩
  refine FSteps.op3 hz rfl (dv := [1]) (by kernel_rfl) (by kernel_rfl) (by kernel_rfl) (fun D s W bA kK hD hW hF hA hK => ?_) ?_
  · have x4 := hA.i 4 _ rfl rfl (hF.zt.get (j := 1) rfl hW.1)
    have hF := Lib.hid hF
    clear hA
    go_simp
    exact hK.out _ _ ⟨hF.out.zb, hF.out.zq, hF.out.zt.step rfl rfl, hF.out.v21, hF.out.k21_0, hF.out.g21, hF.out.kL0_0, hF.out.kL0_1⟩
  refine FSteps.op3 hz rfl (dv := [2]) (by kernel_rfl) (by kernel_rfl) (by kernel_rfl) (fun D s W bA kK hD hW hF hA hK => ?_) ?_
  · have x5 := hA.i 5 _ rfl rfl (hF.zt.get (j := 2) rfl hW.1)
    obtain ⟨⟨c0, z0⟩, -⟩ := hF.zq.rules
    have hF := Lib.hid hF
    clear hA
    go_simp
    exact hK.out _ _ ⟨hF.out.zb, hF.out.zq, hF.out.zt.step rfl rfl, hF.out.v21, hF.out.k21_0, hF.out.g21, hF.out.kL0_0, hF.out.kL0_1⟩
  refine FSteps.op3 hz rfl (dv := []) (by kernel_rfl) (by kernel_rfl) (by kernel_rfl) (fun D s W bA kK hD hW hF hA hK => ?_) ?_
  · have x1 := hA.o 1 _ rfl u1
    have hF := Lib.hid hF
    clear hA
    go_simp
    exact hK.out _ _ ⟨hF.out.zb, hF.out.zq, hF.out.zt.step rfl rfl, hF.out.v21, hF.out.k21_0, hF.out.g21, hF.out.kL0_0, hF.out.kL0_1⟩
  refine FSteps.op3 hz rfl (dv := [4]) (by kernel_rfl) (by kernel_rfl) (by kernel_rfl) (fun D s W bA kK hD hW hF hA hK => ?_) ?_
  · have x7 := hA.i 7 _ rfl rfl (hF.zt.get (j := 4) rfl hW.1)
    have hF := Lib.hid hF
    clear hA
    go_simp
    exact hK.out _ _ ⟨hF.out.zb, hF.out.zq, hF.out.zt.step rfl rfl, hF.out.v21, hF.out.k21_0, hF.out.g21, hF.out.kL0_0, hF.out.kL0_1⟩
  refine FSteps.op3 hz rfl (dv := [5]) (by kernel_rfl) (by kernel_rfl) (by kernel_rfl) (fun D s W bA kK hD hW hF hA hK => ?_) ?_
  · have x8 := hA.i 8 _ rfl rfl (hF.zt.get (j := 5) rfl hW.1)
    obtain ⟨⟨c0, z0⟩, -⟩ := hF.zq.rules
    have hF := Lib.hid hF
    clear hA
    go_simp
    exact hK.out _ _ ⟨hF.out.zb, hF.out.zq, hF.out.zt.step rfl rfl, hF.out.v21, hF.out.k21_0, hF.out.g21, hF.out.kL0_0, hF.out.kL0_1⟩
  refine FSteps.op3 hz rfl (dv := [3, 6]) (by kernel_rfl) (by kernel_rfl) (by kernel_rfl) (fun D s W bA kK hD hW hF hA hK => ?_) ?_
  · have x6 := hA.i 6 _ rfl rfl (hF.zt.get (j := 3) rfl hW.1)
    have x9 := hA.i 9 _ rfl rfl (hF.zt.get (j := 6) rfl hW.2.1)
    have hF := Lib.hid hF
    clear hA
    have hw7 : IntKind.i64.wrap (a.lo + b.lo) = a.lo + b.lo := IntWalk.i64_in _ (by omega)
    go_simp
    exact hK.out _ _ ⟨hF.out.zb, hF.out.zq, hF.out.zt.step rfl rfl, hF.out.v21, hF.out.k21_0, hF.out.g21, hF.out.kL0_0, hF.out.kL0_1⟩
  refine FSteps.op3 hz rfl (dv := []) (by kernel_rfl) (by kernel_rfl) (by kernel_rfl) (fun D s W bA kK hD hW hF hA hK => ?_) ?_
  · have x1 := hA.o 1 _ rfl u1
    have hF := Lib.hid hF
    clear hA
    go_simp
    exact hK.out _ _ ⟨hF.out.zb, hF.out.zq, hF.out.zt.step rfl rfl, hF.out.v21, hF.out.k21_0, hF.out.g21, hF.out.kL0_0, hF.out.kL0_1⟩
  refine FSteps.op3 hz rfl (dv := [8]) (by kernel_rfl) (by kernel_rfl) (by kernel_rfl) (fun D s W bA kK hD hW hF hA hK => ?_) ?_
  · have x11 := hA.i 11 _ rfl rfl (hF.zt.get (j := 8) rfl hW.1)
    have hF := Lib.hid hF
    clear hA
    go_simp
    exact hK.out _ _ ⟨hF.out.zb, hF.out.zq, hF.out.zt.step rfl rfl, hF.out.v21, hF.out.k21_0, hF.out.g21, hF.out.kL0_0, hF.out.kL0_1⟩
  refine FSteps.op3 hz rfl (dv := [9]) (by kernel_rfl) (by kernel_rfl) (by kernel_rfl) (fun D s W bA kK hD hW hF hA hK => ?_) ?_
  · have x12 := hA.i 12 _ rfl rfl (hF.zt.get (j := 9) rfl hW.1)
    obtain ⟨⟨c0, z0⟩, -⟩ := hF.zq.rules
    have hF := Lib.hid hF
    clear hA
    go_simp
    exact hK.out _ _ ⟨hF.out.zb, hF.out.zq, hF.out.zt.step rfl rfl, hF.out.v21, hF.out.k21_0, hF.out.g21, hF.out.kL0_0, hF.out.kL0_1⟩
  refine FSteps.op3 hz rfl (dv := []) (by kernel_rfl) (by kernel_rfl) (by kernel_rfl) (fun D s W bA kK hD hW hF hA hK => ?_) ?_
  · have x1 := hA.o 1 _ rfl u1
    have hF := Lib.hid hF
    clear hA
    go_simp
    exact hK.out _ _ ⟨hF.out.zb, hF.out.zq, hF.out.zt.step rfl rfl, hF.out.v21, hF.out.k21_0, hF.out.g21, hF.out.kL0_0, hF.out.kL0_1⟩
  refine FSteps.op3 hz rfl (dv := [11]) (by kernel_rfl) (by kernel_rfl) (by kernel_rfl) (fun D s W bA kK hD hW hF hA hK => ?_) ?_
  · have x14 := hA.i 14 _ rfl rfl (hF.zt.get (j := 11) rfl hW.1)
    have hF := Lib.hid hF
    clear hA
    go_simp
    exact hK.out _ _ ⟨hF.out.zb, hF.out.zq, hF.out.zt.step rfl rfl, hF.out.v21, hF.out.k21_0, hF.out.g21, hF.out.kL0_0, hF.out.kL0_1⟩
  refine FSteps.op3 hz rfl (dv := [12]) (by kernel_rfl) (by kernel_rfl) (by kernel_rfl) (fun D s W bA kK hD hW hF hA hK => ?_) ?_
  · have x15 := hA.i 15 _ rfl rfl (hF.zt.get (j := 12) rfl hW.1)
    obtain ⟨⟨c0, z0⟩, -⟩ := hF.zq.rules
    have hF := Lib.hid hF
    clear hA
    go_simp
    exact hK.out _ _ ⟨hF.out.zb, hF.out.zq, hF.out.zt.step rfl rfl, hF.out.v21, hF.out.k21_0, hF.out.g21, hF.out.kL0_0, hF.out.kL0_1⟩
  refine FSteps.op3 hz rfl (dv := [10, 13]) (by kernel_rfl) (by kernel_rfl) (by kernel_rfl) (fun D s W bA kK hD hW hF hA hK => ?_) ?_
  · have x13 := hA.i 13 _ rfl rfl (hF.zt.get (j := 10) rfl hW.1)
    have x16 := hA.i 16 _ rfl rfl (hF.zt.get (j := 13) rfl hW.2.1)
    have hF := Lib.hid hF
    clear hA
    have hw14 : IntKind.i64.wrap (a.hi + b.hi) = a.hi + b.hi := IntWalk.i64_in _ (by omega)
    go_simp
    exact hK.out _ _ ⟨hF.out.zb, hF.out.zq, hF.out.zt.step rfl rfl, hF.out.v21, hF.out.k21_0, hF.out.g21, hF.out.kL0_0, hF.out.kL0_1⟩
  refine FSteps.op3 hz rfl (dv := []) (by kernel_rfl) (by kernel_rfl) (by kernel_rfl) (fun D s W bA kK hD hW hF hA hK => ?_) ?_
  · have x1 := hA.o 1 _ rfl u1
    have hF := Lib.hid hF
    clear hA
    go_simp
    exact hK.out _ _ ⟨hF.out.zb, hF.out.zq, hF.out.zt.step rfl rfl, hF.out.v21, hF.out.k21_0, hF.out.g21, hF.out.kL0_0, hF.out.kL0_1⟩
  refine FSteps.op3 hz rfl (dv := [15]) (by kernel_rfl) (by kernel_rfl) (by kernel_rfl) (fun D s W bA kK hD hW hF hA hK => ?_) ?_
  · have x18 := hA.i 18 _ rfl rfl (hF.zt.get (j := 15) rfl hW.1)
    obtain ⟨⟨c0, z0⟩, -⟩ := hF.zq.rules
    have hF := Lib.hid hF
    clear hA
    go_simp
    exact hK.out _ _ ⟨hF.out.zb, hF.out.zq, hF.out.zt.step rfl rfl, hF.out.v21, hF.out.k21_0, hF.out.g21, hF.out.kL0_0, hF.out.kL0_1⟩
  refine FSteps.op3 hz rfl (dv := [16]) (by kernel_rfl) (by kernel_rfl) (by kernel_rfl) (fun D s W bA kK hD hW hF hA hK => ?_) ?_
  · have x19 := hA.i 19 _ rfl rfl (hF.zt.get (j := 16) rfl hW.1)
    have hF := Lib.hid hF
    clear hA
    go_simp
    (go_at_call 44; ((with_reducible_and_instances refine (step_ab a _).mono ?_)); rintro e W1 ⟨rfl, hb⟩; (try unfold abVal))
    (try go_wp2_with fail)
    exact hK.out _ _ ⟨hF.out.zb.on hb, Bks.on hb hF.out.zq, hF.out.zt.step rfl rfl, hF.out.v21, fun h1 => (hF.out.k21_0 h1).on hb, hF.out.g21, fun h2 => (hF.out.kL0_0 h2).on hb, fun h1 => (hF.out.kL0_1 h1).on hb⟩
  refine FSteps.op3 hz rfl (dv := []) (by kernel_rfl) (by kernel_rfl) (by kernel_rfl) (fun D s W bA kK hD hW hF hA hK => ?_) ?_
  · have x1 := hA.o 1 _ rfl u1
    have hF := Lib.hid hF
    clear hA
    go_simp
    exact hK.out _ _ ⟨hF.out.zb, hF.out.zq, hF.out.zt.step rfl rfl, hF.out.v21, hF.out.k21_0, hF.out.g21, hF.out.kL0_0, hF.out.kL0_1⟩
  refine FSteps.op3 hz rfl (dv := [18]) (by kernel_rfl) (by kernel_rfl) (by kernel_rfl) (fun D s W bA kK hD hW hF hA hK => ?_) ?_
  · have x21 := hA.i 21 _ rfl rfl (hF.zt.get (j := 18) rfl hW.1)
    obtain ⟨⟨c0, z0⟩, -⟩ := hF.zq.rules
    have hF := Lib.hid hF
    clear hA
    go_simp
    exact hK.out _ _ ⟨hF.out.zb, hF.out.zq, hF.out.zt.step rfl rfl, hF.out.v21, hF.out.k21_0, hF.out.g21, hF.out.kL0_0, hF.out.kL0_1⟩
  refine FSteps.op3 hz rfl (dv := [19, 17]) (by kernel_rfl) (by kernel_rfl) (by kernel_rfl) (fun D s W bA kK hD hW hF hA hK => ?_) ?_
  · have x22 := hA.i 22 _ rfl rfl (hF.zt.get (j := 19) rfl hW.1)
    have hF := Lib.hid hF
    clear hA
    go_simp
    (go_at_call 44; ((with_reducible_and_instances refine (step_ab b _).mono ?_)); rintro e W1 ⟨rfl, hb⟩; (try unfold abVal))
    (try go_wp2_with fail)
    exact hK.out _ _ ⟨hF.out.zb.on hb, Bks.on hb hF.out.zq, hF.out.zt.step rfl rfl, hF.out.v21, fun h1 => (hF.out.k21_0 h1).on hb, hF.out.g21, fun h2 => (hF.out.kL0_0 h2).on hb, fun h1 => (hF.out.kL0_1 h1).on hb⟩
  refine FSteps.op3 hz rfl (dv := [20]) (by kernel_rfl) (by kernel_rfl) (by kernel_rfl) (fun D s W bA kK hD hW hF hA hK => ?_) ?_
  · have x23 := hA.i 23 _ rfl rfl (hF.zt.get (j := 20) rfl hW.1)
    have hF := Lib.hid hF
    clear hA
    go_simp
    exact hK.out _ _ ⟨hF.out.zb.al _, Bks.al _ hF.out.zq, hF.out.zt.skip rfl, fun _ => rfl, fun _ => Bk.new _ _ _, fun _ => hF.out.zb.g, fun h2 => (hF.out.kL0_0 h2).al _, fun h1 => (hF.out.kL0_1 h1).al _⟩
  refine FSteps.op3 hz rfl (dv := [17, 21, 20]) (by kernel_rfl) (by kernel_rfl) (by kernel_rfl) (fun D s W bA kK hD hW hF hA hK => ?_) ?_
  · have x20 := hA.i 20 _ rfl rfl (hF.zt.get (j := 17) rfl hW.1)
    have x24 := hA.i 24 _ rfl rfl (hF.v21 hW.2.1)
    have kk := hF.k21_0 hW.2.1
    have kc := kk.cell; have kf := kk.free
    have hF := Lib.hid hF
    clear hA
    go_simp
    (go_at_call 49; ((with_reducible_and_instances refine (gcd1 ⟨sa.1, by omega⟩ ⟨sb.1, by omega⟩ kk).mono ?_)); rintro e W1 ⟨rfl, hb⟩; (try unfold abVal))
    (try go_wp2_with fail)
    exact hK.out _ _ ⟨hF.out.zb.on hb, Bks.on hb hF.out.zq, hF.out.zt.step rfl rfl, hF.out.v21, fun h1 => (hF.out.k21_0 h1).on hb, hF.out.g21, fun h2 => (hF.out.kL0_0 h2).on hb, fun h1 => (hF.out.kL0_1 h1).on hb⟩
  refine FSteps.op3 hz rfl (dv := [0, 7, 14, 22, 22]) (by kernel_rfl) (by kernel_rfl) (by kernel_rfl) (fun D s W bA kK hD hW hF hA hK => ?_) ?_
  · have x3 := hA.i 3 _ rfl rfl (hF.zt.get (j := 0) rfl hW.1)
    have x10 := hA.i 10 _ rfl rfl (hF.zt.get (j := 7) rfl hW.2.1)
    have x17 := hA.i 17 _ rfl rfl (hF.zt.get (j := 14) rfl hW.2.2.1)
    have x25 := hA.i 25 _ rfl rfl (hF.zt.get (j := 22) rfl hW.2.2.2.1)
    have hF := Lib.hid hF
    clear hA
    go_simp
    (go_at_call 100; ((with_reducible_and_instances refine (GB.out _).mono ?_)); rintro e W1 ⟨rfl, hb⟩; (try unfold abVal))
    (try go_wp2_with fail)
    exact hK.out _ _ ⟨hF.out.zb.on hb, Bks.on hb hF.out.zq, hF.out.zt.step rfl rfl, hF.out.v21, fun h1 => (hF.out.k21_0 h1).on hb, hF.out.g21, fun h2 => (hF.out.kL0_0 h2).on hb, fun h1 => (hF.out.kL0_1 h1).on hb⟩
  refine FSteps.op3 hz rfl (dv := [23, 23, 0, 1, 2, 3, 4, 5, 6, 7, 8, 9, 10, 11, 12, 13, 14, 15, 16, 17, 18, 19, 20, 21, 22, 23]) (by kernel_rfl) (by kernel_rfl) (by kernel_rfl) (fun D s W bA kK hD hW hF hA hK => ?_) ?_
  · have x2 := hA.o 2 _ rfl u2
    have x26 := hA.i 26 _ rfl rfl (hF.zt.get (j := 23) rfl hW.1)
    have kk := hF.kL0_0 hD
    have kc := kk.cell; have kf := kk.free
    have hF := Lib.hid hF
    have kk := Lib.hid kk
    clear hA
    go_simp
    exact hK.out undef _ ⟨hF.out.zb.sAll (hw_n1_1) 0 [Value.int .i64 (addS a b k).lo, Value.int .i64 (addS a b k).hi, Value.int .i64 (addS a b k).m, Value.int .i64 (addS a b k).r, Value.int .i64 (addS a b k).k], Bks.oAll [Value.int .i64 (addS a b k).lo, Value.int .i64 (addS a b k).hi, Value.int .i64 (addS a b k).m, Value.int .i64 (addS a b k).r, Value.int .i64 (addS a b k).k] 0 (⟨(by omega), trivial⟩) hF.out.zq, hF.out.zt.skip rfl, hF.out.v21, fun h1 => Bk.oAll (Nat.ne_of_gt (Nat.lt_of_lt_of_le hl_1 (hF.out.g21 h1))) [Value.int .i64 (addS a b k).lo, Value.int .i64 (addS a b k).hi, Value.int .i64 (addS a b k).m, Value.int .i64 (addS a b k).r, Value.int .i64 (addS a b k).k] 0 (hF.out.k21_0 h1), hF.out.g21, fun h2 => no_of h2, fun _ => kk.out.full [Value.int .i64 (addS a b k).lo, Value.int .i64 (addS a b k).hi, Value.int .i64 (addS a b k).m, Value.int .i64 (addS a b k).r, Value.int .i64 (addS a b k).k] rfl⟩
  exact FSteps.nil
  intro D s W aF2 hD hF hz' df' hA
  obtain ⟨d0, d1, d2, d3, d4, d5, d6, d7, d8, d9, d10, d11, d12, d13, d14, d15, d16, d17, d18, d19, d20, d21, d22, d23, d24, -⟩ := hD
  clear u1
  replace u2 : Sl aF2 2 _ := hA.o 2 _ rfl u2
  have hkX21 := hF.k21_0 d21
  have hgX21 := hF.g21 d21
  have hkXL0 := hF.kL0_1 d24
  have hM := hF.zb
  have hB := hF.zq
  generalize pblk (s 24) = n2_21 at hkX21 hgX21 hkXL0
  have hB : Bks W [(n1_1, #[Value.int .i64 (addS a b k).lo, Value.int .i64 (addS a b k).hi, Value.int .i64 (addS a b k).m, Value.int .i64 (addS a b k).r, Value.int .i64 (addS a b k).k], 27)] := ⟨hkXL0, trivial⟩
  have hne_n1_1_n2_21 : n1_1 ≠ n2_21 := by omega
  clear hF hA hz df d0 d1 d2 d3 d4 d5 d6 d7 d8 d9 d10 d11 d12 d13 d14 d15 d16 d17 d18 d19 d20 d21 d22 d23 d24 
  have hz := hz'; have df := df'; clear hz' df'
  clear aF1
  show Code.wp _ _ _ _ _
  refine wp_ret ?_
  show bodyPost _ _ _ _ _ _
  have hB2 := hB.rules
  obtain ⟨⟨c0, z0⟩, -⟩ := hB2
  unfold Sl at u2
  refine end_go df (v := (Value.agg #[Value.int .i64 (addS a b k).lo, Value.int .i64 (addS a b k).hi, Value.int .i64 (addS a b k).m, Value.int .i64 (addS a b k).r, Value.int .i64 (addS a b k).k])) (by simp [results, Try.results74, go_sem, u2, c0]) ⟨rfl, hM.b⟩

structure psub_is_r0_1 (a b : Ab) (k : Int) (w : World) (m1 : Nat) (D : Nat → Bool) (s : Nat → Value) (W : World) : Prop where
  zb : Mk0 w m1 W
  zq : Bks W []
  zt : Vals D s []
  v0 : D 0 = true → s 1 = (Value.pointer (some ⟨pblk (s 1), 0, none⟩))
  v1 : D 1 = true → s 2 = (Value.pointer (some ⟨pblk (s 2), 0, none⟩))
  k0_0 : D 0 = true → Bk W (pblk (s 1)) #[Value.int .i64 a.lo, Value.int .i64 a.hi, Value.int .i64 a.m, Value.int .i64 a.r, Value.int .i64 a.k, Value.int .i64 b.lo, Value.int .i64 b.hi, Value.int .i64 b.m, Value.int .i64 b.r, Value.int .i64 b.k, Value.int .i64 k] 72
  g0 : D 0 = true → m1 ≤ (pblk (s 1))
  k1_0 : D 1 = true → Bk W (pblk (s 2)) #[Value.int .i64 0, Value.int .i64 0, Value.int .i64 0, Value.int .i64 0, Value.int .i64 0] 27
  g1 : D 1 = true → m1 ≤ (pblk (s 2))
  e0_1 : D 0 = true → D 1 = true → pblk (s 1) ≠ pblk (s 2)

structure psub_is_r1_2 (a b : Ab) (k : Int) (n1_0 n1_1 : Nat) (w : World) (m2 : Nat) (D : Nat → Bool) (s : Nat → Value) (W : World) : Prop where
  zb : Mk0 w m2 W
  zq : Bks W [(n1_0, #[Value.int .i64 a.lo, Value.int .i64 a.hi, Value.int .i64 a.m, Value.int .i64 a.r, Value.int .i64 a.k, Value.int .i64 b.lo, Value.int .i64 b.hi, Value.int .i64 b.m, Value.int .i64 b.r, Value.int .i64 b.k, Value.int .i64 k], 72)]
  zt : Vals D s [(0, 3, Value.agg #[Value.int .i64 a.lo, Value.int .i64 a.hi, Value.int .i64 a.m, Value.int .i64 a.r, Value.int .i64 a.k, Value.int .i64 b.lo, Value.int .i64 b.hi, Value.int .i64 b.m, Value.int .i64 b.r, Value.int .i64 b.k, Value.int .i64 k]), (1, 4, Value.pointer (some ⟨n1_0, 0, none⟩)), (2, 5, Value.pointer (some ⟨n1_0, 0, none⟩)), (3, 6, Value.int .i64 a.lo), (4, 7, Value.pointer (some ⟨n1_0, 5, none⟩)), (5, 8, Value.pointer (some ⟨n1_0, 6, none⟩)), (6, 9, Value.int .i64 b.hi), (7, 10, Value.int .i64 (a.lo - b.hi)), (8, 11, Value.pointer (some ⟨n1_0, 0, none⟩)), (9, 12, Value.pointer (some ⟨n1_0, 1, none⟩)), (10, 13, Value.int .i64 a.hi), (11, 14, Value.pointer (some ⟨n1_0, 5, none⟩)), (12, 15, Value.pointer (some ⟨n1_0, 5, none⟩)), (13, 16, Value.int .i64 b.lo), (14, 17, Value.int .i64 (a.hi - b.lo)), (15, 18, Value.pointer (some ⟨n1_0, 0, none⟩)), (16, 19, Value.agg #[Value.int .i64 a.lo, Value.int .i64 a.hi, Value.int .i64 a.m, Value.int .i64 a.r, Value.int .i64 a.k]), (17, 20, Value.int .i64 (stepS a)), (18, 21, Value.pointer (some ⟨n1_0, 5, none⟩)), (19, 22, Value.agg #[Value.int .i64 b.lo, Value.int .i64 b.hi, Value.int .i64 b.m, Value.int .i64 b.r, Value.int .i64 b.k]), (20, 23, Value.int .i64 (stepS b)), (22, 25, Value.int .i64 (gcdS (stepS a) [stepS b])), (23, 26, Value.agg #[Value.int .i64 (subS a b k).lo, Value.int .i64 (subS a b k).hi, Value.int .i64 (subS a b k).m, Value.int .i64 (subS a b k).r, Value.int .i64 (subS a b k).k])]
  v21 : D 21 = true → s 24 = (Value.slice (some ⟨pblk (s 24), 0, none⟩) 1 1)
  k21_0 : D 21 = true → Bk W (pblk (s 24)) #[Value.int .i64 (stepS b)] 3
  g21 : D 21 = true → m2 ≤ (pblk (s 24))
  kL0_0 : D 24 = false → Bk W n1_1 #[Value.int .i64 0, Value.int .i64 0, Value.int .i64 0, Value.int .i64 0, Value.int .i64 0] 27
  kL0_1 : D 24 = true → Bk W n1_1 #[Value.int .i64 (subS a b k).lo, Value.int .i64 (subS a b k).hi, Value.int .i64 (subS a b k).m, Value.int .i64 (subS a b k).r, Value.int .i64 (subS a b k).k] 27

set_option maxRecDepth 100000 in
set_option maxHeartbeats 4000000 in
theorem psub_is {a b : Ab} (k : Int) (w : World) (ha : Good a) (hb : Good b) :
    Calls Try.prog 75 #[Value.agg #[Value.int .i64 a.lo, Value.int .i64 a.hi, Value.int .i64 a.m, Value.int .i64 a.r, Value.int .i64 a.k, Value.int .i64 b.lo, Value.int .i64 b.hi, Value.int .i64 b.m, Value.int .i64 b.r, Value.int .i64 b.k, Value.int .i64 k]] w fun e w' => e = .returned (Value.agg #[Value.int .i64 (subS a b k).lo, Value.int .i64 (subS a b k).hi, Value.int .i64 (subS a b k).m, Value.int .i64 (subS a b k).r, Value.int .i64 (subS a b k).k]) ∧ Below w.heap.size w w' := by
  have a1 := ha.h1; have a2 := ha.h2; have a3 := ha.h3
  have b1 := hb.h1; have b2 := hb.h2; have b3 := hb.h3
  have sa := ha.step0; have sb := hb.step0
  have gg := gcd_le (x := stepS a) (y := stepS b) (B := 4294967296) sa sb
  have gz : (Int.gcd (stepS a) (stepS b) : Int) = 0 → stepS a = 0 ∧ stepS b = 0 := fun h => Int.gcd_eq_zero_iff.1 (by omega)
  have za := ha.step_zero; have zb := hb.step_zero
  have GB := Lib.hid (bounded_ab a b k (a.lo - b.hi) (a.hi - b.lo) (gcdS (stepS a) [stepS b]) (by omega) (by omega) (by omega) (by show 0 < (Int.gcd (stepS a) (stepS b) : Int) ∨ _; by_cases h : (Int.gcd (stepS a) (stepS b) : Int) = 0; (have := gz h; right; omega); (left; omega)) ⟨gg.1, Int.le_trans gg.2 (by omega)⟩)
  clear gg gz za zb
  refine calls_go Try.func75 rfl 27 rfl rfl (fun aF hz df hu => ?_)
  have u0 : Sl aF 0 (Value.agg #[Value.int .i64 a.lo, Value.int .i64 a.hi, Value.int .i64 a.m, Value.int .i64 a.r, Value.int .i64 a.k, Value.int .i64 b.lo, Value.int .i64 b.hi, Value.int .i64 b.m, Value.int .i64 b.r, Value.int .i64 b.k, Value.int .i64 k]) := hu 0 _ rfl
  clear hu
  have hM : Mk0 w w.heap.size w := ⟨Below.refl _ _, Nat.le_refl _⟩
  have hB : Bks w [] := trivial
  refine wp_seq ?_
  obtain ⟨m1, hM, hU, hwm⟩ := start_region hM.b hB
  refine region_run (F := psub_is_r0_1 a b k w m1) [1, 2] [0, 1] hz df (by kernel_rfl) (by kernel_rfl) (fun s hs0 => ⟨hM, hB, Vals.none s _, fun h => no_of' h, fun h => no_of' h, fun h => no_of' h, fun h => no_of' h, fun h => no_of' h, fun h => no_of' h, fun h => no_of' h⟩) ?_ ?_
  refine FSteps.op3 hz rfl (dv := []) (by kernel_rfl) (by kernel_rfl) (by kernel_rfl) (fun D s W bA kK hD hW hF hA hK => ?_) ?_
  · have x0 := hA.o 0 _ rfl u0
    have hF := Lib.hid hF
    clear hA
    go_simp
    exact hK.out _ _ ⟨hF.out.zb.al _, Bks.al _ hF.out.zq, hF.out.zt.skip rfl, fun _ => rfl, hF.out.v1, fun _ => Bk.new _ _ _, fun _ => hF.out.zb.g, fun h1 => (hF.out.k1_0 h1).al _, hF.out.g1, fun _ h => Nat.ne_of_gt ((hF.out.k1_0 h).lt)⟩
  refine FSteps.op3 hz rfl (dv := []) (by kernel_rfl) (by kernel_rfl) (by kernel_rfl) (fun D s W bA kK hD hW hF hA hK => ?_) ?_
  · have hF := Lib.hid hF
    clear hA
    go_simp
    exact hK.out _ _ ⟨hF.out.zb.al _, Bks.al _ hF.out.zq, hF.out.zt.skip rfl, hF.out.v0, fun _ => rfl, fun h1 => (hF.out.k0_0 h1).al _, hF.out.g0, fun _ => Bk.new _ _ _, fun _ => hF.out.zb.g, fun h _ => Nat.ne_of_lt ((hF.out.k0_0 h).lt)⟩
  exact FSteps.nil
  intro D s W aF1 hD hF hz' df' hA
  obtain ⟨d0, d1, -⟩ := hD
  clear u0
  have u1 : Sl aF1 1 _ := hA.i 1 _ rfl rfl (hF.v0 d0)
  have u2 : Sl aF1 2 _ := hA.i 2 _ rfl rfl (hF.v1 d1)
  have hkX0 := hF.k0_0 d0
  have hgX0 := hF.g0 d0
  have hkX1 := hF.k1_0 d1
  have hgX1 := hF.g1 d1
  have heX0_1 := hF.e0_1 d0 d1
  have hM := hF.zb
  have hB := hF.zq
  generalize pblk (s 1) = n1_0 at hkX0 hgX0 hkX1 hgX1 heX0_1 u1 u2
  generalize pblk (s 2) = n1_1 at hkX0 hgX0 hkX1 hgX1 heX0_1 u1 u2
  have hB : Bks W [(n1_0, #[Value.int .i64 a.lo, Value.int .i64 a.hi, Value.int .i64 a.m, Value.int .i64 a.r, Value.int .i64 a.k, Value.int .i64 b.lo, Value.int .i64 b.hi, Value.int .i64 b.m, Value.int .i64 b.r, Value.int .i64 b.k, Value.int .i64 k], 72), (n1_1, #[Value.int .i64 0, Value.int .i64 0, Value.int .i64 0, Value.int .i64 0, Value.int .i64 0], 27)] := ⟨hkX0, hkX1, trivial⟩
  have hw_n1_1 : w.heap.size ≤ n1_1 := Nat.le_trans hwm hgX1
  clear hF hA hz df d0 d1 hU
  have hz := hz'; have df := df'; clear hz' df'
  clear aF
  show Code.wp _ _ _ _ _
  refine wp_seq ?_
  obtain ⟨m2, hM, hU, hwm⟩ := start_region hM.b hB
  obtain ⟨hk_0, hk_1, -⟩ := hB
  obtain ⟨hl_0, hl_1, -⟩ := hU
  have hB : Bks _ [(n1_0, #[Value.int .i64 a.lo, Value.int .i64 a.hi, Value.int .i64 a.m, Value.int .i64 a.r, Value.int .i64 a.k, Value.int .i64 b.lo, Value.int .i64 b.hi, Value.int .i64 b.m, Value.int .i64 b.r, Value.int .i64 b.k, Value.int .i64 k], 72)] := ⟨hk_0, trivial⟩
  have hU : Under m2 [(n1_0, #[Value.int .i64 a.lo, Value.int .i64 a.hi, Value.int .i64 a.m, Value.int .i64 a.r, Value.int .i64 a.k, Value.int .i64 b.lo, Value.int .i64 b.hi, Value.int .i64 b.m, Value.int .i64 b.r, Value.int .i64 b.k, Value.int .i64 k], 72)] := ⟨hl_0, trivial⟩
  refine region_go (F := psub_is_r1_2 a b k n1_0 n1_1 w m2) [3, 4, 5, 6, 7, 8, 9, 10, 11, 12, 13, 14, 15, 16, 17, 18, 19, 20, 21, 22, 23, 24, 25, 26] [0, 1, 2, 3, 4, 5, 6, 7, 8, 9, 10, 11, 12, 13, 14, 15, 16, 17, 18, 19, 20, 21, 22, 23, 24] hz df (by kernel_rfl) (by kernel_rfl) (by kernel_rfl) (fun s hs0 => ⟨hM.drew, Bks.drew hB, Vals.none s _, fun h => no_of' h, fun h => no_of' h, fun h => no_of' h, fun _ => hk_1.drew, fun h => no_of' h⟩) ?_ ?_
  refine FSteps.op3 hz rfl (dv := []) (by kernel_rfl) (by kernel_rfl) (by kernel_rfl) (fun D s W bA kK hD hW hF hA hK => ?_) ?_
  · have x1 := hA.o 1 _ rfl u1
    obtain ⟨⟨c0, z0⟩, -⟩ := hF.zq.rules
    have hF := Lib.hid hF
    clear hA
    go_simp
    exact hK.out _ _ ⟨hF.out.zb, hF.out.zq, hF.out.zt.step rfl rfl, hF.out.v21, hF.out.k21_0, hF.out.g21, hF.out.kL0_0, hF.out.kL0_1⟩
  refine FSteps.op3 hz rfl (dv := []) (by kernel_rfl) (by kernel_rfl) (by kernel_rfl) (fun D s W bA kK hD hW hF hA hK => ?_) ?_
  · have x1 := hA.o 1 _ rfl u1
    have hF := Lib.hid hF
    clear hA
    go_simp
    exact hK.out _ _ ⟨hF.out.zb, hF.out.zq, hF.out.zt.step rfl rfl, hF.out.v21, hF.out.k21_0, hF.out.g21, hF.out.kL0_0, hF.out.kL0_1⟩
  refine FSteps.op3 hz rfl (dv := [1]) (by kernel_rfl) (by kernel_rfl) (by kernel_rfl) (fun D s W bA kK hD hW hF hA hK => ?_) ?_
  · have x4 := hA.i 4 _ rfl rfl (hF.zt.get (j := 1) rfl hW.1)
    have hF := Lib.hid hF
    clear hA
    go_simp
    exact hK.out _ _ ⟨hF.out.zb, hF.out.zq, hF.out.zt.step rfl rfl, hF.out.v21, hF.out.k21_0, hF.out.g21, hF.out.kL0_0, hF.out.kL0_1⟩
  refine FSteps.op3 hz rfl (dv := [2]) (by kernel_rfl) (by kernel_rfl) (by kernel_rfl) (fun D s W bA kK hD hW hF hA hK => ?_) ?_
  · have x5 := hA.i 5 _ rfl rfl (hF.zt.get (j := 2) rfl hW.1)
    obtain ⟨⟨c0, z0⟩, -⟩ := hF.zq.rules
    have hF := Lib.hid hF
    clear hA
    go_simp
    exact hK.out _ _ ⟨hF.out.zb, hF.out.zq, hF.out.zt.step rfl rfl, hF.out.v21, hF.out.k21_0, hF.out.g21, hF.out.kL0_0, hF.out.kL0_1⟩
  refine FSteps.op3 hz rfl (dv := []) (by kernel_rfl) (by kernel_rfl) (by kernel_rfl) (fun D s W bA kK hD hW hF hA hK => ?_) ?_
  · have x1 := hA.o 1 _ rfl u1
    have hF := Lib.hid hF
    clear hA
    go_simp
    exact hK.out _ _ ⟨hF.out.zb, hF.out.zq, hF.out.zt.step rfl rfl, hF.out.v21, hF.out.k21_0, hF.out.g21, hF.out.kL0_0, hF.out.kL0_1⟩
  refine FSteps.op3 hz rfl (dv := [4]) (by kernel_rfl) (by kernel_rfl) (by kernel_rfl) (fun D s W bA kK hD hW hF hA hK => ?_) ?_
  · have x7 := hA.i 7 _ rfl rfl (hF.zt.get (j := 4) rfl hW.1)
    have hF := Lib.hid hF
    clear hA
    go_simp
    exact hK.out _ _ ⟨hF.out.zb, hF.out.zq, hF.out.zt.step rfl rfl, hF.out.v21, hF.out.k21_0, hF.out.g21, hF.out.kL0_0, hF.out.kL0_1⟩
  refine FSteps.op3 hz rfl (dv := [5]) (by kernel_rfl) (by kernel_rfl) (by kernel_rfl) (fun D s W bA kK hD hW hF hA hK => ?_) ?_
  · have x8 := hA.i 8 _ rfl rfl (hF.zt.get (j := 5) rfl hW.1)
    obtain ⟨⟨c0, z0⟩, -⟩ := hF.zq.rules
    have hF := Lib.hid hF
    clear hA
    go_simp
    exact hK.out _ _ ⟨hF.out.zb, hF.out.zq, hF.out.zt.step rfl rfl, hF.out.v21, hF.out.k21_0, hF.out.g21, hF.out.kL0_0, hF.out.kL0_1⟩
  refine FSteps.op3 hz rfl (dv := [3, 6]) (by kernel_rfl) (by kernel_rfl) (by kernel_rfl) (fun D s W bA kK hD hW hF hA hK => ?_) ?_
  · have x6 := hA.i 6 _ rfl rfl (hF.zt.get (j := 3) rfl hW.1)
    have x9 := hA.i 9 _ rfl rfl (hF.zt.get (j := 6) rfl hW.2.1)
    have hF := Lib.hid hF
    clear hA
    have hw7 : IntKind.i64.wrap (a.lo - b.hi) = a.lo - b.hi := IntWalk.i64_in _ (by omega)
    go_simp
    exact hK.out _ _ ⟨hF.out.zb, hF.out.zq, hF.out.zt.step rfl rfl, hF.out.v21, hF.out.k21_0, hF.out.g21, hF.out.kL0_0, hF.out.kL0_1⟩
  refine FSteps.op3 hz rfl (dv := []) (by kernel_rfl) (by kernel_rfl) (by kernel_rfl) (fun D s W bA kK hD hW hF hA hK => ?_) ?_
  · have x1 := hA.o 1 _ rfl u1
    have hF := Lib.hid hF
    clear hA
    go_simp
    exact hK.out _ _ ⟨hF.out.zb, hF.out.zq, hF.out.zt.step rfl rfl, hF.out.v21, hF.out.k21_0, hF.out.g21, hF.out.kL0_0, hF.out.kL0_1⟩
  refine FSteps.op3 hz rfl (dv := [8]) (by kernel_rfl) (by kernel_rfl) (by kernel_rfl) (fun D s W bA kK hD hW hF hA hK => ?_) ?_
  · have x11 := hA.i 11 _ rfl rfl (hF.zt.get (j := 8) rfl hW.1)
    have hF := Lib.hid hF
    clear hA
    go_simp
    exact hK.out _ _ ⟨hF.out.zb, hF.out.zq, hF.out.zt.step rfl rfl, hF.out.v21, hF.out.k21_0, hF.out.g21, hF.out.kL0_0, hF.out.kL0_1⟩
  refine FSteps.op3 hz rfl (dv := [9]) (by kernel_rfl) (by kernel_rfl) (by kernel_rfl) (fun D s W bA kK hD hW hF hA hK => ?_) ?_
  · have x12 := hA.i 12 _ rfl rfl (hF.zt.get (j := 9) rfl hW.1)
    obtain ⟨⟨c0, z0⟩, -⟩ := hF.zq.rules
    have hF := Lib.hid hF
    clear hA
    go_simp
    exact hK.out _ _ ⟨hF.out.zb, hF.out.zq, hF.out.zt.step rfl rfl, hF.out.v21, hF.out.k21_0, hF.out.g21, hF.out.kL0_0, hF.out.kL0_1⟩
  refine FSteps.op3 hz rfl (dv := []) (by kernel_rfl) (by kernel_rfl) (by kernel_rfl) (fun D s W bA kK hD hW hF hA hK => ?_) ?_
  · have x1 := hA.o 1 _ rfl u1
    have hF := Lib.hid hF
    clear hA
    go_simp
    exact hK.out _ _ ⟨hF.out.zb, hF.out.zq, hF.out.zt.step rfl rfl, hF.out.v21, hF.out.k21_0, hF.out.g21, hF.out.kL0_0, hF.out.kL0_1⟩
  refine FSteps.op3 hz rfl (dv := [11]) (by kernel_rfl) (by kernel_rfl) (by kernel_rfl) (fun D s W bA kK hD hW hF hA hK => ?_) ?_
  · have x14 := hA.i 14 _ rfl rfl (hF.zt.get (j := 11) rfl hW.1)
    have hF := Lib.hid hF
    clear hA
    go_simp
    exact hK.out _ _ ⟨hF.out.zb, hF.out.zq, hF.out.zt.step rfl rfl, hF.out.v21, hF.out.k21_0, hF.out.g21, hF.out.kL0_0, hF.out.kL0_1⟩
  refine FSteps.op3 hz rfl (dv := [12]) (by kernel_rfl) (by kernel_rfl) (by kernel_rfl) (fun D s W bA kK hD hW hF hA hK => ?_) ?_
  · have x15 := hA.i 15 _ rfl rfl (hF.zt.get (j := 12) rfl hW.1)
    obtain ⟨⟨c0, z0⟩, -⟩ := hF.zq.rules
    have hF := Lib.hid hF
    clear hA
    go_simp
    exact hK.out _ _ ⟨hF.out.zb, hF.out.zq, hF.out.zt.step rfl rfl, hF.out.v21, hF.out.k21_0, hF.out.g21, hF.out.kL0_0, hF.out.kL0_1⟩
  refine FSteps.op3 hz rfl (dv := [10, 13]) (by kernel_rfl) (by kernel_rfl) (by kernel_rfl) (fun D s W bA kK hD hW hF hA hK => ?_) ?_
  · have x13 := hA.i 13 _ rfl rfl (hF.zt.get (j := 10) rfl hW.1)
    have x16 := hA.i 16 _ rfl rfl (hF.zt.get (j := 13) rfl hW.2.1)
    have hF := Lib.hid hF
    clear hA
    have hw14 : IntKind.i64.wrap (a.hi - b.lo) = a.hi - b.lo := IntWalk.i64_in _ (by omega)
    go_simp
    exact hK.out _ _ ⟨hF.out.zb, hF.out.zq, hF.out.zt.step rfl rfl, hF.out.v21, hF.out.k21_0, hF.out.g21, hF.out.kL0_0, hF.out.kL0_1⟩
  refine FSteps.op3 hz rfl (dv := []) (by kernel_rfl) (by kernel_rfl) (by kernel_rfl) (fun D s W bA kK hD hW hF hA hK => ?_) ?_
  · have x1 := hA.o 1 _ rfl u1
    have hF := Lib.hid hF
    clear hA
    go_simp
    exact hK.out _ _ ⟨hF.out.zb, hF.out.zq, hF.out.zt.step rfl rfl, hF.out.v21, hF.out.k21_0, hF.out.g21, hF.out.kL0_0, hF.out.kL0_1⟩
  refine FSteps.op3 hz rfl (dv := [15]) (by kernel_rfl) (by kernel_rfl) (by kernel_rfl) (fun D s W bA kK hD hW hF hA hK => ?_) ?_
  · have x18 := hA.i 18 _ rfl rfl (hF.zt.get (j := 15) rfl hW.1)
    obtain ⟨⟨c0, z0⟩, -⟩ := hF.zq.rules
    have hF := Lib.hid hF
    clear hA
    go_simp
    exact hK.out _ _ ⟨hF.out.zb, hF.out.zq, hF.out.zt.step rfl rfl, hF.out.v21, hF.out.k21_0, hF.out.g21, hF.out.kL0_0, hF.out.kL0_1⟩
  refine FSteps.op3 hz rfl (dv := [16]) (by kernel_rfl) (by kernel_rfl) (by kernel_rfl) (fun D s W bA kK hD hW hF hA hK => ?_) ?_
  · have x19 := hA.i 19 _ rfl rfl (hF.zt.get (j := 16) rfl hW.1)
    have hF := Lib.hid hF
    clear hA
    go_simp
    (go_at_call 44; ((with_reducible_and_instances refine (step_ab a _).mono ?_)); rintro e W1 ⟨rfl, hb⟩; (try unfold abVal))
    (try go_wp2_with fail)
    exact hK.out _ _ ⟨hF.out.zb.on hb, Bks.on hb hF.out.zq, hF.out.zt.step rfl rfl, hF.out.v21, fun h1 => (hF.out.k21_0 h1).on hb, hF.out.g21, fun h2 => (hF.out.kL0_0 h2).on hb, fun h1 => (hF.out.kL0_1 h1).on hb⟩
  refine FSteps.op3 hz rfl (dv := []) (by kernel_rfl) (by kernel_rfl) (by kernel_rfl) (fun D s W bA kK hD hW hF hA hK => ?_) ?_
  · have x1 := hA.o 1 _ rfl u1
    have hF := Lib.hid hF
    clear hA
    go_simp
    exact hK.out _ _ ⟨hF.out.zb, hF.out.zq, hF.out.zt.step rfl rfl, hF.out.v21, hF.out.k21_0, hF.out.g21, hF.out.kL0_0, hF.out.kL0_1⟩
  refine FSteps.op3 hz rfl (dv := [18]) (by kernel_rfl) (by kernel_rfl) (by kernel_rfl) (fun D s W bA kK hD hW hF hA hK => ?_) ?_
  · have x21 := hA.i 21 _ rfl rfl (hF.zt.get (j := 18) rfl hW.1)
    obtain ⟨⟨c0, z0⟩, -⟩ := hF.zq.rules
    have hF := Lib.hid hF
    clear hA
    go_simp
    exact hK.out _ _ ⟨hF.out.zb, hF.out.zq, hF.out.zt.step rfl rfl, hF.out.v21, hF.out.k21_0, hF.out.g21, hF.out.kL0_0, hF.out.kL0_1⟩
  refine FSteps.op3 hz rfl (dv := [19, 17]) (by kernel_rfl) (by kernel_rfl) (by kernel_rfl) (fun D s W bA kK hD hW hF hA hK => ?_) ?_
  · have x22 := hA.i 22 _ rfl rfl (hF.zt.get (j := 19) rfl hW.1)
    have hF := Lib.hid hF
    clear hA
    go_simp
    (go_at_call 44; ((with_reducible_and_instances refine (step_ab b _).mono ?_)); rintro e W1 ⟨rfl, hb⟩; (try unfold abVal))
    (try go_wp2_with fail)
    exact hK.out _ _ ⟨hF.out.zb.on hb, Bks.on hb hF.out.zq, hF.out.zt.step rfl rfl, hF.out.v21, fun h1 => (hF.out.k21_0 h1).on hb, hF.out.g21, fun h2 => (hF.out.kL0_0 h2).on hb, fun h1 => (hF.out.kL0_1 h1).on hb⟩
  refine FSteps.op3 hz rfl (dv := [20]) (by kernel_rfl) (by kernel_rfl) (by kernel_rfl) (fun D s W bA kK hD hW hF hA hK => ?_) ?_
  · have x23 := hA.i 23 _ rfl rfl (hF.zt.get (j := 20) rfl hW.1)
    have hF := Lib.hid hF
    clear hA
    go_simp
    exact hK.out _ _ ⟨hF.out.zb.al _, Bks.al _ hF.out.zq, hF.out.zt.skip rfl, fun _ => rfl, fun _ => Bk.new _ _ _, fun _ => hF.out.zb.g, fun h2 => (hF.out.kL0_0 h2).al _, fun h1 => (hF.out.kL0_1 h1).al _⟩
  refine FSteps.op3 hz rfl (dv := [17, 21, 20]) (by kernel_rfl) (by kernel_rfl) (by kernel_rfl) (fun D s W bA kK hD hW hF hA hK => ?_) ?_
  · have x20 := hA.i 20 _ rfl rfl (hF.zt.get (j := 17) rfl hW.1)
    have x24 := hA.i 24 _ rfl rfl (hF.v21 hW.2.1)
    have kk := hF.k21_0 hW.2.1
    have kc := kk.cell; have kf := kk.free
    have hF := Lib.hid hF
    clear hA
    go_simp
    (go_at_call 49; ((with_reducible_and_instances refine (gcd1 ⟨sa.1, by omega⟩ ⟨sb.1, by omega⟩ kk).mono ?_)); rintro e W1 ⟨rfl, hb⟩; (try unfold abVal))
    (try go_wp2_with fail)
    exact hK.out _ _ ⟨hF.out.zb.on hb, Bks.on hb hF.out.zq, hF.out.zt.step rfl rfl, hF.out.v21, fun h1 => (hF.out.k21_0 h1).on hb, hF.out.g21, fun h2 => (hF.out.kL0_0 h2).on hb, fun h1 => (hF.out.kL0_1 h1).on hb⟩
  refine FSteps.op3 hz rfl (dv := [0, 7, 14, 22, 22]) (by kernel_rfl) (by kernel_rfl) (by kernel_rfl) (fun D s W bA kK hD hW hF hA hK => ?_) ?_
  · have x3 := hA.i 3 _ rfl rfl (hF.zt.get (j := 0) rfl hW.1)
    have x10 := hA.i 10 _ rfl rfl (hF.zt.get (j := 7) rfl hW.2.1)
    have x17 := hA.i 17 _ rfl rfl (hF.zt.get (j := 14) rfl hW.2.2.1)
    have x25 := hA.i 25 _ rfl rfl (hF.zt.get (j := 22) rfl hW.2.2.2.1)
    have hF := Lib.hid hF
    clear hA
    go_simp
    (go_at_call 100; ((with_reducible_and_instances refine (GB.out _).mono ?_)); rintro e W1 ⟨rfl, hb⟩; (try unfold abVal))
    (try go_wp2_with fail)
    exact hK.out _ _ ⟨hF.out.zb.on hb, Bks.on hb hF.out.zq, hF.out.zt.step rfl rfl, hF.out.v21, fun h1 => (hF.out.k21_0 h1).on hb, hF.out.g21, fun h2 => (hF.out.kL0_0 h2).on hb, fun h1 => (hF.out.kL0_1 h1).on hb⟩
  refine FSteps.op3 hz rfl (dv := [23, 23, 0, 1, 2, 3, 4, 5, 6, 7, 8, 9, 10, 11, 12, 13, 14, 15, 16, 17, 18, 19, 20, 21, 22, 23]) (by kernel_rfl) (by kernel_rfl) (by kernel_rfl) (fun D s W bA kK hD hW hF hA hK => ?_) ?_
  · have x2 := hA.o 2 _ rfl u2
    have x26 := hA.i 26 _ rfl rfl (hF.zt.get (j := 23) rfl hW.1)
    have kk := hF.kL0_0 hD
    have kc := kk.cell; have kf := kk.free
    have hF := Lib.hid hF
    have kk := Lib.hid kk
    clear hA
    go_simp
    exact hK.out undef _ ⟨hF.out.zb.sAll (hw_n1_1) 0 [Value.int .i64 (subS a b k).lo, Value.int .i64 (subS a b k).hi, Value.int .i64 (subS a b k).m, Value.int .i64 (subS a b k).r, Value.int .i64 (subS a b k).k], Bks.oAll [Value.int .i64 (subS a b k).lo, Value.int .i64 (subS a b k).hi, Value.int .i64 (subS a b k).m, Value.int .i64 (subS a b k).r, Value.int .i64 (subS a b k).k] 0 (⟨(by omega), trivial⟩) hF.out.zq, hF.out.zt.skip rfl, hF.out.v21, fun h1 => Bk.oAll (Nat.ne_of_gt (Nat.lt_of_lt_of_le hl_1 (hF.out.g21 h1))) [Value.int .i64 (subS a b k).lo, Value.int .i64 (subS a b k).hi, Value.int .i64 (subS a b k).m, Value.int .i64 (subS a b k).r, Value.int .i64 (subS a b k).k] 0 (hF.out.k21_0 h1), hF.out.g21, fun h2 => no_of h2, fun _ => kk.out.full [Value.int .i64 (subS a b k).lo, Value.int .i64 (subS a b k).hi, Value.int .i64 (subS a b k).m, Value.int .i64 (subS a b k).r, Value.int .i64 (subS a b k).k] rfl⟩
  exact FSteps.nil
  intro D s W aF2 hD hF hz' df' hA
  obtain ⟨d0, d1, d2, d3, d4, d5, d6, d7, d8, d9, d10, d11, d12, d13, d14, d15, d16, d17, d18, d19, d20, d21, d22, d23, d24, -⟩ := hD
  clear u1
  replace u2 : Sl aF2 2 _ := hA.o 2 _ rfl u2
  have hkX21 := hF.k21_0 d21
  have hgX21 := hF.g21 d21
  have hkXL0 := hF.kL0_1 d24
  have hM := hF.zb
  have hB := hF.zq
  generalize pblk (s 24) = n2_21 at hkX21 hgX21 hkXL0
  have hB : Bks W [(n1_1, #[Value.int .i64 (subS a b k).lo, Value.int .i64 (subS a b k).hi, Value.int .i64 (subS a b k).m, Value.int .i64 (subS a b k).r, Value.int .i64 (subS a b k).k], 27)] := ⟨hkXL0, trivial⟩
  have hne_n1_1_n2_21 : n1_1 ≠ n2_21 := by omega
  clear hF hA hz df d0 d1 d2 d3 d4 d5 d6 d7 d8 d9 d10 d11 d12 d13 d14 d15 d16 d17 d18 d19 d20 d21 d22 d23 d24 
  have hz := hz'; have df := df'; clear hz' df'
  clear aF1
  show Code.wp _ _ _ _ _
  refine wp_ret ?_
  show bodyPost _ _ _ _ _ _
  have hB2 := hB.rules
  obtain ⟨⟨c0, z0⟩, -⟩ := hB2
  unfold Sl at u2
  refine end_go df (v := (Value.agg #[Value.int .i64 (subS a b k).lo, Value.int .i64 (subS a b k).hi, Value.int .i64 (subS a b k).m, Value.int .i64 (subS a b k).r, Value.int .i64 (subS a b k).k])) (by simp [results, Try.results75, go_sem, u2, c0]) ⟨rfl, hM.b⟩

theorem mul_bd {x y : Int} (hx : -2147483648 ≤ x ∧ x ≤ 2147483647) (hy : -2147483648 ≤ y ∧ y ≤ 2147483647) : -4611686018427387904 ≤ x * y ∧ x * y ≤ 4611686018427387904 := by
  have h1 : x.natAbs * y.natAbs ≤ 2147483648 * 2147483648 := Nat.mul_le_mul (by omega) (by omega)
  have h2 := Int.natAbs_mul x y
  omega
theorem mul_bd2 {x y : Int} (hx : 0 ≤ x ∧ x ≤ 2147483648) (hy : 0 ≤ y ∧ y ≤ 4294967295) : 0 ≤ x * y ∧ x * y ≤ 9223372036854775807 := by
  have h1 := Int.mul_nonneg hx.1 hy.1
  have h2 : x * y ≤ 2147483648 * 4294967295 := Int.mul_le_mul hx.2 hy.2 hy.1 (by omega)
  omega
theorem gcd3_zero {x y z : Int} (h : gcdS x [y, z] = 0) : x = 0 ∧ y = 0 ∧ z = 0 := by
  simp only [gcdS] at h
  have h1 := Int.gcd_eq_zero_iff.1 (show Int.gcd (Int.gcd x y) z = 0 by omega)
  have h2 := Int.gcd_eq_zero_iff.1 (show Int.gcd x y = 0 by omega)
  exact ⟨h2.1, h2.2, h1.2⟩
theorem mul_zero_case {a b : Ab} (ha : Good a) (hb : Good b) : 0 < gcdS (absS a.lo * stepS b) [absS b.lo * stepS a, stepS a * stepS b] ∨ min (a.lo * b.lo) (min (a.lo * b.hi) (min (a.hi * b.lo) (a.hi * b.hi))) = max (a.lo * b.lo) (max (a.lo * b.hi) (max (a.hi * b.lo) (a.hi * b.hi))) := by
  by_cases h : gcdS (absS a.lo * stepS b) [absS b.lo * stepS a, stepS a * stepS b] = 0
  · right
    obtain ⟨h1, h2, h3⟩ := gcd3_zero h
    have za := ha.step_zero; have zb := hb.step_zero
    have hl : absS a.lo = 0 → a.lo = 0 := fun h => by unfold absS at h; omega
    have hl' : absS b.lo = 0 → b.lo = 0 := fun h => by unfold absS at h; omega
    rcases Int.mul_eq_zero.1 h3 with h4 | h4
    · have e := za.1 h4
      rcases Int.mul_eq_zero.1 h1 with h5 | h5
      · have e2 := hl h5
        rw [← e, e2]; simp
      · have e2 := zb.1 h5
        rw [← e, ← e2]; simp
    · have e := zb.1 h4
      rcases Int.mul_eq_zero.1 h2 with h5 | h5
      · have e2 := hl' h5
        rw [← e, e2]; simp
      · have e2 := za.1 h5
        rw [← e, ← e2]; simp
  · left
    have : 0 ≤ gcdS (absS a.lo * stepS b) [absS b.lo * stepS a, stepS a * stepS b] := by simp only [gcdS]; omega
    omega

structure pmul_is_r0_1 (a b : Ab) (k : Int) (w : World) (m1 : Nat) (D : Nat → Bool) (s : Nat → Value) (W : World) : Prop where
  zb : Mk0 w m1 W
  zq : Bks W []
  zt : Vals D s []
  v0 : D 0 = true → s 1 = (Value.pointer (some ⟨pblk (s 1), 0, none⟩))
  v1 : D 1 = true → s 2 = (Value.pointer (some ⟨pblk (s 2), 0, none⟩))
  k0_0 : D 0 = true → Bk W (pblk (s 1)) #[Value.int .i64 a.lo, Value.int .i64 a.hi, Value.int .i64 a.m, Value.int .i64 a.r, Value.int .i64 a.k, Value.int .i64 b.lo, Value.int .i64 b.hi, Value.int .i64 b.m, Value.int .i64 b.r, Value.int .i64 b.k, Value.int .i64 k] 72
  g0 : D 0 = true → m1 ≤ (pblk (s 1))
  k1_0 : D 1 = true → Bk W (pblk (s 2)) #[Value.int .i64 0, Value.int .i64 0, Value.int .i64 0, Value.int .i64 0, Value.int .i64 0] 27
  g1 : D 1 = true → m1 ≤ (pblk (s 2))
  e0_1 : D 0 = true → D 1 = true → pblk (s 1) ≠ pblk (s 2)

structure pmul_is_r1_2 (a b : Ab) (k : Int) (n1_0 n1_1 : Nat) (w : World) (m2 : Nat) (D : Nat → Bool) (s : Nat → Value) (W : World) : Prop where
  zb : Mk0 w m2 W
  zq : Bks W [(n1_0, #[Value.int .i64 a.lo, Value.int .i64 a.hi, Value.int .i64 a.m, Value.int .i64 a.r, Value.int .i64 a.k, Value.int .i64 b.lo, Value.int .i64 b.hi, Value.int .i64 b.m, Value.int .i64 b.r, Value.int .i64 b.k, Value.int .i64 k], 72), (n1_1, #[Value.int .i64 0, Value.int .i64 0, Value.int .i64 0, Value.int .i64 0, Value.int .i64 0], 27)]
  zt : Vals D s [(0, 9, Value.pointer (some ⟨n1_0, 0, none⟩)), (1, 10, Value.agg #[Value.int .i64 a.lo, Value.int .i64 a.hi, Value.int .i64 a.m, Value.int .i64 a.r, Value.int .i64 a.k]), (2, 11, Value.pointer (some ⟨n1_0, 5, none⟩)), (3, 12, Value.agg #[Value.int .i64 b.lo, Value.int .i64 b.hi, Value.int .i64 b.m, Value.int .i64 b.r, Value.int .i64 b.k])]
  v4 : D 4 = true → s 3 = (Value.pointer (some ⟨pblk (s 3), 0, none⟩))
  v5 : D 5 = true → s 4 = (Value.pointer (some ⟨pblk (s 4), 0, none⟩))
  k4_0 : D 4 = true → D 6 = false → Bk W (pblk (s 3)) #[Value.int .i64 0, Value.int .i64 0, Value.int .i64 0, Value.int .i64 0, Value.int .i64 0] 27
  k4_1 : D 6 = true → Bk W (pblk (s 3)) #[Value.int .i64 a.lo, Value.int .i64 a.hi, Value.int .i64 a.m, Value.int .i64 a.r, Value.int .i64 a.k] 27
  c4_1 : D 6 = true → D 4 = true
  g4 : D 4 = true → m2 ≤ (pblk (s 3))
  k5_0 : D 5 = true → D 7 = false → Bk W (pblk (s 4)) #[Value.int .i64 0, Value.int .i64 0, Value.int .i64 0, Value.int .i64 0, Value.int .i64 0] 27
  k5_1 : D 7 = true → Bk W (pblk (s 4)) #[Value.int .i64 b.lo, Value.int .i64 b.hi, Value.int .i64 b.m, Value.int .i64 b.r, Value.int .i64 b.k] 27
  c5_1 : D 7 = true → D 5 = true
  g5 : D 5 = true → m2 ≤ (pblk (s 4))
  e4_5 : D 4 = true → D 5 = true → pblk (s 3) ≠ pblk (s 4)

structure pmul_is_r2_3 (a b : Ab) (k : Int) (n1_0 n1_1 n2_4 n2_5 : Nat) (w : World) (m3 : Nat) (D : Nat → Bool) (s : Nat → Value) (W : World) : Prop where
  zb : Mk0 w m3 W
  zq : Bks W [(n1_0, #[Value.int .i64 a.lo, Value.int .i64 a.hi, Value.int .i64 a.m, Value.int .i64 a.r, Value.int .i64 a.k, Value.int .i64 b.lo, Value.int .i64 b.hi, Value.int .i64 b.m, Value.int .i64 b.r, Value.int .i64 b.k, Value.int .i64 k], 72), (n1_1, #[Value.int .i64 0, Value.int .i64 0, Value.int .i64 0, Value.int .i64 0, Value.int .i64 0], 27), (n2_4, #[Value.int .i64 a.lo, Value.int .i64 a.hi, Value.int .i64 a.m, Value.int .i64 a.r, Value.int .i64 a.k], 27), (n2_5, #[Value.int .i64 b.lo, Value.int .i64 b.hi, Value.int .i64 b.m, Value.int .i64 b.r, Value.int .i64 b.k], 27)]
  zt : Vals D s [(0, 13, Value.pointer (some ⟨n2_4, 0, none⟩)), (1, 14, Value.int .i64 a.lo), (2, 15, Value.pointer (some ⟨n2_5, 0, none⟩)), (3, 16, Value.int .i64 b.lo), (4, 17, Value.int .i64 (a.lo * b.lo)), (5, 18, Value.pointer (some ⟨n2_4, 0, none⟩)), (6, 19, Value.int .i64 a.lo), (7, 20, Value.pointer (some ⟨n2_5, 1, none⟩)), (8, 21, Value.int .i64 b.hi), (9, 22, Value.int .i64 (a.lo * b.hi)), (10, 23, Value.pointer (some ⟨n2_4, 1, none⟩)), (11, 24, Value.int .i64 a.hi), (12, 25, Value.pointer (some ⟨n2_5, 0, none⟩)), (13, 26, Value.int .i64 b.lo), (14, 27, Value.int .i64 (a.hi * b.lo)), (15, 28, Value.pointer (some ⟨n2_4, 1, none⟩)), (16, 29, Value.int .i64 a.hi), (17, 30, Value.pointer (some ⟨n2_5, 1, none⟩)), (18, 31, Value.int .i64 b.hi), (19, 32, Value.int .i64 (a.hi * b.hi)), (20, 5, Value.int .i64 (a.lo * b.lo)), (21, 6, Value.int .i64 (a.lo * b.hi)), (22, 7, Value.int .i64 (a.hi * b.lo)), (23, 8, Value.int .i64 (a.hi * b.hi))]

structure pmul_is_r3_4 (a b : Ab) (k : Int) (n1_0 n1_1 n2_4 n2_5 : Nat) (w : World) (m4 : Nat) (D : Nat → Bool) (s : Nat → Value) (W : World) : Prop where
  zb : Mk0 w m4 W
  zq : Bks W [(n1_0, #[Value.int .i64 a.lo, Value.int .i64 a.hi, Value.int .i64 a.m, Value.int .i64 a.r, Value.int .i64 a.k, Value.int .i64 b.lo, Value.int .i64 b.hi, Value.int .i64 b.m, Value.int .i64 b.r, Value.int .i64 b.k, Value.int .i64 k], 72), (n2_4, #[Value.int .i64 a.lo, Value.int .i64 a.hi, Value.int .i64 a.m, Value.int .i64 a.r, Value.int .i64 a.k], 27), (n2_5, #[Value.int .i64 b.lo, Value.int .i64 b.hi, Value.int .i64 b.m, Value.int .i64 b.r, Value.int .i64 b.k], 27)]
  zt : Vals D s [(0, 33, Value.agg #[Value.int .i64 a.lo, Value.int .i64 a.hi, Value.int .i64 a.m, Value.int .i64 a.r, Value.int .i64 a.k, Value.int .i64 b.lo, Value.int .i64 b.hi, Value.int .i64 b.m, Value.int .i64 b.r, Value.int .i64 b.k, Value.int .i64 k]), (1, 34, Value.int .i64 (a.lo * b.lo)), (2, 35, Value.int .i64 (a.lo * b.hi)), (3, 36, Value.int .i64 (a.hi * b.lo)), (4, 37, Value.int .i64 (a.hi * b.hi)), (5, 38, Value.int .i64 (min (a.lo * b.lo) (min (a.lo * b.hi) (min (a.hi * b.lo) (a.hi * b.hi))))), (6, 39, Value.int .i64 (a.lo * b.lo)), (7, 40, Value.int .i64 (a.lo * b.hi)), (8, 41, Value.int .i64 (a.hi * b.lo)), (9, 42, Value.int .i64 (a.hi * b.hi)), (10, 43, Value.int .i64 (max (a.lo * b.lo) (max (a.lo * b.hi) (max (a.hi * b.lo) (a.hi * b.hi))))), (11, 44, Value.pointer (some ⟨n2_4, 0, none⟩)), (12, 45, Value.int .i64 a.lo), (13, 46, Value.int .i64 (absS a.lo)), (14, 47, Value.agg #[Value.int .i64 b.lo, Value.int .i64 b.hi, Value.int .i64 b.m, Value.int .i64 b.r, Value.int .i64 b.k]), (15, 48, Value.int .i64 (stepS b)), (16, 49, Value.int .i64 ((absS a.lo) * (stepS b))), (17, 50, Value.pointer (some ⟨n2_5, 0, none⟩)), (18, 51, Value.int .i64 b.lo), (19, 52, Value.int .i64 (absS b.lo)), (20, 53, Value.agg #[Value.int .i64 a.lo, Value.int .i64 a.hi, Value.int .i64 a.m, Value.int .i64 a.r, Value.int .i64 a.k]), (21, 54, Value.int .i64 (stepS a)), (22, 55, Value.int .i64 ((absS b.lo) * (stepS a))), (23, 56, Value.agg #[Value.int .i64 a.lo, Value.int .i64 a.hi, Value.int .i64 a.m, Value.int .i64 a.r, Value.int .i64 a.k]), (24, 57, Value.int .i64 (stepS a)), (25, 58, Value.agg #[Value.int .i64 b.lo, Value.int .i64 b.hi, Value.int .i64 b.m, Value.int .i64 b.r, Value.int .i64 b.k]), (26, 59, Value.int .i64 (stepS b)), (27, 60, Value.int .i64 ((stepS a) * (stepS b))), (29, 62, Value.int .i64 (gcdS (absS a.lo * stepS b) [absS b.lo * stepS a, stepS a * stepS b])), (30, 63, Value.agg #[Value.int .i64 (mulS a b k).lo, Value.int .i64 (mulS a b k).hi, Value.int .i64 (mulS a b k).m, Value.int .i64 (mulS a b k).r, Value.int .i64 (mulS a b k).k])]
  v28 : D 28 = true → s 61 = (Value.slice (some ⟨pblk (s 61), 0, none⟩) 2 2)
  k28_0 : D 28 = true → Bk W (pblk (s 61)) #[Value.int .i64 ((absS b.lo) * (stepS a)), Value.int .i64 ((stepS a) * (stepS b))] 3
  g28 : D 28 = true → m4 ≤ (pblk (s 61))
  kL0_0 : D 31 = false → Bk W n1_1 #[Value.int .i64 0, Value.int .i64 0, Value.int .i64 0, Value.int .i64 0, Value.int .i64 0] 27
  kL0_1 : D 31 = true → Bk W n1_1 #[Value.int .i64 (mulS a b k).lo, Value.int .i64 (mulS a b k).hi, Value.int .i64 (mulS a b k).m, Value.int .i64 (mulS a b k).r, Value.int .i64 (mulS a b k).k] 27

set_option maxRecDepth 100000 in
set_option maxHeartbeats 4000000 in
theorem pmul_is {a b : Ab} (k : Int) (w : World) (ha : Good a) (hb : Good b) (hs : stepS a * stepS b ≤ 9223372036854775807) (hg : 0 ≤ gcdS (absS a.lo * stepS b) [absS b.lo * stepS a, stepS a * stepS b] ∧ gcdS (absS a.lo * stepS b) [absS b.lo * stepS a, stepS a * stepS b] ≤ 9223372036854775807) (hg1 : absS a.lo * stepS b ≤ 9223372036854775807) (hg2 : absS b.lo * stepS a ≤ 9223372036854775807) :
    Calls Try.prog 76 #[Value.agg #[Value.int .i64 a.lo, Value.int .i64 a.hi, Value.int .i64 a.m, Value.int .i64 a.r, Value.int .i64 a.k, Value.int .i64 b.lo, Value.int .i64 b.hi, Value.int .i64 b.m, Value.int .i64 b.r, Value.int .i64 b.k, Value.int .i64 k]] w fun e w' => e = .returned (Value.agg #[Value.int .i64 (mulS a b k).lo, Value.int .i64 (mulS a b k).hi, Value.int .i64 (mulS a b k).m, Value.int .i64 (mulS a b k).r, Value.int .i64 (mulS a b k).k]) ∧ Below w.heap.size w w' := by
  have a1 := ha.h1; have a2 := ha.h2; have a3 := ha.h3
  have b1 := hb.h1; have b2 := hb.h2; have b3 := hb.h3
  have sa := ha.step0; have sb := hb.step0
  have P1 := mul_bd (x := a.lo) (y := b.lo) (by omega) (by omega)
  have P2 := mul_bd (x := a.lo) (y := b.hi) (by omega) (by omega)
  have P3 := mul_bd (x := a.hi) (y := b.lo) (by omega) (by omega)
  have P4 := mul_bd (x := a.hi) (y := b.hi) (by omega) (by omega)
  have sa2 := ha.step_hi; have sb2 := hb.step_hi
  have Q1 := mul_bd2 (x := absS a.lo) (y := stepS b) (by unfold absS; omega) (by omega)
  have Q2 := mul_bd2 (x := absS b.lo) (y := stepS a) (by unfold absS; omega) (by omega)
  have Q3 : 0 ≤ stepS a * stepS b ∧ stepS a * stepS b ≤ 9223372036854775807 := ⟨Int.mul_nonneg sa.1 sb.1, hs⟩
  have gg := gcd_le (gcd_le (B := 9223372036854775807) (x := absS a.lo * stepS b) (y := absS b.lo * stepS a) (by omega) (by omega)) (show 0 ≤ stepS a * stepS b ∧ stepS a * stepS b ≤ 9223372036854775807 by omega)
  have ggz := mul_zero_case ha hb
  have GB := Lib.hid (bounded_ab a b k (min (a.lo * b.lo) (min (a.lo * b.hi) (min (a.hi * b.lo) (a.hi * b.hi)))) (max (a.lo * b.lo) (max (a.lo * b.hi) (max (a.hi * b.lo) (a.hi * b.hi)))) (gcdS (absS a.lo * stepS b) [absS b.lo * stepS a, stepS a * stepS b]) (by omega) (by omega) (by omega) ggz hg)
  clear gg ggz
  refine calls_go Try.func76 rfl 64 rfl rfl (fun aF hz df hu => ?_)
  have u0 : Sl aF 0 (Value.agg #[Value.int .i64 a.lo, Value.int .i64 a.hi, Value.int .i64 a.m, Value.int .i64 a.r, Value.int .i64 a.k, Value.int .i64 b.lo, Value.int .i64 b.hi, Value.int .i64 b.m, Value.int .i64 b.r, Value.int .i64 b.k, Value.int .i64 k]) := hu 0 _ rfl
  clear hu
  have hM : Mk0 w w.heap.size w := ⟨Below.refl _ _, Nat.le_refl _⟩
  have hB : Bks w [] := trivial
  refine wp_seq ?_
  obtain ⟨m1, hM, hU, hwm⟩ := start_region hM.b hB
  refine region_run (F := pmul_is_r0_1 a b k w m1) [1, 2] [0, 1] hz df (by kernel_rfl) (by kernel_rfl) (fun s hs0 => ⟨hM, hB, Vals.none s _, fun h => no_of' h, fun h => no_of' h, fun h => no_of' h, fun h => no_of' h, fun h => no_of' h, fun h => no_of' h, fun h => no_of' h⟩) ?_ ?_
  refine FSteps.op3 hz rfl (dv := []) (by kernel_rfl) (by kernel_rfl) (by kernel_rfl) (fun D s W bA kK hD hW hF hA hK => ?_) ?_
  · have x0 := hA.o 0 _ rfl u0
    have hF := Lib.hid hF
    clear hA
    go_simp
    exact hK.out _ _ ⟨hF.out.zb.al _, Bks.al _ hF.out.zq, hF.out.zt.skip rfl, fun _ => rfl, hF.out.v1, fun _ => Bk.new _ _ _, fun _ => hF.out.zb.g, fun h1 => (hF.out.k1_0 h1).al _, hF.out.g1, fun _ h => Nat.ne_of_gt ((hF.out.k1_0 h).lt)⟩
  refine FSteps.op3 hz rfl (dv := []) (by kernel_rfl) (by kernel_rfl) (by kernel_rfl) (fun D s W bA kK hD hW hF hA hK => ?_) ?_
  · have hF := Lib.hid hF
    clear hA
    go_simp
    exact hK.out _ _ ⟨hF.out.zb.al _, Bks.al _ hF.out.zq, hF.out.zt.skip rfl, hF.out.v0, fun _ => rfl, fun h1 => (hF.out.k0_0 h1).al _, hF.out.g0, fun _ => Bk.new _ _ _, fun _ => hF.out.zb.g, fun h _ => Nat.ne_of_lt ((hF.out.k0_0 h).lt)⟩
  exact FSteps.nil
  intro D s W aF1 hD hF hz' df' hA
  obtain ⟨d0, d1, -⟩ := hD
  clear u0
  have u1 : Sl aF1 1 _ := hA.i 1 _ rfl rfl (hF.v0 d0)
  have u2 : Sl aF1 2 _ := hA.i 2 _ rfl rfl (hF.v1 d1)
  have hkX0 := hF.k0_0 d0
  have hgX0 := hF.g0 d0
  have hkX1 := hF.k1_0 d1
  have hgX1 := hF.g1 d1
  have heX0_1 := hF.e0_1 d0 d1
  have hM := hF.zb
  have hB := hF.zq
  generalize pblk (s 1) = n1_0 at hkX0 hgX0 hkX1 hgX1 heX0_1 u1 u2
  generalize pblk (s 2) = n1_1 at hkX0 hgX0 hkX1 hgX1 heX0_1 u1 u2
  have hB : Bks W [(n1_0, #[Value.int .i64 a.lo, Value.int .i64 a.hi, Value.int .i64 a.m, Value.int .i64 a.r, Value.int .i64 a.k, Value.int .i64 b.lo, Value.int .i64 b.hi, Value.int .i64 b.m, Value.int .i64 b.r, Value.int .i64 b.k, Value.int .i64 k], 72), (n1_1, #[Value.int .i64 0, Value.int .i64 0, Value.int .i64 0, Value.int .i64 0, Value.int .i64 0], 27)] := ⟨hkX0, hkX1, trivial⟩
  have hw_n1_1 : w.heap.size ≤ n1_1 := Nat.le_trans hwm hgX1
  clear hF hA hz df d0 d1 hU
  have hz := hz'; have df := df'; clear hz' df'
  clear aF
  show Code.wp _ _ _ _ _
  refine wp_seq ?_
  obtain ⟨m2, hM, hU, hwm⟩ := start_region hM.b hB
  refine region_go (F := pmul_is_r1_2 a b k n1_0 n1_1 w m2) [9, 10, 11, 12, 3, 4] [0, 1, 2, 3, 4, 5, 6, 7] hz df (by kernel_rfl) (by kernel_rfl) (by kernel_rfl) (fun s hs0 => ⟨hM.drew, Bks.drew hB, Vals.none s _, fun h => no_of' h, fun h => no_of' h, fun h => no_of' h, fun h => no_of' h, fun h => no_of' h, fun h => no_of' h, fun h => no_of' h, fun h => no_of' h, fun h => no_of' h, fun h => no_of' h, fun h => no_of' h⟩) ?_ ?_
  refine FSteps.op3 hz rfl (dv := []) (by kernel_rfl) (by kernel_rfl) (by kernel_rfl) (fun D s W bA kK hD hW hF hA hK => ?_) ?_
  · have x1 := hA.o 1 _ rfl u1
    have hF := Lib.hid hF
    clear hA
    go_simp
    exact hK.out _ _ ⟨hF.out.zb, hF.out.zq, hF.out.zt.step rfl rfl, hF.out.v4, hF.out.v5, hF.out.k4_0, hF.out.k4_1, hF.out.c4_1, hF.out.g4, hF.out.k5_0, hF.out.k5_1, hF.out.c5_1, hF.out.g5, hF.out.e4_5⟩
  refine FSteps.op3 hz rfl (dv := [0]) (by kernel_rfl) (by kernel_rfl) (by kernel_rfl) (fun D s W bA kK hD hW hF hA hK => ?_) ?_
  · have x9 := hA.i 9 _ rfl rfl (hF.zt.get (j := 0) rfl hW.1)
    obtain ⟨⟨c0, z0⟩, -, -⟩ := hF.zq.rules
    have hF := Lib.hid hF
    clear hA
    go_simp
    exact hK.out _ _ ⟨hF.out.zb, hF.out.zq, hF.out.zt.step rfl rfl, hF.out.v4, hF.out.v5, hF.out.k4_0, hF.out.k4_1, hF.out.c4_1, hF.out.g4, hF.out.k5_0, hF.out.k5_1, hF.out.c5_1, hF.out.g5, hF.out.e4_5⟩
  refine FSteps.op3 hz rfl (dv := []) (by kernel_rfl) (by kernel_rfl) (by kernel_rfl) (fun D s W bA kK hD hW hF hA hK => ?_) ?_
  · have x1 := hA.o 1 _ rfl u1
    have hF := Lib.hid hF
    clear hA
    go_simp
    exact hK.out _ _ ⟨hF.out.zb, hF.out.zq, hF.out.zt.step rfl rfl, hF.out.v4, hF.out.v5, hF.out.k4_0, hF.out.k4_1, hF.out.c4_1, hF.out.g4, hF.out.k5_0, hF.out.k5_1, hF.out.c5_1, hF.out.g5, hF.out.e4_5⟩
  refine FSteps.op3 hz rfl (dv := [2]) (by kernel_rfl) (by kernel_rfl) (by kernel_rfl) (fun D s W bA kK hD hW hF hA hK => ?_) ?_
  · have x11 := hA.i 11 _ rfl rfl (hF.zt.get (j := 2) rfl hW.1)
    obtain ⟨⟨c0, z0⟩, -, -⟩ := hF.zq.rules
    have hF := Lib.hid hF
    clear hA
    go_simp
    exact hK.out _ _ ⟨hF.out.zb, hF.out.zq, hF.out.zt.step rfl rfl, hF.out.v4, hF.out.v5, hF.out.k4_0, hF.out.k4_1, hF.out.c4_1, hF.out.g4, hF.out.k5_0, hF.out.k5_1, hF.out.c5_1, hF.out.g5, hF.out.e4_5⟩
  refine FSteps.op3 hz rfl (dv := []) (by kernel_rfl) (by kernel_rfl) (by kernel_rfl) (fun D s W bA kK hD hW hF hA hK => ?_) ?_
  · have hF := Lib.hid hF
    clear hA
    go_simp
    exact hK.out _ _ ⟨hF.out.zb.al _, Bks.al _ hF.out.zq, hF.out.zt.skip rfl, fun _ => rfl, hF.out.v5, fun _ _ => Bk.new _ _ _, fun h1 => absurd (hF.out.c4_1 h1) (by rw [hD]; decide), fun _ => rfl, fun _ => hF.out.zb.g, fun h1 h2 => (hF.out.k5_0 h1 h2).al _, fun h1 => (hF.out.k5_1 h1).al _, hF.out.c5_1, hF.out.g5, fun _ h => Nat.ne_of_gt (lt_of_either (hF.out.k5_0 h) hF.out.k5_1)⟩
  refine FSteps.op3 hz rfl (dv := []) (by kernel_rfl) (by kernel_rfl) (by kernel_rfl) (fun D s W bA kK hD hW hF hA hK => ?_) ?_
  · have hF := Lib.hid hF
    clear hA
    go_simp
    exact hK.out _ _ ⟨hF.out.zb.al _, Bks.al _ hF.out.zq, hF.out.zt.skip rfl, hF.out.v4, fun _ => rfl, fun h1 h2 => (hF.out.k4_0 h1 h2).al _, fun h1 => (hF.out.k4_1 h1).al _, hF.out.c4_1, hF.out.g4, fun _ _ => Bk.new _ _ _, fun h1 => absurd (hF.out.c5_1 h1) (by rw [hD]; decide), fun _ => rfl, fun _ => hF.out.zb.g, fun h _ => Nat.ne_of_lt (lt_of_either (hF.out.k4_0 h) hF.out.k4_1)⟩
  refine FSteps.op3 hz rfl (dv := [4, 1, 0, 1, 4, 5]) (by kernel_rfl) (by kernel_rfl) (by kernel_rfl) (fun D s W bA kK hD hW hF hA hK => ?_) ?_
  · have x3 := hA.i 3 _ rfl rfl (hF.v4 hW.1)
    have x10 := hA.i 10 _ rfl rfl (hF.zt.get (j := 1) rfl hW.2.1)
    have kk := hF.k4_0 hW.1 hD
    have hge := Nat.le_trans hwm (hF.g4 hW.1); have hge2 := hF.g4 hW.1
    have kc := kk.cell; have kf := kk.free
    have hF := Lib.hid hF
    have kk := Lib.hid kk; have hge := Lib.hid hge; have hge2 := Lib.hid hge2
    clear hA
    go_simp
    exact hK.out undef _ ⟨hF.out.zb.sAll (hge.out) 0 [Value.int .i64 a.lo, Value.int .i64 a.hi, Value.int .i64 a.m, Value.int .i64 a.r, Value.int .i64 a.k], Bks.oAll [Value.int .i64 a.lo, Value.int .i64 a.hi, Value.int .i64 a.m, Value.int .i64 a.r, Value.int .i64 a.k] 0 (Under.outside hge2.out hU) hF.out.zq, hF.out.zt.skip rfl, hF.out.v4, hF.out.v5, fun h1 h2 => no_of h2, fun _ => kk.out.full [Value.int .i64 a.lo, Value.int .i64 a.hi, Value.int .i64 a.m, Value.int .i64 a.r, Value.int .i64 a.k] rfl, fun _ => hW.1, hF.out.g4, fun h1 h2 => Bk.oAll ((hF.out.e4_5 hW.1 h1).symm) [Value.int .i64 a.lo, Value.int .i64 a.hi, Value.int .i64 a.m, Value.int .i64 a.r, Value.int .i64 a.k] 0 (hF.out.k5_0 h1 h2), fun h1 => Bk.oAll ((hF.out.e4_5 hW.1 (hF.out.c5_1 h1)).symm) [Value.int .i64 a.lo, Value.int .i64 a.hi, Value.int .i64 a.m, Value.int .i64 a.r, Value.int .i64 a.k] 0 (hF.out.k5_1 h1), hF.out.c5_1, hF.out.g5, hF.out.e4_5⟩
  refine FSteps.op3 hz rfl (dv := [5, 3, 6, 0, 1, 2, 3, 4, 5, 6]) (by kernel_rfl) (by kernel_rfl) (by kernel_rfl) (fun D s W bA kK hD hW hF hA hK => ?_) ?_
  · have x4 := hA.i 4 _ rfl rfl (hF.v5 hW.1)
    have x12 := hA.i 12 _ rfl rfl (hF.zt.get (j := 3) rfl hW.2.1)
    have kk := hF.k5_0 hW.1 hD
    have hge := Nat.le_trans hwm (hF.g5 hW.1); have hge2 := hF.g5 hW.1
    have kc := kk.cell; have kf := kk.free
    have hF := Lib.hid hF
    have kk := Lib.hid kk; have hge := Lib.hid hge; have hge2 := Lib.hid hge2
    clear hA
    go_simp
    exact hK.out undef _ ⟨hF.out.zb.sAll (hge.out) 0 [Value.int .i64 b.lo, Value.int .i64 b.hi, Value.int .i64 b.m, Value.int .i64 b.r, Value.int .i64 b.k], Bks.oAll [Value.int .i64 b.lo, Value.int .i64 b.hi, Value.int .i64 b.m, Value.int .i64 b.r, Value.int .i64 b.k] 0 (Under.outside hge2.out hU) hF.out.zq, hF.out.zt.skip rfl, hF.out.v4, hF.out.v5, fun h1 h2 => Bk.oAll (hF.out.e4_5 h1 hW.1) [Value.int .i64 b.lo, Value.int .i64 b.hi, Value.int .i64 b.m, Value.int .i64 b.r, Value.int .i64 b.k] 0 (hF.out.k4_0 h1 h2), fun h1 => Bk.oAll (hF.out.e4_5 (hF.out.c4_1 h1) hW.1) [Value.int .i64 b.lo, Value.int .i64 b.hi, Value.int .i64 b.m, Value.int .i64 b.r, Value.int .i64 b.k] 0 (hF.out.k4_1 h1), hF.out.c4_1, hF.out.g4, fun h1 h2 => no_of h2, fun _ => kk.out.full [Value.int .i64 b.lo, Value.int .i64 b.hi, Value.int .i64 b.m, Value.int .i64 b.r, Value.int .i64 b.k] rfl, fun _ => hW.1, hF.out.g5, hF.out.e4_5⟩
  exact FSteps.nil
  intro D s W aF2 hD hF hz' df' hA
  obtain ⟨d0, d1, d2, d3, d4, d5, d6, d7, -⟩ := hD
  replace u1 : Sl aF2 1 _ := hA.o 1 _ rfl u1
  replace u2 : Sl aF2 2 _ := hA.o 2 _ rfl u2
  have u3 : Sl aF2 3 _ := hA.i 3 _ rfl rfl (hF.v4 d4)
  have u4 : Sl aF2 4 _ := hA.i 4 _ rfl rfl (hF.v5 d5)
  have hkX4 := hF.k4_1 d6
  have hgX4 := hF.g4 d4
  have hkX5 := hF.k5_1 d7
  have hgX5 := hF.g5 d5
  have heX4_5 := hF.e4_5 d4 d5
  have hM := hF.zb
  have hB := hF.zq
  generalize pblk (s 3) = n2_4 at hkX4 hgX4 hkX5 hgX5 heX4_5 u3 u4
  generalize pblk (s 4) = n2_5 at hkX4 hgX4 hkX5 hgX5 heX4_5 u3 u4
  have hB : Bks W [(n1_0, #[Value.int .i64 a.lo, Value.int .i64 a.hi, Value.int .i64 a.m, Value.int .i64 a.r, Value.int .i64 a.k, Value.int .i64 b.lo, Value.int .i64 b.hi, Value.int .i64 b.m, Value.int .i64 b.r, Value.int .i64 b.k, Value.int .i64 k], 72), (n1_1, #[Value.int .i64 0, Value.int .i64 0, Value.int .i64 0, Value.int .i64 0, Value.int .i64 0], 27), (n2_4, #[Value.int .i64 a.lo, Value.int .i64 a.hi, Value.int .i64 a.m, Value.int .i64 a.r, Value.int .i64 a.k], 27), (n2_5, #[Value.int .i64 b.lo, Value.int .i64 b.hi, Value.int .i64 b.m, Value.int .i64 b.r, Value.int .i64 b.k], 27)] := ⟨hB.1, hB.2.1, hkX4, hkX5, trivial⟩
  obtain ⟨hl_0, hl_1, -⟩ := hU
  have hne_n1_1_n2_4 : n1_1 ≠ n2_4 := by omega
  have hne_n1_1_n2_5 : n1_1 ≠ n2_5 := by omega
  clear hF hA hz df d0 d1 d2 d3 d4 d5 d6 d7 
  have hz := hz'; have df := df'; clear hz' df'
  clear aF1
  show Code.wp _ _ _ _ _
  refine wp_seq ?_
  obtain ⟨m3, hM, hU, hwm⟩ := start_region hM.b hB
  refine region_go (F := pmul_is_r2_3 a b k n1_0 n1_1 n2_4 n2_5 w m3) [13, 14, 15, 16, 17, 18, 19, 20, 21, 22, 23, 24, 25, 26, 27, 28, 29, 30, 31, 32, 5, 6, 7, 8] [0, 1, 2, 3, 4, 5, 6, 7, 8, 9, 10, 11, 12, 13, 14, 15, 16, 17, 18, 19, 20, 21, 22, 23] hz df (by kernel_rfl) (by kernel_rfl) (by kernel_rfl) (fun s hs0 => ⟨hM.drew, Bks.drew hB, Vals.none s _⟩) ?_ ?_
  refine FSteps.op3 hz rfl (dv := []) (by kernel_rfl) (by kernel_rfl) (by kernel_rfl) (fun D s W bA kK hD hW hF hA hK => ?_) ?_
  · have x3 := hA.o 3 _ rfl u3
    have hF := Lib.hid hF
    clear hA
    go_simp
    exact hK.out _ _ ⟨hF.out.zb, hF.out.zq, hF.out.zt.step rfl rfl⟩
  refine FSteps.op3 hz rfl (dv := [0]) (by kernel_rfl) (by kernel_rfl) (by kernel_rfl) (fun D s W bA kK hD hW hF hA hK => ?_) ?_
  · have x13 := hA.i 13 _ rfl rfl (hF.zt.get (j := 0) rfl hW.1)
    obtain ⟨-, -, ⟨c2, z2⟩, -, -⟩ := hF.zq.rules
    have hF := Lib.hid hF
    clear hA
    go_simp
    exact hK.out _ _ ⟨hF.out.zb, hF.out.zq, hF.out.zt.step rfl rfl⟩
  refine FSteps.op3 hz rfl (dv := []) (by kernel_rfl) (by kernel_rfl) (by kernel_rfl) (fun D s W bA kK hD hW hF hA hK => ?_) ?_
  · have x4 := hA.o 4 _ rfl u4
    have hF := Lib.hid hF
    clear hA
    go_simp
    exact hK.out _ _ ⟨hF.out.zb, hF.out.zq, hF.out.zt.step rfl rfl⟩
  refine FSteps.op3 hz rfl (dv := [2]) (by kernel_rfl) (by kernel_rfl) (by kernel_rfl) (fun D s W bA kK hD hW hF hA hK => ?_) ?_
  · have x15 := hA.i 15 _ rfl rfl (hF.zt.get (j := 2) rfl hW.1)
    obtain ⟨-, -, -, ⟨c3, z3⟩, -⟩ := hF.zq.rules
    have hF := Lib.hid hF
    clear hA
    go_simp
    exact hK.out _ _ ⟨hF.out.zb, hF.out.zq, hF.out.zt.step rfl rfl⟩
  refine FSteps.op3 hz rfl (dv := [1, 3]) (by kernel_rfl) (by kernel_rfl) (by kernel_rfl) (fun D s W bA kK hD hW hF hA hK => ?_) ?_
  · have x14 := hA.i 14 _ rfl rfl (hF.zt.get (j := 1) rfl hW.1)
    have x16 := hA.i 16 _ rfl rfl (hF.zt.get (j := 3) rfl hW.2.1)
    have hF := Lib.hid hF
    clear hA
    have hw4 : IntKind.i64.wrap (a.lo * b.lo) = a.lo * b.lo := IntWalk.i64_in _ (by omega)
    go_simp
    exact hK.out _ _ ⟨hF.out.zb, hF.out.zq, hF.out.zt.step rfl rfl⟩
  refine FSteps.op3 hz rfl (dv := []) (by kernel_rfl) (by kernel_rfl) (by kernel_rfl) (fun D s W bA kK hD hW hF hA hK => ?_) ?_
  · have x3 := hA.o 3 _ rfl u3
    have hF := Lib.hid hF
    clear hA
    go_simp
    exact hK.out _ _ ⟨hF.out.zb, hF.out.zq, hF.out.zt.step rfl rfl⟩
  refine FSteps.op3 hz rfl (dv := [5]) (by kernel_rfl) (by kernel_rfl) (by kernel_rfl) (fun D s W bA kK hD hW hF hA hK => ?_) ?_
  · have x18 := hA.i 18 _ rfl rfl (hF.zt.get (j := 5) rfl hW.1)
    obtain ⟨-, -, ⟨c2, z2⟩, -, -⟩ := hF.zq.rules
    have hF := Lib.hid hF
    clear hA
    go_simp
    exact hK.out _ _ ⟨hF.out.zb, hF.out.zq, hF.out.zt.step rfl rfl⟩
  refine FSteps.op3 hz rfl (dv := []) (by kernel_rfl) (by kernel_rfl) (by kernel_rfl) (fun D s W bA kK hD hW hF hA hK => ?_) ?_
  · have x4 := hA.o 4 _ rfl u4
    have hF := Lib.hid hF
    clear hA
    go_simp
    exact hK.out _ _ ⟨hF.out.zb, hF.out.zq, hF.out.zt.step rfl rfl⟩
  refine FSteps.op3 hz rfl (dv := [7]) (by kernel_rfl) (by kernel_rfl) (by kernel_rfl) (fun D s W bA kK hD hW hF hA hK => ?_) ?_
  · have x20 := hA.i 20 _ rfl rfl (hF.zt.get (j := 7) rfl hW.1)
    obtain ⟨-, -, -, ⟨c3, z3⟩, -⟩ := hF.zq.rules
    have hF := Lib.hid hF
    clear hA
    go_simp
    exact hK.out _ _ ⟨hF.out.zb, hF.out.zq, hF.out.zt.step rfl rfl⟩
  refine FSteps.op3 hz rfl (dv := [6, 8]) (by kernel_rfl) (by kernel_rfl) (by kernel_rfl) (fun D s W bA kK hD hW hF hA hK => ?_) ?_
  · have x19 := hA.i 19 _ rfl rfl (hF.zt.get (j := 6) rfl hW.1)
    have x21 := hA.i 21 _ rfl rfl (hF.zt.get (j := 8) rfl hW.2.1)
    have hF := Lib.hid hF
    clear hA
    have hw9 : IntKind.i64.wrap (a.lo * b.hi) = a.lo * b.hi := IntWalk.i64_in _ (by omega)
    go_simp
    exact hK.out _ _ ⟨hF.out.zb, hF.out.zq, hF.out.zt.step rfl rfl⟩
  refine FSteps.op3 hz rfl (dv := []) (by kernel_rfl) (by kernel_rfl) (by kernel_rfl) (fun D s W bA kK hD hW hF hA hK => ?_) ?_
  · have x3 := hA.o 3 _ rfl u3
    have hF := Lib.hid hF
    clear hA
    go_simp
    exact hK.out _ _ ⟨hF.out.zb, hF.out.zq, hF.out.zt.step rfl rfl⟩
  refine FSteps.op3 hz rfl (dv := [10]) (by kernel_rfl) (by kernel_rfl) (by kernel_rfl) (fun D s W bA kK hD hW hF hA hK => ?_) ?_
  · have x23 := hA.i 23 _ rfl rfl (hF.zt.get (j := 10) rfl hW.1)
    obtain ⟨-, -, ⟨c2, z2⟩, -, -⟩ := hF.zq.rules
    have hF := Lib.hid hF
    clear hA
    go_simp
    exact hK.out _ _ ⟨hF.out.zb, hF.out.zq, hF.out.zt.step rfl rfl⟩
  refine FSteps.op3 hz rfl (dv := []) (by kernel_rfl) (by kernel_rfl) (by kernel_rfl) (fun D s W bA kK hD hW hF hA hK => ?_) ?_
  · have x4 := hA.o 4 _ rfl u4
    have hF := Lib.hid hF
    clear hA
    go_simp
    exact hK.out _ _ ⟨hF.out.zb, hF.out.zq, hF.out.zt.step rfl rfl⟩
  refine FSteps.op3 hz rfl (dv := [12]) (by kernel_rfl) (by kernel_rfl) (by kernel_rfl) (fun D s W bA kK hD hW hF hA hK => ?_) ?_
  · have x25 := hA.i 25 _ rfl rfl (hF.zt.get (j := 12) rfl hW.1)
    obtain ⟨-, -, -, ⟨c3, z3⟩, -⟩ := hF.zq.rules
    have hF := Lib.hid hF
    clear hA
    go_simp
    exact hK.out _ _ ⟨hF.out.zb, hF.out.zq, hF.out.zt.step rfl rfl⟩
  refine FSteps.op3 hz rfl (dv := [11, 13]) (by kernel_rfl) (by kernel_rfl) (by kernel_rfl) (fun D s W bA kK hD hW hF hA hK => ?_) ?_
  · have x24 := hA.i 24 _ rfl rfl (hF.zt.get (j := 11) rfl hW.1)
    have x26 := hA.i 26 _ rfl rfl (hF.zt.get (j := 13) rfl hW.2.1)
    have hF := Lib.hid hF
    clear hA
    have hw14 : IntKind.i64.wrap (a.hi * b.lo) = a.hi * b.lo := IntWalk.i64_in _ (by omega)
    go_simp
    exact hK.out _ _ ⟨hF.out.zb, hF.out.zq, hF.out.zt.step rfl rfl⟩
  refine FSteps.op3 hz rfl (dv := []) (by kernel_rfl) (by kernel_rfl) (by kernel_rfl) (fun D s W bA kK hD hW hF hA hK => ?_) ?_
  · have x3 := hA.o 3 _ rfl u3
    have hF := Lib.hid hF
    clear hA
    go_simp
    exact hK.out _ _ ⟨hF.out.zb, hF.out.zq, hF.out.zt.step rfl rfl⟩
  refine FSteps.op3 hz rfl (dv := [15]) (by kernel_rfl) (by kernel_rfl) (by kernel_rfl) (fun D s W bA kK hD hW hF hA hK => ?_) ?_
  · have x28 := hA.i 28 _ rfl rfl (hF.zt.get (j := 15) rfl hW.1)
    obtain ⟨-, -, ⟨c2, z2⟩, -, -⟩ := hF.zq.rules
    have hF := Lib.hid hF
    clear hA
    go_simp
    exact hK.out _ _ ⟨hF.out.zb, hF.out.zq, hF.out.zt.step rfl rfl⟩
  refine FSteps.op3 hz rfl (dv := []) (by kernel_rfl) (by kernel_rfl) (by kernel_rfl) (fun D s W bA kK hD hW hF hA hK => ?_) ?_
  · have x4 := hA.o 4 _ rfl u4
    have hF := Lib.hid hF
    clear hA
    go_simp
    exact hK.out _ _ ⟨hF.out.zb, hF.out.zq, hF.out.zt.step rfl rfl⟩
  refine FSteps.op3 hz rfl (dv := [17]) (by kernel_rfl) (by kernel_rfl) (by kernel_rfl) (fun D s W bA kK hD hW hF hA hK => ?_) ?_
  · have x30 := hA.i 30 _ rfl rfl (hF.zt.get (j := 17) rfl hW.1)
    obtain ⟨-, -, -, ⟨c3, z3⟩, -⟩ := hF.zq.rules
    have hF := Lib.hid hF
    clear hA
    go_simp
    exact hK.out _ _ ⟨hF.out.zb, hF.out.zq, hF.out.zt.step rfl rfl⟩
  refine FSteps.op3 hz rfl (dv := [16, 18]) (by kernel_rfl) (by kernel_rfl) (by kernel_rfl) (fun D s W bA kK hD hW hF hA hK => ?_) ?_
  · have x29 := hA.i 29 _ rfl rfl (hF.zt.get (j := 16) rfl hW.1)
    have x31 := hA.i 31 _ rfl rfl (hF.zt.get (j := 18) rfl hW.2.1)
    have hF := Lib.hid hF
    clear hA
    have hw19 : IntKind.i64.wrap (a.hi * b.hi) = a.hi * b.hi := IntWalk.i64_in _ (by omega)
    go_simp
    exact hK.out _ _ ⟨hF.out.zb, hF.out.zq, hF.out.zt.step rfl rfl⟩
  refine FSteps.op3 hz rfl (dv := [4, 0, 1, 2, 3, 4]) (by kernel_rfl) (by kernel_rfl) (by kernel_rfl) (fun D s W bA kK hD hW hF hA hK => ?_) ?_
  · have x17 := hA.i 17 _ rfl rfl (hF.zt.get (j := 4) rfl hW.1)
    have hF := Lib.hid hF
    clear hA
    go_simp
    exact hK.out _ _ ⟨hF.out.zb, hF.out.zq, hF.out.zt.step rfl rfl⟩
  refine FSteps.op3 hz rfl (dv := [9, 20, 0, 1, 2, 3, 4, 5, 6, 7, 8, 9, 20]) (by kernel_rfl) (by kernel_rfl) (by kernel_rfl) (fun D s W bA kK hD hW hF hA hK => ?_) ?_
  · have x22 := hA.i 22 _ rfl rfl (hF.zt.get (j := 9) rfl hW.1)
    have hF := Lib.hid hF
    clear hA
    go_simp
    exact hK.out _ _ ⟨hF.out.zb, hF.out.zq, hF.out.zt.step rfl rfl⟩
  refine FSteps.op3 hz rfl (dv := [14, 21, 0, 1, 2, 3, 4, 5, 6, 7, 8, 9, 10, 11, 12, 13, 14, 20, 21]) (by kernel_rfl) (by kernel_rfl) (by kernel_rfl) (fun D s W bA kK hD hW hF hA hK => ?_) ?_
  · have x27 := hA.i 27 _ rfl rfl (hF.zt.get (j := 14) rfl hW.1)
    have hF := Lib.hid hF
    clear hA
    go_simp
    exact hK.out _ _ ⟨hF.out.zb, hF.out.zq, hF.out.zt.step rfl rfl⟩
  refine FSteps.op3 hz rfl (dv := [19, 22, 0, 1, 2, 3, 4, 5, 6, 7, 8, 9, 10, 11, 12, 13, 14, 15, 16, 17, 18, 19, 20, 21, 22]) (by kernel_rfl) (by kernel_rfl) (by kernel_rfl) (fun D s W bA kK hD hW hF hA hK => ?_) ?_
  · have x32 := hA.i 32 _ rfl rfl (hF.zt.get (j := 19) rfl hW.1)
    have hF := Lib.hid hF
    clear hA
    go_simp
    exact hK.out _ _ ⟨hF.out.zb, hF.out.zq, hF.out.zt.step rfl rfl⟩
  exact FSteps.nil
  intro D s W aF3 hD hF hz' df' hA
  obtain ⟨d0, d1, d2, d3, d4, d5, d6, d7, d8, d9, d10, d11, d12, d13, d14, d15, d16, d17, d18, d19, d20, d21, d22, d23, -⟩ := hD
  replace u1 : Sl aF3 1 _ := hA.o 1 _ rfl u1
  replace u2 : Sl aF3 2 _ := hA.o 2 _ rfl u2
  replace u3 : Sl aF3 3 _ := hA.o 3 _ rfl u3
  replace u4 : Sl aF3 4 _ := hA.o 4 _ rfl u4
  have u5 : Sl aF3 5 _ := hA.i 5 _ rfl rfl (hF.zt.get (j := 20) rfl d20)
  have u6 : Sl aF3 6 _ := hA.i 6 _ rfl rfl (hF.zt.get (j := 21) rfl d21)
  have u7 : Sl aF3 7 _ := hA.i 7 _ rfl rfl (hF.zt.get (j := 22) rfl d22)
  have u8 : Sl aF3 8 _ := hA.i 8 _ rfl rfl (hF.zt.get (j := 23) rfl d23)
  have hM := hF.zb
  have hB := hF.zq
  have hB : Bks W [(n1_0, #[Value.int .i64 a.lo, Value.int .i64 a.hi, Value.int .i64 a.m, Value.int .i64 a.r, Value.int .i64 a.k, Value.int .i64 b.lo, Value.int .i64 b.hi, Value.int .i64 b.m, Value.int .i64 b.r, Value.int .i64 b.k, Value.int .i64 k], 72), (n1_1, #[Value.int .i64 0, Value.int .i64 0, Value.int .i64 0, Value.int .i64 0, Value.int .i64 0], 27), (n2_4, #[Value.int .i64 a.lo, Value.int .i64 a.hi, Value.int .i64 a.m, Value.int .i64 a.r, Value.int .i64 a.k], 27), (n2_5, #[Value.int .i64 b.lo, Value.int .i64 b.hi, Value.int .i64 b.m, Value.int .i64 b.r, Value.int .i64 b.k], 27)] := ⟨hB.1, hB.2.1, hB.2.2.1, hB.2.2.2.1, trivial⟩
  clear hF hA hz df d0 d1 d2 d3 d4 d5 d6 d7 d8 d9 d10 d11 d12 d13 d14 d15 d16 d17 d18 d19 d20 d21 d22 d23 hU
  have hz := hz'; have df := df'; clear hz' df'
  clear aF2
  show Code.wp _ _ _ _ _
  refine wp_seq ?_
  obtain ⟨m4, hM, hU, hwm⟩ := start_region hM.b hB
  obtain ⟨hk_0, hk_1, hk_2, hk_3, -⟩ := hB
  obtain ⟨hl_0, hl_1, hl_2, hl_3, -⟩ := hU
  have hB : Bks _ [(n1_0, #[Value.int .i64 a.lo, Value.int .i64 a.hi, Value.int .i64 a.m, Value.int .i64 a.r, Value.int .i64 a.k, Value.int .i64 b.lo, Value.int .i64 b.hi, Value.int .i64 b.m, Value.int .i64 b.r, Value.int .i64 b.k, Value.int .i64 k], 72), (n2_4, #[Value.int .i64 a.lo, Value.int .i64 a.hi, Value.int .i64 a.m, Value.int .i64 a.r, Value.int .i64 a.k], 27), (n2_5, #[Value.int .i64 b.lo, Value.int .i64 b.hi, Value.int .i64 b.m, Value.int .i64 b.r, Value.int .i64 b.k], 27)] := ⟨hk_0, hk_2, hk_3, trivial⟩
  have hU : Under m4 [(n1_0, #[Value.int .i64 a.lo, Value.int .i64 a.hi, Value.int .i64 a.m, Value.int .i64 a.r, Value.int .i64 a.k, Value.int .i64 b.lo, Value.int .i64 b.hi, Value.int .i64 b.m, Value.int .i64 b.r, Value.int .i64 b.k, Value.int .i64 k], 72), (n2_4, #[Value.int .i64 a.lo, Value.int .i64 a.hi, Value.int .i64 a.m, Value.int .i64 a.r, Value.int .i64 a.k], 27), (n2_5, #[Value.int .i64 b.lo, Value.int .i64 b.hi, Value.int .i64 b.m, Value.int .i64 b.r, Value.int .i64 b.k], 27)] := ⟨hl_0, hl_2, hl_3, trivial⟩
  refine region_go (F := pmul_is_r3_4 a b k n1_0 n1_1 n2_4 n2_5 w m4) [33, 34, 35, 36, 37, 38, 39, 40, 41, 42, 43, 44, 45, 46, 47, 48, 49, 50, 51, 52, 53, 54, 55, 56, 57, 58, 59, 60, 61, 62, 63] [0, 1, 2, 3, 4, 5, 6, 7, 8, 9, 10, 11, 12, 13, 14, 15, 16, 17, 18, 19, 20, 21, 22, 23, 24, 25, 26, 27, 28, 29, 30, 31] hz df (by kernel_rfl) (by kernel_rfl) (by kernel_rfl) (fun s hs0 => ⟨hM.drew, Bks.drew hB, Vals.none s _, fun h => no_of' h, fun h => no_of' h, fun h => no_of' h, fun _ => hk_1.drew, fun h => no_of' h⟩) ?_ ?_
  refine FSteps.op3 hz rfl (dv := []) (by kernel_rfl) (by kernel_rfl) (by kernel_rfl) (fun D s W bA kK hD hW hF hA hK => ?_) ?_
  · have x1 := hA.o 1 _ rfl u1
    obtain ⟨⟨c0, z0⟩, -, -, -⟩ := hF.zq.rules
    have hF := Lib.hid hF
    clear hA
    go_simp
    exact hK.out _ _ ⟨hF.out.zb, hF.out.zq, hF.out.zt.step rfl rfl, hF.out.v28, hF.out.k28_0, hF.out.g28, hF.out.kL0_0, hF.out.kL0_1⟩
  refine FSteps.op3 hz rfl (dv := []) (by kernel_rfl) (by kernel_rfl) (by kernel_rfl) (fun D s W bA kK hD hW hF hA hK => ?_) ?_
  · have x5 := hA.o 5 _ rfl u5
    have hF := Lib.hid hF
    clear hA
    go_simp
    exact hK.out _ _ ⟨hF.out.zb, hF.out.zq, hF.out.zt.step rfl rfl, hF.out.v28, hF.out.k28_0, hF.out.g28, hF.out.kL0_0, hF.out.kL0_1⟩
  refine FSteps.op3 hz rfl (dv := []) (by kernel_rfl) (by kernel_rfl) (by kernel_rfl) (fun D s W bA kK hD hW hF hA hK => ?_) ?_
  · have x6 := hA.o 6 _ rfl u6
    have hF := Lib.hid hF
    clear hA
    go_simp
    exact hK.out _ _ ⟨hF.out.zb, hF.out.zq, hF.out.zt.step rfl rfl, hF.out.v28, hF.out.k28_0, hF.out.g28, hF.out.kL0_0, hF.out.kL0_1⟩
  refine FSteps.op3 hz rfl (dv := []) (by kernel_rfl) (by kernel_rfl) (by kernel_rfl) (fun D s W bA kK hD hW hF hA hK => ?_) ?_
  · have x7 := hA.o 7 _ rfl u7
    have hF := Lib.hid hF
    clear hA
    go_simp
    exact hK.out _ _ ⟨hF.out.zb, hF.out.zq, hF.out.zt.step rfl rfl, hF.out.v28, hF.out.k28_0, hF.out.g28, hF.out.kL0_0, hF.out.kL0_1⟩
  refine FSteps.op3 hz rfl (dv := []) (by kernel_rfl) (by kernel_rfl) (by kernel_rfl) (fun D s W bA kK hD hW hF hA hK => ?_) ?_
  · have x8 := hA.o 8 _ rfl u8
    have hF := Lib.hid hF
    clear hA
    go_simp
    exact hK.out _ _ ⟨hF.out.zb, hF.out.zq, hF.out.zt.step rfl rfl, hF.out.v28, hF.out.k28_0, hF.out.g28, hF.out.kL0_0, hF.out.kL0_1⟩
  refine FSteps.op3 hz rfl (dv := [1, 2, 3, 4]) (by kernel_rfl) (by kernel_rfl) (by kernel_rfl) (fun D s W bA kK hD hW hF hA hK => ?_) ?_
  · have x34 := hA.i 34 _ rfl rfl (hF.zt.get (j := 1) rfl hW.1)
    have x35 := hA.i 35 _ rfl rfl (hF.zt.get (j := 2) rfl hW.2.1)
    have x36 := hA.i 36 _ rfl rfl (hF.zt.get (j := 3) rfl hW.2.2.1)
    have x37 := hA.i 37 _ rfl rfl (hF.zt.get (j := 4) rfl hW.2.2.2.1)
    have hF := Lib.hid hF
    clear hA
    go_simp
    exact hK.out _ _ ⟨hF.out.zb, hF.out.zq, hF.out.zt.step rfl (look_eq rfl (min4_is _ _ _ _)), hF.out.v28, hF.out.k28_0, hF.out.g28, hF.out.kL0_0, hF.out.kL0_1⟩
  refine FSteps.op3 hz rfl (dv := []) (by kernel_rfl) (by kernel_rfl) (by kernel_rfl) (fun D s W bA kK hD hW hF hA hK => ?_) ?_
  · have x5 := hA.o 5 _ rfl u5
    have hF := Lib.hid hF
    clear hA
    go_simp
    exact hK.out _ _ ⟨hF.out.zb, hF.out.zq, hF.out.zt.step rfl rfl, hF.out.v28, hF.out.k28_0, hF.out.g28, hF.out.kL0_0, hF.out.kL0_1⟩
  refine FSteps.op3 hz rfl (dv := []) (by kernel_rfl) (by kernel_rfl) (by kernel_rfl) (fun D s W bA kK hD hW hF hA hK => ?_) ?_
  · have x6 := hA.o 6 _ rfl u6
    have hF := Lib.hid hF
    clear hA
    go_simp
    exact hK.out _ _ ⟨hF.out.zb, hF.out.zq, hF.out.zt.step rfl rfl, hF.out.v28, hF.out.k28_0, hF.out.g28, hF.out.kL0_0, hF.out.kL0_1⟩
  refine FSteps.op3 hz rfl (dv := []) (by kernel_rfl) (by kernel_rfl) (by kernel_rfl) (fun D s W bA kK hD hW hF hA hK => ?_) ?_
  · have x7 := hA.o 7 _ rfl u7
    have hF := Lib.hid hF
    clear hA
    go_simp
    exact hK.out _ _ ⟨hF.out.zb, hF.out.zq, hF.out.zt.step rfl rfl, hF.out.v28, hF.out.k28_0, hF.out.g28, hF.out.kL0_0, hF.out.kL0_1⟩
  refine FSteps.op3 hz rfl (dv := []) (by kernel_rfl) (by kernel_rfl) (by kernel_rfl) (fun D s W bA kK hD hW hF hA hK => ?_) ?_
  · have x8 := hA.o 8 _ rfl u8
    have hF := Lib.hid hF
    clear hA
    go_simp
    exact hK.out _ _ ⟨hF.out.zb, hF.out.zq, hF.out.zt.step rfl rfl, hF.out.v28, hF.out.k28_0, hF.out.g28, hF.out.kL0_0, hF.out.kL0_1⟩
  refine FSteps.op3 hz rfl (dv := [6, 7, 8, 9]) (by kernel_rfl) (by kernel_rfl) (by kernel_rfl) (fun D s W bA kK hD hW hF hA hK => ?_) ?_
  · have x39 := hA.i 39 _ rfl rfl (hF.zt.get (j := 6) rfl hW.1)
    have x40 := hA.i 40 _ rfl rfl (hF.zt.get (j := 7) rfl hW.2.1)
    have x41 := hA.i 41 _ rfl rfl (hF.zt.get (j := 8) rfl hW.2.2.1)
    have x42 := hA.i 42 _ rfl rfl (hF.zt.get (j := 9) rfl hW.2.2.2.1)
    have hF := Lib.hid hF
    clear hA
    go_simp
    exact hK.out _ _ ⟨hF.out.zb, hF.out.zq, hF.out.zt.step rfl (look_eq rfl (max4_is _ _ _ _)), hF.out.v28, hF.out.k28_0, hF.out.g28, hF.out.kL0_0, hF.out.kL0_1⟩
  refine FSteps.op3 hz rfl (dv := []) (by kernel_rfl) (by kernel_rfl) (by kernel_rfl) (fun D s W bA kK hD hW hF hA hK => ?_) ?_
  · have x3 := hA.o 3 _ rfl u3
    have hF := Lib.hid hF
    clear hA
    go_simp
    exact hK.out _ _ ⟨hF.out.zb, hF.out.zq, hF.out.zt.step rfl rfl, hF.out.v28, hF.out.k28_0, hF.out.g28, hF.out.kL0_0, hF.out.kL0_1⟩
  refine FSteps.op3 hz rfl (dv := [11]) (by kernel_rfl) (by kernel_rfl) (by kernel_rfl) (fun D s W bA kK hD hW hF hA hK => ?_) ?_
  · have x44 := hA.i 44 _ rfl rfl (hF.zt.get (j := 11) rfl hW.1)
    obtain ⟨-, ⟨c1, z1⟩, -, -⟩ := hF.zq.rules
    have hF := Lib.hid hF
    clear hA
    go_simp
    exact hK.out _ _ ⟨hF.out.zb, hF.out.zq, hF.out.zt.step rfl rfl, hF.out.v28, hF.out.k28_0, hF.out.g28, hF.out.kL0_0, hF.out.kL0_1⟩
  refine FSteps.op3 hz rfl (dv := [12]) (by kernel_rfl) (by kernel_rfl) (by kernel_rfl) (fun D s W bA kK hD hW hF hA hK => ?_) ?_
  · have x45 := hA.i 45 _ rfl rfl (hF.zt.get (j := 12) rfl hW.1)
    have hF := Lib.hid hF
    clear hA
    go_simp
    (go_at_call 50; ((with_reducible_and_instances refine (abs_b _ (by omega) _).mono ?_)); rintro e W1 ⟨rfl, hb⟩; (try unfold abVal))
    (try go_wp2_with fail)
    exact hK.out _ _ ⟨hF.out.zb.on hb, Bks.on hb hF.out.zq, hF.out.zt.step rfl rfl, hF.out.v28, fun h1 => (hF.out.k28_0 h1).on hb, hF.out.g28, fun h2 => (hF.out.kL0_0 h2).on hb, fun h1 => (hF.out.kL0_1 h1).on hb⟩
  refine FSteps.op3 hz rfl (dv := []) (by kernel_rfl) (by kernel_rfl) (by kernel_rfl) (fun D s W bA kK hD hW hF hA hK => ?_) ?_
  · have x4 := hA.o 4 _ rfl u4
    obtain ⟨-, -, ⟨c2, z2⟩, -⟩ := hF.zq.rules
    have hF := Lib.hid hF
    clear hA
    go_simp
    exact hK.out _ _ ⟨hF.out.zb, hF.out.zq, hF.out.zt.step rfl rfl, hF.out.v28, hF.out.k28_0, hF.out.g28, hF.out.kL0_0, hF.out.kL0_1⟩
  refine FSteps.op3 hz rfl (dv := [14, 13]) (by kernel_rfl) (by kernel_rfl) (by kernel_rfl) (fun D s W bA kK hD hW hF hA hK => ?_) ?_
  · have x47 := hA.i 47 _ rfl rfl (hF.zt.get (j := 14) rfl hW.1)
    have hF := Lib.hid hF
    clear hA
    go_simp
    (go_at_call 44; ((with_reducible_and_instances refine (step_ab b _).mono ?_)); rintro e W1 ⟨rfl, hb⟩; (try unfold abVal))
    (try go_wp2_with fail)
    exact hK.out _ _ ⟨hF.out.zb.on hb, Bks.on hb hF.out.zq, hF.out.zt.step rfl rfl, hF.out.v28, fun h1 => (hF.out.k28_0 h1).on hb, hF.out.g28, fun h2 => (hF.out.kL0_0 h2).on hb, fun h1 => (hF.out.kL0_1 h1).on hb⟩
  refine FSteps.op3 hz rfl (dv := [13, 15]) (by kernel_rfl) (by kernel_rfl) (by kernel_rfl) (fun D s W bA kK hD hW hF hA hK => ?_) ?_
  · have x46 := hA.i 46 _ rfl rfl (hF.zt.get (j := 13) rfl hW.1)
    have x48 := hA.i 48 _ rfl rfl (hF.zt.get (j := 15) rfl hW.2.1)
    have hF := Lib.hid hF
    clear hA
    have hw16 : IntKind.i64.wrap ((absS a.lo) * (stepS b)) = (absS a.lo) * (stepS b) := IntWalk.i64_in _ (by omega)
    go_simp
    exact hK.out _ _ ⟨hF.out.zb, hF.out.zq, hF.out.zt.step rfl rfl, hF.out.v28, hF.out.k28_0, hF.out.g28, hF.out.kL0_0, hF.out.kL0_1⟩
  refine FSteps.op3 hz rfl (dv := []) (by kernel_rfl) (by kernel_rfl) (by kernel_rfl) (fun D s W bA kK hD hW hF hA hK => ?_) ?_
  · have x4 := hA.o 4 _ rfl u4
    have hF := Lib.hid hF
    clear hA
    go_simp
    exact hK.out _ _ ⟨hF.out.zb, hF.out.zq, hF.out.zt.step rfl rfl, hF.out.v28, hF.out.k28_0, hF.out.g28, hF.out.kL0_0, hF.out.kL0_1⟩
  refine FSteps.op3 hz rfl (dv := [17]) (by kernel_rfl) (by kernel_rfl) (by kernel_rfl) (fun D s W bA kK hD hW hF hA hK => ?_) ?_
  · have x50 := hA.i 50 _ rfl rfl (hF.zt.get (j := 17) rfl hW.1)
    obtain ⟨-, -, ⟨c2, z2⟩, -⟩ := hF.zq.rules
    have hF := Lib.hid hF
    clear hA
    go_simp
    exact hK.out _ _ ⟨hF.out.zb, hF.out.zq, hF.out.zt.step rfl rfl, hF.out.v28, hF.out.k28_0, hF.out.g28, hF.out.kL0_0, hF.out.kL0_1⟩
  refine FSteps.op3 hz rfl (dv := [18, 15]) (by kernel_rfl) (by kernel_rfl) (by kernel_rfl) (fun D s W bA kK hD hW hF hA hK => ?_) ?_
  · have x51 := hA.i 51 _ rfl rfl (hF.zt.get (j := 18) rfl hW.1)
    have hF := Lib.hid hF
    clear hA
    go_simp
    (go_at_call 50; ((with_reducible_and_instances refine (abs_b _ (by omega) _).mono ?_)); rintro e W1 ⟨rfl, hb⟩; (try unfold abVal))
    (try go_wp2_with fail)
    exact hK.out _ _ ⟨hF.out.zb.on hb, Bks.on hb hF.out.zq, hF.out.zt.step rfl rfl, hF.out.v28, fun h1 => (hF.out.k28_0 h1).on hb, hF.out.g28, fun h2 => (hF.out.kL0_0 h2).on hb, fun h1 => (hF.out.kL0_1 h1).on hb⟩
  refine FSteps.op3 hz rfl (dv := []) (by kernel_rfl) (by kernel_rfl) (by kernel_rfl) (fun D s W bA kK hD hW hF hA hK => ?_) ?_
  · have x3 := hA.o 3 _ rfl u3
    obtain ⟨-, ⟨c1, z1⟩, -, -⟩ := hF.zq.rules
    have hF := Lib.hid hF
    clear hA
    go_simp
    exact hK.out _ _ ⟨hF.out.zb, hF.out.zq, hF.out.zt.step rfl rfl, hF.out.v28, hF.out.k28_0, hF.out.g28, hF.out.kL0_0, hF.out.kL0_1⟩
  refine FSteps.op3 hz rfl (dv := [20, 19]) (by kernel_rfl) (by kernel_rfl) (by kernel_rfl) (fun D s W bA kK hD hW hF hA hK => ?_) ?_
  · have x53 := hA.i 53 _ rfl rfl (hF.zt.get (j := 20) rfl hW.1)
    have hF := Lib.hid hF
    clear hA
    go_simp
    (go_at_call 44; ((with_reducible_and_instances refine (step_ab a _).mono ?_)); rintro e W1 ⟨rfl, hb⟩; (try unfold abVal))
    (try go_wp2_with fail)
    exact hK.out _ _ ⟨hF.out.zb.on hb, Bks.on hb hF.out.zq, hF.out.zt.step rfl rfl, hF.out.v28, fun h1 => (hF.out.k28_0 h1).on hb, hF.out.g28, fun h2 => (hF.out.kL0_0 h2).on hb, fun h1 => (hF.out.kL0_1 h1).on hb⟩
  refine FSteps.op3 hz rfl (dv := [19, 21]) (by kernel_rfl) (by kernel_rfl) (by kernel_rfl) (fun D s W bA kK hD hW hF hA hK => ?_) ?_
  · have x52 := hA.i 52 _ rfl rfl (hF.zt.get (j := 19) rfl hW.1)
    have x54 := hA.i 54 _ rfl rfl (hF.zt.get (j := 21) rfl hW.2.1)
    have hF := Lib.hid hF
    clear hA
    have hw22 : IntKind.i64.wrap ((absS b.lo) * (stepS a)) = (absS b.lo) * (stepS a) := IntWalk.i64_in _ (by omega)
    go_simp
    exact hK.out _ _ ⟨hF.out.zb, hF.out.zq, hF.out.zt.step rfl rfl, hF.out.v28, hF.out.k28_0, hF.out.g28, hF.out.kL0_0, hF.out.kL0_1⟩
  refine FSteps.op3 hz rfl (dv := []) (by kernel_rfl) (by kernel_rfl) (by kernel_rfl) (fun D s W bA kK hD hW hF hA hK => ?_) ?_
  · have x3 := hA.o 3 _ rfl u3
    obtain ⟨-, ⟨c1, z1⟩, -, -⟩ := hF.zq.rules
    have hF := Lib.hid hF
    clear hA
    go_simp
    exact hK.out _ _ ⟨hF.out.zb, hF.out.zq, hF.out.zt.step rfl rfl, hF.out.v28, hF.out.k28_0, hF.out.g28, hF.out.kL0_0, hF.out.kL0_1⟩
  refine FSteps.op3 hz rfl (dv := [23, 21]) (by kernel_rfl) (by kernel_rfl) (by kernel_rfl) (fun D s W bA kK hD hW hF hA hK => ?_) ?_
  · have x56 := hA.i 56 _ rfl rfl (hF.zt.get (j := 23) rfl hW.1)
    have hF := Lib.hid hF
    clear hA
    go_simp
    (go_at_call 44; ((with_reducible_and_instances refine (step_ab a _).mono ?_)); rintro e W1 ⟨rfl, hb⟩; (try unfold abVal))
    (try go_wp2_with fail)
    exact hK.out _ _ ⟨hF.out.zb.on hb, Bks.on hb hF.out.zq, hF.out.zt.step rfl rfl, hF.out.v28, fun h1 => (hF.out.k28_0 h1).on hb, hF.out.g28, fun h2 => (hF.out.kL0_0 h2).on hb, fun h1 => (hF.out.kL0_1 h1).on hb⟩
  refine FSteps.op3 hz rfl (dv := []) (by kernel_rfl) (by kernel_rfl) (by kernel_rfl) (fun D s W bA kK hD hW hF hA hK => ?_) ?_
  · have x4 := hA.o 4 _ rfl u4
    obtain ⟨-, -, ⟨c2, z2⟩, -⟩ := hF.zq.rules
    have hF := Lib.hid hF
    clear hA
    go_simp
    exact hK.out _ _ ⟨hF.out.zb, hF.out.zq, hF.out.zt.step rfl rfl, hF.out.v28, hF.out.k28_0, hF.out.g28, hF.out.kL0_0, hF.out.kL0_1⟩
  refine FSteps.op3 hz rfl (dv := [25, 24]) (by kernel_rfl) (by kernel_rfl) (by kernel_rfl) (fun D s W bA kK hD hW hF hA hK => ?_) ?_
  · have x58 := hA.i 58 _ rfl rfl (hF.zt.get (j := 25) rfl hW.1)
    have hF := Lib.hid hF
    clear hA
    go_simp
    (go_at_call 44; ((with_reducible_and_instances refine (step_ab b _).mono ?_)); rintro e W1 ⟨rfl, hb⟩; (try unfold abVal))
    (try go_wp2_with fail)
    exact hK.out _ _ ⟨hF.out.zb.on hb, Bks.on hb hF.out.zq, hF.out.zt.step rfl rfl, hF.out.v28, fun h1 => (hF.out.k28_0 h1).on hb, hF.out.g28, fun h2 => (hF.out.kL0_0 h2).on hb, fun h1 => (hF.out.kL0_1 h1).on hb⟩
  refine FSteps.op3 hz rfl (dv := [24, 26]) (by kernel_rfl) (by kernel_rfl) (by kernel_rfl) (fun D s W bA kK hD hW hF hA hK => ?_) ?_
  · have x57 := hA.i 57 _ rfl rfl (hF.zt.get (j := 24) rfl hW.1)
    have x59 := hA.i 59 _ rfl rfl (hF.zt.get (j := 26) rfl hW.2.1)
    have hF := Lib.hid hF
    clear hA
    have hw27 : IntKind.i64.wrap ((stepS a) * (stepS b)) = (stepS a) * (stepS b) := IntWalk.i64_in _ (by omega)
    go_simp
    exact hK.out _ _ ⟨hF.out.zb, hF.out.zq, hF.out.zt.step rfl rfl, hF.out.v28, hF.out.k28_0, hF.out.g28, hF.out.kL0_0, hF.out.kL0_1⟩
  refine FSteps.op3 hz rfl (dv := [22, 27]) (by kernel_rfl) (by kernel_rfl) (by kernel_rfl) (fun D s W bA kK hD hW hF hA hK => ?_) ?_
  · have x55 := hA.i 55 _ rfl rfl (hF.zt.get (j := 22) rfl hW.1)
    have x60 := hA.i 60 _ rfl rfl (hF.zt.get (j := 27) rfl hW.2.1)
    have hF := Lib.hid hF
    clear hA
    go_simp
    exact hK.out _ _ ⟨hF.out.zb.al _, Bks.al _ hF.out.zq, hF.out.zt.skip rfl, fun _ => rfl, fun _ => Bk.new _ _ _, fun _ => hF.out.zb.g, fun h2 => (hF.out.kL0_0 h2).al _, fun h1 => (hF.out.kL0_1 h1).al _⟩
  refine FSteps.op3 hz rfl (dv := [16, 28, 26]) (by kernel_rfl) (by kernel_rfl) (by kernel_rfl) (fun D s W bA kK hD hW hF hA hK => ?_) ?_
  · have x49 := hA.i 49 _ rfl rfl (hF.zt.get (j := 16) rfl hW.1)
    have x61 := hA.i 61 _ rfl rfl (hF.v28 hW.2.1)
    have kk := hF.k28_0 hW.2.1
    have kc := kk.cell; have kf := kk.free
    have hF := Lib.hid hF
    clear hA
    go_simp
    (go_at_call 49; ((with_reducible_and_instances refine (gcd2 ⟨Q1.1, hg1⟩ ⟨Q2.1, hg2⟩ ⟨Q3.1, Q3.2⟩ kk).mono ?_)); rintro e W1 ⟨rfl, hb⟩; (try unfold abVal))
    (try go_wp2_with fail)
    exact hK.out _ _ ⟨hF.out.zb.on hb, Bks.on hb hF.out.zq, hF.out.zt.step rfl rfl, hF.out.v28, fun h1 => (hF.out.k28_0 h1).on hb, hF.out.g28, fun h2 => (hF.out.kL0_0 h2).on hb, fun h1 => (hF.out.kL0_1 h1).on hb⟩
  refine FSteps.op3 hz rfl (dv := [0, 5, 10, 29, 29]) (by kernel_rfl) (by kernel_rfl) (by kernel_rfl) (fun D s W bA kK hD hW hF hA hK => ?_) ?_
  · have x33 := hA.i 33 _ rfl rfl (hF.zt.get (j := 0) rfl hW.1)
    have x38 := hA.i 38 _ rfl rfl (hF.zt.get (j := 5) rfl hW.2.1)
    have x43 := hA.i 43 _ rfl rfl (hF.zt.get (j := 10) rfl hW.2.2.1)
    have x62 := hA.i 62 _ rfl rfl (hF.zt.get (j := 29) rfl hW.2.2.2.1)
    have hF := Lib.hid hF
    clear hA
    go_simp
    (go_at_call 100; ((with_reducible_and_instances refine (GB.out _).mono ?_)); rintro e W1 ⟨rfl, hb⟩; (try unfold abVal))
    (try go_wp2_with fail)
    exact hK.out _ _ ⟨hF.out.zb.on hb, Bks.on hb hF.out.zq, hF.out.zt.step rfl rfl, hF.out.v28, fun h1 => (hF.out.k28_0 h1).on hb, hF.out.g28, fun h2 => (hF.out.kL0_0 h2).on hb, fun h1 => (hF.out.kL0_1 h1).on hb⟩
  refine FSteps.op3 hz rfl (dv := [30, 30, 0, 1, 2, 3, 4, 5, 6, 7, 8, 9, 10, 11, 12, 13, 14, 15, 16, 17, 18, 19, 20, 21, 22, 23, 24, 25, 26, 27, 28, 29, 30]) (by kernel_rfl) (by kernel_rfl) (by kernel_rfl) (fun D s W bA kK hD hW hF hA hK => ?_) ?_
  · have x2 := hA.o 2 _ rfl u2
    have x63 := hA.i 63 _ rfl rfl (hF.zt.get (j := 30) rfl hW.1)
    have kk := hF.kL0_0 hD
    have kc := kk.cell; have kf := kk.free
    have hF := Lib.hid hF
    have kk := Lib.hid kk
    clear hA
    go_simp
    exact hK.out undef _ ⟨hF.out.zb.sAll (hw_n1_1) 0 [Value.int .i64 (mulS a b k).lo, Value.int .i64 (mulS a b k).hi, Value.int .i64 (mulS a b k).m, Value.int .i64 (mulS a b k).r, Value.int .i64 (mulS a b k).k], Bks.oAll [Value.int .i64 (mulS a b k).lo, Value.int .i64 (mulS a b k).hi, Value.int .i64 (mulS a b k).m, Value.int .i64 (mulS a b k).r, Value.int .i64 (mulS a b k).k] 0 (⟨(by omega), (by omega), (by omega), trivial⟩) hF.out.zq, hF.out.zt.skip rfl, hF.out.v28, fun h1 => Bk.oAll (Nat.ne_of_gt (Nat.lt_of_lt_of_le hl_1 (hF.out.g28 h1))) [Value.int .i64 (mulS a b k).lo, Value.int .i64 (mulS a b k).hi, Value.int .i64 (mulS a b k).m, Value.int .i64 (mulS a b k).r, Value.int .i64 (mulS a b k).k] 0 (hF.out.k28_0 h1), hF.out.g28, fun h2 => no_of h2, fun _ => kk.out.full [Value.int .i64 (mulS a b k).lo, Value.int .i64 (mulS a b k).hi, Value.int .i64 (mulS a b k).m, Value.int .i64 (mulS a b k).r, Value.int .i64 (mulS a b k).k] rfl⟩
  exact FSteps.nil
  intro D s W aF4 hD hF hz' df' hA
  obtain ⟨d0, d1, d2, d3, d4, d5, d6, d7, d8, d9, d10, d11, d12, d13, d14, d15, d16, d17, d18, d19, d20, d21, d22, d23, d24, d25, d26, d27, d28, d29, d30, d31, -⟩ := hD
  clear u1 u3 u4 u5 u6 u7 u8
  replace u2 : Sl aF4 2 _ := hA.o 2 _ rfl u2
  have hkX28 := hF.k28_0 d28
  have hgX28 := hF.g28 d28
  have hkXL0 := hF.kL0_1 d31
  have hM := hF.zb
  have hB := hF.zq
  generalize pblk (s 61) = n4_28 at hkX28 hgX28 hkXL0
  have hB : Bks W [(n1_1, #[Value.int .i64 (mulS a b k).lo, Value.int .i64 (mulS a b k).hi, Value.int .i64 (mulS a b k).m, Value.int .i64 (mulS a b k).r, Value.int .i64 (mulS a b k).k], 27)] := ⟨hkXL0, trivial⟩
  have hne_n1_1_n4_28 : n1_1 ≠ n4_28 := by omega
  clear hF hA hz df d0 d1 d2 d3 d4 d5 d6 d7 d8 d9 d10 d11 d12 d13 d14 d15 d16 d17 d18 d19 d20 d21 d22 d23 d24 d25 d26 d27 d28 d29 d30 d31 
  have hz := hz'; have df := df'; clear hz' df'
  clear aF3
  show Code.wp _ _ _ _ _
  refine wp_ret ?_
  show bodyPost _ _ _ _ _ _
  have hB2 := hB.rules
  obtain ⟨⟨c0, z0⟩, -⟩ := hB2
  unfold Sl at u2
  refine end_go df (v := (Value.agg #[Value.int .i64 (mulS a b k).lo, Value.int .i64 (mulS a b k).hi, Value.int .i64 (mulS a b k).m, Value.int .i64 (mulS a b k).r, Value.int .i64 (mulS a b k).k])) (by simp [results, Try.results76, go_sem, u2, c0]) ⟨rfl, hM.b⟩

structure papart_is_r0_1 (a b : Ab) (k : Int) (w : World) (m1 : Nat) (D : Nat → Bool) (s : Nat → Value) (W : World) : Prop where
  zb : Mk0 w m1 W
  zq : Bks W []
  zt : Vals D s [(1, 2, Value.int .i64 0)]
  v0 : D 0 = true → s 1 = (Value.pointer (some ⟨pblk (s 1), 0, none⟩))
  k0_0 : D 0 = true → Bk W (pblk (s 1)) #[Value.int .i64 a.lo, Value.int .i64 a.hi, Value.int .i64 a.m, Value.int .i64 a.r, Value.int .i64 a.k, Value.int .i64 b.lo, Value.int .i64 b.hi, Value.int .i64 b.m, Value.int .i64 b.r, Value.int .i64 b.k, Value.int .i64 k] 72
  g0 : D 0 = true → m1 ≤ (pblk (s 1))

structure papart_is_r1_2 (a b : Ab) (k : Int) (n1_0 : Nat) (w : World) (m2 : Nat) (D : Nat → Bool) (s : Nat → Value) (W : World) : Prop where
  zb : Mk0 w m2 W
  zq : Bks W [(n1_0, #[Value.int .i64 a.lo, Value.int .i64 a.hi, Value.int .i64 a.m, Value.int .i64 a.r, Value.int .i64 a.k, Value.int .i64 b.lo, Value.int .i64 b.hi, Value.int .i64 b.m, Value.int .i64 b.r, Value.int .i64 b.k, Value.int .i64 k], 72)]
  zt : Vals D s [(0, 3, Value.pointer (some ⟨n1_0, 0, none⟩)), (1, 4, Value.agg #[Value.int .i64 a.lo, Value.int .i64 a.hi, Value.int .i64 a.m, Value.int .i64 a.r, Value.int .i64 a.k]), (2, 5, Value.int .i64 (stepS a)), (3, 6, Value.pointer (some ⟨n1_0, 5, none⟩)), (4, 7, Value.agg #[Value.int .i64 b.lo, Value.int .i64 b.hi, Value.int .i64 b.m, Value.int .i64 b.r, Value.int .i64 b.k]), (5, 8, Value.int .i64 (stepS b)), (6, 9, Value.pointer (some ⟨n1_0, 0, none⟩)), (7, 10, Value.pointer (some ⟨n1_0, 0, none⟩)), (8, 11, Value.int .i64 a.lo), (9, 12, Value.pointer (some ⟨n1_0, 5, none⟩)), (10, 13, Value.pointer (some ⟨n1_0, 5, none⟩)), (11, 14, Value.int .i64 b.lo), (12, 15, Value.int .i64 (a.lo - b.lo)), (13, 16, Value.int .i64 (absS (a.lo - b.lo))), (15, 18, Value.int .i64 (joinG (stepS a) (stepS b) (a.lo - b.lo))), (16, 2, Value.int .i64 (joinG (stepS a) (stepS b) (a.lo - b.lo)))]
  v14 : D 14 = true → s 17 = (Value.slice (some ⟨pblk (s 17), 0, none⟩) 2 2)
  k14_0 : D 14 = true → Bk W (pblk (s 17)) #[Value.int .i64 (stepS b), Value.int .i64 (absS (a.lo - b.lo))] 3
  g14 : D 14 = true → m2 ≤ (pblk (s 17))

set_option maxRecDepth 100000 in
set_option maxHeartbeats 4000000 in
theorem papart_is {a b : Ab} (k : Int) (w : World) (ha : Good a) (hb : Good b) :
    Calls Try.prog 102 #[Value.agg #[Value.int .i64 a.lo, Value.int .i64 a.hi, Value.int .i64 a.m, Value.int .i64 a.r, Value.int .i64 a.k, Value.int .i64 b.lo, Value.int .i64 b.hi, Value.int .i64 b.m, Value.int .i64 b.r, Value.int .i64 b.k, Value.int .i64 k]] w fun e w' => e = .returned (Value.int .i64 (joinG (stepS a) (stepS b) (a.lo - b.lo))) ∧ Below w.heap.size w w' := by
  have a1 := ha.h1; have a2 := ha.h2; have a3 := ha.h3
  have b1 := hb.h1; have b2 := hb.h2; have b3 := hb.h3
  have sa := ha.step0; have sb := hb.step0
  refine calls_go Try.func102 rfl 19 rfl rfl (fun aF hz df hu => ?_)
  have u0 : Sl aF 0 (Value.agg #[Value.int .i64 a.lo, Value.int .i64 a.hi, Value.int .i64 a.m, Value.int .i64 a.r, Value.int .i64 a.k, Value.int .i64 b.lo, Value.int .i64 b.hi, Value.int .i64 b.m, Value.int .i64 b.r, Value.int .i64 b.k, Value.int .i64 k]) := hu 0 _ rfl
  clear hu
  have hM : Mk0 w w.heap.size w := ⟨Below.refl _ _, Nat.le_refl _⟩
  have hB : Bks w [] := trivial
  refine wp_seq ?_
  obtain ⟨m1, hM, hU, hwm⟩ := start_region hM.b hB
  refine region_run (F := papart_is_r0_1 a b k w m1) [1, 2] [0, 1] hz df (by kernel_rfl) (by kernel_rfl) (fun s hs0 => ⟨hM, hB, Vals.none s _, fun h => no_of' h, fun h => no_of' h, fun h => no_of' h⟩) ?_ ?_
  refine FSteps.op3 hz rfl (dv := []) (by kernel_rfl) (by kernel_rfl) (by kernel_rfl) (fun D s W bA kK hD hW hF hA hK => ?_) ?_
  · have x0 := hA.o 0 _ rfl u0
    have hF := Lib.hid hF
    clear hA
    go_simp
    exact hK.out _ _ ⟨hF.out.zb.al _, Bks.al _ hF.out.zq, hF.out.zt.skip rfl, fun _ => rfl, fun _ => Bk.new _ _ _, fun _ => hF.out.zb.g⟩
  refine FSteps.op3 hz rfl (dv := []) (by kernel_rfl) (by kernel_rfl) (by kernel_rfl) (fun D s W bA kK hD hW hF hA hK => ?_) ?_
  · have hF := Lib.hid hF
    clear hA
    go_simp
    exact hK.out _ _ ⟨hF.out.zb, hF.out.zq, hF.out.zt.step rfl rfl, hF.out.v0, hF.out.k0_0, hF.out.g0⟩
  exact FSteps.nil
  intro D s W aF1 hD hF hz' df' hA
  obtain ⟨d0, d1, -⟩ := hD
  clear u0
  have u1 : Sl aF1 1 _ := hA.i 1 _ rfl rfl (hF.v0 d0)
  have u2 : Sl aF1 2 _ := hA.i 2 _ rfl rfl (hF.zt.get (j := 1) rfl d1)
  have hkX0 := hF.k0_0 d0
  have hgX0 := hF.g0 d0
  have hM := hF.zb
  have hB := hF.zq
  generalize pblk (s 1) = n1_0 at hkX0 hgX0 u1 u2
  have hB : Bks W [(n1_0, #[Value.int .i64 a.lo, Value.int .i64 a.hi, Value.int .i64 a.m, Value.int .i64 a.r, Value.int .i64 a.k, Value.int .i64 b.lo, Value.int .i64 b.hi, Value.int .i64 b.m, Value.int .i64 b.r, Value.int .i64 b.k, Value.int .i64 k], 72)] := ⟨hkX0, trivial⟩
  clear hF hA hz df d0 d1 hU
  have hz := hz'; have df := df'; clear hz' df'
  clear aF
  show Code.wp _ _ _ _ _
  refine wp_seq ?_
  obtain ⟨m2, hM, hU, hwm⟩ := start_region hM.b hB
  refine region_go (F := papart_is_r1_2 a b k n1_0 w m2) [3, 4, 5, 6, 7, 8, 9, 10, 11, 12, 13, 14, 15, 16, 17, 18, 2] [0, 1, 2, 3, 4, 5, 6, 7, 8, 9, 10, 11, 12, 13, 14, 15, 16] hz df (by kernel_rfl) (by kernel_rfl) (by kernel_rfl) (fun s hs0 => ⟨hM.drew, Bks.drew hB, Vals.none s _, fun h => no_of' h, fun h => no_of' h, fun h => no_of' h⟩) ?_ ?_
  refine FSteps.op3 hz rfl (dv := []) (by kernel_rfl) (by kernel_rfl) (by kernel_rfl) (fun D s W bA kK hD hW hF hA hK => ?_) ?_
  · have x1 := hA.o 1 _ rfl u1
    have hF := Lib.hid hF
    clear hA
    go_simp
    exact hK.out _ _ ⟨hF.out.zb, hF.out.zq, hF.out.zt.step rfl rfl, hF.out.v14, hF.out.k14_0, hF.out.g14⟩
  refine FSteps.op3 hz rfl (dv := [0]) (by kernel_rfl) (by kernel_rfl) (by kernel_rfl) (fun D s W bA kK hD hW hF hA hK => ?_) ?_
  · have x3 := hA.i 3 _ rfl rfl (hF.zt.get (j := 0) rfl hW.1)
    obtain ⟨⟨c0, z0⟩, -⟩ := hF.zq.rules
    have hF := Lib.hid hF
    clear hA
    go_simp
    exact hK.out _ _ ⟨hF.out.zb, hF.out.zq, hF.out.zt.step rfl rfl, hF.out.v14, hF.out.k14_0, hF.out.g14⟩
  refine FSteps.op3 hz rfl (dv := [1]) (by kernel_rfl) (by kernel_rfl) (by kernel_rfl) (fun D s W bA kK hD hW hF hA hK => ?_) ?_
  · have x4 := hA.i 4 _ rfl rfl (hF.zt.get (j := 1) rfl hW.1)
    have hF := Lib.hid hF
    clear hA
    go_simp
    (go_at_call 44; ((with_reducible_and_instances refine (step_ab a _).mono ?_)); rintro e W1 ⟨rfl, hb⟩; (try unfold abVal))
    (try go_wp2_with fail)
    exact hK.out _ _ ⟨hF.out.zb.on hb, Bks.on hb hF.out.zq, hF.out.zt.step rfl rfl, hF.out.v14, fun h1 => (hF.out.k14_0 h1).on hb, hF.out.g14⟩
  refine FSteps.op3 hz rfl (dv := []) (by kernel_rfl) (by kernel_rfl) (by kernel_rfl) (fun D s W bA kK hD hW hF hA hK => ?_) ?_
  · have x1 := hA.o 1 _ rfl u1
    have hF := Lib.hid hF
    clear hA
    go_simp
    exact hK.out _ _ ⟨hF.out.zb, hF.out.zq, hF.out.zt.step rfl rfl, hF.out.v14, hF.out.k14_0, hF.out.g14⟩
  refine FSteps.op3 hz rfl (dv := [3]) (by kernel_rfl) (by kernel_rfl) (by kernel_rfl) (fun D s W bA kK hD hW hF hA hK => ?_) ?_
  · have x6 := hA.i 6 _ rfl rfl (hF.zt.get (j := 3) rfl hW.1)
    obtain ⟨⟨c0, z0⟩, -⟩ := hF.zq.rules
    have hF := Lib.hid hF
    clear hA
    go_simp
    exact hK.out _ _ ⟨hF.out.zb, hF.out.zq, hF.out.zt.step rfl rfl, hF.out.v14, hF.out.k14_0, hF.out.g14⟩
  refine FSteps.op3 hz rfl (dv := [4, 2]) (by kernel_rfl) (by kernel_rfl) (by kernel_rfl) (fun D s W bA kK hD hW hF hA hK => ?_) ?_
  · have x7 := hA.i 7 _ rfl rfl (hF.zt.get (j := 4) rfl hW.1)
    have hF := Lib.hid hF
    clear hA
    go_simp
    (go_at_call 44; ((with_reducible_and_instances refine (step_ab b _).mono ?_)); rintro e W1 ⟨rfl, hb⟩; (try unfold abVal))
    (try go_wp2_with fail)
    exact hK.out _ _ ⟨hF.out.zb.on hb, Bks.on hb hF.out.zq, hF.out.zt.step rfl rfl, hF.out.v14, fun h1 => (hF.out.k14_0 h1).on hb, hF.out.g14⟩
  refine FSteps.op3 hz rfl (dv := []) (by kernel_rfl) (by kernel_rfl) (by kernel_rfl) (fun D s W bA kK hD hW hF hA hK => ?_) ?_
  · have x1 := hA.o 1 _ rfl u1
    have hF := Lib.hid hF
    clear hA
    go_simp
    exact hK.out _ _ ⟨hF.out.zb, hF.out.zq, hF.out.zt.step rfl rfl, hF.out.v14, hF.out.k14_0, hF.out.g14⟩
  refine FSteps.op3 hz rfl (dv := [6]) (by kernel_rfl) (by kernel_rfl) (by kernel_rfl) (fun D s W bA kK hD hW hF hA hK => ?_) ?_
  · have x9 := hA.i 9 _ rfl rfl (hF.zt.get (j := 6) rfl hW.1)
    have hF := Lib.hid hF
    clear hA
    go_simp
    exact hK.out _ _ ⟨hF.out.zb, hF.out.zq, hF.out.zt.step rfl rfl, hF.out.v14, hF.out.k14_0, hF.out.g14⟩
  refine FSteps.op3 hz rfl (dv := [7]) (by kernel_rfl) (by kernel_rfl) (by kernel_rfl) (fun D s W bA kK hD hW hF hA hK => ?_) ?_
  · have x10 := hA.i 10 _ rfl rfl (hF.zt.get (j := 7) rfl hW.1)
    obtain ⟨⟨c0, z0⟩, -⟩ := hF.zq.rules
    have hF := Lib.hid hF
    clear hA
    go_simp
    exact hK.out _ _ ⟨hF.out.zb, hF.out.zq, hF.out.zt.step rfl rfl, hF.out.v14, hF.out.k14_0, hF.out.g14⟩
  refine FSteps.op3 hz rfl (dv := []) (by kernel_rfl) (by kernel_rfl) (by kernel_rfl) (fun D s W bA kK hD hW hF hA hK => ?_) ?_
  · have x1 := hA.o 1 _ rfl u1
    have hF := Lib.hid hF
    clear hA
    go_simp
    exact hK.out _ _ ⟨hF.out.zb, hF.out.zq, hF.out.zt.step rfl rfl, hF.out.v14, hF.out.k14_0, hF.out.g14⟩
  refine FSteps.op3 hz rfl (dv := [9]) (by kernel_rfl) (by kernel_rfl) (by kernel_rfl) (fun D s W bA kK hD hW hF hA hK => ?_) ?_
  · have x12 := hA.i 12 _ rfl rfl (hF.zt.get (j := 9) rfl hW.1)
    have hF := Lib.hid hF
    clear hA
    go_simp
    exact hK.out _ _ ⟨hF.out.zb, hF.out.zq, hF.out.zt.step rfl rfl, hF.out.v14, hF.out.k14_0, hF.out.g14⟩
  refine FSteps.op3 hz rfl (dv := [10]) (by kernel_rfl) (by kernel_rfl) (by kernel_rfl) (fun D s W bA kK hD hW hF hA hK => ?_) ?_
  · have x13 := hA.i 13 _ rfl rfl (hF.zt.get (j := 10) rfl hW.1)
    obtain ⟨⟨c0, z0⟩, -⟩ := hF.zq.rules
    have hF := Lib.hid hF
    clear hA
    go_simp
    exact hK.out _ _ ⟨hF.out.zb, hF.out.zq, hF.out.zt.step rfl rfl, hF.out.v14, hF.out.k14_0, hF.out.g14⟩
  refine FSteps.op3 hz rfl (dv := [8, 11]) (by kernel_rfl) (by kernel_rfl) (by kernel_rfl) (fun D s W bA kK hD hW hF hA hK => ?_) ?_
  · have x11 := hA.i 11 _ rfl rfl (hF.zt.get (j := 8) rfl hW.1)
    have x14 := hA.i 14 _ rfl rfl (hF.zt.get (j := 11) rfl hW.2.1)
    have hF := Lib.hid hF
    clear hA
    have hw12 : IntKind.i64.wrap (a.lo - b.lo) = a.lo - b.lo := IntWalk.i64_in _ (by omega)
    go_simp
    exact hK.out _ _ ⟨hF.out.zb, hF.out.zq, hF.out.zt.step rfl rfl, hF.out.v14, hF.out.k14_0, hF.out.g14⟩
  refine FSteps.op3 hz rfl (dv := [12, 5]) (by kernel_rfl) (by kernel_rfl) (by kernel_rfl) (fun D s W bA kK hD hW hF hA hK => ?_) ?_
  · have x15 := hA.i 15 _ rfl rfl (hF.zt.get (j := 12) rfl hW.1)
    have hF := Lib.hid hF
    clear hA
    go_simp
    (go_at_call 50; ((with_reducible_and_instances refine (abs_b _ (by omega) _).mono ?_)); rintro e W1 ⟨rfl, hb⟩; (try unfold abVal))
    (try go_wp2_with fail)
    exact hK.out _ _ ⟨hF.out.zb.on hb, Bks.on hb hF.out.zq, hF.out.zt.step rfl rfl, hF.out.v14, fun h1 => (hF.out.k14_0 h1).on hb, hF.out.g14⟩
  refine FSteps.op3 hz rfl (dv := [5, 13]) (by kernel_rfl) (by kernel_rfl) (by kernel_rfl) (fun D s W bA kK hD hW hF hA hK => ?_) ?_
  · have x8 := hA.i 8 _ rfl rfl (hF.zt.get (j := 5) rfl hW.1)
    have x16 := hA.i 16 _ rfl rfl (hF.zt.get (j := 13) rfl hW.2.1)
    have hF := Lib.hid hF
    clear hA
    go_simp
    exact hK.out _ _ ⟨hF.out.zb.al _, Bks.al _ hF.out.zq, hF.out.zt.skip rfl, fun _ => rfl, fun _ => Bk.new _ _ _, fun _ => hF.out.zb.g⟩
  refine FSteps.op3 hz rfl (dv := [2, 14, 13]) (by kernel_rfl) (by kernel_rfl) (by kernel_rfl) (fun D s W bA kK hD hW hF hA hK => ?_) ?_
  · have x5 := hA.i 5 _ rfl rfl (hF.zt.get (j := 2) rfl hW.1)
    have x17 := hA.i 17 _ rfl rfl (hF.v14 hW.2.1)
    have kk := hF.k14_0 hW.2.1
    have kc := kk.cell; have kf := kk.free
    have hF := Lib.hid hF
    clear hA
    go_simp
    (go_at_call 49; ((with_reducible_and_instances refine (gcd2 ⟨sa.1, by omega⟩ ⟨sb.1, by omega⟩ (by unfold absS; omega) kk).mono ?_)); rintro e W1 ⟨rfl, hb⟩; (try unfold abVal))
    (try go_wp2_with fail)
    exact hK.out _ _ ⟨hF.out.zb.on hb, Bks.on hb hF.out.zq, hF.out.zt.step rfl rfl, hF.out.v14, fun h1 => (hF.out.k14_0 h1).on hb, hF.out.g14⟩
  refine FSteps.op3 hz rfl (dv := [15, 15, 0, 1, 2, 3, 4, 5, 6, 7, 8, 9, 10, 11, 12, 13, 14, 15]) (by kernel_rfl) (by kernel_rfl) (by kernel_rfl) (fun D s W bA kK hD hW hF hA hK => ?_) ?_
  · have x18 := hA.i 18 _ rfl rfl (hF.zt.get (j := 15) rfl hW.1)
    have hF := Lib.hid hF
    clear hA
    go_simp
    exact hK.out _ _ ⟨hF.out.zb, hF.out.zq, hF.out.zt.step rfl rfl, hF.out.v14, hF.out.k14_0, hF.out.g14⟩
  exact FSteps.nil
  intro D s W aF2 hD hF hz' df' hA
  obtain ⟨d0, d1, d2, d3, d4, d5, d6, d7, d8, d9, d10, d11, d12, d13, d14, d15, d16, -⟩ := hD
  clear u1 u2
  have u2 : Sl aF2 2 _ := hA.i 2 _ rfl rfl (hF.zt.get (j := 16) rfl d16)
  have hkX14 := hF.k14_0 d14
  have hgX14 := hF.g14 d14
  have hM := hF.zb
  have hB := hF.zq
  generalize pblk (s 17) = n2_14 at hkX14 hgX14 u2
  have hB : Bks W [] := trivial
  clear hF hA hz df d0 d1 d2 d3 d4 d5 d6 d7 d8 d9 d10 d11 d12 d13 d14 d15 d16 hU
  have hz := hz'; have df := df'; clear hz' df'
  clear aF1
  show Code.wp _ _ _ _ _
  refine wp_ret ?_
  show bodyPost _ _ _ _ _ _
  exact end_go df (res_tmp rfl u2) ⟨rfl, hM.b⟩

theorem join_zero {a b : Ab} (ha : Good a) (hb : Good b) : 0 < joinG (stepS a) (stepS b) (a.lo - b.lo) ∨ a.lo = a.hi ∧ b.lo = b.hi ∧ a.lo = b.lo := by
  by_cases h : joinG (stepS a) (stepS b) (a.lo - b.lo) = 0
  · right
    obtain ⟨h1, h2, h3⟩ := gcd3_zero h
    have := ha.step_zero.1 h1; have := hb.step_zero.1 h2
    unfold absS at h3
    omega
  · left
    have := joinG_nonneg (stepS a) (stepS b) (a.lo - b.lo)
    omega
theorem joinG_hi {a b : Ab} (ha : Good a) (hb : Good b) : joinG (stepS a) (stepS b) (a.lo - b.lo) ≤ 4294967296 := by
  have hj := join_parts ha hb
  rw [← hj.2.2.2.1]
  exact hj.1.step0.2

structure plesser_is_r0_1 (a b : Ab) (k : Int) (w : World) (m1 : Nat) (D : Nat → Bool) (s : Nat → Value) (W : World) : Prop where
  zb : Mk0 w m1 W
  zq : Bks W []
  zt : Vals D s []
  v0 : D 0 = true → s 1 = (Value.pointer (some ⟨pblk (s 1), 0, none⟩))
  v1 : D 1 = true → s 2 = (Value.pointer (some ⟨pblk (s 2), 0, none⟩))
  k0_0 : D 0 = true → Bk W (pblk (s 1)) #[Value.int .i64 a.lo, Value.int .i64 a.hi, Value.int .i64 a.m, Value.int .i64 a.r, Value.int .i64 a.k, Value.int .i64 b.lo, Value.int .i64 b.hi, Value.int .i64 b.m, Value.int .i64 b.r, Value.int .i64 b.k, Value.int .i64 k] 72
  g0 : D 0 = true → m1 ≤ (pblk (s 1))
  k1_0 : D 1 = true → Bk W (pblk (s 2)) #[Value.int .i64 0, Value.int .i64 0, Value.int .i64 0, Value.int .i64 0, Value.int .i64 0] 27
  g1 : D 1 = true → m1 ≤ (pblk (s 2))
  e0_1 : D 0 = true → D 1 = true → pblk (s 1) ≠ pblk (s 2)

structure plesser_is_r1_2 (a b : Ab) (k : Int) (n1_0 n1_1 : Nat) (w : World) (m2 : Nat) (D : Nat → Bool) (s : Nat → Value) (W : World) : Prop where
  zb : Mk0 w m2 W
  zq : Bks W [(n1_0, #[Value.int .i64 a.lo, Value.int .i64 a.hi, Value.int .i64 a.m, Value.int .i64 a.r, Value.int .i64 a.k, Value.int .i64 b.lo, Value.int .i64 b.hi, Value.int .i64 b.m, Value.int .i64 b.r, Value.int .i64 b.k, Value.int .i64 k], 72)]
  zt : Vals D s [(0, 3, Value.pointer (some ⟨n1_0, 0, none⟩)), (1, 4, Value.pointer (some ⟨n1_0, 0, none⟩)), (2, 5, Value.int .i64 a.lo), (3, 6, Value.pointer (some ⟨n1_0, 5, none⟩)), (4, 7, Value.pointer (some ⟨n1_0, 5, none⟩)), (5, 8, Value.int .i64 b.lo), (6, 9, Value.int .i64 (min a.lo b.lo)), (7, 10, Value.pointer (some ⟨n1_0, 0, none⟩)), (8, 11, Value.pointer (some ⟨n1_0, 1, none⟩)), (9, 12, Value.int .i64 a.hi), (10, 13, Value.pointer (some ⟨n1_0, 5, none⟩)), (11, 14, Value.pointer (some ⟨n1_0, 6, none⟩)), (12, 15, Value.int .i64 b.hi), (13, 16, Value.int .i64 (min a.hi b.hi)), (14, 17, Value.agg #[Value.int .i64 a.lo, Value.int .i64 a.hi, Value.int .i64 a.m, Value.int .i64 a.r, Value.int .i64 a.k, Value.int .i64 b.lo, Value.int .i64 b.hi, Value.int .i64 b.m, Value.int .i64 b.r, Value.int .i64 b.k, Value.int .i64 k]), (15, 18, Value.int .i64 (joinG (stepS a) (stepS b) (a.lo - b.lo))), (16, 19, Value.pointer (some ⟨n1_0, 10, none⟩)), (17, 20, Value.int .i64 k), (18, 21, Value.agg #[Value.int .i64 (lesserS a b k).lo, Value.int .i64 (lesserS a b k).hi, Value.int .i64 (lesserS a b k).m, Value.int .i64 (lesserS a b k).r, Value.int .i64 (lesserS a b k).k])]
  kL0_0 : D 19 = false → Bk W n1_1 #[Value.int .i64 0, Value.int .i64 0, Value.int .i64 0, Value.int .i64 0, Value.int .i64 0] 27
  kL0_1 : D 19 = true → Bk W n1_1 #[Value.int .i64 (lesserS a b k).lo, Value.int .i64 (lesserS a b k).hi, Value.int .i64 (lesserS a b k).m, Value.int .i64 (lesserS a b k).r, Value.int .i64 (lesserS a b k).k] 27

set_option maxRecDepth 100000 in
set_option maxHeartbeats 4000000 in
theorem plesser_is {a b : Ab} (k : Int) (w : World) (ha : Good a) (hb : Good b) :
    Calls Try.prog 79 #[Value.agg #[Value.int .i64 a.lo, Value.int .i64 a.hi, Value.int .i64 a.m, Value.int .i64 a.r, Value.int .i64 a.k, Value.int .i64 b.lo, Value.int .i64 b.hi, Value.int .i64 b.m, Value.int .i64 b.r, Value.int .i64 b.k, Value.int .i64 k]] w fun e w' => e = .returned (Value.agg #[Value.int .i64 (lesserS a b k).lo, Value.int .i64 (lesserS a b k).hi, Value.int .i64 (lesserS a b k).m, Value.int .i64 (lesserS a b k).r, Value.int .i64 (lesserS a b k).k]) ∧ Below w.heap.size w w' := by
  have a1 := ha.h1; have a2 := ha.h2; have a3 := ha.h3
  have b1 := hb.h1; have b2 := hb.h2; have b3 := hb.h3
  have sa := ha.step0; have sb := hb.step0
  have hj := join_zero ha hb
  have hj2 := joinG_hi ha hb
  have GY := by_G (min a.lo b.lo) (min a.hi b.hi) (joinG (stepS a) (stepS b) (a.lo - b.lo)) k (by omega) (by omega) (by omega) (by omega) (by omega) (by omega)
  clear hj hj2
  refine calls_go Try.func79 rfl 22 rfl rfl (fun aF hz df hu => ?_)
  have u0 : Sl aF 0 (Value.agg #[Value.int .i64 a.lo, Value.int .i64 a.hi, Value.int .i64 a.m, Value.int .i64 a.r, Value.int .i64 a.k, Value.int .i64 b.lo, Value.int .i64 b.hi, Value.int .i64 b.m, Value.int .i64 b.r, Value.int .i64 b.k, Value.int .i64 k]) := hu 0 _ rfl
  clear hu
  have hM : Mk0 w w.heap.size w := ⟨Below.refl _ _, Nat.le_refl _⟩
  have hB : Bks w [] := trivial
  refine wp_seq ?_
  obtain ⟨m1, hM, hU, hwm⟩ := start_region hM.b hB
  refine region_run (F := plesser_is_r0_1 a b k w m1) [1, 2] [0, 1] hz df (by kernel_rfl) (by kernel_rfl) (fun s hs0 => ⟨hM, hB, Vals.none s _, fun h => no_of' h, fun h => no_of' h, fun h => no_of' h, fun h => no_of' h, fun h => no_of' h, fun h => no_of' h, fun h => no_of' h⟩) ?_ ?_
  refine FSteps.op3 hz rfl (dv := []) (by kernel_rfl) (by kernel_rfl) (by kernel_rfl) (fun D s W bA kK hD hW hF hA hK => ?_) ?_
  · have x0 := hA.o 0 _ rfl u0
    have hF := Lib.hid hF
    clear hA
    go_simp
    exact hK.out _ _ ⟨hF.out.zb.al _, Bks.al _ hF.out.zq, hF.out.zt.skip rfl, fun _ => rfl, hF.out.v1, fun _ => Bk.new _ _ _, fun _ => hF.out.zb.g, fun h1 => (hF.out.k1_0 h1).al _, hF.out.g1, fun _ h => Nat.ne_of_gt ((hF.out.k1_0 h).lt)⟩
  refine FSteps.op3 hz rfl (dv := []) (by kernel_rfl) (by kernel_rfl) (by kernel_rfl) (fun D s W bA kK hD hW hF hA hK => ?_) ?_
  · have hF := Lib.hid hF
    clear hA
    go_simp
    exact hK.out _ _ ⟨hF.out.zb.al _, Bks.al _ hF.out.zq, hF.out.zt.skip rfl, hF.out.v0, fun _ => rfl, fun h1 => (hF.out.k0_0 h1).al _, hF.out.g0, fun _ => Bk.new _ _ _, fun _ => hF.out.zb.g, fun h _ => Nat.ne_of_lt ((hF.out.k0_0 h).lt)⟩
  exact FSteps.nil
  intro D s W aF1 hD hF hz' df' hA
  obtain ⟨d0, d1, -⟩ := hD
  clear u0
  have u1 : Sl aF1 1 _ := hA.i 1 _ rfl rfl (hF.v0 d0)
  have u2 : Sl aF1 2 _ := hA.i 2 _ rfl rfl (hF.v1 d1)
  have hkX0 := hF.k0_0 d0
  have hgX0 := hF.g0 d0
  have hkX1 := hF.k1_0 d1
  have hgX1 := hF.g1 d1
  have heX0_1 := hF.e0_1 d0 d1
  have hM := hF.zb
  have hB := hF.zq
  generalize pblk (s 1) = n1_0 at hkX0 hgX0 hkX1 hgX1 heX0_1 u1 u2
  generalize pblk (s 2) = n1_1 at hkX0 hgX0 hkX1 hgX1 heX0_1 u1 u2
  have hB : Bks W [(n1_0, #[Value.int .i64 a.lo, Value.int .i64 a.hi, Value.int .i64 a.m, Value.int .i64 a.r, Value.int .i64 a.k, Value.int .i64 b.lo, Value.int .i64 b.hi, Value.int .i64 b.m, Value.int .i64 b.r, Value.int .i64 b.k, Value.int .i64 k], 72), (n1_1, #[Value.int .i64 0, Value.int .i64 0, Value.int .i64 0, Value.int .i64 0, Value.int .i64 0], 27)] := ⟨hkX0, hkX1, trivial⟩
  have hw_n1_1 : w.heap.size ≤ n1_1 := Nat.le_trans hwm hgX1
  clear hF hA hz df d0 d1 hU
  have hz := hz'; have df := df'; clear hz' df'
  clear aF
  show Code.wp _ _ _ _ _
  refine wp_seq ?_
  obtain ⟨m2, hM, hU, hwm⟩ := start_region hM.b hB
  obtain ⟨hk_0, hk_1, -⟩ := hB
  obtain ⟨hl_0, hl_1, -⟩ := hU
  have hB : Bks _ [(n1_0, #[Value.int .i64 a.lo, Value.int .i64 a.hi, Value.int .i64 a.m, Value.int .i64 a.r, Value.int .i64 a.k, Value.int .i64 b.lo, Value.int .i64 b.hi, Value.int .i64 b.m, Value.int .i64 b.r, Value.int .i64 b.k, Value.int .i64 k], 72)] := ⟨hk_0, trivial⟩
  have hU : Under m2 [(n1_0, #[Value.int .i64 a.lo, Value.int .i64 a.hi, Value.int .i64 a.m, Value.int .i64 a.r, Value.int .i64 a.k, Value.int .i64 b.lo, Value.int .i64 b.hi, Value.int .i64 b.m, Value.int .i64 b.r, Value.int .i64 b.k, Value.int .i64 k], 72)] := ⟨hl_0, trivial⟩
  refine region_go (F := plesser_is_r1_2 a b k n1_0 n1_1 w m2) [3, 4, 5, 6, 7, 8, 9, 10, 11, 12, 13, 14, 15, 16, 17, 18, 19, 20, 21] [0, 1, 2, 3, 4, 5, 6, 7, 8, 9, 10, 11, 12, 13, 14, 15, 16, 17, 18, 19] hz df (by kernel_rfl) (by kernel_rfl) (by kernel_rfl) (fun s hs0 => ⟨hM.drew, Bks.drew hB, Vals.none s _, fun _ => hk_1.drew, fun h => no_of' h⟩) ?_ ?_
  refine FSteps.op3 hz rfl (dv := []) (by kernel_rfl) (by kernel_rfl) (by kernel_rfl) (fun D s W bA kK hD hW hF hA hK => ?_) ?_
  · have x1 := hA.o 1 _ rfl u1
    have hF := Lib.hid hF
    clear hA
    go_simp
    exact hK.out _ _ ⟨hF.out.zb, hF.out.zq, hF.out.zt.step rfl rfl, hF.out.kL0_0, hF.out.kL0_1⟩
  refine FSteps.op3 hz rfl (dv := [0]) (by kernel_rfl) (by kernel_rfl) (by kernel_rfl) (fun D s W bA kK hD hW hF hA hK => ?_) ?_
  · have x3 := hA.i 3 _ rfl rfl (hF.zt.get (j := 0) rfl hW.1)
    have hF := Lib.hid hF
    clear hA
    go_simp
    exact hK.out _ _ ⟨hF.out.zb, hF.out.zq, hF.out.zt.step rfl rfl, hF.out.kL0_0, hF.out.kL0_1⟩
  refine FSteps.op3 hz rfl (dv := [1]) (by kernel_rfl) (by kernel_rfl) (by kernel_rfl) (fun D s W bA kK hD hW hF hA hK => ?_) ?_
  · have x4 := hA.i 4 _ rfl rfl (hF.zt.get (j := 1) rfl hW.1)
    obtain ⟨⟨c0, z0⟩, -⟩ := hF.zq.rules
    have hF := Lib.hid hF
    clear hA
    go_simp
    exact hK.out _ _ ⟨hF.out.zb, hF.out.zq, hF.out.zt.step rfl rfl, hF.out.kL0_0, hF.out.kL0_1⟩
  refine FSteps.op3 hz rfl (dv := []) (by kernel_rfl) (by kernel_rfl) (by kernel_rfl) (fun D s W bA kK hD hW hF hA hK => ?_) ?_
  · have x1 := hA.o 1 _ rfl u1
    have hF := Lib.hid hF
    clear hA
    go_simp
    exact hK.out _ _ ⟨hF.out.zb, hF.out.zq, hF.out.zt.step rfl rfl, hF.out.kL0_0, hF.out.kL0_1⟩
  refine FSteps.op3 hz rfl (dv := [3]) (by kernel_rfl) (by kernel_rfl) (by kernel_rfl) (fun D s W bA kK hD hW hF hA hK => ?_) ?_
  · have x6 := hA.i 6 _ rfl rfl (hF.zt.get (j := 3) rfl hW.1)
    have hF := Lib.hid hF
    clear hA
    go_simp
    exact hK.out _ _ ⟨hF.out.zb, hF.out.zq, hF.out.zt.step rfl rfl, hF.out.kL0_0, hF.out.kL0_1⟩
  refine FSteps.op3 hz rfl (dv := [4]) (by kernel_rfl) (by kernel_rfl) (by kernel_rfl) (fun D s W bA kK hD hW hF hA hK => ?_) ?_
  · have x7 := hA.i 7 _ rfl rfl (hF.zt.get (j := 4) rfl hW.1)
    obtain ⟨⟨c0, z0⟩, -⟩ := hF.zq.rules
    have hF := Lib.hid hF
    clear hA
    go_simp
    exact hK.out _ _ ⟨hF.out.zb, hF.out.zq, hF.out.zt.step rfl rfl, hF.out.kL0_0, hF.out.kL0_1⟩
  refine FSteps.op3 hz rfl (dv := [2, 5]) (by kernel_rfl) (by kernel_rfl) (by kernel_rfl) (fun D s W bA kK hD hW hF hA hK => ?_) ?_
  · have x5 := hA.i 5 _ rfl rfl (hF.zt.get (j := 2) rfl hW.1)
    have x8 := hA.i 8 _ rfl rfl (hF.zt.get (j := 5) rfl hW.2.1)
    have hF := Lib.hid hF
    clear hA
    have hm6_0 : (if b.lo < a.lo then b.lo else a.lo) = min a.lo b.lo := min_is _ _
    go_simp
    exact hK.out _ _ ⟨hF.out.zb, hF.out.zq, hF.out.zt.step rfl rfl, hF.out.kL0_0, hF.out.kL0_1⟩
  refine FSteps.op3 hz rfl (dv := []) (by kernel_rfl) (by kernel_rfl) (by kernel_rfl) (fun D s W bA kK hD hW hF hA hK => ?_) ?_
  · have x1 := hA.o 1 _ rfl u1
    have hF := Lib.hid hF
    clear hA
    go_simp
    exact hK.out _ _ ⟨hF.out.zb, hF.out.zq, hF.out.zt.step rfl rfl, hF.out.kL0_0, hF.out.kL0_1⟩
  refine FSteps.op3 hz rfl (dv := [7]) (by kernel_rfl) (by kernel_rfl) (by kernel_rfl) (fun D s W bA kK hD hW hF hA hK => ?_) ?_
  · have x10 := hA.i 10 _ rfl rfl (hF.zt.get (j := 7) rfl hW.1)
    have hF := Lib.hid hF
    clear hA
    go_simp
    exact hK.out _ _ ⟨hF.out.zb, hF.out.zq, hF.out.zt.step rfl rfl, hF.out.kL0_0, hF.out.kL0_1⟩
  refine FSteps.op3 hz rfl (dv := [8]) (by kernel_rfl) (by kernel_rfl) (by kernel_rfl) (fun D s W bA kK hD hW hF hA hK => ?_) ?_
  · have x11 := hA.i 11 _ rfl rfl (hF.zt.get (j := 8) rfl hW.1)
    obtain ⟨⟨c0, z0⟩, -⟩ := hF.zq.rules
    have hF := Lib.hid hF
    clear hA
    go_simp
    exact hK.out _ _ ⟨hF.out.zb, hF.out.zq, hF.out.zt.step rfl rfl, hF.out.kL0_0, hF.out.kL0_1⟩
  refine FSteps.op3 hz rfl (dv := []) (by kernel_rfl) (by kernel_rfl) (by kernel_rfl) (fun D s W bA kK hD hW hF hA hK => ?_) ?_
  · have x1 := hA.o 1 _ rfl u1
    have hF := Lib.hid hF
    clear hA
    go_simp
    exact hK.out _ _ ⟨hF.out.zb, hF.out.zq, hF.out.zt.step rfl rfl, hF.out.kL0_0, hF.out.kL0_1⟩
  refine FSteps.op3 hz rfl (dv := [10]) (by kernel_rfl) (by kernel_rfl) (by kernel_rfl) (fun D s W bA kK hD hW hF hA hK => ?_) ?_
  · have x13 := hA.i 13 _ rfl rfl (hF.zt.get (j := 10) rfl hW.1)
    have hF := Lib.hid hF
    clear hA
    go_simp
    exact hK.out _ _ ⟨hF.out.zb, hF.out.zq, hF.out.zt.step rfl rfl, hF.out.kL0_0, hF.out.kL0_1⟩
  refine FSteps.op3 hz rfl (dv := [11]) (by kernel_rfl) (by kernel_rfl) (by kernel_rfl) (fun D s W bA kK hD hW hF hA hK => ?_) ?_
  · have x14 := hA.i 14 _ rfl rfl (hF.zt.get (j := 11) rfl hW.1)
    obtain ⟨⟨c0, z0⟩, -⟩ := hF.zq.rules
    have hF := Lib.hid hF
    clear hA
    go_simp
    exact hK.out _ _ ⟨hF.out.zb, hF.out.zq, hF.out.zt.step rfl rfl, hF.out.kL0_0, hF.out.kL0_1⟩
  refine FSteps.op3 hz rfl (dv := [9, 12]) (by kernel_rfl) (by kernel_rfl) (by kernel_rfl) (fun D s W bA kK hD hW hF hA hK => ?_) ?_
  · have x12 := hA.i 12 _ rfl rfl (hF.zt.get (j := 9) rfl hW.1)
    have x15 := hA.i 15 _ rfl rfl (hF.zt.get (j := 12) rfl hW.2.1)
    have hF := Lib.hid hF
    clear hA
    have hm13_0 : (if b.hi < a.hi then b.hi else a.hi) = min a.hi b.hi := min_is _ _
    go_simp
    exact hK.out _ _ ⟨hF.out.zb, hF.out.zq, hF.out.zt.step rfl rfl, hF.out.kL0_0, hF.out.kL0_1⟩
  refine FSteps.op3 hz rfl (dv := []) (by kernel_rfl) (by kernel_rfl) (by kernel_rfl) (fun D s W bA kK hD hW hF hA hK => ?_) ?_
  · have x1 := hA.o 1 _ rfl u1
    obtain ⟨⟨c0, z0⟩, -⟩ := hF.zq.rules
    have hF := Lib.hid hF
    clear hA
    go_simp
    exact hK.out _ _ ⟨hF.out.zb, hF.out.zq, hF.out.zt.step rfl rfl, hF.out.kL0_0, hF.out.kL0_1⟩
  refine FSteps.op3 hz rfl (dv := [14]) (by kernel_rfl) (by kernel_rfl) (by kernel_rfl) (fun D s W bA kK hD hW hF hA hK => ?_) ?_
  · have x17 := hA.i 17 _ rfl rfl (hF.zt.get (j := 14) rfl hW.1)
    have hF := Lib.hid hF
    clear hA
    go_simp
    (go_at_call 102; ((with_reducible_and_instances refine (papart_is k _ ha hb).mono ?_)); rintro e W1 ⟨rfl, hb⟩; (try unfold abVal))
    (try go_wp2_with fail)
    exact hK.out _ _ ⟨hF.out.zb.on hb, Bks.on hb hF.out.zq, hF.out.zt.step rfl rfl, fun h2 => (hF.out.kL0_0 h2).on hb, fun h1 => (hF.out.kL0_1 h1).on hb⟩
  refine FSteps.op3 hz rfl (dv := []) (by kernel_rfl) (by kernel_rfl) (by kernel_rfl) (fun D s W bA kK hD hW hF hA hK => ?_) ?_
  · have x1 := hA.o 1 _ rfl u1
    have hF := Lib.hid hF
    clear hA
    go_simp
    exact hK.out _ _ ⟨hF.out.zb, hF.out.zq, hF.out.zt.step rfl rfl, hF.out.kL0_0, hF.out.kL0_1⟩
  refine FSteps.op3 hz rfl (dv := [16]) (by kernel_rfl) (by kernel_rfl) (by kernel_rfl) (fun D s W bA kK hD hW hF hA hK => ?_) ?_
  · have x19 := hA.i 19 _ rfl rfl (hF.zt.get (j := 16) rfl hW.1)
    obtain ⟨⟨c0, z0⟩, -⟩ := hF.zq.rules
    have hF := Lib.hid hF
    clear hA
    go_simp
    exact hK.out _ _ ⟨hF.out.zb, hF.out.zq, hF.out.zt.step rfl rfl, hF.out.kL0_0, hF.out.kL0_1⟩
  refine FSteps.op3 hz rfl (dv := [6, 13, 15, 17, 15]) (by kernel_rfl) (by kernel_rfl) (by kernel_rfl) (fun D s W bA kK hD hW hF hA hK => ?_) ?_
  · have x9 := hA.i 9 _ rfl rfl (hF.zt.get (j := 6) rfl hW.1)
    have x16 := hA.i 16 _ rfl rfl (hF.zt.get (j := 13) rfl hW.2.1)
    have x18 := hA.i 18 _ rfl rfl (hF.zt.get (j := 15) rfl hW.2.2.1)
    have x20 := hA.i 20 _ rfl rfl (hF.zt.get (j := 17) rfl hW.2.2.2.1)
    have hF := Lib.hid hF
    clear hA
    go_simp
    (go_at_call 46; ((with_reducible_and_instances refine (GY.out _).mono ?_)); rintro e W1 ⟨rfl, hb⟩; (try unfold abVal))
    (try go_wp2_with fail)
    exact hK.out _ _ ⟨hF.out.zb.on hb, Bks.on hb hF.out.zq, hF.out.zt.step rfl rfl, fun h2 => (hF.out.kL0_0 h2).on hb, fun h1 => (hF.out.kL0_1 h1).on hb⟩
  refine FSteps.op3 hz rfl (dv := [18, 18, 0, 1, 2, 3, 4, 5, 6, 7, 8, 9, 10, 11, 12, 13, 14, 15, 16, 17, 18]) (by kernel_rfl) (by kernel_rfl) (by kernel_rfl) (fun D s W bA kK hD hW hF hA hK => ?_) ?_
  · have x2 := hA.o 2 _ rfl u2
    have x21 := hA.i 21 _ rfl rfl (hF.zt.get (j := 18) rfl hW.1)
    have kk := hF.kL0_0 hD
    have kc := kk.cell; have kf := kk.free
    have hF := Lib.hid hF
    have kk := Lib.hid kk
    clear hA
    go_simp
    exact hK.out undef _ ⟨hF.out.zb.sAll (hw_n1_1) 0 [Value.int .i64 (lesserS a b k).lo, Value.int .i64 (lesserS a b k).hi, Value.int .i64 (lesserS a b k).m, Value.int .i64 (lesserS a b k).r, Value.int .i64 (lesserS a b k).k], Bks.oAll [Value.int .i64 (lesserS a b k).lo, Value.int .i64 (lesserS a b k).hi, Value.int .i64 (lesserS a b k).m, Value.int .i64 (lesserS a b k).r, Value.int .i64 (lesserS a b k).k] 0 (⟨(by omega), trivial⟩) hF.out.zq, hF.out.zt.skip rfl, fun h2 => no_of h2, fun _ => kk.out.full [Value.int .i64 (lesserS a b k).lo, Value.int .i64 (lesserS a b k).hi, Value.int .i64 (lesserS a b k).m, Value.int .i64 (lesserS a b k).r, Value.int .i64 (lesserS a b k).k] rfl⟩
  exact FSteps.nil
  intro D s W aF2 hD hF hz' df' hA
  obtain ⟨d0, d1, d2, d3, d4, d5, d6, d7, d8, d9, d10, d11, d12, d13, d14, d15, d16, d17, d18, d19, -⟩ := hD
  clear u1
  replace u2 : Sl aF2 2 _ := hA.o 2 _ rfl u2
  have hkXL0 := hF.kL0_1 d19
  have hM := hF.zb
  have hB := hF.zq
  have hB : Bks W [(n1_1, #[Value.int .i64 (lesserS a b k).lo, Value.int .i64 (lesserS a b k).hi, Value.int .i64 (lesserS a b k).m, Value.int .i64 (lesserS a b k).r, Value.int .i64 (lesserS a b k).k], 27)] := ⟨hkXL0, trivial⟩
  clear hF hA hz df d0 d1 d2 d3 d4 d5 d6 d7 d8 d9 d10 d11 d12 d13 d14 d15 d16 d17 d18 d19 
  have hz := hz'; have df := df'; clear hz' df'
  clear aF1
  show Code.wp _ _ _ _ _
  refine wp_ret ?_
  show bodyPost _ _ _ _ _ _
  have hB2 := hB.rules
  obtain ⟨⟨c0, z0⟩, -⟩ := hB2
  unfold Sl at u2
  refine end_go df (v := (Value.agg #[Value.int .i64 (lesserS a b k).lo, Value.int .i64 (lesserS a b k).hi, Value.int .i64 (lesserS a b k).m, Value.int .i64 (lesserS a b k).r, Value.int .i64 (lesserS a b k).k])) (by simp [results, Try.results79, go_sem, u2, c0]) ⟨rfl, hM.b⟩

structure pgreater_is_r0_1 (a b : Ab) (k : Int) (w : World) (m1 : Nat) (D : Nat → Bool) (s : Nat → Value) (W : World) : Prop where
  zb : Mk0 w m1 W
  zq : Bks W []
  zt : Vals D s []
  v0 : D 0 = true → s 1 = (Value.pointer (some ⟨pblk (s 1), 0, none⟩))
  v1 : D 1 = true → s 2 = (Value.pointer (some ⟨pblk (s 2), 0, none⟩))
  k0_0 : D 0 = true → Bk W (pblk (s 1)) #[Value.int .i64 a.lo, Value.int .i64 a.hi, Value.int .i64 a.m, Value.int .i64 a.r, Value.int .i64 a.k, Value.int .i64 b.lo, Value.int .i64 b.hi, Value.int .i64 b.m, Value.int .i64 b.r, Value.int .i64 b.k, Value.int .i64 k] 72
  g0 : D 0 = true → m1 ≤ (pblk (s 1))
  k1_0 : D 1 = true → Bk W (pblk (s 2)) #[Value.int .i64 0, Value.int .i64 0, Value.int .i64 0, Value.int .i64 0, Value.int .i64 0] 27
  g1 : D 1 = true → m1 ≤ (pblk (s 2))
  e0_1 : D 0 = true → D 1 = true → pblk (s 1) ≠ pblk (s 2)

structure pgreater_is_r1_2 (a b : Ab) (k : Int) (n1_0 n1_1 : Nat) (w : World) (m2 : Nat) (D : Nat → Bool) (s : Nat → Value) (W : World) : Prop where
  zb : Mk0 w m2 W
  zq : Bks W [(n1_0, #[Value.int .i64 a.lo, Value.int .i64 a.hi, Value.int .i64 a.m, Value.int .i64 a.r, Value.int .i64 a.k, Value.int .i64 b.lo, Value.int .i64 b.hi, Value.int .i64 b.m, Value.int .i64 b.r, Value.int .i64 b.k, Value.int .i64 k], 72)]
  zt : Vals D s [(0, 3, Value.pointer (some ⟨n1_0, 0, none⟩)), (1, 4, Value.pointer (some ⟨n1_0, 0, none⟩)), (2, 5, Value.int .i64 a.lo), (3, 6, Value.pointer (some ⟨n1_0, 5, none⟩)), (4, 7, Value.pointer (some ⟨n1_0, 5, none⟩)), (5, 8, Value.int .i64 b.lo), (6, 9, Value.int .i64 (max a.lo b.lo)), (7, 10, Value.pointer (some ⟨n1_0, 0, none⟩)), (8, 11, Value.pointer (some ⟨n1_0, 1, none⟩)), (9, 12, Value.int .i64 a.hi), (10, 13, Value.pointer (some ⟨n1_0, 5, none⟩)), (11, 14, Value.pointer (some ⟨n1_0, 6, none⟩)), (12, 15, Value.int .i64 b.hi), (13, 16, Value.int .i64 (max a.hi b.hi)), (14, 17, Value.agg #[Value.int .i64 a.lo, Value.int .i64 a.hi, Value.int .i64 a.m, Value.int .i64 a.r, Value.int .i64 a.k, Value.int .i64 b.lo, Value.int .i64 b.hi, Value.int .i64 b.m, Value.int .i64 b.r, Value.int .i64 b.k, Value.int .i64 k]), (15, 18, Value.int .i64 (joinG (stepS a) (stepS b) (a.lo - b.lo))), (16, 19, Value.pointer (some ⟨n1_0, 10, none⟩)), (17, 20, Value.int .i64 k), (18, 21, Value.agg #[Value.int .i64 (greaterS a b k).lo, Value.int .i64 (greaterS a b k).hi, Value.int .i64 (greaterS a b k).m, Value.int .i64 (greaterS a b k).r, Value.int .i64 (greaterS a b k).k])]
  kL0_0 : D 19 = false → Bk W n1_1 #[Value.int .i64 0, Value.int .i64 0, Value.int .i64 0, Value.int .i64 0, Value.int .i64 0] 27
  kL0_1 : D 19 = true → Bk W n1_1 #[Value.int .i64 (greaterS a b k).lo, Value.int .i64 (greaterS a b k).hi, Value.int .i64 (greaterS a b k).m, Value.int .i64 (greaterS a b k).r, Value.int .i64 (greaterS a b k).k] 27

set_option maxRecDepth 100000 in
set_option maxHeartbeats 4000000 in
theorem pgreater_is {a b : Ab} (k : Int) (w : World) (ha : Good a) (hb : Good b) :
    Calls Try.prog 80 #[Value.agg #[Value.int .i64 a.lo, Value.int .i64 a.hi, Value.int .i64 a.m, Value.int .i64 a.r, Value.int .i64 a.k, Value.int .i64 b.lo, Value.int .i64 b.hi, Value.int .i64 b.m, Value.int .i64 b.r, Value.int .i64 b.k, Value.int .i64 k]] w fun e w' => e = .returned (Value.agg #[Value.int .i64 (greaterS a b k).lo, Value.int .i64 (greaterS a b k).hi, Value.int .i64 (greaterS a b k).m, Value.int .i64 (greaterS a b k).r, Value.int .i64 (greaterS a b k).k]) ∧ Below w.heap.size w w' := by
  have a1 := ha.h1; have a2 := ha.h2; have a3 := ha.h3
  have b1 := hb.h1; have b2 := hb.h2; have b3 := hb.h3
  have sa := ha.step0; have sb := hb.step0
  have hj := join_zero ha hb
  have hj2 := joinG_hi ha hb
  have GY := by_G (max a.lo b.lo) (max a.hi b.hi) (joinG (stepS a) (stepS b) (a.lo - b.lo)) k (by omega) (by omega) (by omega) (by omega) (by omega) (by omega)
  clear hj hj2
  refine calls_go Try.func80 rfl 22 rfl rfl (fun aF hz df hu => ?_)
  have u0 : Sl aF 0 (Value.agg #[Value.int .i64 a.lo, Value.int .i64 a.hi, Value.int .i64 a.m, Value.int .i64 a.r, Value.int .i64 a.k, Value.int .i64 b.lo, Value.int .i64 b.hi, Value.int .i64 b.m, Value.int .i64 b.r, Value.int .i64 b.k, Value.int .i64 k]) := hu 0 _ rfl
  clear hu
  have hM : Mk0 w w.heap.size w := ⟨Below.refl _ _, Nat.le_refl _⟩
  have hB : Bks w [] := trivial
  refine wp_seq ?_
  obtain ⟨m1, hM, hU, hwm⟩ := start_region hM.b hB
  refine region_run (F := pgreater_is_r0_1 a b k w m1) [1, 2] [0, 1] hz df (by kernel_rfl) (by kernel_rfl) (fun s hs0 => ⟨hM, hB, Vals.none s _, fun h => no_of' h, fun h => no_of' h, fun h => no_of' h, fun h => no_of' h, fun h => no_of' h, fun h => no_of' h, fun h => no_of' h⟩) ?_ ?_
  refine FSteps.op3 hz rfl (dv := []) (by kernel_rfl) (by kernel_rfl) (by kernel_rfl) (fun D s W bA kK hD hW hF hA hK => ?_) ?_
  · have x0 := hA.o 0 _ rfl u0
    have hF := Lib.hid hF
    clear hA
    go_simp
    exact hK.out _ _ ⟨hF.out.zb.al _, Bks.al _ hF.out.zq, hF.out.zt.skip rfl, fun _ => rfl, hF.out.v1, fun _ => Bk.new _ _ _, fun _ => hF.out.zb.g, fun h1 => (hF.out.k1_0 h1).al _, hF.out.g1, fun _ h => Nat.ne_of_gt ((hF.out.k1_0 h).lt)⟩
  refine FSteps.op3 hz rfl (dv := []) (by kernel_rfl) (by kernel_rfl) (by kernel_rfl) (fun D s W bA kK hD hW hF hA hK => ?_) ?_
  · have hF := Lib.hid hF
    clear hA
    go_simp
    exact hK.out _ _ ⟨hF.out.zb.al _, Bks.al _ hF.out.zq, hF.out.zt.skip rfl, hF.out.v0, fun _ => rfl, fun h1 => (hF.out.k0_0 h1).al _, hF.out.g0, fun _ => Bk.new _ _ _, fun _ => hF.out.zb.g, fun h _ => Nat.ne_of_lt ((hF.out.k0_0 h).lt)⟩
  exact FSteps.nil
  intro D s W aF1 hD hF hz' df' hA
  obtain ⟨d0, d1, -⟩ := hD
  clear u0
  have u1 : Sl aF1 1 _ := hA.i 1 _ rfl rfl (hF.v0 d0)
  have u2 : Sl aF1 2 _ := hA.i 2 _ rfl rfl (hF.v1 d1)
  have hkX0 := hF.k0_0 d0
  have hgX0 := hF.g0 d0
  have hkX1 := hF.k1_0 d1
  have hgX1 := hF.g1 d1
  have heX0_1 := hF.e0_1 d0 d1
  have hM := hF.zb
  have hB := hF.zq
  generalize pblk (s 1) = n1_0 at hkX0 hgX0 hkX1 hgX1 heX0_1 u1 u2
  generalize pblk (s 2) = n1_1 at hkX0 hgX0 hkX1 hgX1 heX0_1 u1 u2
  have hB : Bks W [(n1_0, #[Value.int .i64 a.lo, Value.int .i64 a.hi, Value.int .i64 a.m, Value.int .i64 a.r, Value.int .i64 a.k, Value.int .i64 b.lo, Value.int .i64 b.hi, Value.int .i64 b.m, Value.int .i64 b.r, Value.int .i64 b.k, Value.int .i64 k], 72), (n1_1, #[Value.int .i64 0, Value.int .i64 0, Value.int .i64 0, Value.int .i64 0, Value.int .i64 0], 27)] := ⟨hkX0, hkX1, trivial⟩
  have hw_n1_1 : w.heap.size ≤ n1_1 := Nat.le_trans hwm hgX1
  clear hF hA hz df d0 d1 hU
  have hz := hz'; have df := df'; clear hz' df'
  clear aF
  show Code.wp _ _ _ _ _
  refine wp_seq ?_
  obtain ⟨m2, hM, hU, hwm⟩ := start_region hM.b hB
  obtain ⟨hk_0, hk_1, -⟩ := hB
  obtain ⟨hl_0, hl_1, -⟩ := hU
  have hB : Bks _ [(n1_0, #[Value.int .i64 a.lo, Value.int .i64 a.hi, Value.int .i64 a.m, Value.int .i64 a.r, Value.int .i64 a.k, Value.int .i64 b.lo, Value.int .i64 b.hi, Value.int .i64 b.m, Value.int .i64 b.r, Value.int .i64 b.k, Value.int .i64 k], 72)] := ⟨hk_0, trivial⟩
  have hU : Under m2 [(n1_0, #[Value.int .i64 a.lo, Value.int .i64 a.hi, Value.int .i64 a.m, Value.int .i64 a.r, Value.int .i64 a.k, Value.int .i64 b.lo, Value.int .i64 b.hi, Value.int .i64 b.m, Value.int .i64 b.r, Value.int .i64 b.k, Value.int .i64 k], 72)] := ⟨hl_0, trivial⟩
  refine region_go (F := pgreater_is_r1_2 a b k n1_0 n1_1 w m2) [3, 4, 5, 6, 7, 8, 9, 10, 11, 12, 13, 14, 15, 16, 17, 18, 19, 20, 21] [0, 1, 2, 3, 4, 5, 6, 7, 8, 9, 10, 11, 12, 13, 14, 15, 16, 17, 18, 19] hz df (by kernel_rfl) (by kernel_rfl) (by kernel_rfl) (fun s hs0 => ⟨hM.drew, Bks.drew hB, Vals.none s _, fun _ => hk_1.drew, fun h => no_of' h⟩) ?_ ?_
  refine FSteps.op3 hz rfl (dv := []) (by kernel_rfl) (by kernel_rfl) (by kernel_rfl) (fun D s W bA kK hD hW hF hA hK => ?_) ?_
  · have x1 := hA.o 1 _ rfl u1
    have hF := Lib.hid hF
    clear hA
    go_simp
    exact hK.out _ _ ⟨hF.out.zb, hF.out.zq, hF.out.zt.step rfl rfl, hF.out.kL0_0, hF.out.kL0_1⟩
  refine FSteps.op3 hz rfl (dv := [0]) (by kernel_rfl) (by kernel_rfl) (by kernel_rfl) (fun D s W bA kK hD hW hF hA hK => ?_) ?_
  · have x3 := hA.i 3 _ rfl rfl (hF.zt.get (j := 0) rfl hW.1)
    have hF := Lib.hid hF
    clear hA
    go_simp
    exact hK.out _ _ ⟨hF.out.zb, hF.out.zq, hF.out.zt.step rfl rfl, hF.out.kL0_0, hF.out.kL0_1⟩
  refine FSteps.op3 hz rfl (dv := [1]) (by kernel_rfl) (by kernel_rfl) (by kernel_rfl) (fun D s W bA kK hD hW hF hA hK => ?_) ?_
  · have x4 := hA.i 4 _ rfl rfl (hF.zt.get (j := 1) rfl hW.1)
    obtain ⟨⟨c0, z0⟩, -⟩ := hF.zq.rules
    have hF := Lib.hid hF
    clear hA
    go_simp
    exact hK.out _ _ ⟨hF.out.zb, hF.out.zq, hF.out.zt.step rfl rfl, hF.out.kL0_0, hF.out.kL0_1⟩
  refine FSteps.op3 hz rfl (dv := []) (by kernel_rfl) (by kernel_rfl) (by kernel_rfl) (fun D s W bA kK hD hW hF hA hK => ?_) ?_
  · have x1 := hA.o 1 _ rfl u1
    have hF := Lib.hid hF
    clear hA
    go_simp
    exact hK.out _ _ ⟨hF.out.zb, hF.out.zq, hF.out.zt.step rfl rfl, hF.out.kL0_0, hF.out.kL0_1⟩
  refine FSteps.op3 hz rfl (dv := [3]) (by kernel_rfl) (by kernel_rfl) (by kernel_rfl) (fun D s W bA kK hD hW hF hA hK => ?_) ?_
  · have x6 := hA.i 6 _ rfl rfl (hF.zt.get (j := 3) rfl hW.1)
    have hF := Lib.hid hF
    clear hA
    go_simp
    exact hK.out _ _ ⟨hF.out.zb, hF.out.zq, hF.out.zt.step rfl rfl, hF.out.kL0_0, hF.out.kL0_1⟩
  refine FSteps.op3 hz rfl (dv := [4]) (by kernel_rfl) (by kernel_rfl) (by kernel_rfl) (fun D s W bA kK hD hW hF hA hK => ?_) ?_
  · have x7 := hA.i 7 _ rfl rfl (hF.zt.get (j := 4) rfl hW.1)
    obtain ⟨⟨c0, z0⟩, -⟩ := hF.zq.rules
    have hF := Lib.hid hF
    clear hA
    go_simp
    exact hK.out _ _ ⟨hF.out.zb, hF.out.zq, hF.out.zt.step rfl rfl, hF.out.kL0_0, hF.out.kL0_1⟩
  refine FSteps.op3 hz rfl (dv := [2, 5]) (by kernel_rfl) (by kernel_rfl) (by kernel_rfl) (fun D s W bA kK hD hW hF hA hK => ?_) ?_
  · have x5 := hA.i 5 _ rfl rfl (hF.zt.get (j := 2) rfl hW.1)
    have x8 := hA.i 8 _ rfl rfl (hF.zt.get (j := 5) rfl hW.2.1)
    have hF := Lib.hid hF
    clear hA
    have hm6_0 : (if a.lo < b.lo then b.lo else a.lo) = max a.lo b.lo := max_is _ _
    go_simp
    exact hK.out _ _ ⟨hF.out.zb, hF.out.zq, hF.out.zt.step rfl rfl, hF.out.kL0_0, hF.out.kL0_1⟩
  refine FSteps.op3 hz rfl (dv := []) (by kernel_rfl) (by kernel_rfl) (by kernel_rfl) (fun D s W bA kK hD hW hF hA hK => ?_) ?_
  · have x1 := hA.o 1 _ rfl u1
    have hF := Lib.hid hF
    clear hA
    go_simp
    exact hK.out _ _ ⟨hF.out.zb, hF.out.zq, hF.out.zt.step rfl rfl, hF.out.kL0_0, hF.out.kL0_1⟩
  refine FSteps.op3 hz rfl (dv := [7]) (by kernel_rfl) (by kernel_rfl) (by kernel_rfl) (fun D s W bA kK hD hW hF hA hK => ?_) ?_
  · have x10 := hA.i 10 _ rfl rfl (hF.zt.get (j := 7) rfl hW.1)
    have hF := Lib.hid hF
    clear hA
    go_simp
    exact hK.out _ _ ⟨hF.out.zb, hF.out.zq, hF.out.zt.step rfl rfl, hF.out.kL0_0, hF.out.kL0_1⟩
  refine FSteps.op3 hz rfl (dv := [8]) (by kernel_rfl) (by kernel_rfl) (by kernel_rfl) (fun D s W bA kK hD hW hF hA hK => ?_) ?_
  · have x11 := hA.i 11 _ rfl rfl (hF.zt.get (j := 8) rfl hW.1)
    obtain ⟨⟨c0, z0⟩, -⟩ := hF.zq.rules
    have hF := Lib.hid hF
    clear hA
    go_simp
    exact hK.out _ _ ⟨hF.out.zb, hF.out.zq, hF.out.zt.step rfl rfl, hF.out.kL0_0, hF.out.kL0_1⟩
  refine FSteps.op3 hz rfl (dv := []) (by kernel_rfl) (by kernel_rfl) (by kernel_rfl) (fun D s W bA kK hD hW hF hA hK => ?_) ?_
  · have x1 := hA.o 1 _ rfl u1
    have hF := Lib.hid hF
    clear hA
    go_simp
    exact hK.out _ _ ⟨hF.out.zb, hF.out.zq, hF.out.zt.step rfl rfl, hF.out.kL0_0, hF.out.kL0_1⟩
  refine FSteps.op3 hz rfl (dv := [10]) (by kernel_rfl) (by kernel_rfl) (by kernel_rfl) (fun D s W bA kK hD hW hF hA hK => ?_) ?_
  · have x13 := hA.i 13 _ rfl rfl (hF.zt.get (j := 10) rfl hW.1)
    have hF := Lib.hid hF
    clear hA
    go_simp
    exact hK.out _ _ ⟨hF.out.zb, hF.out.zq, hF.out.zt.step rfl rfl, hF.out.kL0_0, hF.out.kL0_1⟩
  refine FSteps.op3 hz rfl (dv := [11]) (by kernel_rfl) (by kernel_rfl) (by kernel_rfl) (fun D s W bA kK hD hW hF hA hK => ?_) ?_
  · have x14 := hA.i 14 _ rfl rfl (hF.zt.get (j := 11) rfl hW.1)
    obtain ⟨⟨c0, z0⟩, -⟩ := hF.zq.rules
    have hF := Lib.hid hF
    clear hA
    go_simp
    exact hK.out _ _ ⟨hF.out.zb, hF.out.zq, hF.out.zt.step rfl rfl, hF.out.kL0_0, hF.out.kL0_1⟩
  refine FSteps.op3 hz rfl (dv := [9, 12]) (by kernel_rfl) (by kernel_rfl) (by kernel_rfl) (fun D s W bA kK hD hW hF hA hK => ?_) ?_
  · have x12 := hA.i 12 _ rfl rfl (hF.zt.get (j := 9) rfl hW.1)
    have x15 := hA.i 15 _ rfl rfl (hF.zt.get (j := 12) rfl hW.2.1)
    have hF := Lib.hid hF
    clear hA
    have hm13_0 : (if a.hi < b.hi then b.hi else a.hi) = max a.hi b.hi := max_is _ _
    go_simp
    exact hK.out _ _ ⟨hF.out.zb, hF.out.zq, hF.out.zt.step rfl rfl, hF.out.kL0_0, hF.out.kL0_1⟩
  refine FSteps.op3 hz rfl (dv := []) (by kernel_rfl) (by kernel_rfl) (by kernel_rfl) (fun D s W bA kK hD hW hF hA hK => ?_) ?_
  · have x1 := hA.o 1 _ rfl u1
    obtain ⟨⟨c0, z0⟩, -⟩ := hF.zq.rules
    have hF := Lib.hid hF
    clear hA
    go_simp
    exact hK.out _ _ ⟨hF.out.zb, hF.out.zq, hF.out.zt.step rfl rfl, hF.out.kL0_0, hF.out.kL0_1⟩
  refine FSteps.op3 hz rfl (dv := [14]) (by kernel_rfl) (by kernel_rfl) (by kernel_rfl) (fun D s W bA kK hD hW hF hA hK => ?_) ?_
  · have x17 := hA.i 17 _ rfl rfl (hF.zt.get (j := 14) rfl hW.1)
    have hF := Lib.hid hF
    clear hA
    go_simp
    (go_at_call 102; ((with_reducible_and_instances refine (papart_is k _ ha hb).mono ?_)); rintro e W1 ⟨rfl, hb⟩; (try unfold abVal))
    (try go_wp2_with fail)
    exact hK.out _ _ ⟨hF.out.zb.on hb, Bks.on hb hF.out.zq, hF.out.zt.step rfl rfl, fun h2 => (hF.out.kL0_0 h2).on hb, fun h1 => (hF.out.kL0_1 h1).on hb⟩
  refine FSteps.op3 hz rfl (dv := []) (by kernel_rfl) (by kernel_rfl) (by kernel_rfl) (fun D s W bA kK hD hW hF hA hK => ?_) ?_
  · have x1 := hA.o 1 _ rfl u1
    have hF := Lib.hid hF
    clear hA
    go_simp
    exact hK.out _ _ ⟨hF.out.zb, hF.out.zq, hF.out.zt.step rfl rfl, hF.out.kL0_0, hF.out.kL0_1⟩
  refine FSteps.op3 hz rfl (dv := [16]) (by kernel_rfl) (by kernel_rfl) (by kernel_rfl) (fun D s W bA kK hD hW hF hA hK => ?_) ?_
  · have x19 := hA.i 19 _ rfl rfl (hF.zt.get (j := 16) rfl hW.1)
    obtain ⟨⟨c0, z0⟩, -⟩ := hF.zq.rules
    have hF := Lib.hid hF
    clear hA
    go_simp
    exact hK.out _ _ ⟨hF.out.zb, hF.out.zq, hF.out.zt.step rfl rfl, hF.out.kL0_0, hF.out.kL0_1⟩
  refine FSteps.op3 hz rfl (dv := [6, 13, 15, 17, 15]) (by kernel_rfl) (by kernel_rfl) (by kernel_rfl) (fun D s W bA kK hD hW hF hA hK => ?_) ?_
  · have x9 := hA.i 9 _ rfl rfl (hF.zt.get (j := 6) rfl hW.1)
    have x16 := hA.i 16 _ rfl rfl (hF.zt.get (j := 13) rfl hW.2.1)
    have x18 := hA.i 18 _ rfl rfl (hF.zt.get (j := 15) rfl hW.2.2.1)
    have x20 := hA.i 20 _ rfl rfl (hF.zt.get (j := 17) rfl hW.2.2.2.1)
    have hF := Lib.hid hF
    clear hA
    go_simp
    (go_at_call 46; ((with_reducible_and_instances refine (GY.out _).mono ?_)); rintro e W1 ⟨rfl, hb⟩; (try unfold abVal))
    (try go_wp2_with fail)
    exact hK.out _ _ ⟨hF.out.zb.on hb, Bks.on hb hF.out.zq, hF.out.zt.step rfl rfl, fun h2 => (hF.out.kL0_0 h2).on hb, fun h1 => (hF.out.kL0_1 h1).on hb⟩
  refine FSteps.op3 hz rfl (dv := [18, 18, 0, 1, 2, 3, 4, 5, 6, 7, 8, 9, 10, 11, 12, 13, 14, 15, 16, 17, 18]) (by kernel_rfl) (by kernel_rfl) (by kernel_rfl) (fun D s W bA kK hD hW hF hA hK => ?_) ?_
  · have x2 := hA.o 2 _ rfl u2
    have x21 := hA.i 21 _ rfl rfl (hF.zt.get (j := 18) rfl hW.1)
    have kk := hF.kL0_0 hD
    have kc := kk.cell; have kf := kk.free
    have hF := Lib.hid hF
    have kk := Lib.hid kk
    clear hA
    go_simp
    exact hK.out undef _ ⟨hF.out.zb.sAll (hw_n1_1) 0 [Value.int .i64 (greaterS a b k).lo, Value.int .i64 (greaterS a b k).hi, Value.int .i64 (greaterS a b k).m, Value.int .i64 (greaterS a b k).r, Value.int .i64 (greaterS a b k).k], Bks.oAll [Value.int .i64 (greaterS a b k).lo, Value.int .i64 (greaterS a b k).hi, Value.int .i64 (greaterS a b k).m, Value.int .i64 (greaterS a b k).r, Value.int .i64 (greaterS a b k).k] 0 (⟨(by omega), trivial⟩) hF.out.zq, hF.out.zt.skip rfl, fun h2 => no_of h2, fun _ => kk.out.full [Value.int .i64 (greaterS a b k).lo, Value.int .i64 (greaterS a b k).hi, Value.int .i64 (greaterS a b k).m, Value.int .i64 (greaterS a b k).r, Value.int .i64 (greaterS a b k).k] rfl⟩
  exact FSteps.nil
  intro D s W aF2 hD hF hz' df' hA
  obtain ⟨d0, d1, d2, d3, d4, d5, d6, d7, d8, d9, d10, d11, d12, d13, d14, d15, d16, d17, d18, d19, -⟩ := hD
  clear u1
  replace u2 : Sl aF2 2 _ := hA.o 2 _ rfl u2
  have hkXL0 := hF.kL0_1 d19
  have hM := hF.zb
  have hB := hF.zq
  have hB : Bks W [(n1_1, #[Value.int .i64 (greaterS a b k).lo, Value.int .i64 (greaterS a b k).hi, Value.int .i64 (greaterS a b k).m, Value.int .i64 (greaterS a b k).r, Value.int .i64 (greaterS a b k).k], 27)] := ⟨hkXL0, trivial⟩
  clear hF hA hz df d0 d1 d2 d3 d4 d5 d6 d7 d8 d9 d10 d11 d12 d13 d14 d15 d16 d17 d18 d19 
  have hz := hz'; have df := df'; clear hz' df'
  clear aF1
  show Code.wp _ _ _ _ _
  refine wp_ret ?_
  show bodyPost _ _ _ _ _ _
  have hB2 := hB.rules
  obtain ⟨⟨c0, z0⟩, -⟩ := hB2
  unfold Sl at u2
  refine end_go df (v := (Value.agg #[Value.int .i64 (greaterS a b k).lo, Value.int .i64 (greaterS a b k).hi, Value.int .i64 (greaterS a b k).m, Value.int .i64 (greaterS a b k).r, Value.int .i64 (greaterS a b k).k])) (by simp [results, Try.results80, go_sem, u2, c0]) ⟨rfl, hM.b⟩


end Go.Proofs.Ytlokjiniigfaiaa
