/- span.Op at every operator, Has, words of sets: the contracts that the laws use. -/
import Derived.Test.YtlokjiniigfaiaaSpSound
import Derived.Test.YtlokjiniigfaiaaNumOp
set_option linter.unusedVariables false
set_option linter.unusedSimpArgs false
namespace Go.Proofs.Ytlokjiniigfaiaa
open Go.ChangeShapes Go.WideShapes Go.ChangeAt Go.RowKit

/-- Products of steps that fit. -/
structure MulOk (a b : Ab) : Prop where
  hs : stepS a * stepS b ≤ 9223372036854775807
  hg1 : absS a.lo * stepS b ≤ 9223372036854775807
  hg2 : absS b.lo * stepS a ≤ 9223372036854775807

theorem op_ab {op : Int} {a b : Ab} (h4 : 4 ≤ op) (h10 : op ≤ 10) (ha : Good a) (hb : Good b) (hm : op = 6 → MulOk a b) (w : World) :
    Calls Try.prog 14 #[.int .i64 op, Value.agg #[Value.int .i64 a.lo, Value.int .i64 a.hi, Value.int .i64 a.m, Value.int .i64 a.r, Value.int .i64 a.k], Value.agg #[Value.int .i64 b.lo, Value.int .i64 b.hi, Value.int .i64 b.m, Value.int .i64 b.r, Value.int .i64 b.k]] w fun e w' => e = .returned (abVal (opS op a b)) ∧ Below w.heap.size w w' := by
  unfold opS
  by_cases hs : stepS a = 0 ∧ stepS b = 0
  · rw [if_pos hs]; exact op1_is op w ha hb hs.1 hs.2
  · rw [if_neg hs]
    have : op = 4 ∨ op = 5 ∨ op = 6 ∨ op = 7 ∨ op = 8 ∨ op = 9 ∨ op = 10 := by omega
    rcases this with rfl | rfl | rfl | rfl | rfl | rfl | rfl
    · exact op4_ab ha hb hs w
    · exact op5_ab ha hb hs w
    · have hm := hm rfl
      have s1 := ha.step0; have s2 := hb.step0
      have n1 : 0 ≤ absS a.lo := by unfold absS; omega
      have n2 : 0 ≤ absS b.lo := by unfold absS; omega
      have hg := gcd_le (gcd_le ⟨Int.mul_nonneg n1 s2.1, hm.hg1⟩ ⟨Int.mul_nonneg n2 s1.1, hm.hg2⟩) ⟨Int.mul_nonneg s1.1 s2.1, hm.hs⟩
      exact op6_ab ha hb hs hm.hs hg hm.hg1 hm.hg2 w
    · exact op7_ab ha hb hs w
    · exact op8_ab ha hb hs w
    · exact op9_ab ha hb hs w
    · exact op10_ab ha hb hs w

theorem step_small {a : Ab} (h : Good a) (hm : a.m ≤ 1048576) : 0 ≤ stepS a ∧ stepS a ≤ 1048576 := by
  have := h.h6
  unfold stepS
  split <;> omega
theorem mulOk_small {a b : Ab} (ha : Good a) (hb : Good b) (ma : a.m ≤ 1048576) (mb : b.m ≤ 1048576) : MulOk a b := by
  have s1 := step_small ha ma; have s2 := step_small hb mb
  have a1 := ha.h1; have a2 := ha.h2; have a3 := ha.h3; have b1 := hb.h1; have b2 := hb.h2; have b3 := hb.h3
  have n1 : 0 ≤ absS a.lo ∧ absS a.lo ≤ 2147483648 := by unfold absS; omega
  have n2 : 0 ≤ absS b.lo ∧ absS b.lo ≤ 2147483648 := by unfold absS; omega
  have p1 : stepS a * stepS b ≤ 1048576 * 1048576 := Int.mul_le_mul s1.2 s2.2 s2.1 (by omega)
  have p2 : absS a.lo * stepS b ≤ 2147483648 * 1048576 := Int.mul_le_mul n1.2 s2.2 s2.1 (by omega)
  have p3 : absS b.lo * stepS a ≤ 2147483648 * 1048576 := Int.mul_le_mul n2.2 s1.2 s1.1 (by omega)
  exact ⟨by omega, by omega, by omega⟩

theorem has_true {a : Ab} {v k : Int} (ha : Good a) (hv : InS a v) (hk : Sub k a.k) (w : World) :
    Calls Try.prog 13 #[Value.agg #[Value.int .i64 a.lo, Value.int .i64 a.hi, Value.int .i64 a.m, Value.int .i64 a.r, Value.int .i64 a.k], .agg #[.int .i64 v, .int .i64 k]] w fun e w' => e = .returned (.bool true) ∧ Below w.heap.size w w' := by
  have a1 := ha.h1; have a2 := ha.h2; have a3 := ha.h3; have a6 := ha.h6
  have v1 := hv.1; have v2 := hv.2.1
  have h := has_is a v k (by omega) (by omega) (by omega) w
  rw [decide_eq_true (show InS a v ∧ notS k a.k = 0 from ⟨hv, sub_not hk⟩)] at h
  exact h

theorem at_in {a : Ab} (ha : Good a) (n : Int) : InS a (atS a n) := by
  have a6 := ha.h6
  obtain ⟨P1, P2, -⟩ := at_fits (n := n) ha.h2 (show 0 < a.m by omega)
  unfold atS
  refine ⟨by omega, by omega, ?_⟩
  rw [show a.lo + n % ((a.hi - a.lo).tdiv a.m + 1) * a.m - a.lo = n % ((a.hi - a.lo).tdiv a.m + 1) * a.m by omega]
  exact Int.mul_emod_left _ _

theorem bounded_k (lo hi m k : Int) : (boundedS lo hi m k).k = k := by
  unfold boundedS
  split
  · exact by_k ..
  · exact by_k ..
theorem op_k (op : Int) (a b : Ab) : (opS op a b).k = orS a.k b.k := by
  unfold opS
  split
  · exact by_k ..
  split
  · exact bounded_k ..
  split
  · exact bounded_k ..
  split
  · exact bounded_k ..
  split
  · unfold divS' clampS
    repeat' split
    all_goals exact by_k ..
  split
  · unfold remS
    split
    · exact by_k ..
    · split
      · rfl
      · exact by_k ..
  split
  · exact by_k ..
  · exact by_k ..


end Go.Proofs.Ytlokjiniigfaiaa
