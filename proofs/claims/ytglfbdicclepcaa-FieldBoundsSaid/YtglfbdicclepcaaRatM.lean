/- Numbers with a sign of two words; sums, products and comparisons of fractions: plain arithmetic. No program. -/
import Derived.Test.YtglfbdicclepcaaEvW
set_option linter.unusedVariables false
set_option linter.unusedSimpArgs false
namespace Go.Proofs.Ytglfbdicclepcaa
open Go.RowKit
set_option maxRecDepth 100000

def absI (n : Int) : Int := if n < 0 then -n else n
theorem absI_nonneg (n : Int) : 0 ≤ absI n := by unfold absI; split <;> omega
theorem absI_bd {n b : Int} (h : -b ≤ n ∧ n ≤ b) : 0 ≤ absI n ∧ absI n ≤ b := by unfold absI; split <;> omega
theorem absI_natAbs (n : Int) : absI n = (n.natAbs : Int) := by unfold absI; split <;> omega
theorem absI_pos {n : Int} (h : 0 ≤ n) : absI n = n := by unfold absI; split <;> omega
theorem absI_zero {n : Int} : absI n = 0 ↔ n = 0 := by unfold absI; split <;> omega
theorem absI_mul (a b : Int) : absI a * absI b = absI (a * b) := by rw [absI_natAbs, absI_natAbs, absI_natAbs, Int.natAbs_mul]; simp
def negP (a b : Int) : Bool := !(decide (a < 0) == decide (b < 0))
def sgn (n : Bool) (m : Int) : Int := if n then -m else m
def plN (n1 : Bool) (m1 : Int) (n2 : Bool) (m2 : Int) : Bool := if n1 = n2 then n1 else if m2 ≤ m1 then n1 else n2
def plM (n1 : Bool) (m1 : Int) (n2 : Bool) (m2 : Int) : Int := if n1 = n2 then m1 + m2 else if m2 ≤ m1 then m1 - m2 else m2 - m1
def numN (n : Bool) (m : Int) : Int := if m ≤ 4611686018427387904 then sgn n m else 0
def madE (m1 m2 : Int) : Int := if m1 ≤ 4611686018427387904 ∧ m2 ≤ 4611686018427387904 then 0 else 2
def madN (n1 : Bool) (m1 m2 : Int) : Int := if m1 ≤ 4611686018427387904 ∧ m2 ≤ 4611686018427387904 then sgn n1 m1 else 0
def madD (n2 : Bool) (m1 m2 : Int) : Int := if m1 ≤ 4611686018427387904 ∧ m2 ≤ 4611686018427387904 then sgn n2 m2 else 0
theorem sgn_neg (a b : Int) (h : a * b ≠ 0) : sgn (negP a b) (absI a * absI b) = a * b := by
  rw [absI_mul]
  have ha : a ≠ 0 := fun e => h (by rw [e, Int.zero_mul])
  have hb : b ≠ 0 := fun e => h (by rw [e, Int.mul_zero])
  rcases Int.lt_or_gt_of_ne ha with h1 | h1 <;> rcases Int.lt_or_gt_of_ne hb with h2 | h2
  · have := Int.mul_pos_of_neg_of_neg h1 h2
    simp [sgn, negP, h1, h2]; exact absI_pos (by omega)
  · have := Int.mul_neg_of_neg_of_pos h1 h2
    have e : decide (b < 0) = false := decide_eq_false (by omega)
    simp only [sgn, negP, h1, e, decide_true]
    unfold absI
    simp; omega
  · have := Int.mul_neg_of_pos_of_neg h1 h2
    have e : decide (a < 0) = false := decide_eq_false (by omega)
    simp only [sgn, negP, h2, e, decide_true]
    unfold absI
    simp; omega
  · have := Int.mul_pos h1 h2
    have e1 : decide (a < 0) = false := decide_eq_false (by omega)
    have e2 : decide (b < 0) = false := decide_eq_false (by omega)
    simp only [sgn, negP, e1, e2]
    simp; exact absI_pos (by omega)
theorem sgn_zero (n : Bool) : sgn n 0 = 0 := by cases n <;> rfl
theorem sgn_neg' (a b : Int) : sgn (negP a b) (absI a * absI b) = a * b := by
  by_cases h : a * b = 0
  · rw [absI_mul, h, show absI 0 = 0 by rfl, sgn_zero]
  · exact sgn_neg a b h
theorem pl_val {n1 n2 : Bool} {m1 m2 : Int} (h1 : 0 ≤ m1) (h2 : 0 ≤ m2) : sgn (plN n1 m1 n2 m2) (plM n1 m1 n2 m2) = sgn n1 m1 + sgn n2 m2 ∧ 0 ≤ plM n1 m1 n2 m2 := by
  cases n1 <;> cases n2 <;> simp [sgn, plN, plM] <;> first | omega | (split <;> simp <;> omega)
theorem plM_add {n1 n2 : Bool} {m1 m2 : Int} (h : n1 = n2) : plM n1 m1 n2 m2 = m1 + m2 := by rw [plM, if_pos h]
theorem plM_sub {n1 n2 : Bool} {m1 m2 : Int} (h : ¬ n1 = n2) (k : m2 ≤ m1) : plM n1 m1 n2 m2 = m1 - m2 := by rw [plM, if_neg h, if_pos k]
theorem plM_bus {n1 n2 : Bool} {m1 m2 : Int} (h : ¬ n1 = n2) (k : ¬ m2 ≤ m1) : plM n1 m1 n2 m2 = m2 - m1 := by rw [plM, if_neg h, if_neg k]
/-- The sign and the size of a sum of two products. -/
def sumN (a b c d : Int) : Bool := plN (negP a b) (absI a * absI b) (negP c d) (absI c * absI d)
theorem sum_M (a b c d : Int) : plM (negP a b) (absI a * absI b) (negP c d) (absI c * absI d) = absI (a * b + c * d) := by
  have h1 : 0 ≤ absI a * absI b := Int.mul_nonneg (absI_nonneg _) (absI_nonneg _)
  have h2 : 0 ≤ absI c * absI d := Int.mul_nonneg (absI_nonneg _) (absI_nonneg _)
  obtain ⟨v, p⟩ := pl_val (n1 := negP a b) (n2 := negP c d) h1 h2
  rw [sgn_neg', sgn_neg'] at v
  rw [← v]
  generalize plM (negP a b) (absI a * absI b) (negP c d) (absI c * absI d) = m at *
  unfold absI sgn
  split <;> split <;> omega
theorem sum_sgn (a b c d : Int) : sgn (sumN a b c d) (absI (a * b + c * d)) = a * b + c * d := by
  have h1 : 0 ≤ absI a * absI b := Int.mul_nonneg (absI_nonneg _) (absI_nonneg _)
  have h2 : 0 ≤ absI c * absI d := Int.mul_nonneg (absI_nonneg _) (absI_nonneg _)
  have v := (pl_val (n1 := negP a b) (n2 := negP c d) h1 h2).1
  rw [sgn_neg', sgn_neg', sum_M] at v
  exact v
theorem sum_neg {a b c d : Int} (h : a * b + c * d ≠ 0) : sumN a b c d = decide (a * b + c * d < 0) := by
  have v := sum_sgn a b c d
  generalize a * b + c * d = t at *
  unfold absI sgn at v
  cases hn : sumN a b c d <;> rw [hn] at v <;> simp at v ⊢ <;> first | omega | (split at v <;> omega)
theorem mul_62 {a b B C : Int} (ha : 0 ≤ a ∧ a ≤ B) (hb : 0 ≤ b ∧ b ≤ C) : 0 ≤ a * b ∧ a * b ≤ B * C :=
  ⟨Int.mul_nonneg ha.1 hb.1, Int.mul_le_mul ha.2 hb.2 hb.1 (by omega)⟩
/-! ### 128 bits over 64 -/
theorem over_hi {m g : Int} (hg : 0 < g) : m / 18446744073709551616 / g = m / g / 18446744073709551616 := by
  rw [Int.ediv_ediv_of_nonneg (by omega), Int.ediv_ediv_of_nonneg (by omega), Int.mul_comm]
theorem over_lo {m g : Int} (hm : 0 ≤ m) (hg : 0 < g) : (m / 18446744073709551616 % g * 18446744073709551616 + m % 18446744073709551616) / g = m / g % 18446744073709551616 := by
  have e1 := Int.mul_ediv_add_emod m 18446744073709551616
  have e2 := Int.mul_ediv_add_emod (m / 18446744073709551616) g
  have r1 := Int.emod_nonneg (m / 18446744073709551616) (show g ≠ 0 by omega)
  have r2 := Int.emod_lt_of_pos (m / 18446744073709551616) hg
  have r3 := Int.emod_nonneg m (show (18446744073709551616 : Int) ≠ 0 by omega)
  have r4 := Int.emod_lt_of_pos m (show (0 : Int) < 18446744073709551616 by omega)
  generalize m / 18446744073709551616 % g = r at *
  generalize m % 18446744073709551616 = l at *
  generalize m / 18446744073709551616 / g = q at *
  have e : m = (r * 18446744073709551616 + l) + g * (q * 18446744073709551616) := by
    rw [← e1, ← e2, Int.mul_add, Int.mul_comm q, Int.mul_left_comm]; omega
  have hd : m / g = (r * 18446744073709551616 + l) / g + q * 18446744073709551616 := by
    rw [e, Int.add_mul_ediv_left _ _ (by omega)]
  rw [hd, Int.add_mul_emod_self_right]
  have h1 := Int.ediv_nonneg (show 0 ≤ r * 18446744073709551616 + l by omega) (show 0 ≤ g by omega)
  have h2 : (r * 18446744073709551616 + l) / g < 18446744073709551616 := (Int.ediv_lt_iff_lt_mul hg).2 (by rw [Int.mul_comm]; omega)
  exact (Int.emod_eq_of_lt h1 h2).symm
theorem rem_lo (m g : Int) : (m / 18446744073709551616 * 18446744073709551616 + m % 18446744073709551616) % g = m % g := by
  rw [Int.mul_comm, Int.mul_ediv_add_emod]
/-! ### Fractions -/
def Frc (n d : Int) : Prop := (-4611686018427387904 ≤ n ∧ n ≤ 4611686018427387904) ∧ 1 ≤ d ∧ d ≤ 4611686018427387904
abbrev gA (b d : Int) : Int := (Int.gcd b d : Int)
/-- The sum before it is made smaller: its numerator, over the least common multiple. -/
def tA (a b c d : Int) : Int := a * (d / gA b d) + c * (b / gA b d)
def hA (a b c d : Int) : Int := (Int.gcd (absI (tA a b c d) % gA b d) (gA b d) : Int)
def addN (a b c d : Int) : Int := if tA a b c d = 0 then 0 else madN (sumN a (d / gA b d) c (b / gA b d)) (absI (tA a b c d) / hA a b c d) (b / gA b d * (d / hA a b c d))
def addD (a b c d : Int) : Int := if tA a b c d = 0 then 1 else madD false (absI (tA a b c d) / hA a b c d) (b / gA b d * (d / hA a b c d))
def addE (a b c d : Int) : Int := if tA a b c d = 0 then 0 else madE (absI (tA a b c d) / hA a b c d) (b / gA b d * (d / hA a b c d))
def mgA (a d : Int) : Int := (Int.gcd (absI a) d : Int)
def mulN (a b c d : Int) : Int := if a = 0 ∨ c = 0 then 0 else madN (negP (a / mgA a d) (c / mgA c b)) (absI (a / mgA a d) * absI (c / mgA c b)) (b / mgA c b * (d / mgA a d))
def mulD (a b c d : Int) : Int := if a = 0 ∨ c = 0 then 1 else madD false (absI (a / mgA a d) * absI (c / mgA c b)) (b / mgA c b * (d / mgA a d))
def mulE (a b c d : Int) : Int := if a = 0 ∨ c = 0 then 0 else madE (absI (a / mgA a d) * absI (c / mgA c b)) (b / mgA c b * (d / mgA a d))
def cmpI (a b c d : Int) : Int := if a = c ∧ b = d then 0 else if plN (negP a d) (absI a * absI d) (!negP c b) (absI c * absI b) then -1 else 1
theorem gA_bd {b d : Int} (hb : 1 ≤ b ∧ b ≤ 4611686018427387904) (hd : 1 ≤ d ∧ d ≤ 4611686018427387904) : (0 < gA b d ∧ gA b d ≤ b ∧ gA b d ≤ d) ∧ (1 ≤ b / gA b d ∧ b / gA b d ≤ 4611686018427387904) ∧ 1 ≤ d / gA b d ∧ d / gA b d ≤ 4611686018427387904 := by
  have g0 : 0 < Int.gcd b d := Int.gcd_pos_of_ne_zero_left _ (by omega)
  have g1 := Int.le_of_dvd (show 0 < b by omega) (Int.gcd_dvd_left (a := b) (b := d))
  have g2 := Int.le_of_dvd (show 0 < d by omega) (Int.gcd_dvd_right (a := b) (b := d))
  have p1 := Int.ediv_pos_of_pos_of_dvd (show 0 < b by omega) (show 0 ≤ gA b d by unfold gA; omega) (Int.gcd_dvd_left (a := b) (b := d))
  have p2 := Int.ediv_pos_of_pos_of_dvd (show 0 < d by omega) (show 0 ≤ gA b d by unfold gA; omega) (Int.gcd_dvd_right (a := b) (b := d))
  have l1 := Int.ediv_le_self (gA b d) (show 0 ≤ b by omega)
  have l2 := Int.ediv_le_self (gA b d) (show 0 ≤ d by omega)
  exact ⟨⟨by unfold gA; omega, g1, g2⟩, ⟨by unfold gA at *; omega, by omega⟩, by unfold gA at *; omega, by omega⟩
theorem tA_bd {a b c d : Int} (h1 : Frc a b) (h2 : Frc c d) : -42535295865117307932921825928971026432 ≤ tA a b c d ∧ tA a b c d ≤ 42535295865117307932921825928971026432 := by
  obtain ⟨_, ⟨x1, x2⟩, y1, y2⟩ := gA_bd h1.2 h2.2
  have m1 := mul_62 (absI_bd h1.1) ⟨show 0 ≤ d / gA b d by omega, y2⟩
  have m2 := mul_62 (absI_bd h2.1) ⟨show 0 ≤ b / gA b d by omega, x2⟩
  have e1 : absI a * (d / gA b d) = absI (a * (d / gA b d)) := by rw [← absI_mul, absI_pos (n := d / gA b d) (by omega)]
  have e2 : absI c * (b / gA b d) = absI (c * (b / gA b d)) := by rw [← absI_mul, absI_pos (n := b / gA b d) (by omega)]
  rw [e1] at m1
  rw [e2] at m2
  unfold tA
  generalize a * (d / gA b d) = p at *
  generalize c * (b / gA b d) = q at *
  unfold absI at m1 m2
  split at m1 <;> split at m2 <;> omega
theorem hA_bd {a b c d : Int} (h1 : Frc a b) (h2 : Frc c d) : (0 < hA a b c d ∧ hA a b c d ≤ gA b d) ∧ (0 ≤ absI (tA a b c d) % gA b d ∧ absI (tA a b c d) % gA b d < gA b d) ∧ (1 ≤ d / hA a b c d ∧ d / hA a b c d ≤ 4611686018427387904) ∧ (0 ≤ absI (tA a b c d) ∧ absI (tA a b c d) ≤ 42535295865117307932921825928971026432) ∧ 0 ≤ absI (tA a b c d) / hA a b c d ∧ absI (tA a b c d) / hA a b c d ≤ absI (tA a b c d) := by
  obtain ⟨⟨g1, g2, g3⟩, _⟩ := gA_bd h1.2 h2.2
  have t := absI_bd (tA_bd h1 h2)
  have p : 0 < Int.gcd (absI (tA a b c d) % gA b d) (gA b d) := Int.gcd_pos_of_ne_zero_right _ (by omega)
  have l : hA a b c d ≤ gA b d := Int.le_of_dvd g1 (Int.gcd_dvd_right ..)
  have hd : hA a b c d ∣ d := Int.dvd_trans (Int.gcd_dvd_right ..) (Int.gcd_dvd_right ..)
  have p' : 0 < hA a b c d := by unfold hA; omega
  have q := Int.ediv_pos_of_pos_of_dvd (show 0 < d by have := h2.2; omega) (show 0 ≤ hA a b c d by omega) hd
  have q2 := Int.ediv_le_self (hA a b c d) (show 0 ≤ d by have := h2.2; omega)
  exact ⟨⟨p', l⟩, ⟨Int.emod_nonneg _ (by omega), Int.emod_lt_of_pos _ g1⟩, ⟨by omega, by have := h2.2; omega⟩, t, Int.ediv_nonneg t.1 (by omega), Int.ediv_le_self _ t.1⟩
theorem mg_bd {a d : Int} (ha : -4611686018427387904 ≤ a ∧ a ≤ 4611686018427387904) (hd : 1 ≤ d ∧ d ≤ 4611686018427387904) : (0 < mgA a d ∧ mgA a d ≤ d) ∧ (1 ≤ d / mgA a d ∧ d / mgA a d ≤ 4611686018427387904) ∧ a.tdiv (mgA a d) = a / mgA a d ∧ -4611686018427387904 ≤ a / mgA a d ∧ a / mgA a d ≤ 4611686018427387904 := by
  have g0 : 0 < Int.gcd (absI a) d := Int.gcd_pos_of_ne_zero_right _ (by omega)
  have g2 := Int.le_of_dvd (show 0 < d by omega) (Int.gcd_dvd_right (a := absI a) (b := d))
  have p2 := Int.ediv_pos_of_pos_of_dvd (show 0 < d by omega) (show 0 ≤ mgA a d by unfold mgA; omega) (Int.gcd_dvd_right (a := absI a) (b := d))
  have l2 := Int.ediv_le_self (mgA a d) (show 0 ≤ d by omega)
  have hda : mgA a d ∣ a := by
    have : mgA a d ∣ absI a := Int.gcd_dvd_left (a := absI a) (b := d)
    rw [absI_natAbs] at this
    exact Int.dvd_natAbs.1 this
  have ht := Int.tdiv_eq_ediv_of_dvd hda
  have hb : (a.tdiv (mgA a d)).natAbs ≤ a.natAbs := by rw [Int.natAbs_tdiv]; exact Nat.div_le_self ..
  refine ⟨⟨by unfold mgA; omega, g2⟩, ⟨by unfold mgA at *; omega, by omega⟩, ht, ?_, ?_⟩ <;> rw [← ht] <;> omega
end Go.Proofs.Ytglfbdicclepcaa
