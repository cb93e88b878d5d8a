/- What odds are worth, sums and products that are known. No program. -/
import Derived.Test.YtkijlggnnbdeiaaRatV
import Derived.Test.YtkijlggnnbdeiaaOdCnt
set_option linter.unusedVariables false
set_option linter.unusedSimpArgs false
namespace Go.Proofs.Ytkijlggnnbdeiaa
open Go.RowKit
set_option maxRecDepth 100000

def Cnt (x : An) : Prop := (0 ≤ x.right ∧ x.right ≤ 1073741824) ∧ 0 ≤ x.wrong ∧ x.wrong ≤ 1073741824
theorem odd_rv {x : An} (h : Cnt x) : RV (oddN x) (oddD x) (x.right + 1) (x.right + x.wrong + 2) := rv_new (by unfold Cnt at h; omega)
theorem odd_bd {x : An} (h : Cnt x) : (1 ≤ oddN x ∧ oddN x ≤ 1073741825) ∧ 1 ≤ oddD x ∧ oddD x ≤ 2147483650 := by
  have r := odd_rv h
  unfold Cnt at h
  have l := r.le (by omega)
  have s := r.sgn (by omega)
  have d := r.d0
  have n0 := s.2.1 (by omega)
  have := l.2.2
  rw [absI_pos (by omega), absI_pos (by omega)] at this
  exact ⟨⟨by omega, by omega⟩, by omega, by omega⟩
theorem odd_red {x : An} (h : Cnt x) : (Int.gcd (absI (oddN x)) (oddD x) : Int) = 1 := by
  have r := (odd_rv h).red
  rw [absI_pos (by have := odd_bd h; omega), r]; rfl
theorem rv_int (n : Int) : RV n 1 n 1 := ⟨by omega, by simp, rfl⟩
theorem odd_gt0 {x : An} (h : Cnt x) : cmpI (oddN x) (oddD x) 0 1 = 1 := cmp_gt (by have := odd_bd h; omega)
theorem odd_lt1 {x : An} (h : Cnt x) : cmpI (oddN x) (oddD x) 1 1 = -1 := by
  have := h
  unfold Cnt at this
  exact (cmp_rv (by omega) (by omega) (odd_rv h) (rv_int 1)).1 (by omega)
theorem cnt_ok {l : List An} (h : RightP l) (k : Int) : Cnt (cntQ l k) := cnt_bd h k
/-! ### Sums and products that are known -/
theorem div_abs {t h : Int} (hh : 0 < h) (hd : h ∣ t) : absI t / h = absI (t / h) := by
  obtain ⟨c, rfl⟩ := hd
  rw [Int.mul_ediv_cancel_left _ (by omega)]
  rw [← absI_mul, absI_pos (n := h) (by omega), Int.mul_ediv_cancel_left _ (by omega)]
theorem sgn_abs {b : Bool} {t h : Int} (hh : 0 < h) (hd : h ∣ t) (hb : sgn b (absI t) = t) : sgn b (absI t / h) = t / h := by
  obtain ⟨c, rfl⟩ := hd
  have e : absI (h * c) / h = absI c := by rw [← absI_mul, absI_pos (n := h) (by omega), Int.mul_ediv_cancel_left _ (by omega)]
  rw [e, Int.mul_ediv_cancel_left _ (by omega)]
  have e2 : absI (h * c) = h * absI c := by rw [← absI_mul, absI_pos (n := h) (by omega)]
  rw [e2] at hb
  unfold sgn at *
  split at hb
  · have : h * (-absI c) = h * c := by rw [Int.mul_neg]; exact hb
    rw [if_pos (by assumption)]
    exact Int.eq_of_mul_eq_mul_left (by omega) this
  · rw [if_neg (by assumption)]
    exact Int.eq_of_mul_eq_mul_left (by omega) hb
theorem add_rv {a b c d P Q P' Q' n e : Int} (f1 : Frc a b) (f2 : Frc c d) (hQ : 0 < Q) (hQ' : 0 < Q') (h : RV a b P Q) (k : RV c d P' Q') (r : RV n e (P * Q' + P' * Q) (Q * Q')) (hn : absI n ≤ 4611686018427387904) (he : e ≤ 4611686018427387904) :
    addN a b c d = n ∧ addD a b c d = e ∧ addE a b c d = 0 := by
  have hb := h.d0
  have hd := k.d0
  have hqq := Int.mul_pos hQ hQ'
  by_cases ht : tA a b c d = 0
  · unfold addN addD addE
    rw [if_pos ht, if_pos ht, if_pos ht]
    have z : P * Q' + P' * Q = 0 := by
      have g0 : 0 < Int.gcd b d := Int.gcd_pos_of_ne_zero_left _ (by omega)
      have ed := Int.mul_ediv_cancel' (Int.gcd_dvd_right (a := b) (b := d))
      have eb := Int.mul_ediv_cancel' (Int.gcd_dvd_left (a := b) (b := d))
      unfold tA gA at ht
      have t0 : a * d + c * b = 0 := by
        have : (Int.gcd b d : Int) * (a * (d / (Int.gcd b d : Int)) + c * (b / (Int.gcd b d : Int))) = 0 := by rw [ht, Int.mul_zero]
        rw [Int.mul_add, Int.mul_left_comm, ed, Int.mul_left_comm, eb] at this
        exact this
      have h1 : (P * Q' + P' * Q) * (b * d) = (a * d + c * b) * (Q * Q') := by
        rw [Int.add_mul, Int.add_mul]
        have x1 : P * Q' * (b * d) = a * d * (Q * Q') := by
          have := h.val
          calc P * Q' * (b * d) = (P * b) * (Q' * d) := by simp only [Int.mul_assoc, Int.mul_left_comm]
            _ = (a * Q) * (Q' * d) := by rw [this]
            _ = a * d * (Q * Q') := by simp only [Int.mul_assoc, Int.mul_comm, Int.mul_left_comm]
        have x2 : P' * Q * (b * d) = c * b * (Q * Q') := by
          have := k.val
          calc P' * Q * (b * d) = (P' * d) * (Q * b) := by simp only [Int.mul_assoc, Int.mul_comm, Int.mul_left_comm]
            _ = (c * Q') * (Q * b) := by rw [this]
            _ = c * b * (Q * Q') := by simp only [Int.mul_assoc, Int.mul_comm, Int.mul_left_comm]
        rw [x1, x2]
      rw [t0, Int.zero_mul] at h1
      rcases Int.mul_eq_zero.1 h1 with h | h
      · exact h
      · have := Int.mul_pos hb hd; omega
    rw [z] at r
    obtain ⟨e1, e2⟩ := (show RV 0 1 0 (Q * Q') from ⟨by omega, by simp, by simp⟩).uniq hqq r
    exact ⟨e1, e2, rfl⟩
  · have rr := rv_add hb hd h k ht
    obtain ⟨e1, e2⟩ := rr.uniq hqq r
    have hh := (hA_bd f1 f2).1.1
    have hdv : hA a b c d ∣ tA a b c d := by rw [hA_is a b c d hb]; exact Int.gcd_dvd_left ..
    have ha := div_abs hh hdv
    rw [e1] at ha
    unfold addN addD addE madN madD madE
    rw [if_neg ht, if_neg ht, if_neg ht, ha, e2, if_pos ⟨hn, he⟩, if_pos ⟨hn, he⟩, if_pos ⟨hn, he⟩]
    refine ⟨?_, by simp [sgn], rfl⟩
    rw [← ha, sgn_abs hh hdv (sum_sgn ..)]; exact e1
theorem mul_rv {a b c d P Q P' Q' n e : Int} (hQ : 0 < Q) (hQ' : 0 < Q') (h : RV a b P Q) (k : RV c d P' Q') (r : RV n e (P * P') (Q * Q')) (hn : absI n ≤ 4611686018427387904) (he : e ≤ 4611686018427387904) :
    mulN a b c d = n ∧ mulD a b c d = e ∧ mulE a b c d = 0 := by
  have hqq := Int.mul_pos hQ hQ'
  have hb := h.d0
  have hd := k.d0
  by_cases hz : a = 0 ∨ c = 0
  · unfold mulN mulD mulE
    rw [if_pos hz, if_pos hz, if_pos hz]
    have z : P * P' = 0 := by
      rcases hz with hz | hz
      · have := h.val; rw [hz, Int.zero_mul] at this
        rcases Int.mul_eq_zero.1 this.symm with h | h
        · rw [h, Int.zero_mul]
        · omega
      · have := k.val; rw [hz, Int.zero_mul] at this
        rcases Int.mul_eq_zero.1 this.symm with h | h
        · rw [h, Int.mul_zero]
        · omega
    rw [z] at r
    obtain ⟨e1, e2⟩ := (show RV 0 1 0 (Q * Q') from ⟨by omega, by simp, by simp⟩).uniq hqq r
    exact ⟨e1, e2, rfl⟩
  · have rr := rv_mul (fun e => hz (.inl e)) (fun e => hz (.inr e)) hb hd h k
    obtain ⟨e1, e2⟩ := rr.uniq hqq r
    have ha : absI (a / mgA a d) * absI (c / mgA c b) = absI n := by rw [absI_mul, e1]
    unfold mulN mulD mulE madN madD madE
    rw [if_neg hz, if_neg hz, if_neg hz, ha, e2, if_pos ⟨hn, he⟩, if_pos ⟨hn, he⟩, if_pos ⟨hn, he⟩]
    refine ⟨?_, by simp [sgn], rfl⟩
    rw [← ha, sgn_neg', e1]
/-! ### The odds are fair -/
theorem mul_small {a b c d P Q P' Q' : Int} (hQ : 0 < Q) (hQ' : 0 < Q') (h : RV a b P Q) (k : RV c d P' Q') (hn : absI a * absI c ≤ 4611686018427387904) (hd : b * d ≤ 4611686018427387904) :
    RV (mulN a b c d) (mulD a b c d) (P * P') (Q * Q') ∧ mulE a b c d = 0 ∧ absI (mulN a b c d) ≤ absI a * absI c ∧ mulD a b c d ≤ b * d := by
  have hqq := Int.mul_pos hQ hQ'
  have hb := h.d0
  have hd0 := k.d0
  have ha0 := absI_nonneg a
  have hc0 := absI_nonneg c
  by_cases hz : a = 0 ∨ c = 0
  · unfold mulN mulD mulE
    rw [if_pos hz, if_pos hz, if_pos hz]
    have z : P * P' = 0 := by
      rcases hz with hz | hz
      · have := h.val; rw [hz, Int.zero_mul] at this
        rcases Int.mul_eq_zero.1 this.symm with h | h
        · rw [h, Int.zero_mul]
        · omega
      · have := k.val; rw [hz, Int.zero_mul] at this
        rcases Int.mul_eq_zero.1 this.symm with h | h
        · rw [h, Int.mul_zero]
        · omega
    have := Int.mul_pos hb hd0
    exact ⟨⟨by omega, by simp, by rw [z]; simp⟩, rfl, by rw [show absI 0 = 0 from rfl]; exact Int.mul_nonneg ha0 hc0, by omega⟩
  · have rr := rv_mul (fun e => hz (.inl e)) (fun e => hz (.inr e)) hb hd0 h k
    have m1 : 0 < mgA a d := by rw [mgA_is]; have : 0 < Int.gcd a d := Int.gcd_pos_of_ne_zero_right _ (by omega); omega
    have m2 : 0 < mgA c b := by rw [mgA_is]; have : 0 < Int.gcd c b := Int.gcd_pos_of_ne_zero_right _ (by omega); omega
    have d1 : mgA a d ∣ a := by rw [mgA_is]; exact Int.gcd_dvd_left ..
    have d2 : mgA c b ∣ c := by rw [mgA_is]; exact Int.gcd_dvd_left ..
    have l1 : absI (a / mgA a d) ≤ absI a := by rw [← div_abs m1 d1]; exact Int.ediv_le_self _ ha0
    have l2 : absI (c / mgA c b) ≤ absI c := by rw [← div_abs m2 d2]; exact Int.ediv_le_self _ hc0
    have l3 := Int.ediv_le_self (mgA c b) (show 0 ≤ b by omega)
    have l4 := Int.ediv_le_self (mgA a d) (show 0 ≤ d by omega)
    have q4 := Int.ediv_nonneg (show 0 ≤ d by omega) (show 0 ≤ mgA a d by omega)
    have b1 := Int.mul_le_mul l1 l2 (absI_nonneg _) ha0
    have b2 := Int.mul_le_mul l3 l4 q4 (by omega)
    obtain ⟨e1, e2, e3⟩ := mul_rv hQ hQ' h k rr (by rw [← absI_mul]; omega) (by omega)
    rw [e1, e2]
    exact ⟨rr, e3, by rw [← absI_mul]; exact b1, b2⟩
theorem rest_rv {n d P Q : Int} (hQ : 0 < Q) (h : RV n d P Q) : RV (d - n) d (Q - P) Q := ⟨h.d0, by
  have : Int.gcd (d - n) d = Int.gcd n d := by
    rw [Int.gcd_comm, show d - n = -n + d * 1 by omega, Int.gcd_add_mul_left_right, Int.gcd_neg, Int.gcd_comm]
  rw [this]; exact h.red, by rw [Int.sub_mul, Int.sub_mul, h.val, Int.mul_comm d Q]⟩
theorem neg_rv {n d P Q : Int} (h : RV n d P Q) : RV (-n) d (-P) Q := ⟨h.d0, by rw [Int.neg_gcd]; exact h.red, by rw [Int.neg_mul, Int.neg_mul, h.val]⟩
theorem absI_le {n b : Int} (h : absI n ≤ b) : -b ≤ n ∧ n ≤ b := by unfold absI at h; split at h <;> omega
end Go.Proofs.Ytkijlggnnbdeiaa
