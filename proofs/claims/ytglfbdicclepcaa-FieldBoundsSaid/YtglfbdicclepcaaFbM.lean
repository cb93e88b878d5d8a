/- Bounds: 19 / n and what is left after n looks. Plain arithmetic. -/
import Derived.Test.YtglfbdicclepcaaRatV
set_option linter.unusedVariables false
set_option linter.unusedSimpArgs false
namespace Go.Proofs.Ytglfbdicclepcaa
open Go.RowKit
set_option maxRecDepth 100000
/-! ### Sums that are known -/
theorem div_abs {t h : Int} (hh : 0 < h) (hd : h ∣ t) : absI t / h = absI (t / h) := by
  obtain ⟨c, rfl⟩ := hd
  rw [Int.mul_ediv_cancel_left _ (by omega)]
  rw [← absI_mul, absI_pos (n := h) (by omega), Int.mul_ediv_cancel_left _ (by omega)]
theorem sgn_abs {b : Bool} {t h : Int} (hh : 0 < h) (hd : h ∣ t) (hb : sgn b (absI t) = t) : sgn b (absI t / h) = t / h := by
  obtain ⟨c, rfl⟩ := hd
  have e : absI (h * c) / h = absI c := by rw [← absI_mul, absI_pos (n := h) (by omega), Int.mul_ediv_cancel_left _ (by omega)]
  rw [e, Int.mul_ediv_cancel_left _ (by omega)]
  have e2 : absI (h * c) = h * absI c := by rw [← absI_mul, absI_pos (n := h) (by omega)]
  rw [e2] at hb
  unfold sgn at *
  split at hb
  · have : h * (-absI c) = h * c := by rw [Int.mul_neg]; exact hb
    rw [if_pos (by assumption)]
    exact Int.eq_of_mul_eq_mul_left (by omega) this
  · rw [if_neg (by assumption)]
    exact Int.eq_of_mul_eq_mul_left (by omega) hb
theorem add_rv {a b c d P Q P' Q' n e : Int} (f1 : Frc a b) (f2 : Frc c d) (hQ : 0 < Q) (hQ' : 0 < Q') (h : RV a b P Q) (k : RV c d P' Q') (r : RV n e (P * Q' + P' * Q) (Q * Q')) (hn : absI n ≤ 4611686018427387904) (he : e ≤ 4611686018427387904) :
    addN a b c d = n ∧ addD a b c d = e ∧ addE a b c d = 0 := by
  have hb := h.d0
  have hd := k.d0
  have hqq := Int.mul_pos hQ hQ'
  by_cases ht : tA a b c d = 0
  · unfold addN addD addE
    rw [if_pos ht, if_pos ht, if_pos ht]
    have z : P * Q' + P' * Q = 0 := by
      have g0 : 0 < Int.gcd b d := Int.gcd_pos_of_ne_zero_left _ (by omega)
      have ed := Int.mul_ediv_cancel' (Int.gcd_dvd_right (a := b) (b := d))
      have eb := Int.mul_ediv_cancel' (Int.gcd_dvd_left (a := b) (b := d))
      unfold tA gA at ht
      have t0 : a * d + c * b = 0 := by
        have : (Int.gcd b d : Int) * (a * (d / (Int.gcd b d : Int)) + c * (b / (Int.gcd b d : Int))) = 0 := by rw [ht, Int.mul_zero]
        rw [Int.mul_add, Int.mul_left_comm, ed, Int.mul_left_comm, eb] at this
        exact this
      have h1 : (P * Q' + P' * Q) * (b * d) = (a * d + c * b) * (Q * Q') := by
        rw [Int.add_mul, Int.add_mul]
        have x1 : P * Q' * (b * d) = a * d * (Q * Q') := by
          have := h.val
          calc P * Q' * (b * d) = (P * b) * (Q' * d) := by simp only [Int.mul_assoc, Int.mul_left_comm]
            _ = (a * Q) * (Q' * d) := by rw [this]
            _ = a * d * (Q * Q') := by simp only [Int.mul_assoc, Int.mul_comm, Int.mul_left_comm]
        have x2 : P' * Q * (b * d) = c * b * (Q * Q') := by
          have := k.val
          calc P' * Q * (b * d) = (P' * d) * (Q * b) := by simp only [Int.mul_assoc, Int.mul_comm, Int.mul_left_comm]
            _ = (c * Q') * (Q * b) := by rw [this]
            _ = c * b * (Q * Q') := by simp only [Int.mul_assoc, Int.mul_comm, Int.mul_left_comm]
        rw [x1, x2]
      rw [t0, Int.zero_mul] at h1
      rcases Int.mul_eq_zero.1 h1 with h | h
      · exact h
      · have := Int.mul_pos hb hd; omega
    rw [z] at r
    obtain ⟨e1, e2⟩ := (show RV 0 1 0 (Q * Q') from ⟨by omega, by simp, by simp⟩).uniq hqq r
    exact ⟨e1, e2, rfl⟩
  · have rr := rv_add hb hd h k ht
    obtain ⟨e1, e2⟩ := rr.uniq hqq r
    have hh := (hA_bd f1 f2).1.1
    have hdv : hA a b c d ∣ tA a b c d := by rw [hA_is a b c d hb]; exact Int.gcd_dvd_left ..
    have ha := div_abs hh hdv
    rw [e1] at ha
    unfold addN addD addE madN madD madE
    rw [if_neg ht, if_neg ht, if_neg ht, ha, e2, if_pos ⟨hn, he⟩, if_pos ⟨hn, he⟩, if_pos ⟨hn, he⟩]
    refine ⟨?_, by simp [sgn], rfl⟩
    rw [← ha, sgn_abs hh hdv (sum_sgn ..)]; exact e1
def bN (N : Int) : Int := 19 / (Int.gcd 19 N : Int)
def bD (N : Int) : Int := N / (Int.gcd 19 N : Int)
theorem b_rv {N : Int} (h : 19 ≤ N) : RV (bN N) (bD N) 19 N := rv_new (by omega)
theorem b_bd {N : Int} (h : 19 ≤ N) : (1 ≤ bN N ∧ bN N ≤ 19) ∧ 1 ≤ bD N ∧ bD N ≤ N := by
  have r := b_rv h
  have l := r.le (by omega)
  have s := (r.sgn (by omega)).2.1 (by omega)
  have u := l.2.2
  rw [absI_pos (by omega), absI_pos (by omega)] at u
  have := r.d0
  exact ⟨⟨by omega, by omega⟩, by omega, by omega⟩
theorem rv_one : RV 1 1 1 1 := ⟨by omega, by decide, by omega⟩
theorem b_zero {N : Int} (h : 19 ≤ N) : cmpI (bN N) (bD N) 0 1 = 1 := cmp_gt (by have := b_bd h; omega)
theorem b_one {N : Int} (h : 19 ≤ N) : cmpI (bN N) (bD N) 1 1 ≤ 0 := by
  have k := cmp_rv (by omega) (by omega) (b_rv h) rv_one
  by_cases e : N = 19
  · rw [k.2.2 (by omega)]; omega
  · rw [k.1 (by omega)]; omega
theorem b_le {N M : Int} (h : 19 ≤ N) (hM : N ≤ M) : cmpI (bN M) (bD M) (bN N) (bD N) ≤ 0 := by
  have k := cmp_rv (by omega) (by omega) (b_rv (show 19 ≤ M by omega)) (b_rv h)
  by_cases e : N = M
  · rw [k.2.2 (by omega)]; omega
  · rw [k.1 (by omega)]; omega
theorem b_is {N : Int} (h : 19 ≤ N) (e : bN N = 1 ∧ bD N = 1) : N = 19 := by
  have v := (b_rv h).val
  rw [e.1, e.2] at v; omega
theorem b_19 {N : Int} (h : N = 19) : bN N = 1 ∧ bD N = 1 := by subst h; decide
theorem b_neg {N : Int} (h : 19 ≤ N) : RV (-(bN N)) (bD N) (-19) N := by
  have r := b_rv h
  exact ⟨r.d0, by rw [Int.neg_gcd]; exact r.red, by rw [Int.neg_mul, Int.neg_mul, r.val]⟩
theorem b_kept {N : Int} (h : 19 < N) : RV (bD N - bN N) (bD N) (N - 19) N := by
  have r := b_rv (show 19 ≤ N by omega)
  refine ⟨r.d0, ?_, ?_⟩
  · have e : bD N - bN N = -(bN N) + bD N * 1 := by omega
    rw [e, Int.gcd_comm, Int.gcd_add_mul_left_right, Int.gcd_neg, Int.gcd_comm]; exact r.red
  · rw [Int.sub_mul, Int.sub_mul, r.val, Int.mul_comm N]
theorem b_sub {N : Int} (h : 19 < N) (h2 : N ≤ 1000000) : addN 1 1 (-(bN N)) (bD N) = bD N - bN N ∧ addD 1 1 (-(bN N)) (bD N) = bD N ∧ addE 1 1 (-(bN N)) (bD N) = 0 := by
  have b := b_bd (show 19 ≤ N by omega)
  have r := b_kept h
  exact add_rv (P := 1) (Q := 1) (P' := -19) (Q' := N) ⟨by omega, by omega⟩ ⟨by omega, by omega⟩ (by omega) (by omega) rv_one (b_neg (by omega)) (r.to (by omega) (by rw [show 1 * N + -19 * 1 = N - 19 by omega, show 1 * N = N by omega])) (by
    have := (r.sgn (by omega)).2.1 (by omega)
    rw [absI_pos (by omega)]; omega) (by omega)
theorem b_lt {N : Int} (h : 19 < N) : bN N < bD N := by
  have := (b_kept h).sgn (by omega)
  have := this.2.1 (by omega); omega
/-! ### What is left -/
/-- One step, rounded up. -/
def stepL (N left : Int) : Int := (left * (bD N - bN N) + bD N - 1) / bD N
theorem step_le {N left : Int} (h : 19 < N) (hl : 0 ≤ left) : 0 ≤ stepL N left ∧ stepL N left ≤ left ∧ (stepL N left - 1) * N ≤ left * (N - 19) := by
  have r := b_kept h
  have hd := r.d0
  have hp := b_bd (show 19 ≤ N by omega)
  have hlt := b_lt h
  have hk := Int.mul_nonneg hl (show 0 ≤ bD N - bN N by omega)
  have e : left * bD N = left * (bD N - bN N) + left * bN N := by rw [← Int.mul_add]; congr 1; omega
  have hn := Int.mul_nonneg hl (show 0 ≤ bN N by omega)
  unfold stepL
  have q1 := Int.mul_ediv_add_emod (left * (bD N - bN N) + bD N - 1) (bD N)
  have q2 := Int.emod_nonneg (left * (bD N - bN N) + bD N - 1) (show bD N ≠ 0 by omega)
  have q3 := Int.emod_lt_of_pos (left * (bD N - bN N) + bD N - 1) hd
  generalize hx : (left * (bD N - bN N) + bD N - 1) / bD N = x at *
  have h0 : 0 ≤ x := by rw [← hx]; exact Int.ediv_nonneg (by omega) (by omega)
  refine ⟨h0, ?_, ?_⟩
  · by_cases c : x ≤ left
    · exact c
    · have := Int.mul_le_mul_of_nonneg_left (show left + 1 ≤ x by omega) (show 0 ≤ bD N by omega)
      rw [Int.mul_add, Int.mul_comm _ left] at this
      omega
  · have a1 : bD N * (x - 1) ≤ left * (bD N - bN N) := by rw [Int.mul_sub]; omega
    have a2 := Int.mul_le_mul_of_nonneg_right a1 (show 0 ≤ N by omega)
    rw [Int.mul_assoc left, r.val, Int.mul_assoc, ← Int.mul_assoc left, Int.mul_comm (left * (N - 19))] at a2
    exact Int.le_of_mul_le_mul_left a2 hd
/-- How much smaller, at least. -/
def fq (N i : Int) : Int := 2 * (N * N) + 38 * (i * N) + 361 * (i * (i - 1))
theorem fq_pos {N i : Int} (hN : 0 < N) (hi : 0 ≤ i) : 0 < fq N i := by
  have a := Int.mul_pos hN hN
  have b := Int.mul_nonneg hi (show 0 ≤ N by omega)
  have c : 0 ≤ i * (i - 1) := by
    by_cases e : i = 0
    · rw [e]; omega
    · exact Int.mul_nonneg hi (by omega)
  unfold fq; omega
theorem fq_step {N i : Int} (hN : 19 < N) (hi : 0 ≤ i) : (N - 19) * fq N (i + 1) ≤ N * fq N i := by
  have e1 : fq N (i + 1) = fq N i + 38 * N + 722 * i := by
    unfold fq
    rw [Int.add_mul i 1 N, show (i + 1) * (i + 1 - 1) = i * (i - 1) + 2 * i by rw [show i + 1 - 1 = i by omega, Int.add_mul, Int.mul_sub]; omega]
    omega
  rw [e1, Int.sub_mul]
  have e2 : N * (fq N i + 38 * N + 722 * i) = N * fq N i + 38 * (N * N) + 722 * (i * N) := by
    rw [Int.mul_add, Int.mul_add, Int.mul_left_comm, Int.mul_left_comm N 722, Int.mul_comm N i]
  rw [e2]
  have e3 : fq N i = 2 * (N * N) + 38 * (i * N) + 361 * (i * (i - 1)) := rfl
  have c : 0 ≤ i * (i - 1) := by
    by_cases e : i = 0
    · rw [e]; omega
    · exact Int.mul_nonneg hi (by omega)
  omega
def LeftOk (N i left : Int) : Prop := (left - i) * fq N i ≤ 1099511627776 * (2 * (N * N))
theorem left_zero (N : Int) : LeftOk N 0 1099511627776 := by
  unfold LeftOk fq; simp
theorem left_step {N i left : Int} (hN : 19 < N) (hi : 0 ≤ i) (hl : 0 ≤ left) (h : LeftOk N i left) : LeftOk N (i + 1) (stepL N left) := by
  have s := (step_le hN hl).2.2
  have p1 := fq_pos (N := N) (i := i + 1) (by omega) (by omega)
  have p0 := fq_pos (N := N) (i := i) (by omega) hi
  unfold LeftOk at *
  have nn := Int.mul_nonneg (show (0 : Int) ≤ 1099511627776 by omega) (show 0 ≤ 2 * (N * N) by have := Int.mul_nonneg (show 0 ≤ N by omega) (show 0 ≤ N by omega); omega)
  by_cases c : stepL N left - (i + 1) ≤ 0
  · have := Int.mul_nonneg (show 0 ≤ -(stepL N left - (i + 1)) by omega) (show 0 ≤ fq N (i + 1) by omega)
    rw [Int.neg_mul] at this; omega
  · have a1 : N * (stepL N left - (i + 1)) ≤ (left - i) * (N - 19) := by
      rw [Int.sub_mul left i, Int.mul_sub i N 19]
      have : N * (stepL N left - (i + 1)) = (stepL N left - 1) * N - i * N := by
        rw [Int.mul_comm, ← Int.sub_mul]; congr 1; omega
      omega
    have hli : 0 ≤ left - i := by
      by_cases d : 0 ≤ left - i
      · exact d
      · exfalso
        have := Int.mul_pos (show 0 < N by omega) (show 0 < stepL N left - (i + 1) by omega)
        have := Int.mul_nonneg (show 0 ≤ -(left - i) by omega) (show 0 ≤ N - 19 by omega)
        rw [Int.neg_mul] at this; omega
    have a2 := Int.mul_le_mul_of_nonneg_right a1 (show 0 ≤ fq N (i + 1) by omega)
    have a3 := Int.mul_le_mul_of_nonneg_left (fq_step hN hi) hli
    rw [Int.mul_assoc, Int.mul_assoc] at a2
    rw [Int.mul_left_comm _ N] at a3
    have a4 : N * ((stepL N left - (i + 1)) * fq N (i + 1)) ≤ N * ((left - i) * fq N i) := Int.le_trans a2 a3
    exact Int.le_trans (Int.le_of_mul_le_mul_left a4 (by omega)) h
theorem left_end {N left : Int} (hN : 19 < N) (hN2 : N ≤ 1000000) (h : LeftOk N N left) : left ≤ 54975581388 := by
  by_cases c : left ≤ 54975581388
  · exact c
  · exfalso
    unfold LeftOk at h
    have a := Int.mul_pos (show 0 < N by omega) (show 0 < N by omega)
    have e : fq N N = 401 * (N * N) - 361 * N := by unfold fq; rw [Int.mul_sub]; omega
    have b := Int.mul_le_mul_of_nonneg_right (show 19 ≤ N by omega) (show 0 ≤ N by omega)
    have q : 382 * (N * N) ≤ fq N N := by rw [e]; omega
    have l := Int.mul_le_mul (show 54000000000 ≤ left - N by omega) q (by omega) (by omega)
    rw [Int.mul_left_comm] at l
    omega
theorem fr_eq (a b c d : Int) : AV.bool (a == c && (b == d && true)) = AV.bool (decide (a = c ∧ b = d)) := by
  congr 1
  rw [Bool.eq_iff_iff]
  simp
theorem left_mul {N left : Int} (h : 19 < N) (h2 : N ≤ 200000) (hl : 0 ≤ left ∧ left ≤ 1099511627776) : 0 ≤ left * (bD N - bN N) ∧ left * (bD N - bN N) ≤ 219902325555200000 := by
  have b := b_bd (show 19 ≤ N by omega)
  have := b_lt h
  exact ⟨Int.mul_nonneg hl.1 (by omega), Int.le_trans (Int.mul_le_mul hl.2 (show bD N - bN N ≤ 200000 by omega) (by omega) (by omega)) (by omega)⟩
theorem left_last {N left : Int} {i : Nat} (hN : 19 < N) (hN2 : N ≤ 1000000) (h : LeftOk N ((i : Nat) : Int) left) (e : ((i : Nat) : Int) = N) : left ≤ 54975581388 := by
  rw [e] at h; exact left_end hN hN2 h
end Go.Proofs.Ytglfbdicclepcaa
