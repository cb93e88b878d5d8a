/- What odds and losses are worth, and what an answer changes. No program. -/
import Derived.Test.YtlhmionefjopiaaRatV
import Derived.Test.YtlhmionefjopiaaOdRef2
set_option linter.unusedVariables false
set_option linter.unusedSimpArgs false
namespace Go.Proofs.Ytlhmionefjopiaa
open Go.RowKit
set_option maxRecDepth 100000

def Cnt (x : An) : Prop := (0 ≤ x.right ∧ x.right ≤ 1073741824) ∧ 0 ≤ x.wrong ∧ x.wrong ≤ 1073741824
theorem odd_rv {x : An} (h : Cnt x) : RV (oddN x) (oddD x) (x.right + 1) (x.right + x.wrong + 2) := rv_new (by unfold Cnt at h; omega)
theorem odd_bd {x : An} (h : Cnt x) : (1 ≤ oddN x ∧ oddN x ≤ 1073741825) ∧ 1 ≤ oddD x ∧ oddD x ≤ 2147483650 := by
  have r := odd_rv h
  unfold Cnt at h
  have l := r.le (by omega)
  have s := r.sgn (by omega)
  have d := r.d0
  have n0 := s.2.1 (by omega)
  have := l.2.2
  rw [absI_pos (by omega), absI_pos (by omega)] at this
  exact ⟨⟨by omega, by omega⟩, by omega, by omega⟩
theorem odd_red {x : An} (h : Cnt x) : (Int.gcd (absI (oddN x)) (oddD x) : Int) = 1 := by
  have r := (odd_rv h).red
  rw [absI_pos (by have := odd_bd h; omega), r]; rfl
theorem rv_int (n : Int) : RV n 1 n 1 := ⟨by omega, by simp, rfl⟩
theorem odd_gt0 {x : An} (h : Cnt x) : cmpI (oddN x) (oddD x) 0 1 = 1 := cmp_gt (by have := odd_bd h; omega)
theorem odd_lt1 {x : An} (h : Cnt x) : cmpI (oddN x) (oddD x) 1 1 = -1 := by
  have := h
  unfold Cnt at this
  exact (cmp_rv (by omega) (by omega) (odd_rv h) (rv_int 1)).1 (by omega)
theorem lrn_is {l : List An} {k : Int} {r : Bool} (hk : 1 ≤ k ∧ k ≤ 14) (h : lrnE l k r = 0) : lrnL l k r = mergeF l [oneQ k r] := by
  have hk' : ¬ (k < 1 ∨ 14 < k) := by omega
  unfold lrnE joinE at h
  rw [if_neg hk'] at h
  unfold lrnL joinL
  rw [if_neg hk']
  split at h
  · rw [if_pos (by assumption)]
  · cases h
theorem lrnE_two {l : List An} {k : Int} {r : Bool} (hk : 1 ≤ k ∧ k ≤ 14) (h : ¬ lrnE l k r = 0) : lrnE l k r = 2 := by
  have hk' : ¬ (k < 1 ∨ 14 < k) := by omega
  unfold lrnE joinE at h ⊢
  rw [if_neg hk'] at h ⊢
  split at h
  · exact absurd rfl h
  · rw [if_neg (by assumption)]
theorem oneQ_kind (k : Int) (r : Bool) : (oneQ k r).kind = k := by unfold oneQ; cases r <;> rfl
theorem one_right {k : Int} (r : Bool) (hk : 1 ≤ k ∧ k ≤ 14) : RightP [oneQ k r] := by
  unfold oneQ
  cases r
  · exact right_one2 hk
  · exact right_one1 hk
theorem cnt_lrn {l : List An} (hl : RightP l) {k : Int} {r : Bool} (hk : 1 ≤ k ∧ k ≤ 14) (h : lrnE l k r = 0) : cntQ (lrnL l k r) k = sumQ (cntQ l k) (oneQ k r) := by
  rw [lrn_is hk h]
  have e : lk [oneQ k r] k = some (oneQ k r) := by simp [lk, oneQ_kind]
  have c : cntQ [oneQ k r] k = oneQ k r := by rw [cntQ, e]; rfl
  have := merge_cnt hl (one_right r hk) (k := k) (.inr (by rw [e]; rfl))
  rw [cntQ, this, c]; rfl
theorem cnt_other {l : List An} (hl : RightP l) {k j : Int} {r : Bool} (hk : 1 ≤ k ∧ k ≤ 14) (hj : ¬ k = j) (h : lrnE l k r = 0) : cntQ (lrnL l k r) j = cntQ l j := by
  rw [lrn_is hk h, cntQ, cntQ, merge_lk _ _ hl.srt (one_right r hk).srt]
  have e : lk [oneQ k r] j = none := by simp [lk, oneQ_kind, hj]
  rw [e]
  cases lk l j <;> rfl
theorem cnt_ok {l : List An} (h : RightP l) (k : Int) : Cnt (cntQ l k) := cnt_bd h k
theorem odds_up {l : List An} (hl : RightP l) {k : Int} (hk : 1 ≤ k ∧ k ≤ 14) (h : lrnE l k true = 0) : cmpI (oddN (cntQ (lrnL l k true) k)) (oddD (cntQ (lrnL l k true) k)) (oddN (cntQ l k)) (oddD (cntQ l k)) = 1 := by
  have c := cnt_ok hl k
  have c' := cnt_ok (lrnL_right l k true) k
  have e := cnt_lrn hl hk h
  have r := odd_rv c
  have r' := odd_rv c'
  rw [e] at r' c' ⊢
  generalize cntQ l k = x at *
  unfold Cnt at c c'
  simp only [sumQ, oneQ, if_true] at c' r' ⊢
  refine (cmp_rv (by omega) (by omega) r' r).2.1 ?_
  generalize x.right = p at *
  generalize x.wrong = q at *
  have : (p + 1 + 1) * (p + q + 2) = (p + 1) * (p + 1 + (q + 0) + 2) + (q + 1) := by
    rw [show p + 1 + (q + 0) + 2 = (p + q + 2) + 1 by omega, show p + 1 + 1 = (p + 1) + 1 by omega, Int.add_mul (p + 1) 1, Int.mul_add (p + 1) (p + q + 2)]; omega
  omega
theorem odds_down {l : List An} (hl : RightP l) {k : Int} (hk : 1 ≤ k ∧ k ≤ 14) (h : lrnE l k false = 0) : cmpI (oddN (cntQ (lrnL l k false) k)) (oddD (cntQ (lrnL l k false) k)) (oddN (cntQ l k)) (oddD (cntQ l k)) = -1 := by
  have c := cnt_ok hl k
  have c' := cnt_ok (lrnL_right l k false) k
  have e := cnt_lrn hl hk h
  have r := odd_rv c
  have r' := odd_rv c'
  rw [e] at r' c' ⊢
  generalize cntQ l k = x at *
  unfold Cnt at c c'
  simp only [sumQ, oneQ] at c' r' ⊢
  refine (cmp_rv (by simp; omega) (by omega) r' r).1 ?_
  simp
  generalize x.right = p at *
  generalize x.wrong = q at *
  have : (p + 1) * (p + (q + 1) + 2) = (p + 1) * (p + q + 2) + (p + 1) := by
    rw [show p + (q + 1) + 2 = (p + q + 2) + 1 by omega, Int.mul_add]; omega
  omega
/-! ### Sums and products that are known -/
theorem div_abs {t h : Int} (hh : 0 < h) (hd : h ∣ t) : absI t / h = absI (t / h) := by
  obtain ⟨c, rfl⟩ := hd
  rw [Int.mul_ediv_cancel_left _ (by omega)]
  rw [← absI_mul, absI_pos (n := h) (by omega), Int.mul_ediv_cancel_left _ (by omega)]
theorem sgn_abs {b : Bool} {t h : Int} (hh : 0 < h) (hd : h ∣ t) (hb : sgn b (absI t) = t) : sgn b (absI t / h) = t / h := by
  obtain ⟨c, rfl⟩ := hd
  have e : absI (h * c) / h = absI c := by rw [← absI_mul, absI_pos (n := h) (by omega), Int.mul_ediv_cancel_left _ (by omega)]
  rw [e, Int.mul_ediv_cancel_left _ (by omega)]
  have e2 : absI (h * c) = h * absI c := by rw [← absI_mul, absI_pos (n := h) (by omega)]
  rw [e2] at hb
  unfold sgn at *
  split at hb
  · have : h * (-absI c) = h * c := by rw [Int.mul_neg]; exact hb
    rw [if_pos (by assumption)]
    exact Int.eq_of_mul_eq_mul_left (by omega) this
  · rw [if_neg (by assumption)]
    exact Int.eq_of_mul_eq_mul_left (by omega) hb
theorem add_rv {a b c d P Q P' Q' n e : Int} (f1 : Frc a b) (f2 : Frc c d) (hQ : 0 < Q) (hQ' : 0 < Q') (h : RV a b P Q) (k : RV c d P' Q') (r : RV n e (P * Q' + P' * Q) (Q * Q')) (hn : absI n ≤ 4611686018427387904) (he : e ≤ 4611686018427387904) :
    addN a b c d = n ∧ addD a b c d = e ∧ addE a b c d = 0 := by
  have hb := h.d0
  have hd := k.d0
  have hqq := Int.mul_pos hQ hQ'
  by_cases ht : tA a b c d = 0
  · unfold addN addD addE
    rw [if_pos ht, if_pos ht, if_pos ht]
    have z : P * Q' + P' * Q = 0 := by
      have g0 : 0 < Int.gcd b d := Int.gcd_pos_of_ne_zero_left _ (by omega)
      have ed := Int.mul_ediv_cancel' (Int.gcd_dvd_right (a := b) (b := d))
      have eb := Int.mul_ediv_cancel' (Int.gcd_dvd_left (a := b) (b := d))
      unfold tA gA at ht
      have t0 : a * d + c * b = 0 := by
        have : (Int.gcd b d : Int) * (a * (d / (Int.gcd b d : Int)) + c * (b / (Int.gcd b d : Int))) = 0 := by rw [ht, Int.mul_zero]
        rw [Int.mul_add, Int.mul_left_comm, ed, Int.mul_left_comm, eb] at this
        exact this
      have h1 : (P * Q' + P' * Q) * (b * d) = (a * d + c * b) * (Q * Q') := by
        rw [Int.add_mul, Int.add_mul]
        have x1 : P * Q' * (b * d) = a * d * (Q * Q') := by
          have := h.val
          calc P * Q' * (b * d) = (P * b) * (Q' * d) := by simp only [Int.mul_assoc, Int.mul_left_comm]
            _ = (a * Q) * (Q' * d) := by rw [this]
            _ = a * d * (Q * Q') := by simp only [Int.mul_assoc, Int.mul_comm, Int.mul_left_comm]
        have x2 : P' * Q * (b * d) = c * b * (Q * Q') := by
          have := k.val
          calc P' * Q * (b * d) = (P' * d) * (Q * b) := by simp only [Int.mul_assoc, Int.mul_comm, Int.mul_left_comm]
            _ = (c * Q') * (Q * b) := by rw [this]
            _ = c * b * (Q * Q') := by simp only [Int.mul_assoc, Int.mul_comm, Int.mul_left_comm]
        rw [x1, x2]
      rw [t0, Int.zero_mul] at h1
      rcases Int.mul_eq_zero.1 h1 with h | h
      · exact h
      · have := Int.mul_pos hb hd; omega
    rw [z] at r
    obtain ⟨e1, e2⟩ := (show RV 0 1 0 (Q * Q') from ⟨by omega, by simp, by simp⟩).uniq hqq r
    exact ⟨e1, e2, rfl⟩
  · have rr := rv_add hb hd h k ht
    obtain ⟨e1, e2⟩ := rr.uniq hqq r
    have hh := (hA_bd f1 f2).1.1
    have hdv : hA a b c d ∣ tA a b c d := by rw [hA_is a b c d hb]; exact Int.gcd_dvd_left ..
    have ha := div_abs hh hdv
    rw [e1] at ha
    unfold addN addD addE madN madD madE
    rw [if_neg ht, if_neg ht, if_neg ht, ha, e2, if_pos ⟨hn, he⟩, if_pos ⟨hn, he⟩, if_pos ⟨hn, he⟩]
    refine ⟨?_, by simp [sgn], rfl⟩
    rw [← ha, sgn_abs hh hdv (sum_sgn ..)]; exact e1
theorem mul_rv {a b c d P Q P' Q' n e : Int} (hQ : 0 < Q) (hQ' : 0 < Q') (h : RV a b P Q) (k : RV c d P' Q') (r : RV n e (P * P') (Q * Q')) (hn : absI n ≤ 4611686018427387904) (he : e ≤ 4611686018427387904) :
    mulN a b c d = n ∧ mulD a b c d = e ∧ mulE a b c d = 0 := by
  have hqq := Int.mul_pos hQ hQ'
  have hb := h.d0
  have hd := k.d0
  by_cases hz : a = 0 ∨ c = 0
  · unfold mulN mulD mulE
    rw [if_pos hz, if_pos hz, if_pos hz]
    have z : P * P' = 0 := by
      rcases hz with hz | hz
      · have := h.val; rw [hz, Int.zero_mul] at this
        rcases Int.mul_eq_zero.1 this.symm with h | h
        · rw [h, Int.zero_mul]
        · omega
      · have := k.val; rw [hz, Int.zero_mul] at this
        rcases Int.mul_eq_zero.1 this.symm with h | h
        · rw [h, Int.mul_zero]
        · omega
    rw [z] at r
    obtain ⟨e1, e2⟩ := (show RV 0 1 0 (Q * Q') from ⟨by omega, by simp, by simp⟩).uniq hqq r
    exact ⟨e1, e2, rfl⟩
  · have rr := rv_mul (fun e => hz (.inl e)) (fun e => hz (.inr e)) hb hd h k
    obtain ⟨e1, e2⟩ := rr.uniq hqq r
    have ha : absI (a / mgA a d) * absI (c / mgA c b) = absI n := by rw [absI_mul, e1]
    unfold mulN mulD mulE madN madD madE
    rw [if_neg hz, if_neg hz, if_neg hz, ha, e2, if_pos ⟨hn, he⟩, if_pos ⟨hn, he⟩, if_pos ⟨hn, he⟩]
    refine ⟨?_, by simp [sgn], rfl⟩
    rw [← ha, sgn_neg', e1]
/-! ### The odds are fair -/
theorem mul_small {a b c d P Q P' Q' : Int} (hQ : 0 < Q) (hQ' : 0 < Q') (h : RV a b P Q) (k : RV c d P' Q') (hn : absI a * absI c ≤ 4611686018427387904) (hd : b * d ≤ 4611686018427387904) :
    RV (mulN a b c d) (mulD a b c d) (P * P') (Q * Q') ∧ mulE a b c d = 0 ∧ absI (mulN a b c d) ≤ absI a * absI c ∧ mulD a b c d ≤ b * d := by
  have hqq := Int.mul_pos hQ hQ'
  have hb := h.d0
  have hd0 := k.d0
  have ha0 := absI_nonneg a
  have hc0 := absI_nonneg c
  by_cases hz : a = 0 ∨ c = 0
  · unfold mulN mulD mulE
    rw [if_pos hz, if_pos hz, if_pos hz]
    have z : P * P' = 0 := by
      rcases hz with hz | hz
      · have := h.val; rw [hz, Int.zero_mul] at this
        rcases Int.mul_eq_zero.1 this.symm with h | h
        · rw [h, Int.zero_mul]
        · omega
      · have := k.val; rw [hz, Int.zero_mul] at this
        rcases Int.mul_eq_zero.1 this.symm with h | h
        · rw [h, Int.mul_zero]
        · omega
    have := Int.mul_pos hb hd0
    exact ⟨⟨by omega, by simp, by rw [z]; simp⟩, rfl, by rw [show absI 0 = 0 from rfl]; exact Int.mul_nonneg ha0 hc0, by omega⟩
  · have rr := rv_mul (fun e => hz (.inl e)) (fun e => hz (.inr e)) hb hd0 h k
    have m1 : 0 < mgA a d := by rw [mgA_is]; have : 0 < Int.gcd a d := Int.gcd_pos_of_ne_zero_right _ (by omega); omega
    have m2 : 0 < mgA c b := by rw [mgA_is]; have : 0 < Int.gcd c b := Int.gcd_pos_of_ne_zero_right _ (by omega); omega
    have d1 : mgA a d ∣ a := by rw [mgA_is]; exact Int.gcd_dvd_left ..
    have d2 : mgA c b ∣ c := by rw [mgA_is]; exact Int.gcd_dvd_left ..
    have l1 : absI (a / mgA a d) ≤ absI a := by rw [← div_abs m1 d1]; exact Int.ediv_le_self _ ha0
    have l2 : absI (c / mgA c b) ≤ absI c := by rw [← div_abs m2 d2]; exact Int.ediv_le_self _ hc0
    have l3 := Int.ediv_le_self (mgA c b) (show 0 ≤ b by omega)
    have l4 := Int.ediv_le_self (mgA a d) (show 0 ≤ d by omega)
    have q4 := Int.ediv_nonneg (show 0 ≤ d by omega) (show 0 ≤ mgA a d by omega)
    have b1 := Int.mul_le_mul l1 l2 (absI_nonneg _) ha0
    have b2 := Int.mul_le_mul l3 l4 q4 (by omega)
    obtain ⟨e1, e2, e3⟩ := mul_rv hQ hQ' h k rr (by rw [← absI_mul]; omega) (by omega)
    rw [e1, e2]
    exact ⟨rr, e3, by rw [← absI_mul]; exact b1, b2⟩
theorem rest_rv {n d P Q : Int} (hQ : 0 < Q) (h : RV n d P Q) : RV (d - n) d (Q - P) Q := ⟨h.d0, by
  have : Int.gcd (d - n) d = Int.gcd n d := by
    rw [Int.gcd_comm, show d - n = -n + d * 1 by omega, Int.gcd_add_mul_left_right, Int.gcd_neg, Int.gcd_comm]
  rw [this]; exact h.red, by rw [Int.sub_mul, Int.sub_mul, h.val, Int.mul_comm d Q]⟩
theorem neg_rv {n d P Q : Int} (h : RV n d P Q) : RV (-n) d (-P) Q := ⟨h.d0, by rw [Int.neg_gcd]; exact h.red, by rw [Int.neg_mul, Int.neg_mul, h.val]⟩
theorem fair_id (p n : Int) : p * (n * (n + 1) * (n * (n + 1))) = (p * (p + 1) * (n * (n + 1)) + (n - p) * p * (n * (n + 1))) * n := by
  generalize hM : n * (n + 1) = M
  have e : p * (p + 1) * M + (n - p) * p * M = p * (n + 1) * M := by
    rw [← Int.add_mul]
    congr 1
    rw [Int.mul_comm (n - p) p, ← Int.mul_add]
    congr 1; omega
  rw [e]
  calc p * (M * M) = p * M * M := by rw [Int.mul_assoc]
    _ = p * (n * (n + 1)) * M := by rw [hM]
    _ = p * (n + 1) * M * n := by simp only [Int.mul_assoc, Int.mul_comm, Int.mul_left_comm]
structure Fair (N D A B C E : Int) : Prop where
  e0 : addE 1 1 (-N) D = 0 ∧ addN 1 1 (-N) D = D - N ∧ addD 1 1 (-N) D = D
  e1 : mulE N D A B = 0 ∧ (1 ≤ mulD N D A B ∧ mulD N D A B ≤ 4611686018427387904) ∧ -4611686018427387904 ≤ mulN N D A B ∧ mulN N D A B ≤ 4611686018427387904
  e2 : mulE (D - N) D C E = 0 ∧ (1 ≤ mulD (D - N) D C E ∧ mulD (D - N) D C E ≤ 4611686018427387904) ∧ -4611686018427387904 ≤ mulN (D - N) D C E ∧ mulN (D - N) D C E ≤ 4611686018427387904
  e3 : addE (mulN N D A B) (mulD N D A B) (mulN (D - N) D C E) (mulD (D - N) D C E) = 0 ∧ addN (mulN N D A B) (mulD N D A B) (mulN (D - N) D C E) (mulD (D - N) D C E) = N ∧ addD (mulN N D A B) (mulD N D A B) (mulN (D - N) D C E) (mulD (D - N) D C E) = D
theorem absI_le {n b : Int} (h : absI n ≤ b) : -b ≤ n ∧ n ≤ b := by unfold absI at h; split at h <;> omega
theorem fair_all {N D A B C E p n : Int} (hp : 1 ≤ p ∧ p ≤ 1073741825) (hn : p < n ∧ n ≤ 2147483650) (h : RV N D p n) (ha : RV A B (p + 1) (n + 1)) (hb : RV C E p (n + 1)) (hD : D ≤ 1048576) : Fair N D A B C E := by
  have d0 := h.d0
  have b0 := ha.d0
  have e0 := hb.d0
  have s1 := h.sgn (by omega)
  have s2 := ha.sgn (by omega)
  have s3 := hb.sgn (by omega)
  have l1 := h.le (by omega)
  have l2 := ha.le (by omega)
  have l3 := hb.le (by omega)
  have n1 := s1.2.1 (by omega)
  have n2 := s2.2.1 (by omega)
  have n3 := s3.2.1 (by omega)
  have u1 := l1.2.2
  have u2 := l2.2.2
  have u3 := l3.2.2
  rw [absI_pos (by omega), absI_pos (by omega)] at u1 u2 u3
  have hr := rest_rv (by omega) h
  have nd : N < D := by
    have := cross (by omega) (by omega) h (rv_int 1) (by omega)
    omega
  have fN : Frc (-N) D := ⟨by omega, by omega⟩
  have f1 : Frc 1 1 := ⟨by omega, by omega⟩
  have a0 := add_rv f1 fN (by omega) (by omega) (rv_int 1) (neg_rv h) (n := D - N) (e := D) (hr.to (by omega) (by
    simp only [Int.one_mul, Int.mul_one, Int.sub_eq_add_neg])) (by rw [absI_pos (by omega)]; omega) (by omega)
  have mN := mul_62 (a := N) (b := A) (B := 1048576) (C := 1073741826) ⟨by omega, by omega⟩ ⟨by omega, by omega⟩
  have mD := mul_62 (a := D) (b := B) (B := 1048576) (C := 2147483651) ⟨by omega, by omega⟩ ⟨by omega, by omega⟩
  have mN' := mul_62 (a := D - N) (b := C) (B := 1048576) (C := 1073741825) ⟨by omega, by omega⟩ ⟨by omega, by omega⟩
  have mD' := mul_62 (a := D) (b := E) (B := 1048576) (C := 2147483651) ⟨by omega, by omega⟩ ⟨by omega, by omega⟩
  have p1 := mul_small (by omega) (by omega) h ha (by rw [absI_pos (by omega), absI_pos (by omega)]; omega) (by omega)
  have p2 := mul_small (by omega) (by omega) hr hb (by rw [absI_pos (n := D - N) (by omega), absI_pos (n := C) (by omega)]; omega) (by omega)
  have i1 := absI_le (Int.le_trans p1.2.2.1 (show absI N * absI A ≤ 4611686018427387904 by rw [absI_pos (by omega), absI_pos (by omega)]; omega))
  have i2 := absI_le (Int.le_trans p2.2.2.1 (show absI (D - N) * absI C ≤ 4611686018427387904 by rw [absI_pos (n := D - N) (by omega), absI_pos (n := C) (by omega)]; omega))
  have z1 := p1.1.d0
  have z2 := p2.1.d0
  have hM : 0 < n * (n + 1) := Int.mul_pos (by omega) (by omega)
  have fin := add_rv (n := N) (e := D) ⟨i1, by omega, by have := p1.2.2.2; omega⟩ ⟨i2, by omega, by have := p2.2.2.2; omega⟩ hM hM p1.1 p2.1
    (h.to (by omega) (fair_id p n)) (by rw [absI_pos (by omega)]; omega) (by omega)
  exact ⟨⟨a0.2.2, a0.1, a0.2.1⟩, ⟨p1.2.1, ⟨by omega, by have := p1.2.2.2; omega⟩, i1⟩, ⟨p2.2.1, ⟨by omega, by have := p2.2.2.2; omega⟩, i2⟩, fin.2.2, fin.1, fin.2.1⟩
theorem odds_fair {l : List An} (hl : RightP l) {k : Int} (hk : 1 ≤ k ∧ k ≤ 14) (h1 : lrnE l k true = 0) (h2 : lrnE l k false = 0) (hD : oddD (cntQ l k) ≤ 1048576) :
    Fair (oddN (cntQ l k)) (oddD (cntQ l k)) (oddN (cntQ (lrnL l k true) k)) (oddD (cntQ (lrnL l k true) k)) (oddN (cntQ (lrnL l k false) k)) (oddD (cntQ (lrnL l k false) k)) := by
  have c := cnt_ok hl k
  have c1 := cnt_ok (lrnL_right l k true) k
  have c2 := cnt_ok (lrnL_right l k false) k
  have r := odd_rv c
  have r1 := odd_rv c1
  have r2 := odd_rv c2
  rw [cnt_lrn hl hk h1] at r1 ⊢
  rw [cnt_lrn hl hk h2] at r2 ⊢
  generalize cntQ l k = x at *
  unfold Cnt at c
  simp only [sumQ, oneQ] at r1 r2 ⊢
  refine fair_all (p := x.right + 1) (n := x.right + x.wrong + 2) ⟨by omega, by omega⟩ ⟨by omega, by omega⟩ r ?_ ?_ hD
  · exact r1.to (by simp; omega) (by simp; rw [show x.right + 1 + x.wrong + 2 = x.right + x.wrong + 2 + 1 by omega])
  · exact r2.to (by simp; omega) (by simp; rw [show x.right + (x.wrong + 1) + 2 = x.right + x.wrong + 2 + 1 by omega])
/-! ### Losses -/
theorem los_rv {x : An} (h : Cnt x) {c : Int} (hc : 0 ≤ c ∧ c ≤ 1073741824) : RV (losN x c) (losD x c) ((x.right + 1) * c) (x.right + x.wrong + 2) ∧ losE c = 0 := by
  unfold Cnt at h
  have hc' : ¬ (c < 0 ∨ 1073741824 < c) := by omega
  unfold losN losD losE
  rw [if_neg hc', if_neg hc', if_neg hc']
  exact ⟨rv_new (by omega), rfl⟩
theorem los_bd {x : An} (h : Cnt x) {c : Int} (hc : 0 ≤ c ∧ c ≤ 2097152) : (0 ≤ losN x c ∧ losN x c ≤ 2251799815782400) ∧ 1 ≤ losD x c ∧ losD x c ≤ 2147483650 := by
  have r := (los_rv h (c := c) (by omega)).1
  unfold Cnt at h
  have m := mul_62 (a := x.right + 1) (b := c) (B := 1073741825) (C := 2097152) ⟨by omega, by omega⟩ hc
  have l := r.le (by omega)
  have s := r.sgn (by omega)
  have := s.1 (by omega)
  have u := l.2.2
  rw [absI_pos (by omega), absI_pos (by omega)] at u
  have := r.d0
  exact ⟨⟨by omega, by omega⟩, by omega, by omega⟩
theorem los_sum {x : An} (h : Cnt x) {c d : Int} (hc : 0 ≤ c ∧ c < 1048576) (hd : 0 ≤ d ∧ d < 1048576) : addN (losN x c) (losD x c) (losN x d) (losD x d) = losN x (c + d) ∧ addD (losN x c) (losD x c) (losN x d) (losD x d) = losD x (c + d) ∧ addE (losN x c) (losD x c) (losN x d) (losD x d) = 0 := by
  have r1 := (los_rv h (c := c) (by omega)).1
  have r2 := (los_rv h (c := d) (by omega)).1
  have r3 := (los_rv h (c := c + d) (by omega)).1
  have b1 := los_bd h (c := c) (by omega)
  have b2 := los_bd h (c := d) (by omega)
  have b3 := los_bd h (c := c + d) (by omega)
  unfold Cnt at h
  refine add_rv ⟨by omega, by omega⟩ ⟨by omega, by omega⟩ (by omega) (by omega) r1 r2 (r3.to (by omega) ?_) (by rw [absI_pos (by omega)]; omega) (by omega)
  generalize x.right + 1 = p
  generalize x.right + x.wrong + 2 = n
  rw [Int.mul_add, ← Int.add_mul, Int.mul_assoc]
theorem los_le {x : An} (h : Cnt x) {c : Int} (hc : 0 ≤ c ∧ c < 1048576) : cmpI (losN x c) (losD x c) c 1 ≤ 0 := by
  have r := (los_rv h (c := c) (by omega)).1
  unfold Cnt at h
  have k := cmp_rv (by omega) (by omega) r (rv_int c)
  by_cases h0 : c = 0
  · rw [k.2.2 (by rw [h0]; simp)]; omega
  · rw [k.1 (by
      rw [Int.mul_one, Int.mul_comm c]
      exact Int.mul_lt_mul_of_pos_right (by omega) (by omega))]; omega
theorem los_up {l : List An} (hl : RightP l) {k c : Int} (hk : 1 ≤ k ∧ k ≤ 14) (h : lrnE l k true = 0) (hc : 0 < c ∧ c < 1048576) : cmpI (losN (cntQ (lrnL l k true) k) c) (losD (cntQ (lrnL l k true) k) c) (losN (cntQ l k) c) (losD (cntQ l k) c) = 1 := by
  have cc := cnt_ok hl k
  have c' := cnt_ok (lrnL_right l k true) k
  have r := (los_rv cc (c := c) (by omega)).1
  have r' := (los_rv c' (c := c) (by omega)).1
  rw [cnt_lrn hl hk h] at r' c' ⊢
  generalize cntQ l k = x at *
  unfold Cnt at cc c'
  simp only [sumQ, oneQ, if_true] at c' r' ⊢
  refine (cmp_rv (by omega) (by omega) r' r).2.1 ?_
  generalize x.right = p at *
  generalize x.wrong = q at *
  have : (p + 1 + 1) * c * (p + q + 2) = (p + 1) * c * (p + 1 + (q + 0) + 2) + (q + 1) * c := by
    rw [show p + 1 + (q + 0) + 2 = (p + q + 2) + 1 by omega, Int.mul_add ((p + 1) * c), Int.mul_one, Int.add_mul (p + 1) 1, Int.one_mul, Int.add_mul, Int.mul_comm c (p + q + 2), show p + q + 2 = (p + 1) + (q + 1) by omega, Int.add_mul (p + 1) (q + 1) c]
    omega
  have := Int.mul_pos (show 0 < q + 1 by omega) hc.1
  omega
end Go.Proofs.Ytlhmionefjopiaa
