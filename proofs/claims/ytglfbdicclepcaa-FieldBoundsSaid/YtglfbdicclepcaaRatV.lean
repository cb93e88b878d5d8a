/- What fractions in lowest terms are worth: sums, products, comparisons. No program. -/
import Derived.Test.YtglfbdicclepcaaRatM
set_option linter.unusedVariables false
set_option linter.unusedSimpArgs false
namespace Go.Proofs.Ytglfbdicclepcaa
open Go.RowKit
set_option maxRecDepth 100000

/-- n / d is P / Q in lowest terms. -/
structure RV (n d P Q : Int) : Prop where
  d0 : 0 < d
  red : Int.gcd n d = 1
  val : n * Q = P * d
theorem mul_cancel {a b c : Int} (hc : c ≠ 0) (h : a * c = b * c) : a = b := Int.eq_of_mul_eq_mul_right hc h
theorem cop_left {a b c : Int} (h : Int.gcd a b = 1) (k : a ∣ b * c) : a ∣ c := by
  rw [← Int.natAbs_dvd_natAbs] at *
  rw [Int.natAbs_mul] at k
  exact Nat.Coprime.dvd_of_dvd_mul_left h k
theorem mul4 (a b c d : Int) : a * b * (c * d) = a * c * (b * d) := by simp only [Int.mul_assoc, Int.mul_left_comm]
theorem div_of {e g d d' : Int} (he : e ≠ 0) (h : e ∣ g) (hd : g * d' = d) : d / e = g / e * d' := by
  obtain ⟨g', rfl⟩ := h
  subst hd
  rw [Int.mul_ediv_cancel_left _ he, Int.mul_assoc, Int.mul_ediv_cancel_left _ he]
theorem dvd_of_red {n d P Q : Int} (h : RV n d P Q) : d ∣ Q ∧ n ∣ P := by
  constructor
  · have : d ∣ n * Q := ⟨P, by rw [h.val, Int.mul_comm]⟩
    exact cop_left (by rw [Int.gcd_comm]; exact h.red) this
  · have : n ∣ d * P := ⟨Q, by rw [Int.mul_comm]; exact h.val.symm⟩
    exact cop_left h.red this
theorem RV.uniq {n d n' d' P Q : Int} (hQ : 0 < Q) (h : RV n d P Q) (k : RV n' d' P Q) : n = n' ∧ d = d' := by
  have e : n * d' = n' * d := by
    have h1 : n * d' * Q = n' * d * Q := by
      rw [Int.mul_right_comm, h.val, Int.mul_right_comm n', k.val, Int.mul_right_comm]
    exact mul_cancel (by omega) h1
  have d1 : d ∣ d' := by
    have : d ∣ n * d' := ⟨n', by rw [e, Int.mul_comm]⟩
    exact cop_left (by rw [Int.gcd_comm]; exact h.red) this
  have d2 : d' ∣ d := by
    have : d' ∣ n' * d := ⟨n, by rw [← e, Int.mul_comm]⟩
    exact cop_left (by rw [Int.gcd_comm]; exact k.red) this
  have a1 := Int.le_of_dvd k.d0 d1
  have a2 := Int.le_of_dvd h.d0 d2
  have he : d = d' := by omega
  subst he
  exact ⟨mul_cancel (by have := h.d0; omega) e, rfl⟩
theorem RV.to {n d P Q P' Q' : Int} (hQ : 0 < Q) (h : RV n d P Q) (e : P * Q' = P' * Q) : RV n d P' Q' := ⟨h.d0, h.red, by
  have h1 : n * Q' * Q = P' * d * Q := by
    rw [Int.mul_right_comm, h.val, Int.mul_right_comm, e, Int.mul_right_comm]
  exact mul_cancel (by omega) h1⟩
theorem gcd_cop {P Q : Int} (h : 0 < Int.gcd P Q) : Int.gcd (P / (Int.gcd P Q : Int)) (Q / (Int.gcd P Q : Int)) = 1 := Int.gcd_ediv_gcd_ediv_gcd h
theorem rv_new {P Q : Int} (hQ : 0 < Q) : RV (P / (Int.gcd P Q : Int)) (Q / (Int.gcd P Q : Int)) P Q := by
  have g0 : 0 < Int.gcd P Q := Int.gcd_pos_of_ne_zero_right _ (by omega)
  have e1 := Int.mul_ediv_cancel' (Int.gcd_dvd_left (a := P) (b := Q))
  have e2 := Int.mul_ediv_cancel' (Int.gcd_dvd_right (a := P) (b := Q))
  refine ⟨Int.ediv_pos_of_pos_of_dvd hQ (by omega) (Int.gcd_dvd_right ..), gcd_cop g0, ?_⟩
  generalize P / (Int.gcd P Q : Int) = p at *
  generalize Q / (Int.gcd P Q : Int) = q at *
  rw [← e1]
  conv => lhs; rw [← e2]
  rw [Int.mul_left_comm, Int.mul_assoc]
theorem RV.le {n d P Q : Int} (hQ : 0 < Q) (h : RV n d P Q) : d ≤ Q ∧ (P = 0 → n = 0) ∧ absI n ≤ absI P := by
  obtain ⟨h1, h2⟩ := dvd_of_red h
  have hz : P = 0 → n = 0 := fun hp => by
    have := h.val
    rw [hp, Int.zero_mul] at this
    rcases Int.mul_eq_zero.1 this with h | h
    · exact h
    · omega
  refine ⟨Int.le_of_dvd hQ h1, hz, ?_⟩
  by_cases hp : P = 0
  · rw [hz hp, hp]; exact Int.le_refl _
  · rw [absI_natAbs, absI_natAbs]
    have := Nat.le_of_dvd (by omega) (Int.natAbs_dvd_natAbs.2 h2)
    omega
theorem RV.sgn {n d P Q : Int} (hQ : 0 < Q) (h : RV n d P Q) : (0 ≤ P → 0 ≤ n) ∧ (0 < P → 0 < n) ∧ (P < 0 → n < 0) := by
  have v := h.val
  have d0 := h.d0
  refine ⟨fun hp => ?_, fun hp => ?_, fun hp => ?_⟩
  · rcases Int.lt_or_le n 0 with hn | hn
    · have := Int.mul_neg_of_neg_of_pos hn hQ
      have := Int.mul_nonneg hp (show 0 ≤ d by omega); omega
    · exact hn
  · rcases Int.lt_or_le 0 n with hn | hn
    · exact hn
    · have := Int.mul_nonpos_of_nonpos_of_nonneg hn (show 0 ≤ Q by omega)
      have := Int.mul_pos hp d0; omega
  · rcases Int.lt_or_le n 0 with hn | hn
    · exact hn
    · have := Int.mul_nonneg hn (show 0 ≤ Q by omega)
      have := Int.mul_neg_of_neg_of_pos hp d0; omega
/-! ### Comparing -/
theorem cmp_pl {a b c d : Int} : sgn (plN (negP a d) (absI a * absI d) (!negP c b) (absI c * absI b)) (plM (negP a d) (absI a * absI d) (!negP c b) (absI c * absI b)) = a * d - c * b ∧ 0 ≤ plM (negP a d) (absI a * absI d) (!negP c b) (absI c * absI b) := by
  obtain ⟨v, p⟩ := pl_val (n1 := negP a d) (m1 := absI a * absI d) (n2 := !negP c b) (m2 := absI c * absI b) (Int.mul_nonneg (absI_nonneg _) (absI_nonneg _)) (Int.mul_nonneg (absI_nonneg _) (absI_nonneg _))
  rw [sgn_neg'] at v
  have e : sgn (!negP c b) (absI c * absI b) = -(c * b) := by
    have := sgn_neg' c b
    unfold sgn at *
    cases hn : negP c b <;> rw [hn] at this <;> simp at this ⊢ <;> omega
  rw [e] at v
  exact ⟨by omega, p⟩
theorem cmp_lt {a b c d : Int} (h : a * d < c * b) : cmpI a b c d = -1 := by
  obtain ⟨v, p⟩ := cmp_pl (a := a) (b := b) (c := c) (d := d)
  unfold cmpI
  rw [if_neg (fun e => by rw [e.1, e.2] at h; omega), if_pos]
  unfold sgn at v
  split at v
  · assumption
  · omega
theorem cmp_gt {a b c d : Int} (h : c * b < a * d) : cmpI a b c d = 1 := by
  obtain ⟨v, p⟩ := cmp_pl (a := a) (b := b) (c := c) (d := d)
  unfold cmpI
  rw [if_neg (fun e => by rw [e.1, e.2] at h; omega), if_neg]
  intro hn
  unfold sgn at v
  rw [if_pos hn] at v
  omega
theorem cmp_eq {a b c d : Int} (h : a = c) (k : b = d) : cmpI a b c d = 0 := by unfold cmpI; rw [if_pos ⟨h, k⟩]
theorem cross {n d P Q n' d' P' Q' : Int} (hQ : 0 < Q) (hQ' : 0 < Q') (h : RV n d P Q) (k : RV n' d' P' Q') (e : P * Q' < P' * Q) : n * d' < n' * d := by
  have a1 : n * d' * (Q * Q') = P * Q' * (d * d') := by
    rw [mul4, h.val, Int.mul_comm d' Q', mul4]
  have a2 : n' * d * (Q * Q') = P' * Q * (d * d') := by
    rw [Int.mul_comm Q Q', mul4, k.val, Int.mul_comm d Q, mul4, Int.mul_comm d' d]
  have hd : 0 < d * d' := Int.mul_pos h.d0 k.d0
  have hq : 0 < Q * Q' := Int.mul_pos hQ hQ'
  have := Int.mul_lt_mul_of_pos_right e hd
  rw [← a1, ← a2] at this
  exact Int.lt_of_mul_lt_mul_right this (by omega)
theorem cmp_rv {n d P Q n' d' P' Q' : Int} (hQ : 0 < Q) (hQ' : 0 < Q') (h : RV n d P Q) (k : RV n' d' P' Q') : (P * Q' < P' * Q → cmpI n d n' d' = -1) ∧ (P' * Q < P * Q' → cmpI n d n' d' = 1) ∧ (P * Q' = P' * Q → cmpI n d n' d' = 0) :=
  ⟨fun e => cmp_lt (cross hQ hQ' h k e), fun e => cmp_gt (cross hQ' hQ k h e), fun e => by
    obtain ⟨e1, e2⟩ := (h.to hQ e).uniq hQ' k
    exact cmp_eq e1 e2⟩
/-! ### Products and sums in lowest terms -/
theorem cop_mul {a b c : Int} (h : Int.gcd a b = 1) (k : Int.gcd a c = 1) : Int.gcd a (b * c) = 1 := by
  rw [Int.gcd, Int.natAbs_mul]
  exact Nat.Coprime.mul_right h k
theorem cop_mul' {a b c : Int} (h : Int.gcd a c = 1) (k : Int.gcd b c = 1) : Int.gcd (a * b) c = 1 := by
  rw [Int.gcd_comm]; exact cop_mul (by rw [Int.gcd_comm]; exact h) (by rw [Int.gcd_comm]; exact k)
theorem cop_dvd {a b a' b' : Int} (h : Int.gcd a b = 1) (ha : a' ∣ a) (hb : b' ∣ b) : Int.gcd a' b' = 1 := by
  have : Int.gcd a' b' ∣ Int.gcd a b := Nat.dvd_trans (Nat.gcd_dvd_gcd_of_dvd_left _ (Int.natAbs_dvd_natAbs.2 ha)) (Nat.gcd_dvd_gcd_of_dvd_right _ (Int.natAbs_dvd_natAbs.2 hb))
  rw [h] at this
  exact Nat.dvd_one.1 this
theorem div_dvd' {a g : Int} (h : g ∣ a) : a / g ∣ a := by
  obtain ⟨c, rfl⟩ := h
  by_cases hg : g = 0
  · subst hg; simp
  · rw [Int.mul_ediv_cancel_left _ hg]; exact Int.dvd_mul_left ..
theorem mgA_is (a d : Int) : mgA a d = (Int.gcd a d : Int) := by unfold mgA; rw [absI_natAbs]; simp [Int.gcd]
/-- The product of two fractions. -/
theorem rv_mul {a b c d P Q P' Q' : Int} (ha : a ≠ 0) (hc : c ≠ 0) (hb : 0 < b) (hd : 0 < d) (h : RV a b P Q) (k : RV c d P' Q') : RV (a / mgA a d * (c / mgA c b)) (b / mgA c b * (d / mgA a d)) (P * P') (Q * Q') := by
  rw [mgA_is, mgA_is]
  have g0 : 0 < Int.gcd a d := Int.gcd_pos_of_ne_zero_right _ (by omega)
  have g1 : 0 < Int.gcd c b := Int.gcd_pos_of_ne_zero_right _ (by omega)
  have c1 := gcd_cop g0
  have c2 := gcd_cop g1
  have da := Int.gcd_dvd_left (a := a) (b := d)
  have dd := Int.gcd_dvd_right (a := a) (b := d)
  have dc := Int.gcd_dvd_left (a := c) (b := b)
  have db := Int.gcd_dvd_right (a := c) (b := b)
  have ea := Int.mul_ediv_cancel' da
  have ed := Int.mul_ediv_cancel' dd
  have ec := Int.mul_ediv_cancel' dc
  have eb := Int.mul_ediv_cancel' db
  have p1 := Int.ediv_pos_of_pos_of_dvd hb (show 0 ≤ (Int.gcd c b : Int) by omega) db
  have p2 := Int.ediv_pos_of_pos_of_dvd hd (show 0 ≤ (Int.gcd a d : Int) by omega) dd
  have v1 := h.val
  have v2 := k.val
  have r1 : Int.gcd (a / (Int.gcd a d : Int)) (b / (Int.gcd c b : Int)) = 1 := cop_dvd h.red (div_dvd' da) (div_dvd' db)
  have r2 : Int.gcd (c / (Int.gcd c b : Int)) (d / (Int.gcd a d : Int)) = 1 := cop_dvd k.red (div_dvd' dc) (div_dvd' dd)
  refine ⟨Int.mul_pos p1 p2, cop_mul' (cop_mul r1 c1) (cop_mul c2 r2), ?_⟩
  have hg : (Int.gcd a d : Int) * (Int.gcd c b : Int) ≠ 0 := by
    have : 0 < (Int.gcd a d : Int) * (Int.gcd c b : Int) := Int.mul_pos (by omega) (by omega)
    omega
  generalize (Int.gcd a d : Int) = g at *
  generalize (Int.gcd c b : Int) = e at *
  generalize a / g = a' at *
  generalize d / g = d' at *
  generalize c / e = c' at *
  generalize b / e = b' at *
  subst ea ed ec eb
  refine mul_cancel hg ?_
  calc a' * c' * (Q * Q') * (g * e) = (g * a' * Q) * (e * c' * Q') := by
        simp only [Int.mul_assoc, Int.mul_comm, Int.mul_left_comm]
    _ = (P * (e * b')) * (P' * (g * d')) := by rw [v1, v2]
    _ = P * P' * (b' * d') * (g * e) := by simp only [Int.mul_assoc, Int.mul_comm, Int.mul_left_comm]
theorem hA_is (a b c d : Int) (hb : 0 < b) : hA a b c d = (Int.gcd (tA a b c d) (gA b d) : Int) := by
  unfold hA
  have e : Int.gcd (absI (tA a b c d) % gA b d) (gA b d) = Int.gcd (absI (tA a b c d)) (gA b d) := by
    rw [Int.gcd_comm, Int.gcd_comm (absI _)]
    have h : absI (tA a b c d) % gA b d = absI (tA a b c d) - gA b d * (absI (tA a b c d) / gA b d) := by
      have := Int.mul_ediv_add_emod (absI (tA a b c d)) (gA b d); omega
    have h2 := Int.mul_ediv_add_emod (absI (tA a b c d)) (gA b d)
    conv => rhs; rw [← h2]
    rw [Int.add_comm, Int.gcd_add_mul_left_right]
  rw [e, absI_natAbs]; simp [Int.gcd]
/-- The sum of two fractions, if it is not 0. -/
theorem rv_add {a b c d P Q P' Q' : Int} (hb : 0 < b) (hd : 0 < d) (h : RV a b P Q) (k : RV c d P' Q') (ht : tA a b c d ≠ 0) :
    RV (tA a b c d / hA a b c d) (b / gA b d * (d / hA a b c d)) (P * Q' + P' * Q) (Q * Q') := by
  rw [hA_is a b c d hb]
  have g0 : 0 < Int.gcd b d := Int.gcd_pos_of_ne_zero_left _ (by omega)
  have h0 : 0 < Int.gcd (tA a b c d) (gA b d) := Int.gcd_pos_of_ne_zero_left _ ht
  have cg := gcd_cop g0
  have ch := gcd_cop h0
  have db := Int.gcd_dvd_left (a := b) (b := d)
  have dd := Int.gcd_dvd_right (a := b) (b := d)
  have dt := Int.gcd_dvd_left (a := tA a b c d) (b := gA b d)
  have dg := Int.gcd_dvd_right (a := tA a b c d) (b := gA b d)
  have eb := Int.mul_ediv_cancel' db
  have ed := Int.mul_ediv_cancel' dd
  have et := Int.mul_ediv_cancel' dt
  have eg := Int.mul_ediv_cancel' dg
  have p1 := Int.ediv_pos_of_pos_of_dvd hb (show 0 ≤ gA b d by unfold gA; omega) db
  have p2 := Int.ediv_pos_of_pos_of_dvd hd (show 0 ≤ gA b d by unfold gA; omega) dd
  have p3 := Int.ediv_pos_of_pos_of_dvd (show 0 < gA b d by unfold gA; omega) (show 0 ≤ (Int.gcd (tA a b c d) (gA b d) : Int) by omega) dg
  have v1 := h.val
  have v2 := k.val
  have r1 := h.red
  have r2 := k.red
  have tdef : tA a b c d = a * (d / gA b d) + c * (b / gA b d) := rfl
  have gp : (gA b d) ≠ 0 := by unfold gA; omega
  have hp : (Int.gcd (tA a b c d) (gA b d) : Int) ≠ 0 := by omega
  change (gA b d) * (b / gA b d) = b at eb
  change (gA b d) * (d / gA b d) = d at ed
  change Int.gcd (b / gA b d) (d / gA b d) = 1 at cg
  have hdv : d / (Int.gcd (tA a b c d) (gA b d) : Int) = gA b d / (Int.gcd (tA a b c d) (gA b d) : Int) * (d / gA b d) := div_of hp dg ed
  rw [hdv]
  generalize tA a b c d = t at *
  generalize gA b d = g at *
  generalize (Int.gcd t g : Int) = e at *
  generalize b / g = b' at *
  generalize d / g = d' at *
  generalize t / e = t' at *
  generalize g / e = g' at *
  have rb : Int.gcd t b' = 1 := by
    have x : Int.gcd (a * d') b' = 1 := cop_mul' (cop_dvd r1 (Int.dvd_refl _) ⟨g, by rw [← eb, Int.mul_comm]⟩) (by rw [Int.gcd_comm]; exact cg)
    rw [tdef, Int.gcd_comm, Int.mul_comm c b', Int.gcd_add_mul_left_right, Int.gcd_comm]; exact x
  have rd : Int.gcd t d' = 1 := by
    have x : Int.gcd (c * b') d' = 1 := cop_mul' (cop_dvd r2 (Int.dvd_refl _) ⟨g, by rw [← ed, Int.mul_comm]⟩) cg
    rw [tdef, Int.gcd_comm, Int.add_comm, Int.mul_comm a d', Int.gcd_add_mul_left_right, Int.gcd_comm]; exact x
  have tt : t' ∣ t := ⟨e, by rw [← et, Int.mul_comm]⟩
  refine ⟨Int.mul_pos p1 (Int.mul_pos p3 p2), cop_mul (cop_dvd rb tt (Int.dvd_refl _)) (cop_mul ch (cop_dvd rd tt (Int.dvd_refl _))), ?_⟩
  refine mul_cancel hp (mul_cancel gp ?_)
  have ge : g * (e * t') = g * t := by rw [et]
  calc t' * (Q * Q') * e * g = (e * t') * g * (Q * Q') := by simp only [Int.mul_assoc, Int.mul_comm, Int.mul_left_comm]
    _ = (a * d' + c * b') * g * (Q * Q') := by rw [et, tdef]
    _ = a * Q * (g * d') * Q' + c * Q' * (g * b') * Q := by
        rw [Int.add_mul, Int.add_mul]
        congr 1 <;> simp only [Int.mul_assoc, Int.mul_comm, Int.mul_left_comm]
    _ = P * b * d * Q' + P' * d * b * Q := by rw [v1, v2, ed, eb]
    _ = (P * Q' + P' * Q) * (b * d) := by
        rw [Int.add_mul]
        congr 1 <;> simp only [Int.mul_assoc, Int.mul_comm, Int.mul_left_comm]
    _ = (P * Q' + P' * Q) * (g * b' * (e * g' * d')) := by rw [eb, eg, ed]
    _ = (P * Q' + P' * Q) * (b' * (g' * d')) * e * g := by simp only [Int.mul_assoc, Int.mul_comm, Int.mul_left_comm]
end Go.Proofs.Ytglfbdicclepcaa
