/- Operators are sound for sets: plain arithmetic, no program. -/
import Derived.Test.YtlokjiniigfaiaaSpOpk
import Derived.Test.YtlokjiniigfaiaaSpAt
set_option linter.unusedVariables false
set_option linter.unusedSimpArgs false
namespace Go.Proofs.Ytlokjiniigfaiaa
open Go.ChangeShapes Go.WideShapes Go.ChangeAt Go.RowKit

/-- Membership by the step. -/
theorem inS_iff {a : Ab} (h : Good a) (v : Int) : InS a v ↔ a.lo ≤ v ∧ v ≤ a.hi ∧ stepS a ∣ v - a.lo := by
  have h6 := h.h6
  unfold InS stepS
  split
  · rename_i he
    have := (h.h7 he).1
    rw [this]
    constructor
    · rintro ⟨h1, h2, -⟩
      exact ⟨h1, h2, ⟨0, by omega⟩⟩
    · rintro ⟨h1, h2, h3⟩
      exact ⟨h1, h2, by omega⟩
  · constructor
    · rintro ⟨h1, h2, h3⟩
      exact ⟨h1, h2, Int.dvd_of_emod_eq_zero h3⟩
    · rintro ⟨h1, h2, h3⟩
      exact ⟨h1, h2, Int.emod_eq_zero_of_dvd h3⟩

theorem by_in {lo hi m k : Int} (hle : lo ≤ hi) (hm : 0 < m ∨ m = 0 ∧ lo = hi) (v : Int) : InS (byS lo hi m k) v ↔ lo ≤ v ∧ v ≤ hi ∧ m ∣ v - lo := by
  rcases hm with hm | ⟨rfl, rfl⟩
  · have e1 := Int.emod_nonneg (hi - lo) (show m ≠ 0 by omega)
    have e2 := Int.emod_lt_of_pos (hi - lo) hm
    have hd : m ∣ (hi - (hi - lo) % m) - lo := by
      rw [show (hi - (hi - lo) % m) - lo = (hi - lo) - (hi - lo) % m by omega]
      exact Int.dvd_self_sub_emod
    have hb := by_dec lo hi m k hm hle
    unfold byS
    rw [if_pos hm]
    have key : ∀ v, v ≤ hi → m ∣ v - lo → v ≤ hi - (hi - lo) % m := by
      intro v h1 h2
      have h3 : m ∣ v - (hi - (hi - lo) % m) := by
        rw [show v - (hi - (hi - lo) % m) = (v - lo) - ((hi - (hi - lo) % m) - lo) by omega]
        exact Int.dvd_sub h2 hd
      obtain ⟨c, hc⟩ := h3
      by_cases hcp : 0 < c
      · have : m * 1 ≤ m * c := Int.mul_le_mul_of_nonneg_left (by omega) (by omega)
        omega
      · have : m * c ≤ 0 := Int.mul_nonpos_of_nonneg_of_nonpos (by omega) (by omega)
        omega
    generalize hi - (hi - lo) % m = h' at *
    by_cases he : lo = h'
    · rw [if_pos he]
      subst he
      unfold InS
      simp only
      constructor
      · rintro ⟨h1, h2, -⟩
        have : v = lo := by omega
        subst this
        exact ⟨h1, by omega, ⟨0, by omega⟩⟩
      · rintro ⟨h1, h2, h3⟩
        exact ⟨h1, key v h2 h3, by omega⟩
    · rw [if_neg he]
      unfold InS
      simp only
      constructor
      · rintro ⟨h1, h2, h3⟩
        exact ⟨h1, by omega, Int.dvd_of_emod_eq_zero h3⟩
      · rintro ⟨h1, h2, h3⟩
        exact ⟨h1, key v h2 h3, Int.emod_eq_zero_of_dvd h3⟩
  · unfold byS
    rw [if_neg (by omega)]
    unfold InS
    simp only
    constructor
    · rintro ⟨h1, h2, -⟩
      exact ⟨h1, h2, ⟨0, by omega⟩⟩
    · rintro ⟨h1, h2, h3⟩
      exact ⟨h1, h2, by omega⟩

theorem by_good {lo hi m k : Int} (h1 : -2147483648 ≤ lo) (h2 : lo ≤ hi) (h3 : hi ≤ 2147483647) (hm : 0 ≤ m) (hk : Mk k) : Good (byS lo hi m k) := by
  by_cases h0 : 0 < m
  · have hb := by_dec lo hi m k h0 h2
    have hd : m ∣ (hi - (hi - lo) % m) - lo := by
      rw [show (hi - (hi - lo) % m) - lo = (hi - lo) - (hi - lo) % m by omega]
      exact Int.dvd_self_sub_emod
    unfold byS
    rw [if_pos h0]
    generalize hi - (hi - lo) % m = h' at *
    by_cases he : lo = h'
    · rw [if_pos he]
      exact ⟨by simp only; omega, by simp only; omega, by simp only; omega, hk.1, hk.2, by simp only; omega, fun _ => ⟨rfl, rfl⟩, fun h => absurd rfl h⟩
    · rw [if_neg he]
      exact ⟨by simp only; omega, by simp only; omega, by simp only; omega, hk.1, hk.2, by simp only; omega, fun h => absurd h he, fun _ => ⟨Int.le_of_dvd (by simp only; omega) hd, Int.emod_eq_zero_of_dvd hd, rfl⟩⟩
  · unfold byS
    rw [if_neg h0]
    exact ⟨by simp only; omega, by simp only; omega, by simp only; omega, hk.1, hk.2, by simp only; omega, fun _ => ⟨rfl, rfl⟩, fun h => absurd rfl h⟩

theorem by_k (lo hi m k : Int) : (byS lo hi m k).k = k := by
  unfold byS
  split
  · split <;> rfl
  · rfl

theorem like_in {r m lo hi k : Int} (hm : 0 < m) (hf : lo + (r - lo) % m ≤ hi) (v : Int) : InS (likeS r m lo hi k) v ↔ lo ≤ v ∧ v ≤ hi ∧ m ∣ v - r := by
  have e1 := Int.emod_nonneg (r - lo) (show m ≠ 0 by omega)
  have e2 := Int.emod_lt_of_pos (r - lo) hm
  have hd : m ∣ r - (lo + (r - lo) % m) := by
    rw [show r - (lo + (r - lo) % m) = (r - lo) - (r - lo) % m by omega]
    exact Int.dvd_self_sub_emod
  unfold likeS
  rw [by_in hf (Or.inl hm)]
  generalize hl : lo + (r - lo) % m = l at *
  constructor
  · rintro ⟨h1, h2, h3⟩
    refine ⟨by omega, h2, ?_⟩
    rw [show v - r = (v - l) - (r - l) by omega]
    exact Int.dvd_sub h3 hd
  · rintro ⟨h1, h2, h3⟩
    have h4 : m ∣ v - l := by
      rw [show v - l = (v - r) + (r - l) by omega]
      exact Int.dvd_add h3 hd
    refine ⟨?_, h2, h4⟩
    obtain ⟨c, hc⟩ := h4
    by_cases hcn : c < 0
    · have : m * c ≤ m * (-1) := Int.mul_le_mul_of_nonneg_left (by omega) (by omega)
      omega
    · have : 0 ≤ m * c := Int.mul_nonneg (by omega) (by omega)
      omega

theorem like_good {r m lo hi k : Int} (hm : 0 < m) (h1 : -2147483648 ≤ lo) (hf : lo + (r - lo) % m ≤ hi) (h3 : hi ≤ 2147483647) (hk : Mk k) : Good (likeS r m lo hi k) := by
  have e1 := Int.emod_nonneg (r - lo) (show m ≠ 0 by omega)
  unfold likeS
  exact by_good (by omega) hf h3 (by omega) hk

/-- What bounded makes. -/
theorem g32 (m : Int) : 0 < (Int.gcd 4294967296 m : Int) ∧ (Int.gcd 4294967296 m : Int) ≤ 4294967296 ∧ (Int.gcd 4294967296 m : Int) ∣ 4294967296 ∧ (Int.gcd 4294967296 m : Int) ∣ m := by
  have h1 : Int.gcd 4294967296 m ∣ 4294967296 := Int.gcd_dvd_natAbs_left 4294967296 m
  have h2 := Nat.le_of_dvd (by omega) h1
  have h3 := Nat.pos_of_dvd_of_pos h1 (by omega)
  exact ⟨by omega, by omega, Int.gcd_dvd_left .., Int.gcd_dvd_right ..⟩
theorem wrap32_cong (x : Int) : ∃ q, wrap32 x = x + 4294967296 * q := ⟨-((x + 2147483648) / 4294967296), by unfold wrap32; omega⟩

theorem bounded_good {lo hi m k : Int} (h2 : lo ≤ hi) (hm : 0 ≤ m) (hk : Mk k) : Good (boundedS lo hi m k) := by
  unfold boundedS
  split
  · exact by_good (by omega) h2 (by omega) hm hk
  · obtain ⟨g1, g2, -, -⟩ := g32 m
    refine like_good g1 (by omega) ?_ (by omega) hk
    have := Int.emod_lt_of_pos (lo - -2147483648) g1
    omega
theorem bounded_in' {lo hi m k x : Int} (h2 : lo ≤ hi) (hm : 0 < m ∨ m = 0 ∧ lo = hi) (x1 : lo ≤ x) (x2 : x ≤ hi) (x3 : m ∣ x - lo) : InS (boundedS lo hi m k) (wrap32 x) := by
  unfold boundedS
  split
  · rw [wrap32_of x (by omega), by_in h2 hm]
    exact ⟨x1, x2, x3⟩
  · obtain ⟨g1, g2, g3, g4⟩ := g32 m
    have hf : -2147483648 + (lo - -2147483648) % (Int.gcd 4294967296 m : Int) ≤ 2147483647 := by
      have := Int.emod_lt_of_pos (lo - -2147483648) g1
      omega
    rw [like_in g1 hf]
    have b := wrap32_bd x
    obtain ⟨q, hq⟩ := wrap32_cong x
    refine ⟨by omega, by omega, ?_⟩
    rw [show wrap32 x - lo = (x - lo) + 4294967296 * q by omega]
    exact Int.dvd_add (Int.dvd_trans g4 x3) (Int.dvd_mul_of_dvd_left g3)

/-- A value between products. -/
theorem mul_hull1 {p q x c : Int} (h1 : p ≤ x) (h2 : x ≤ q) : min (p * c) (q * c) ≤ x * c ∧ x * c ≤ max (p * c) (q * c) := by
  rcases Int.le_total 0 c with h | h
  · have e1 := Int.mul_le_mul_of_nonneg_right h1 h
    have e2 := Int.mul_le_mul_of_nonneg_right h2 h
    omega
  · have e1 := Int.mul_le_mul_of_nonpos_right h1 h
    have e2 := Int.mul_le_mul_of_nonpos_right h2 h
    omega
theorem mul_hull {p q r s x y : Int} (h1 : p ≤ x) (h2 : x ≤ q) (h3 : r ≤ y) (h4 : y ≤ s) :
    min (p * r) (min (p * s) (min (q * r) (q * s))) ≤ x * y ∧ x * y ≤ max (p * r) (max (p * s) (max (q * r) (q * s))) := by
  have e1 := mul_hull1 (c := y) h1 h2
  have e2 := mul_hull1 (c := p) h3 h4
  have e3 := mul_hull1 (c := q) h3 h4
  rw [Int.mul_comm r p, Int.mul_comm s p, Int.mul_comm y p] at e2
  rw [Int.mul_comm r q, Int.mul_comm s q, Int.mul_comm y q] at e3
  omega

theorem gcdS_dvd2 (x y : Int) : gcdS x [y] ∣ x ∧ gcdS x [y] ∣ y := ⟨Int.gcd_dvd_left .., Int.gcd_dvd_right ..⟩
theorem gcdS_dvd3 (x y z : Int) : gcdS x [y, z] ∣ x ∧ gcdS x [y, z] ∣ y ∧ gcdS x [y, z] ∣ z :=
  ⟨Int.dvd_trans (Int.gcd_dvd_left ..) (Int.gcd_dvd_left ..), Int.dvd_trans (Int.gcd_dvd_left ..) (Int.gcd_dvd_right ..), Int.gcd_dvd_right ..⟩
theorem gcdS2_case {a b : Ab} (ha : Good a) (hb : Good b) : 0 < gcdS (stepS a) [stepS b] ∨ gcdS (stepS a) [stepS b] = 0 ∧ a.lo = a.hi ∧ b.lo = b.hi := by
  by_cases h : gcdS (stepS a) [stepS b] = 0
  · right
    have h1 := Int.gcd_eq_zero_iff.1 (show Int.gcd (stepS a) (stepS b) = 0 by simp only [gcdS] at h; omega)
    exact ⟨h, ha.step_zero.1 h1.1, hb.step_zero.1 h1.2⟩
  · left
    have : 0 ≤ gcdS (stepS a) [stepS b] := by simp only [gcdS]; omega
    omega

theorem add_sound {a b : Ab} {k v w : Int} (ha : Good a) (hb : Good b) (hv : InS a v) (hw : InS b w) : InS (addS a b k) (wrap32 (v + w)) := by
  rw [inS_iff ha] at hv
  rw [inS_iff hb] at hw
  have a2 := ha.h2; have b2 := hb.h2
  obtain ⟨d1, d2⟩ := gcdS_dvd2 (stepS a) (stepS b)
  unfold addS
  refine bounded_in' (by omega) ?_ (by omega) (by omega) ?_
  · rcases gcdS2_case ha hb with h | ⟨h, h1, h2⟩
    · exact Or.inl h
    · exact Or.inr ⟨h, by omega⟩
  · rw [show v + w - (a.lo + b.lo) = (v - a.lo) + (w - b.lo) by omega]
    exact Int.dvd_add (Int.dvd_trans d1 hv.2.2) (Int.dvd_trans d2 hw.2.2)
theorem sub_sound {a b : Ab} {k v w : Int} (ha : Good a) (hb : Good b) (hv : InS a v) (hw : InS b w) : InS (subS a b k) (wrap32 (v - w)) := by
  rw [inS_iff ha] at hv
  rw [inS_iff hb] at hw
  have a2 := ha.h2; have b2 := hb.h2
  obtain ⟨d1, d2⟩ := gcdS_dvd2 (stepS a) (stepS b)
  unfold subS
  refine bounded_in' (by omega) ?_ (by omega) (by omega) ?_
  · rcases gcdS2_case ha hb with h | ⟨h, h1, h2⟩
    · exact Or.inl h
    · exact Or.inr ⟨h, by omega⟩
  · rw [show v - w - (a.lo - b.hi) = (v - a.lo) - (w - b.lo) + (b.hi - b.lo) by omega]
    exact Int.dvd_add (Int.dvd_sub (Int.dvd_trans d1 hv.2.2) (Int.dvd_trans d2 hw.2.2)) (Int.dvd_trans d2 hb.step_dvd)

/-- Products of values are alike modulo the step of the product. -/
theorem mul_like {a b : Ab} {v w : Int} (hv : stepS a ∣ v - a.lo) (hw : stepS b ∣ w - b.lo) :
    gcdS (absS a.lo * stepS b) [absS b.lo * stepS a, stepS a * stepS b] ∣ v * w - a.lo * b.lo := by
  obtain ⟨d1, d2, d3⟩ := gcdS_dvd3 (absS a.lo * stepS b) (absS b.lo * stepS a) (stepS a * stepS b)
  generalize gcdS (absS a.lo * stepS b) [absS b.lo * stepS a, stepS a * stepS b] = g at *
  obtain ⟨i, hi⟩ := hv
  obtain ⟨j, hj⟩ := hw
  have ab : ∀ x y : Int, g ∣ absS x * y → g ∣ x * y := by
    intro x y h
    unfold absS at h
    rcases Int.le_total 0 x with h1 | h1
    · rw [Int.max_eq_left (by omega)] at h; exact h
    · rw [Int.max_eq_right (by omega), Int.neg_mul, Int.dvd_neg] at h; exact h
  have e1 := ab _ _ d1
  have e2 := ab _ _ d2
  have ev : v = a.lo + stepS a * i := by omega
  have ew : w = b.lo + stepS b * j := by omega
  have : v * w - a.lo * b.lo = (a.lo * stepS b) * j + (b.lo * stepS a) * i + (stepS a * stepS b) * (i * j) := by
    rw [ev, ew]
    simp only [Int.mul_add, Int.add_mul, Int.mul_assoc, Int.mul_comm, Int.mul_left_comm]
    omega
  rw [this]
  exact Int.dvd_add (Int.dvd_add (Int.dvd_mul_of_dvd_left e1) (Int.dvd_mul_of_dvd_left e2)) (Int.dvd_mul_of_dvd_left d3)

theorem mul_sound {a b : Ab} {k v w : Int} (ha : Good a) (hb : Good b) (hv : InS a v) (hw : InS b w) : InS (mulS a b k) (wrap32 (v * w)) := by
  rw [inS_iff ha] at hv
  rw [inS_iff hb] at hw
  have a2 := ha.h2; have b2 := hb.h2
  have hh := mul_hull hv.1 hv.2.1 hw.1 hw.2.1
  have m0 := mul_like (a := a) (b := b) hv.2.2 hw.2.2
  have l1 : stepS a ∣ a.lo - a.lo := ⟨0, by omega⟩
  have l2 : stepS b ∣ b.lo - b.lo := ⟨0, by omega⟩
  have m1 := mul_like (a := a) (b := b) l1 l2
  have m2 := mul_like (a := a) (b := b) l1 hb.step_dvd
  have m3 := mul_like (a := a) (b := b) ha.step_dvd l2
  have m4 := mul_like (a := a) (b := b) ha.step_dvd hb.step_dvd
  have hz := mul_zero_case ha hb
  have gn : 0 ≤ gcdS (absS a.lo * stepS b) [absS b.lo * stepS a, stepS a * stepS b] := by simp only [gcdS]; omega
  unfold mulS
  have hle : min (a.lo * b.lo) (min (a.lo * b.hi) (min (a.hi * b.lo) (a.hi * b.hi))) ≤ max (a.lo * b.lo) (max (a.lo * b.hi) (max (a.hi * b.lo) (a.hi * b.hi))) := by omega
  generalize gcdS (absS a.lo * stepS b) [absS b.lo * stepS a, stepS a * stepS b] = g at *
  have hmin : g ∣ min (a.lo * b.lo) (min (a.lo * b.hi) (min (a.hi * b.lo) (a.hi * b.hi))) - a.lo * b.lo := by
    rcases (show min (a.lo * b.lo) (min (a.lo * b.hi) (min (a.hi * b.lo) (a.hi * b.hi))) = a.lo * b.lo ∨ min (a.lo * b.lo) (min (a.lo * b.hi) (min (a.hi * b.lo) (a.hi * b.hi))) = a.lo * b.hi ∨ min (a.lo * b.lo) (min (a.lo * b.hi) (min (a.hi * b.lo) (a.hi * b.hi))) = a.hi * b.lo ∨ min (a.lo * b.lo) (min (a.lo * b.hi) (min (a.hi * b.lo) (a.hi * b.hi))) = a.hi * b.hi by omega) with h | h | h | h <;> rw [h]
    · exact m1
    · exact m2
    · exact m3
    · exact m4
  refine bounded_in' hle ?_ hh.1 hh.2 ?_
  · rcases hz with h | h
    · exact Or.inl h
    · by_cases h0 : 0 < g
      · exact Or.inl h0
      · right
        exact ⟨by omega, h⟩
  · have : v * w - min (a.lo * b.lo) (min (a.lo * b.hi) (min (a.hi * b.lo) (a.hi * b.hi))) = (v * w - a.lo * b.lo) - (min (a.lo * b.lo) (min (a.lo * b.hi) (min (a.hi * b.lo) (a.hi * b.hi))) - a.lo * b.lo) := by omega
    rw [this]
    exact Int.dvd_sub m0 hmin

theorem mk0 : Mk 0 := ⟨by omega, by omega⟩

theorem clamp_good {lo hi k : Int} (h : lo ≤ hi) (hk : Mk k) : Good (clampS lo hi k) := by
  unfold clampS
  split
  · exact by_good (by omega) h (by omega) (by omega) hk
  · exact by_good (by omega) (by omega) (by omega) (by omega) hk
theorem clamp_in {lo hi k x : Int} (h1 : lo ≤ x) (h2 : x ≤ hi) : InS (clampS lo hi k) (wrap32 x) := by
  unfold clampS
  split
  · rw [wrap32_of x (by omega), by_in (by omega) (Or.inl (by omega))]
    exact ⟨h1, h2, ⟨x - lo, by omega⟩⟩
  · have b := wrap32_bd x
    rw [by_in (by omega) (Or.inl (by omega))]
    exact ⟨by omega, by omega, ⟨wrap32 x - -2147483648, by omega⟩⟩

theorem tdiv_mono_pos {x y c : Int} (hc : 0 < c) (h : x ≤ y) : x.tdiv c ≤ y.tdiv c := by
  have e1 := Int.mul_tdiv_add_tmod x c
  have e2 := Int.mul_tdiv_add_tmod y c
  have b1 := tmod_bd x c hc
  have b2 := tmod_bd y c hc
  by_cases hlt : y.tdiv c < x.tdiv c
  · exfalso
    have s1 : 0 ≤ x → 0 ≤ x.tmod c := fun h => Int.tmod_nonneg c h
    have s2 : x ≤ 0 → x.tmod c ≤ 0 := fun h => by
      have := Int.tmod_nonneg c (show 0 ≤ -x by omega)
      rw [Int.neg_tmod] at this; omega
    have t1 : 0 ≤ y → 0 ≤ y.tmod c := fun h => Int.tmod_nonneg c h
    have t2 : y ≤ 0 → y.tmod c ≤ 0 := fun h => by
      have := Int.tmod_nonneg c (show 0 ≤ -y by omega)
      rw [Int.neg_tmod] at this; omega
    have hm : c * (y.tdiv c + 1) ≤ c * x.tdiv c := Int.mul_le_mul_of_nonneg_left (by omega) (by omega)
    rw [Int.mul_add, Int.mul_one] at hm
    rcases Int.le_total 0 x with hx | hx
    · have := s1 hx; omega
    · rcases Int.le_total 0 y with hy | hy
      · have h3 : 0 ≤ y.tdiv c := Int.tdiv_nonneg hy (by omega)
        have h4 : x.tdiv c ≤ 0 := by
          have := Int.tdiv_nonneg (show 0 ≤ -x by omega) (show 0 ≤ c by omega)
          rw [Int.neg_tdiv] at this; omega
        omega
      · have := t2 hy; omega
  · omega

theorem tdiv_hull {p q x c : Int} (h1 : p ≤ x) (h2 : x ≤ q) : min (p.tdiv c) (q.tdiv c) ≤ x.tdiv c ∧ x.tdiv c ≤ max (p.tdiv c) (q.tdiv c) := by
  rcases Int.lt_trichotomy c 0 with h | h | h
  · have e1 := tdiv_mono_pos (c := -c) (by omega) h1
    have e2 := tdiv_mono_pos (c := -c) (by omega) h2
    rw [Int.tdiv_neg, Int.tdiv_neg] at e1 e2
    omega
  · subst h; simp
  · have e1 := tdiv_mono_pos h h1
    have e2 := tdiv_mono_pos h h2
    omega

theorem tmod_facts (v w : Int) : (0 ≤ v → 0 ≤ v.tmod w ∧ v.tmod w ≤ v) ∧ (v ≤ 0 → v ≤ v.tmod w ∧ v.tmod w ≤ 0) ∧ (w ≠ 0 → absS (v.tmod w) < absS w) ∧ w ∣ v - v.tmod w ∧ (absS v < absS w → v.tmod w = v) := by
  have hn := Int.natAbs_tmod v w
  have hle : v.natAbs % w.natAbs ≤ v.natAbs := Nat.mod_le _ _
  have p1 : 0 ≤ v → 0 ≤ v.tmod w := fun h => Int.tmod_nonneg w h
  have p2 : v ≤ 0 → v.tmod w ≤ 0 := fun h => by
    have := Int.tmod_nonneg w (show 0 ≤ -v by omega)
    rw [Int.neg_tmod] at this; omega
  refine ⟨fun h => ⟨p1 h, by have := p1 h; omega⟩, fun h => ⟨by have := p2 h; omega, p2 h⟩, fun h => ?_, ?_, fun h => ?_⟩
  · have := Nat.mod_lt v.natAbs (show 0 < w.natAbs by omega)
    unfold absS; omega
  · have := Int.mul_tdiv_add_tmod v w
    exact ⟨v.tdiv w, by omega⟩
  · have : v.natAbs < w.natAbs := by unfold absS at h; omega
    rw [Nat.mod_eq_of_lt this] at hn
    rcases Int.le_total 0 v with h1 | h1
    · have := p1 h1; omega
    · have := p2 h1; omega

theorem div_good {a b : Ab} {k : Int} (ha : Good a) (hk : Mk k) : Good (divS' a b k) := by
  have a2 := ha.h2
  unfold divS'
  split
  · exact clamp_good (by omega) hk
  · split
    · refine clamp_good ?_ hk
      unfold absS; omega
    · exact clamp_good (by omega) hk

theorem one_of {b : Ab} {w : Int} (hb : Good b) (hs : stepS b = 0) (hw : InS b w) : w = b.lo := by
  have := hb.step_zero.1 hs
  have h1 := hw.1; have h2 := hw.2.1
  omega

theorem div_sound {a b : Ab} {k v w : Int} (ha : Good a) (hb : Good b) (hv : InS a v) (hw : InS b w) : InS (divS' a b k) (if w = 0 then 0 else wrap32 (v.tdiv w)) := by
  have v1 := hv.1; have v2 := hv.2.1
  have hq : (if w = 0 then 0 else wrap32 (v.tdiv w)) = wrap32 (if w = 0 then 0 else v.tdiv w) := by
    split
    · exact (wrap32_of 0 (by omega)).symm
    · rfl
  rw [hq]
  have hbd : absS (v.tdiv w) ≤ absS v := by
    have := Int.natAbs_tdiv_le_natAbs v w
    unfold absS; omega
  unfold divS'
  split
  · rename_i h
    have e := one_of hb h.1 hw
    subst e
    rw [if_neg h.2]
    have := tdiv_hull (c := b.lo) v1 v2
    exact clamp_in this.1 this.2
  · split
    · refine clamp_in ?_ ?_
      · split <;> (unfold absS at *; omega)
      · split <;> (unfold absS at *; omega)
    · have h1 := hw.1
      refine clamp_in ?_ ?_
      · split
        · omega
        · exact Int.tdiv_nonneg (by omega) (by omega)
      · split
        · omega
        · unfold absS at hbd; omega

theorem rem_good {a b : Ab} {k : Int} (ha : Good a) (hb : Good b) (hk : Mk k) : Good (remS a b k) := by
  have a1 := ha.h1; have a2 := ha.h2; have a3 := ha.h3
  have n0 : 0 ≤ absS b.lo := by unfold absS; omega
  unfold remS
  split
  · exact by_good (by omega) (by omega) (by omega) (by omega) hk
  · rename_i hs
    have hs : stepS b = 0 := by omega
    split
    · exact ⟨ha.h1, ha.h2, ha.h3, hk.1, hk.2, ha.h6, ha.h7, ha.h8⟩
    · rename_i hx
      have h4 : absS b.lo ≠ 0 := fun h => hx (Or.inl h)
      have hf := rem_fits ha hs h4 (fun h => hx (Or.inr h))
      have gpos : 0 < gcdS (stepS a) [absS b.lo] := by
        show 0 < (Int.gcd (stepS a) (absS b.lo) : Int)
        have : Int.gcd (stepS a) (absS b.lo) ≠ 0 := fun h => h4 (Int.gcd_eq_zero_iff.1 h).2
        omega
      exact like_good gpos (by omega) hf (by omega) hk

theorem rem_sound {a b : Ab} {k v w : Int} (ha : Good a) (hb : Good b) (hv : InS a v) (hw : InS b w) : InS (remS a b k) (if w = 0 then v else v.tmod w) := by
  have v1 := hv.1; have v2 := hv.2.1
  obtain ⟨t1, t2, t3, t4, t5⟩ := tmod_facts v w
  have n0 : 0 ≤ absS b.lo := by unfold absS; omega
  unfold remS
  split
  · rw [by_in (by omega) (Or.inl (by omega))]
    refine ⟨?_, ?_, Int.one_dvd _⟩
    · split
      · omega
      · rcases Int.le_total 0 v with h | h
        · have := t1 h; omega
        · have := t2 h; omega
    · split
      · omega
      · rcases Int.le_total 0 v with h | h
        · have := t1 h; omega
        · have := t2 h; omega
  · rename_i hs
    have hs : stepS b = 0 := by omega
    have e := one_of hb hs hw
    subst e
    split
    · rename_i hx
      have : (if b.lo = 0 then v else v.tmod b.lo) = v := by
        split
        · rfl
        · rename_i hn
          rcases hx with hx | hx
          · unfold absS at hx; omega
          · exact t5 (by unfold absS at *; omega)
      rw [this]
      exact hv
    · rename_i hx
      have h4 : absS b.lo ≠ 0 := fun h => hx (Or.inl h)
      have hn : b.lo ≠ 0 := fun h => h4 (by rw [h]; rfl)
      have hf := rem_fits ha hs h4 (fun h => hx (Or.inr h))
      have gpos : 0 < gcdS (stepS a) [absS b.lo] := by
        show 0 < (Int.gcd (stepS a) (absS b.lo) : Int)
        have : Int.gcd (stepS a) (absS b.lo) ≠ 0 := fun h => h4 (Int.gcd_eq_zero_iff.1 h).2
        omega
      rw [if_neg hn, like_in gpos hf]
      obtain ⟨d1, d2⟩ := gcdS_dvd2 (stepS a) (absS b.lo)
      have hv3 := ((inS_iff ha v).1 hv).2.2
      have h3 := t3 hn
      have habs : absS b.lo ∣ v - v.tmod b.lo := by
        unfold absS
        rcases Int.le_total 0 b.lo with h | h
        · rw [Int.max_eq_left (by omega)]; exact t4
        · rw [Int.max_eq_right (by omega), Int.neg_dvd]; exact t4
      refine ⟨?_, ?_, ?_⟩
      · rcases Int.le_total 0 v with h | h
        · have := t1 h; unfold absS at *; omega
        · have := t2 h; unfold absS at *; omega
      · rcases Int.le_total 0 v with h | h
        · have := t1 h; unfold absS at *; omega
        · have := t2 h; unfold absS at *; omega
      · rw [show v.tmod b.lo - a.lo = (v - a.lo) - (v - v.tmod b.lo) by omega]
        exact Int.dvd_sub (Int.dvd_trans d1 hv3) (Int.dvd_trans d2 habs)

theorem ends_good (f : Int → Int → Int) {a b : Ab} {k : Int} (ha : Good a) (hb : Good b) (hk : Mk k) (h1 : f a.lo b.lo = a.lo ∨ f a.lo b.lo = b.lo) (h2 : f a.hi b.hi = a.hi ∨ f a.hi b.hi = b.hi) (h3 : f a.lo b.lo ≤ f a.hi b.hi) :
    Good (byS (f a.lo b.lo) (f a.hi b.hi) (joinG (stepS a) (stepS b) (a.lo - b.lo)) k) := by
  have := ha.h1; have := ha.h2; have := ha.h3; have := hb.h1; have := hb.h2; have := hb.h3
  exact by_good (by omega) h3 (by omega) (joinG_nonneg _ _ _) hk

theorem ends_sound (f : Int → Int → Int) {a b : Ab} {k v w : Int} (ha : Good a) (hb : Good b) (hv : InS a v) (hw : InS b w) (hf : ∀ x y, f x y = x ∨ f x y = y) (h3 : f a.lo b.lo ≤ f a.hi b.hi) (h4 : f a.lo b.lo ≤ f v w) (h5 : f v w ≤ f a.hi b.hi) :
    InS (byS (f a.lo b.lo) (f a.hi b.hi) (joinG (stepS a) (stepS b) (a.lo - b.lo)) k) (f v w) := by
  obtain ⟨d1, d2, d3⟩ := joinG_dvds (stepS a) (stepS b) (a.lo - b.lo)
  have z := join_zero ha hb
  have hv3 := Int.dvd_trans d1 ((inS_iff ha v).1 hv).2.2
  have hw3 := Int.dvd_trans d2 ((inS_iff hb w).1 hw).2.2
  have g0 := joinG_nonneg (stepS a) (stepS b) (a.lo - b.lo)
  generalize joinG (stepS a) (stepS b) (a.lo - b.lo) = g at *
  rw [by_in h3 ?_]
  · refine ⟨h4, h5, ?_⟩
    rcases hf a.lo b.lo with e1 | e1 <;> rcases hf v w with e2 | e2 <;> rw [e1, e2]
    · exact hv3
    · rw [show w - a.lo = (w - b.lo) - (a.lo - b.lo) by omega]; exact Int.dvd_sub hw3 d3
    · rw [show v - b.lo = (v - a.lo) + (a.lo - b.lo) by omega]; exact Int.dvd_add hv3 d3
    · exact hw3
  · rcases z with z | z
    · exact Or.inl z
    · by_cases h0 : 0 < g
      · exact Or.inl h0
      · right
        refine ⟨by omega, ?_⟩
        rw [z.1, z.2.1]

/-- What span.Op gives. -/
def opS (op : Int) (a b : Ab) : Ab :=
  if stepS a = 0 ∧ stepS b = 0 then byS (opV op a.lo b.lo) (opV op a.lo b.lo) 0 (orS a.k b.k)
  else if op = 4 then addS a b (orS a.k b.k) else if op = 5 then subS a b (orS a.k b.k) else if op = 6 then mulS a b (orS a.k b.k) else if op = 7 then divS' a b (orS a.k b.k)
  else if op = 8 then remS a b (orS a.k b.k) else if op = 9 then lesserS a b (orS a.k b.k) else greaterS a b (orS a.k b.k)

theorem op_good {op : Int} {a b : Ab} (h1 : 4 ≤ op) (h2 : op ≤ 10) (ha : Good a) (hb : Good b) : Good (opS op a b) := by
  have hk := orS_mk ha.mk' hb.mk'
  have a2 := ha.h2; have b2 := hb.h2
  unfold opS
  split
  · have := opV_bd op a.lo b.lo
    exact by_good (by omega) (by omega) (by omega) (by omega) hk
  split
  · exact bounded_good (by omega) (by simp only [gcdS]; omega) hk
  split
  · exact bounded_good (by omega) (by simp only [gcdS]; omega) hk
  split
  · exact bounded_good (by omega) (by simp only [gcdS]; omega) hk
  split
  · exact div_good ha hk
  split
  · exact rem_good ha hb hk
  split
  · exact ends_good min ha hb hk (by omega) (by omega) (by omega)
  · exact ends_good max ha hb hk (by omega) (by omega) (by omega)

theorem op_sound {op : Int} {a b : Ab} {v w : Int} (h1 : 4 ≤ op) (h2 : op ≤ 10) (ha : Good a) (hb : Good b) (hv : InS a v) (hw : InS b w) : InS (opS op a b) (opV op v w) := by
  have a1 := ha.h1; have a2 := ha.h2; have a3 := ha.h3; have b1 := hb.h1; have b2 := hb.h2; have b3 := hb.h3
  have v1 := hv.1; have v2 := hv.2.1; have w1 := hw.1; have w2 := hw.2.1
  have ev : wrap32 v = v := wrap32_of v (by omega)
  have ew : wrap32 w = w := wrap32_of w (by omega)
  unfold opS
  split
  · rename_i h
    have e1 := one_of ha h.1 hv
    have e2 := one_of hb h.2 hw
    subst e1 e2
    rw [by_in (by omega) (Or.inr ⟨rfl, rfl⟩)]
    exact ⟨by omega, by omega, ⟨0, by omega⟩⟩
  unfold opV
  rw [ev, ew]
  split
  · rename_i h; subst h; exact add_sound ha hb hv hw
  split
  · rename_i h; subst h; exact sub_sound ha hb hv hw
  split
  · rename_i h; subst h; exact mul_sound ha hb hv hw
  split
  · rename_i h; subst h; exact div_sound ha hb hv hw
  split
  · rename_i h; subst h
    have : (if w = 0 then v else wrap32 (v.tmod w)) = if w = 0 then v else v.tmod w := by
      split
      · rfl
      · obtain ⟨t1, t2, -⟩ := tmod_facts v w
        refine wrap32_of _ ?_
        rcases Int.le_total 0 v with h | h
        · have := t1 h; omega
        · have := t2 h; omega
    rw [this]
    exact rem_sound ha hb hv hw
  split
  · exact ends_sound min ha hb hv hw (fun x y => by omega) (by omega) (by omega) (by omega)
  · rename_i h4 h5 h6 h7 h8 h9
    rw [if_pos (by omega)]
    exact ends_sound max ha hb hv hw (fun x y => by omega) (by omega) (by omega) (by omega)

end Go.Proofs.Ytlokjiniigfaiaa
