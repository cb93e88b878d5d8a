/- The order of sets, in plain arithmetic: no program. -/
import Derived.Test.YtlokjiniigfaiaaSpOpAll
set_option linter.unusedVariables false
set_option linter.unusedSimpArgs false
namespace Go.Proofs.Ytlokjiniigfaiaa
open Go.ChangeShapes Go.WideShapes Go.ChangeAt Go.RowKit

/-! ### Masks -/
theorem notS_iff {a b : Int} : notS a b = 0 ↔ Sub a b := by
  constructor
  · intro h
    have h' : IntKind.i64.wrap ((BitVec.ofInt 64 a &&& ~~~ BitVec.ofInt 64 b).toNat : Int) = 0 := h
    have h2 := congrArg (BitVec.ofInt 64) h'
    rw [ofInt_wrap, ofInt_toNat] at h2
    exact h2
  · exact sub_not
theorem ofInt_mk {a : Int} (h : Mk a) : ((BitVec.ofInt 64 a).toNat : Int) = a := by
  obtain ⟨n, hn, rfl⟩ := h.nat
  rw [ofInt_nat n hn]
theorem sub_or_iff {a b : Int} (ha : Mk a) (hb : Mk b) : orS a b = b ↔ Sub a b := by
  constructor
  · intro h
    have h2 := congrArg (BitVec.ofInt 64) h
    rw [or_bv] at h2
    unfold Sub
    ext i hi
    have h3 := congrArg (fun z : BitVec 64 => z[i]) h2
    simp at h3 ⊢
    exact h3
  · intro h
    have h2 : BitVec.ofInt 64 (orS a b) = BitVec.ofInt 64 b := by
      rw [or_bv]
      ext i hi
      have h3 := congrArg (fun z : BitVec 64 => z[i]) h
      simp at h3 ⊢
      exact h3
    rw [← ofInt_mk (orS_mk ha hb), h2, ofInt_mk hb]

/-- What it is that one set is in another one. -/
theorem leq_iff {a b : Ab} (ha : Good a) (hb : Good b) : joinS a b = b ↔ b.lo ≤ a.lo ∧ a.hi ≤ b.hi ∧ stepS b ∣ stepS a ∧ stepS b ∣ a.lo - b.lo ∧ Sub a.k b.k := by
  obtain ⟨g, l, h, s, k⟩ := join_parts ha hb
  have hs0 := hb.step0
  constructor
  · intro e
    rw [e] at l h s k
    obtain ⟨d1, d2, d3⟩ := joinG_dvds (stepS a) (stepS b) (a.lo - b.lo)
    rw [← s] at d1 d2 d3
    exact ⟨by omega, by omega, d1, d3, (sub_or_iff ha.mk' hb.mk').1 k.symm⟩
  · rintro ⟨h1, h2, h3, h4, h5⟩
    refine Good.ext g hb (by omega) (by omega) ?_ (by rw [k]; exact (sub_or_iff ha.mk' hb.mk').2 h5)
    rw [s]
    refine eq_of_dvd (joinG_nonneg _ _ _) hs0.1 fun n => ?_
    rw [dvd_joinG]
    exact ⟨fun h => h.2.1, fun h => ⟨Int.dvd_trans h h3, h, Int.dvd_trans h h4⟩⟩

theorem lo_in {a : Ab} (h : Good a) : InS a a.lo := (inS_iff h _).2 ⟨Int.le_refl _, h.h2, ⟨0, by omega⟩⟩
theorem hi_in {a : Ab} (h : Good a) : InS a a.hi := (inS_iff h _).2 ⟨h.h2, Int.le_refl _, h.step_dvd⟩

/-- The set's second value; its only one, if it has no other. -/
def secS (a : Ab) : Int := a.lo + stepS a
theorem sec_in {a : Ab} (h : Good a) : InS a (secS a) := by
  have h6 := h.h6
  rw [inS_iff h]
  unfold secS
  refine ⟨by have := h.step0; omega, ?_, ⟨1, by omega⟩⟩
  unfold stepS
  split
  · omega
  · have := (h.h8 ‹_›).1; omega

theorem leq_three {a b : Ab} (ha : Good a) (hb : Good b) (h1 : InS b a.lo) (h2 : InS b (secS a)) (h3 : InS b a.hi) (hk : Sub a.k b.k) : joinS a b = b := by
  rw [inS_iff hb] at h1 h2 h3
  rw [leq_iff ha hb]
  refine ⟨h1.1, h3.2.1, ?_, h1.2.2, hk⟩
  have : stepS a = (secS a - b.lo) - (a.lo - b.lo) := by unfold secS; omega
  rw [this]
  exact Int.dvd_sub h2.2.2 h1.2.2

theorem leq_incl {a b : Ab} (ha : Good a) (hb : Good b) (h : ∀ v, InS a v → InS b v) (hk : Sub a.k b.k) : joinS a b = b :=
  leq_three ha hb (h _ (lo_in ha)) (h _ (sec_in ha)) (h _ (hi_in ha)) hk

theorem leq_in {a b : Ab} (ha : Good a) (hb : Good b) (h : joinS a b = b) {v : Int} (hv : InS a v) : InS b v := by
  rw [leq_iff ha hb] at h
  rw [inS_iff ha] at hv
  rw [inS_iff hb]
  refine ⟨by omega, by omega, ?_⟩
  rw [show v - b.lo = (v - a.lo) + (a.lo - b.lo) by omega]
  exact Int.dvd_add (Int.dvd_trans h.2.2.1 hv.2.2) h.2.2.2.1

theorem leq_anti {a b : Ab} (ha : Good a) (hb : Good b) (h : joinS a b = b) (k : joinS b a = a) : a = b := by
  rw [join_comm hb ha, h] at k
  exact k.symm

/-! ### The operators keep the order -/
theorem by_mono {lo hi m k lo' hi' m' k' v : Int} (h : lo ≤ hi) (h' : lo' ≤ hi') (hm : 0 < m ∨ m = 0 ∧ lo = hi) (hm' : 0 < m' ∨ m' = 0 ∧ lo' = hi') (h1 : lo' ≤ lo) (h2 : hi ≤ hi') (d1 : m' ∣ m) (d2 : m' ∣ lo - lo')
    (hv : InS (byS lo hi m k) v) : InS (byS lo' hi' m' k') v := by
  rw [by_in h hm] at hv
  rw [by_in h' hm']
  refine ⟨by omega, by omega, ?_⟩
  rw [show v - lo' = (v - lo) + (lo - lo') by omega]
  exact Int.dvd_add (Int.dvd_trans d1 hv.2.2) d2

theorem bounded_mono {lo hi m k lo' hi' m' k' v : Int} (h : lo ≤ hi) (h' : lo' ≤ hi') (hm : 0 < m ∨ m = 0 ∧ lo = hi) (hm' : 0 < m' ∨ m' = 0 ∧ lo' = hi') (h1 : lo' ≤ lo) (h2 : hi ≤ hi') (d1 : m' ∣ m) (d2 : m' ∣ lo - lo')
    (hv : InS (boundedS lo hi m k) v) : InS (boundedS lo' hi' m' k') v := by
  obtain ⟨g1, g2, g3, g4⟩ := g32 m
  obtain ⟨e1, e2, e3, e4⟩ := g32 m'
  have hf : ∀ (g l : Int), 0 < g → g ≤ 4294967296 → -2147483648 + (l - -2147483648) % g ≤ 2147483647 := by
    intro g l q1 q2
    have := Int.emod_lt_of_pos (l - -2147483648) q1
    omega
  unfold boundedS at *
  by_cases c' : -2147483648 ≤ lo' ∧ lo' ≤ 2147483647 ∧ -2147483648 ≤ hi' ∧ hi' ≤ 2147483647
  · have c : -2147483648 ≤ lo ∧ lo ≤ 2147483647 ∧ -2147483648 ≤ hi ∧ hi ≤ 2147483647 := by omega
    rw [if_pos c] at hv
    rw [if_pos c']
    exact by_mono h h' hm hm' h1 h2 d1 d2 hv
  · rw [if_neg c', like_in e1 (hf _ _ e1 e2)]
    by_cases c : -2147483648 ≤ lo ∧ lo ≤ 2147483647 ∧ -2147483648 ≤ hi ∧ hi ≤ 2147483647
    · rw [if_pos c, by_in h hm] at hv
      refine ⟨by omega, by omega, ?_⟩
      rw [show v - lo' = (v - lo) + (lo - lo') by omega]
      exact Int.dvd_add (Int.dvd_trans e4 (Int.dvd_trans d1 hv.2.2)) (Int.dvd_trans e4 d2)
    · rw [if_neg c, like_in g1 (hf _ _ g1 g2)] at hv
      refine ⟨by omega, by omega, ?_⟩
      have hg : (Int.gcd 4294967296 m' : Int) ∣ (Int.gcd 4294967296 m : Int) := Int.dvd_coe_gcd e3 (Int.dvd_trans e4 d1)
      rw [show v - lo' = (v - lo) + (lo - lo') by omega]
      exact Int.dvd_add (Int.dvd_trans hg hv.2.2) (Int.dvd_trans e4 d2)

theorem sub_or_left {a b c : Int} (h : Sub a b) : Sub (orS a c) (orS b c) := sub_or h (sub_self c)

/-- The parts of 'a is in b'. -/
structure Le (a b : Ab) : Prop where
  l : b.lo ≤ a.lo
  h : a.hi ≤ b.hi
  s : stepS b ∣ stepS a
  d : stepS b ∣ a.lo - b.lo
  k : Sub a.k b.k
theorem le_of {a b : Ab} (ha : Good a) (hb : Good b) (h : joinS a b = b) : Le a b := by
  obtain ⟨h1, h2, h3, h4, h5⟩ := (leq_iff ha hb).1 h
  exact ⟨h1, h2, h3, h4, h5⟩
theorem Le.hd {a b : Ab} (ha : Good a) (h : Le a b) : stepS b ∣ a.hi - b.lo := by
  rw [show a.hi - b.lo = (a.hi - a.lo) + (a.lo - b.lo) by omega]
  exact Int.dvd_add (Int.dvd_trans h.s ha.step_dvd) h.d
theorem gcdS_dvd {n x y : Int} (h1 : n ∣ x) (h2 : n ∣ y) : n ∣ gcdS x [y] := Int.dvd_coe_gcd h1 h2
theorem gcdS_dvd3' {n x y z : Int} (h1 : n ∣ x) (h2 : n ∣ y) (h3 : n ∣ z) : n ∣ gcdS x [y, z] := Int.dvd_coe_gcd (Int.dvd_coe_gcd h1 h2) h3
theorem g2_case {a c : Ab} (ha : Good a) (hc : Good c) {lo hi : Int} (h : a.lo = a.hi → c.lo = c.hi → lo = hi) : 0 < gcdS (stepS a) [stepS c] ∨ gcdS (stepS a) [stepS c] = 0 ∧ lo = hi := by
  rcases gcdS2_case ha hc with q | ⟨q, q1, q2⟩
  · exact Or.inl q
  · exact Or.inr ⟨q, h q1 q2⟩

theorem add_mono {a b c : Ab} {k k' v : Int} (ha : Good a) (hb : Good b) (hc : Good c) (h : Le a b) (hv : InS (addS a c k) v) : InS (addS b c k') v := by
  have a2 := ha.h2; have b2 := hb.h2; have c2 := hc.h2
  have hl := h.l; have hh := h.h
  obtain ⟨d1, d2⟩ := gcdS_dvd2 (stepS b) (stepS c)
  refine bounded_mono (by omega) (by omega) (g2_case ha hc (by omega)) (g2_case hb hc (by omega)) (by omega) (by omega) (gcdS_dvd (Int.dvd_trans d1 h.s) d2) ?_ hv
  rw [show a.lo + c.lo - (b.lo + c.lo) = a.lo - b.lo by omega]
  exact Int.dvd_trans d1 h.d
theorem sub_mono {a b c : Ab} {k k' v : Int} (ha : Good a) (hb : Good b) (hc : Good c) (h : Le a b) (hv : InS (subS a c k) v) : InS (subS b c k') v := by
  have a2 := ha.h2; have b2 := hb.h2; have c2 := hc.h2
  have hl := h.l; have hh := h.h
  obtain ⟨d1, d2⟩ := gcdS_dvd2 (stepS b) (stepS c)
  refine bounded_mono (by omega) (by omega) (g2_case ha hc (by omega)) (g2_case hb hc (by omega)) (by omega) (by omega) (gcdS_dvd (Int.dvd_trans d1 h.s) d2) ?_ hv
  rw [show a.lo - c.hi - (b.lo - c.hi) = a.lo - b.lo by omega]
  exact Int.dvd_trans d1 h.d

theorem abs_dvd_mul {n x y : Int} (h : n ∣ absS x * y) : n ∣ x * y := by
  unfold absS at h
  rcases Int.le_total 0 x with h1 | h1
  · rw [Int.max_eq_left (by omega)] at h; exact h
  · rw [Int.max_eq_right (by omega), Int.neg_mul, Int.dvd_neg] at h; exact h
theorem dvd_abs_mul {n x y : Int} (h : n ∣ x * y) : n ∣ absS x * y := by
  unfold absS
  rcases Int.le_total 0 x with h1 | h1
  · rw [Int.max_eq_left (by omega)]; exact h
  · rw [Int.max_eq_right (by omega), Int.neg_mul, Int.dvd_neg]; exact h

theorem mul_case {a b : Ab} (ha : Good a) (hb : Good b) : 0 < gcdS (absS a.lo * stepS b) [absS b.lo * stepS a, stepS a * stepS b] ∨ gcdS (absS a.lo * stepS b) [absS b.lo * stepS a, stepS a * stepS b] = 0 ∧
    min (a.lo * b.lo) (min (a.lo * b.hi) (min (a.hi * b.lo) (a.hi * b.hi))) = max (a.lo * b.lo) (max (a.lo * b.hi) (max (a.hi * b.lo) (a.hi * b.hi))) := by
  have gn : 0 ≤ gcdS (absS a.lo * stepS b) [absS b.lo * stepS a, stepS a * stepS b] := by simp only [gcdS]; omega
  rcases mul_zero_case ha hb with h | h
  · exact Or.inl h
  · by_cases h0 : 0 < gcdS (absS a.lo * stepS b) [absS b.lo * stepS a, stepS a * stepS b]
    · exact Or.inl h0
    · exact Or.inr ⟨by omega, h⟩

theorem mul_mono {a b c : Ab} {k k' v : Int} (ha : Good a) (hb : Good b) (hc : Good c) (h : Le a b) (hv : InS (mulS a c k) v) : InS (mulS b c k') v := by
  have a2 := ha.h2; have b2 := hb.h2; have c2 := hc.h2
  have hl := h.l; have hh := h.h
  have l2 : stepS c ∣ c.lo - c.lo := ⟨0, by omega⟩
  have m1 := mul_like (a := b) (b := c) h.d l2
  have m2 := mul_like (a := b) (b := c) h.d hc.step_dvd
  have m3 := mul_like (a := b) (b := c) (h.hd ha) l2
  have m4 := mul_like (a := b) (b := c) (h.hd ha) hc.step_dvd
  have n1 := mul_like (a := b) (b := c) (v := b.lo) (w := c.lo) ⟨0, by omega⟩ l2
  have n2 := mul_like (a := b) (b := c) (v := b.lo) ⟨0, by omega⟩ hc.step_dvd
  have n3 := mul_like (a := b) (b := c) hb.step_dvd l2
  have n4 := mul_like (a := b) (b := c) hb.step_dvd hc.step_dvd
  have u1 := mul_hull (x := a.lo) (y := c.lo) hl (by omega : a.lo ≤ b.hi) (Int.le_refl c.lo) c2
  have u2 := mul_hull (x := a.lo) (y := c.hi) hl (by omega : a.lo ≤ b.hi) c2 (Int.le_refl c.hi)
  have u3 := mul_hull (x := a.hi) (y := c.lo) (by omega : b.lo ≤ a.hi) hh (Int.le_refl c.lo) c2
  have u4 := mul_hull (x := a.hi) (y := c.hi) (by omega : b.lo ≤ a.hi) hh c2 (Int.le_refl c.hi)
  obtain ⟨d1, d2, d3⟩ := gcdS_dvd3 (absS b.lo * stepS c) (absS c.lo * stepS b) (stepS b * stepS c)
  have hg : gcdS (absS b.lo * stepS c) [absS c.lo * stepS b, stepS b * stepS c] ∣ gcdS (absS a.lo * stepS c) [absS c.lo * stepS a, stepS a * stepS c] := by
    obtain ⟨t, ht⟩ := h.s
    obtain ⟨r, hr⟩ := h.d
    refine gcdS_dvd3' (dvd_abs_mul ?_) ?_ ?_
    · have : a.lo * stepS c = b.lo * stepS c + (stepS b * stepS c) * r := by
        rw [show a.lo = b.lo + stepS b * r by omega, Int.add_mul, Int.mul_assoc, Int.mul_comm r, ← Int.mul_assoc]
      rw [this]
      exact Int.dvd_add (abs_dvd_mul d1) (Int.dvd_mul_of_dvd_left d3)
    · rw [ht, ← Int.mul_assoc]; exact Int.dvd_mul_of_dvd_left d2
    · rw [ht, Int.mul_assoc, Int.mul_comm t, ← Int.mul_assoc]; exact Int.dvd_mul_of_dvd_left d3
  have ca := mul_case ha hc
  have cb := mul_case hb hc
  unfold mulS at *
  generalize gcdS (absS b.lo * stepS c) [absS c.lo * stepS b, stepS b * stepS c] = g' at *
  generalize gcdS (absS a.lo * stepS c) [absS c.lo * stepS a, stepS a * stepS c] = g at *
  generalize b.lo * c.lo = B1 at *
  generalize b.lo * c.hi = B2 at *
  generalize b.hi * c.lo = B3 at *
  generalize b.hi * c.hi = B4 at *
  generalize a.lo * c.lo = A1 at *
  generalize a.lo * c.hi = A2 at *
  generalize a.hi * c.lo = A3 at *
  generalize a.hi * c.hi = A4 at *
  have pick : ∀ (X : Int), (g' ∣ A1 - X) → (g' ∣ A2 - X) → (g' ∣ A3 - X) → (g' ∣ A4 - X) → g' ∣ min A1 (min A2 (min A3 A4)) - X := by
    intro X p1 p2 p3 p4
    rcases (show min A1 (min A2 (min A3 A4)) = A1 ∨ min A1 (min A2 (min A3 A4)) = A2 ∨ min A1 (min A2 (min A3 A4)) = A3 ∨ min A1 (min A2 (min A3 A4)) = A4 by omega) with q | q | q | q <;> rw [q]
    · exact p1
    · exact p2
    · exact p3
    · exact p4
  have pA := pick B1 m1 m2 m3 m4
  have pB : g' ∣ min B1 (min B2 (min B3 B4)) - B1 := by
    rcases (show min B1 (min B2 (min B3 B4)) = B1 ∨ min B1 (min B2 (min B3 B4)) = B2 ∨ min B1 (min B2 (min B3 B4)) = B3 ∨ min B1 (min B2 (min B3 B4)) = B4 by omega) with q | q | q | q <;> rw [q]
    · exact n1
    · exact n2
    · exact n3
    · exact n4
  refine bounded_mono (by omega) (by omega) ca cb (by omega) (by omega) hg ?_ hv
  rw [show min A1 (min A2 (min A3 A4)) - min B1 (min B2 (min B3 B4)) = (min A1 (min A2 (min A3 A4)) - B1) - (min B1 (min B2 (min B3 B4)) - B1) by omega]
  exact Int.dvd_sub pA pB

theorem joinG_dvd {n x y d : Int} (h1 : n ∣ x) (h2 : n ∣ y) (h3 : n ∣ d) : n ∣ joinG x y d := by
  refine gcdS_dvd3' h1 h2 ?_
  unfold absS
  rcases Int.le_total 0 d with h | h
  · rw [Int.max_eq_left (by omega)]; exact h3
  · rw [Int.max_eq_right (by omega), Int.dvd_neg]; exact h3
theorem joinG_case {a b : Ab} (ha : Good a) (hb : Good b) (f : Int → Int → Int) : 0 < joinG (stepS a) (stepS b) (a.lo - b.lo) ∨ joinG (stepS a) (stepS b) (a.lo - b.lo) = 0 ∧ f a.lo b.lo = f a.hi b.hi := by
  have := joinG_nonneg (stepS a) (stepS b) (a.lo - b.lo)
  rcases join_zero ha hb with h | ⟨h1, h2, h3⟩
  · exact Or.inl h
  · by_cases h0 : 0 < joinG (stepS a) (stepS b) (a.lo - b.lo)
    · exact Or.inl h0
    · exact Or.inr ⟨by omega, by rw [h1, h2]⟩

theorem min_mono {a b c : Ab} {k k' v : Int} (ha : Good a) (hb : Good b) (hc : Good c) (h : Le a b) (hv : InS (lesserS a c k) v) : InS (lesserS b c k') v := by
  have a2 := ha.h2; have b2 := hb.h2; have c2 := hc.h2
  have hl := h.l; have hh := h.h
  obtain ⟨d1, d2, d3⟩ := joinG_dvds (stepS b) (stepS c) (b.lo - c.lo)
  have ca := joinG_case ha hc min
  have cb := joinG_case hb hc min
  have hg : joinG (stepS b) (stepS c) (b.lo - c.lo) ∣ joinG (stepS a) (stepS c) (a.lo - c.lo) := by
    refine joinG_dvd (Int.dvd_trans d1 h.s) d2 ?_
    rw [show a.lo - c.lo = (a.lo - b.lo) + (b.lo - c.lo) by omega]
    exact Int.dvd_add (Int.dvd_trans d1 h.d) d3
  have e1 := Int.dvd_trans d1 h.d
  unfold lesserS at *
  generalize joinG (stepS b) (stepS c) (b.lo - c.lo) = g' at *
  generalize joinG (stepS a) (stepS c) (a.lo - c.lo) = g at *
  refine by_mono (by omega) (by omega) ca cb (by omega) (by omega) hg ?_ hv
  rcases Int.le_total a.lo c.lo with h1 | h1 <;> rcases Int.le_total b.lo c.lo with h2 | h2
  · rw [Int.min_eq_left h1, Int.min_eq_left h2]; exact e1
  · rw [Int.min_eq_left h1, Int.min_eq_right h2, show a.lo - c.lo = (a.lo - b.lo) + (b.lo - c.lo) by omega]; exact Int.dvd_add e1 d3
  · rw [Int.min_eq_right h1, Int.min_eq_left h2, show c.lo - b.lo = -(b.lo - c.lo) by omega, Int.dvd_neg]; exact d3
  · rw [Int.min_eq_right h1, Int.min_eq_right h2]; exact ⟨0, by omega⟩

theorem max_mono {a b c : Ab} {k k' v : Int} (ha : Good a) (hb : Good b) (hc : Good c) (h : Le a b) (hv : InS (greaterS c a k) v) : InS (greaterS c b k') v := by
  have a2 := ha.h2; have b2 := hb.h2; have c2 := hc.h2
  have hl := h.l; have hh := h.h
  obtain ⟨d1, d2, d3⟩ := joinG_dvds (stepS c) (stepS b) (c.lo - b.lo)
  have ca := joinG_case hc ha max
  have cb := joinG_case hc hb max
  have hg : joinG (stepS c) (stepS b) (c.lo - b.lo) ∣ joinG (stepS c) (stepS a) (c.lo - a.lo) := by
    refine joinG_dvd d1 (Int.dvd_trans d2 h.s) ?_
    rw [show c.lo - a.lo = (c.lo - b.lo) - (a.lo - b.lo) by omega]
    exact Int.dvd_sub d3 (Int.dvd_trans d2 h.d)
  have e1 := Int.dvd_trans d2 h.d
  unfold greaterS at *
  generalize joinG (stepS c) (stepS b) (c.lo - b.lo) = g' at *
  generalize joinG (stepS c) (stepS a) (c.lo - a.lo) = g at *
  refine by_mono (by omega) (by omega) ca cb (by omega) (by omega) hg ?_ hv
  rcases Int.le_total a.lo c.lo with h1 | h1 <;> rcases Int.le_total b.lo c.lo with h2 | h2
  · rw [Int.max_eq_left h1, Int.max_eq_left h2]; exact ⟨0, by omega⟩
  · rw [Int.max_eq_left h1, Int.max_eq_right h2]; exact d3
  · rw [Int.max_eq_right h1, Int.max_eq_left h2, show a.lo - c.lo = (a.lo - b.lo) - (c.lo - b.lo) by omega]; exact Int.dvd_sub e1 d3
  · rw [Int.max_eq_right h1, Int.max_eq_right h2]; exact e1

theorem op_mono {op : Int} {a b c : Ab} (ho : op = 4 ∨ op = 5 ∨ op = 6 ∨ op = 9) (ha : Good a) (hb : Good b) (hc : Good c) (h : joinS a b = b) : joinS (opS op a c) (opS op b c) = opS op b c := by
  have hle := le_of ha hb h
  refine leq_incl (op_good (by omega) (by omega) ha hc) (op_good (by omega) (by omega) hb hc) (fun v hv => ?_) (by rw [op_k, op_k]; exact sub_or_left hle.k)
  by_cases hs : stepS a = 0 ∧ stepS c = 0
  · have e : opS op a c = byS (opV op a.lo c.lo) (opV op a.lo c.lo) 0 (orS a.k c.k) := by unfold opS; rw [if_pos hs]
    rw [e, by_in (Int.le_refl _) (Or.inr ⟨rfl, rfl⟩)] at hv
    obtain rfl : v = opV op a.lo c.lo := by omega
    exact op_sound (by omega) (by omega) hb hc (leq_in ha hb h (lo_in ha)) (lo_in hc)
  · have hs' : ¬ (stepS b = 0 ∧ stepS c = 0) := fun q => hs ⟨by have := hle.s; rw [q.1] at this; exact Int.zero_dvd.1 this, q.2⟩
    unfold opS at *
    rw [if_neg hs] at hv
    rw [if_neg hs']
    rcases ho with rfl | rfl | rfl | rfl
    · exact add_mono ha hb hc hle hv
    · exact sub_mono ha hb hc hle hv
    · exact mul_mono ha hb hc hle hv
    · exact min_mono ha hb hc hle hv

theorem op10_mono {a b c : Ab} (ha : Good a) (hb : Good b) (hc : Good c) (h : joinS a b = b) : joinS (opS 10 c a) (opS 10 c b) = opS 10 c b := by
  have hle := le_of ha hb h
  refine leq_incl (op_good (by omega) (by omega) hc ha) (op_good (by omega) (by omega) hc hb) (fun v hv => ?_) (by rw [op_k, op_k]; exact sub_or (sub_self _) hle.k)
  by_cases hs : stepS c = 0 ∧ stepS a = 0
  · have e : opS 10 c a = byS (opV 10 c.lo a.lo) (opV 10 c.lo a.lo) 0 (orS c.k a.k) := by unfold opS; rw [if_pos hs]
    rw [e, by_in (Int.le_refl _) (Or.inr ⟨rfl, rfl⟩)] at hv
    obtain rfl : v = opV 10 c.lo a.lo := by omega
    exact op_sound (by omega) (by omega) hc hb (lo_in hc) (leq_in ha hb h (lo_in ha))
  · have hs' : ¬ (stepS c = 0 ∧ stepS b = 0) := fun q => hs ⟨q.1, by have := hle.s; rw [q.2] at this; exact Int.zero_dvd.1 this⟩
    unfold opS at *
    rw [if_neg hs] at hv
    rw [if_neg hs']
    exact max_mono ha hb hc hle hv

/-- The words by which the law tests it. -/
theorem at_zero {a : Ab} (ha : Good a) : atS a 0 = a.lo := by
  have a6 := ha.h6
  obtain ⟨P1, P2, P3, P4, P5⟩ := at_fits (n := 0) ha.h2 (show 0 < a.m by omega)
  unfold atS
  rw [Int.zero_emod]; omega
theorem at_one {a : Ab} (ha : Good a) : atS a 1 = secS a := by
  have a6 := ha.h6
  have a2 := ha.h2
  unfold atS secS stepS
  rw [Int.tdiv_eq_ediv_of_nonneg (show 0 ≤ a.hi - a.lo by omega)]
  by_cases he : a.lo = a.hi
  · rw [if_pos he, show a.hi - a.lo = 0 by omega, Int.zero_ediv]
    simp
  · rw [if_neg he]
    have h8 := ha.h8 he
    have : 1 ≤ (a.hi - a.lo) / a.m := (Int.le_ediv_iff_mul_le (by omega)).2 (by omega)
    rw [Int.emod_eq_of_lt (by omega) (by omega)]
    omega
theorem at_last {a : Ab} (ha : Good a) : atS a (-1) = a.hi := by
  have a6 := ha.h6
  have a2 := ha.h2
  unfold atS
  rw [Int.tdiv_eq_ediv_of_nonneg (show 0 ≤ a.hi - a.lo by omega)]
  have q0 : 0 ≤ (a.hi - a.lo) / a.m := Int.ediv_nonneg (by omega) (by omega)
  have e := Int.mul_ediv_add_emod (a.hi - a.lo) a.m
  have hz : (a.hi - a.lo) % a.m = 0 := by
    by_cases he : a.lo = a.hi
    · rw [show a.hi - a.lo = 0 by omega]; simp
    · exact (ha.h8 he).2.1
  generalize (a.hi - a.lo) / a.m = q at *
  have : (-1 : Int) % (q + 1) = q := by
    rw [show (-1 : Int) = q + (q + 1) * (-1) by omega, Int.add_mul_emod_self_left]
    exact Int.emod_eq_of_lt q0 (by omega)
  rw [this, Int.mul_comm]
  omega
theorem and255 {k : Int} (hk : Mk k) : andS 255 k = k := by
  obtain ⟨n, hn, rfl⟩ := hk.nat
  show IntKind.i64.wrap ((BitVec.ofInt 64 255 &&& BitVec.ofInt 64 (n : Int)).toNat : Int) = _
  rw [BitVec.toNat_and, ofInt_nat n hn, show (BitVec.ofInt 64 255).toNat = 2 ^ 8 - 1 from by decide, Nat.and_comm, Nat.and_two_pow_sub_one_eq_mod, Nat.mod_eq_of_lt (by omega)]
  exact IntWalk.i64_in _ (by omega)

theorem order_tests {a b : Ab} (ha : Good a) (hb : Good b) : leqS a b = (((decide (InS b a.lo ∧ notS a.k b.k = 0) && decide (InS b (secS a) ∧ notS a.k b.k = 0)) && decide (InS b a.hi ∧ notS a.k b.k = 0)) && decide (notS a.k b.k = 0)) := by
  unfold leqS
  rw [Bool.eq_iff_iff]
  simp only [decide_eq_true_eq, Bool.and_eq_true, notS_iff]
  constructor
  · intro h
    have k := (le_of ha hb h).k
    exact ⟨⟨⟨⟨leq_in ha hb h (lo_in ha), k⟩, leq_in ha hb h (sec_in ha), k⟩, leq_in ha hb h (hi_in ha), k⟩, k⟩
  · rintro ⟨⟨⟨⟨h1, k⟩, h2, -⟩, h3, -⟩, -⟩
    exact leq_three ha hb h1 h2 h3 k

end Go.Proofs.Ytlokjiniigfaiaa
