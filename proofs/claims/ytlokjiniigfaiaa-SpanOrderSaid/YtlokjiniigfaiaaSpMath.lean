/- The laws of joined sets, in plain arithmetic: no program. -/
import Derived.Test.YtlokjiniigfaiaaSpMade
set_option linter.unusedVariables false
set_option linter.unusedSimpArgs false
namespace Go.Proofs.Ytlokjiniigfaiaa
open Go.ChangeShapes Go.WideShapes Go.ChangeAt Go.RowKit

theorem ofInt_nat (a : Nat) (ha : a < 256) : (BitVec.ofInt 64 (a : Int)).toNat = a := by
  rw [BitVec.ofInt_natCast, BitVec.toNat_ofNat]; exact Nat.mod_eq_of_lt (by omega)

theorem or_nat (a b : Nat) (ha : a < 256) (hb : b < 256) : orS (a : Int) (b : Int) = ((a ||| b : Nat) : Int) := by
  have hx : a ||| b < 2 ^ 8 := Nat.or_lt_two_pow (by omega) (by omega)
  show IntKind.i64.wrap ((BitVec.ofInt 64 (a : Int) ||| BitVec.ofInt 64 (b : Int)).toNat : Int) = _
  rw [BitVec.toNat_or, ofInt_nat a ha, ofInt_nat b hb]
  exact IntWalk.i64_in _ (by omega)

/-- A mask. -/
def Mk (k : Int) : Prop := 0 ≤ k ∧ k ≤ 255
theorem Mk.nat {k : Int} (h : Mk k) : ∃ n : Nat, n < 256 ∧ k = n := ⟨k.toNat, by have := h.1; have := h.2; omega, by have := h.1; omega⟩
theorem orS_mk {a b : Int} (ha : Mk a) (hb : Mk b) : Mk (orS a b) := by
  obtain ⟨x, hx, rfl⟩ := ha.nat
  obtain ⟨y, hy, rfl⟩ := hb.nat
  have h : x ||| y < 2 ^ 8 := Nat.or_lt_two_pow (by omega) (by omega)
  rw [or_nat x y hx hy]
  constructor <;> omega
theorem orS_comm {a b : Int} (ha : Mk a) (hb : Mk b) : orS a b = orS b a := by
  obtain ⟨x, hx, rfl⟩ := ha.nat
  obtain ⟨y, hy, rfl⟩ := hb.nat
  rw [or_nat x y hx hy, or_nat y x hy hx, Nat.or_comm]
theorem orS_self {a : Int} (ha : Mk a) : orS a a = a := by
  obtain ⟨x, hx, rfl⟩ := ha.nat
  rw [or_nat x x hx hx, Nat.or_self]
theorem orS_assoc {a b c : Int} (ha : Mk a) (hb : Mk b) (hc : Mk c) : orS (orS a b) c = orS a (orS b c) := by
  obtain ⟨x, hx, rfl⟩ := ha.nat
  obtain ⟨y, hy, rfl⟩ := hb.nat
  obtain ⟨z, hz, rfl⟩ := hc.nat
  have h1 : x ||| y < 2 ^ 8 := Nat.or_lt_two_pow (by omega) (by omega)
  have h2 : y ||| z < 2 ^ 8 := Nat.or_lt_two_pow (by omega) (by omega)
  rw [or_nat x y hx hy, or_nat y z hy hz, or_nat _ z (by omega) hz, or_nat x _ hx (by omega), Nat.or_assoc]

theorem Good.mk' {a : Ab} (h : Good a) : Mk a.k := ⟨h.h4, h.h5⟩

/-- The step of the join. -/
def joinG (x y d : Int) : Int := gcdS x [y, absS d]
theorem joinG_nonneg (x y d : Int) : 0 ≤ joinG x y d := by simp only [joinG, gcdS]; omega
theorem absS_natAbs (d : Int) : absS d = (d.natAbs : Int) := by unfold absS; omega
theorem dvd_joinG (n : Nat) (x y d : Int) : ((n : Int) ∣ joinG x y d) ↔ ((n : Int) ∣ x ∧ (n : Int) ∣ y ∧ (n : Int) ∣ d) := by
  have e : joinG x y d = ((Nat.gcd (Nat.gcd x.natAbs y.natAbs) d.natAbs : Nat) : Int) := by
    simp only [joinG, gcdS, absS_natAbs]
    rfl
  have h : ∀ z : Int, (n ∣ z.natAbs) ↔ ((n : Int) ∣ z) := fun z => by rw [← Int.natCast_dvd_natCast, Int.dvd_natAbs]
  rw [e, Int.natCast_dvd_natCast, Nat.dvd_gcd_iff, Nat.dvd_gcd_iff, h, h, h, and_assoc]
theorem eq_of_dvd {x y : Int} (hx : 0 ≤ x) (hy : 0 ≤ y) (h : ∀ n : Nat, ((n : Int) ∣ x) ↔ ((n : Int) ∣ y)) : x = y := by
  obtain ⟨X, rfl⟩ := Int.eq_ofNat_of_zero_le hx
  obtain ⟨Y, rfl⟩ := Int.eq_ofNat_of_zero_le hy
  have h1 := (h X).1 (Int.dvd_refl _)
  have h2 := (h Y).2 (Int.dvd_refl _)
  rw [Int.natCast_dvd_natCast] at h1 h2
  exact congrArg _ (Nat.dvd_antisymm h1 h2)

theorem Good.step0 {a : Ab} (h : Good a) : 0 ≤ stepS a ∧ stepS a ≤ 4294967296 := by
  have := h.h1; have := h.h2; have := h.h3; have := h.h6
  unfold stepS
  split
  · omega
  · have := (h.h8 ‹_›).1; omega
theorem Good.step_zero {a : Ab} (h : Good a) : stepS a = 0 ↔ a.lo = a.hi := by
  have := h.h6
  unfold stepS
  split <;> omega
theorem Good.step_dvd {a : Ab} (h : Good a) : stepS a ∣ a.hi - a.lo := by
  unfold stepS
  split
  · exact ⟨0, by omega⟩
  · exact Int.dvd_of_emod_eq_zero (h.h8 ‹_›).2.1
/-- A set is known by its ends, its step and its mask. -/
theorem Good.ext {a b : Ab} (ha : Good a) (hb : Good b) (h1 : a.lo = b.lo) (h2 : a.hi = b.hi) (h3 : stepS a = stepS b) (h4 : a.k = b.k) : a = b := by
  obtain ⟨l, h, m, r, k⟩ := a
  obtain ⟨l', h', m', r', k'⟩ := b
  simp only at h1 h2 h4
  subst h1 h2 h4
  by_cases e : l = h
  · have := ha.h7 e; have := hb.h7 e
    simp only at *
    simp [*]
  · have h8 := ha.h8 e
    have h8' := hb.h8 e
    simp only [stepS, if_neg e] at h3
    simp only at h3 h8 h8'
    subst h3
    rw [Ab.mk.injEq]
    exact ⟨rfl, rfl, rfl, by rw [h8.2.2, h8'.2.2], rfl⟩

theorem joinG_dvds (x y d : Int) : joinG x y d ∣ x ∧ joinG x y d ∣ y ∧ joinG x y d ∣ d := by
  obtain ⟨n, hn⟩ := Int.eq_ofNat_of_zero_le (joinG_nonneg x y d)
  have := (dvd_joinG n x y d).1 (by rw [hn]; exact Int.dvd_refl _)
  rw [hn]; exact this

theorem emod_self_sub (lo hi m : Int) (h : m ∣ hi - lo) : hi - (hi - lo) % m = hi := by rw [Int.emod_eq_zero_of_dvd h]; omega

/-- What joinS is made of. -/
theorem join_parts {a b : Ab} (ha : Good a) (hb : Good b) : Good (joinS a b) ∧ (joinS a b).lo = min a.lo b.lo ∧ (joinS a b).hi = max a.hi b.hi ∧ stepS (joinS a b) = joinG (stepS a) (stepS b) (a.lo - b.lo) ∧ (joinS a b).k = orS a.k b.k := by
  have hg0 := joinG_nonneg (stepS a) (stepS b) (a.lo - b.lo)
  obtain ⟨d1, d2, d3⟩ := joinG_dvds (stepS a) (stepS b) (a.lo - b.lo)
  have e1 : joinS a b = byS (min a.lo b.lo) (max a.hi b.hi) (joinG (stepS a) (stepS b) (a.lo - b.lo)) (orS a.k b.k) := rfl
  have z1 := ha.step_zero
  have z2 := hb.step_zero
  have f1 := Int.dvd_trans d1 ha.step_dvd
  have f2 := Int.dvd_trans d2 hb.step_dvd
  have a1 := ha.h1; have a2 := ha.h2; have a3 := ha.h3
  have b1 := hb.h1; have b2 := hb.h2; have b3 := hb.h3
  have hk := orS_mk ha.mk' hb.mk'
  have hzz : stepS a = 0 → stepS b = 0 → a.lo - b.lo = 0 → joinG (stepS a) (stepS b) (a.lo - b.lo) = 0 := fun i1 i2 i3 => by rw [i1, i2, i3]; rfl
  rw [e1]
  generalize joinG (stepS a) (stepS b) (a.lo - b.lo) = g at *
  generalize orS a.k b.k = k at *
  have hd : g ∣ max a.hi b.hi - min a.lo b.lo := by
    rcases Int.le_total a.lo b.lo with h1 | h1 <;> rcases Int.le_total a.hi b.hi with h2 | h2
    · rw [Int.max_eq_right h2, Int.min_eq_left h1, show b.hi - a.lo = (b.hi - b.lo) - (a.lo - b.lo) by omega]; exact Int.dvd_sub f2 d3
    · rw [Int.max_eq_left h2, Int.min_eq_left h1]; exact f1
    · rw [Int.max_eq_right h2, Int.min_eq_right h1]; exact f2
    · rw [Int.max_eq_left h2, Int.min_eq_right h1, show a.hi - b.lo = (a.hi - a.lo) + (a.lo - b.lo) by omega]; exact Int.dvd_add f1 d3
  have hz : g = 0 → min a.lo b.lo = max a.hi b.hi := by
    intro h
    subst h
    have i1 := Int.zero_dvd.1 f1
    have i2 := Int.zero_dvd.1 f2
    have i3 := Int.zero_dvd.1 d3
    omega
  generalize hlo : min a.lo b.lo = lo at *
  generalize hhi : max a.hi b.hi = hi at *
  have hle : lo ≤ hi := by omega
  by_cases h0 : 0 < g
  · have hs := emod_self_sub lo hi g hd
    by_cases he : lo = hi
    · have e2 : byS lo hi g k = ⟨lo, lo, 1, 0, k⟩ := by unfold byS; rw [if_pos h0, hs, if_pos he]
      have hgz : g = 0 := by
        have l1 : a.lo = a.hi := by omega
        have l2 : b.lo = b.hi := by omega
        have l3 : a.lo = b.lo := by omega
        exact hzz (z1.2 l1) (z2.2 l2) (by omega)
      omega
    · have e2 : byS lo hi g k = ⟨lo, hi, g, lo % g, k⟩ := by unfold byS; rw [if_pos h0, hs, if_neg he]
      rw [e2]
      refine ⟨⟨by simp only; omega, by simp only; omega, by simp only; omega, hk.1, hk.2, by simp only; omega, fun h => absurd h he, fun _ => ⟨Int.le_of_dvd (by simp only; omega) hd, Int.emod_eq_zero_of_dvd hd, rfl⟩⟩, rfl, rfl, ?_, rfl⟩
      simp only [stepS]; rw [if_neg he]
  · have hg : g = 0 := by omega
    have he := hz hg
    have e2 : byS lo hi g k = ⟨lo, lo, 1, 0, k⟩ := by unfold byS; rw [if_neg h0]
    rw [e2]
    refine ⟨⟨by simp only; omega, by simp only; omega, by simp only; omega, hk.1, hk.2, by simp only; omega, fun _ => ⟨rfl, rfl⟩, fun h => absurd rfl h⟩, rfl, he, ?_, rfl⟩
    show (if lo = lo then (0 : Int) else 1) = g
    rw [if_pos rfl, hg]

theorem join_good {a b : Ab} (ha : Good a) (hb : Good b) : Good (joinS a b) := (join_parts ha hb).1

theorem join_comm {a b : Ab} (ha : Good a) (hb : Good b) : joinS a b = joinS b a := by
  obtain ⟨g1, l1, h1, s1, k1⟩ := join_parts ha hb
  obtain ⟨g2, l2, h2, s2, k2⟩ := join_parts hb ha
  refine Good.ext g1 g2 (by omega) (by omega) ?_ (by rw [k1, k2]; exact orS_comm ha.mk' hb.mk')
  rw [s1, s2]
  refine eq_of_dvd (joinG_nonneg _ _ _) (joinG_nonneg _ _ _) fun n => ?_
  rw [dvd_joinG, dvd_joinG]
  have hs : b.lo - a.lo = -(a.lo - b.lo) := by omega
  rw [hs, Int.dvd_neg]
  constructor <;> (rintro ⟨x, y, z⟩; exact ⟨y, x, z⟩)

theorem join_self {a : Ab} (ha : Good a) : joinS a a = a := by
  obtain ⟨g1, l1, h1, s1, k1⟩ := join_parts ha ha
  refine Good.ext g1 ha (by omega) (by omega) ?_ (by rw [k1]; exact orS_self ha.mk')
  rw [s1]
  refine eq_of_dvd (joinG_nonneg _ _ _) ha.step0.1 fun n => ?_
  rw [dvd_joinG]
  constructor
  · exact fun h => h.1
  · exact fun h => ⟨h, h, ⟨0, by omega⟩⟩

theorem join_assoc {a b c : Ab} (ha : Good a) (hb : Good b) (hc : Good c) : joinS (joinS a b) c = joinS a (joinS b c) := by
  obtain ⟨g1, l1, h1, s1, k1⟩ := join_parts ha hb
  obtain ⟨g2, l2, h2, s2, k2⟩ := join_parts hb hc
  obtain ⟨g3, l3, h3, s3, k3⟩ := join_parts g1 hc
  obtain ⟨g4, l4, h4, s4, k4⟩ := join_parts ha g2
  refine Good.ext g3 g4 (by omega) (by omega) ?_ (by rw [k3, k4, k1, k2]; exact orS_assoc ha.mk' hb.mk' hc.mk')
  rw [s3, s4]
  refine eq_of_dvd (joinG_nonneg _ _ _) (joinG_nonneg _ _ _) fun n => ?_
  rw [dvd_joinG, dvd_joinG, s1, s2, dvd_joinG, dvd_joinG, l1, l2]
  generalize a.lo = x
  generalize b.lo = y
  generalize c.lo = z
  have key : (((n : Int) ∣ x - y) ∧ ((n : Int) ∣ min x y - z)) ↔ (((n : Int) ∣ y - z) ∧ ((n : Int) ∣ x - min y z)) := by
    have h3 : ∀ p q r : Int, (n : Int) ∣ p → (n : Int) ∣ q → r = p + q → (n : Int) ∣ r := fun p q r i j e => e ▸ Int.dvd_add i j
    have h4 : ∀ p q r : Int, (n : Int) ∣ p → (n : Int) ∣ q → r = p - q → (n : Int) ∣ r := fun p q r i j e => e ▸ Int.dvd_sub i j
    rcases Int.le_total x y with i | i <;> rcases Int.le_total y z with j | j
    · rw [Int.min_eq_left i, Int.min_eq_left j]
      exact ⟨fun ⟨p, q⟩ => ⟨h4 _ _ _ q p (by omega), p⟩, fun ⟨p, q⟩ => ⟨q, h3 _ _ _ q p (by omega)⟩⟩
    · rw [Int.min_eq_left i, Int.min_eq_right j]
      exact ⟨fun ⟨p, q⟩ => ⟨h4 _ _ _ q p (by omega), q⟩, fun ⟨p, q⟩ => ⟨h4 _ _ _ q p (by omega), q⟩⟩
    · rw [Int.min_eq_right i, Int.min_eq_left j]
      exact ⟨fun ⟨p, q⟩ => ⟨q, p⟩, fun ⟨p, q⟩ => ⟨q, p⟩⟩
    · rw [Int.min_eq_right i, Int.min_eq_right j]
      exact ⟨fun ⟨p, q⟩ => ⟨q, h3 _ _ _ p q (by omega)⟩, fun ⟨p, q⟩ => ⟨h4 _ _ _ q p (by omega), p⟩⟩
  constructor
  · rintro ⟨⟨p, q, r⟩, s, t⟩
    have := key.1 ⟨r, t⟩
    exact ⟨p, ⟨q, s, this.1⟩, this.2⟩
  · rintro ⟨p, ⟨q, s, r⟩, t⟩
    have := key.2 ⟨r, t⟩
    exact ⟨⟨p, q, this.1⟩, s, this.2⟩

theorem made_good (a b c d : Int) : Good (madeS a b c d) ∧ (madeS a b c d).m ≤ 1048576 := by
  have b1 := wrap32_bd a
  have b2 : 0 ≤ c % 1048576 ∧ c % 1048576 < 1048576 := by omega
  have b3 : 0 ≤ b % 2147483648 ∧ b % 2147483648 < 2147483648 := by omega
  have b4 : 0 ≤ d % 256 ∧ d % 256 < 256 := by omega
  unfold madeS
  generalize wrap32 a = lo at *
  generalize c % 1048576 = M at *
  generalize b % 2147483648 = n at *
  generalize d % 256 = k at *
  obtain ⟨m, hm⟩ : ∃ m, m = 1 + M := ⟨_, rfl⟩
  rw [← hm]
  have h0 : ¬ m = 0 := by omega
  have e1 := Int.mul_ediv_add_emod (2147483647 - lo) m
  have e2 := Int.mul_nonneg (show 0 ≤ m by omega) (Int.ediv_nonneg (show 0 ≤ 2147483647 - lo by omega) (show 0 ≤ m by omega))
  have e3 := Int.emod_nonneg (2147483647 - lo) h0
  have e4 := Int.mul_nonneg (Int.ediv_nonneg b3.1 (show 0 ≤ m by omega)) (show 0 ≤ m by omega)
  have d1 : m ∣ n / m * m := ⟨n / m, Int.mul_comm _ _⟩
  have d2 : m ∣ 2147483647 - (2147483647 - lo) % m - lo := ⟨(2147483647 - lo) / m, by omega⟩
  generalize n / m * m = p at *
  generalize (2147483647 - lo) % m = v at *
  obtain ⟨hi, hhi⟩ : ∃ hi, hi = min (lo + p) (2147483647 - v) := ⟨_, rfl⟩
  rw [← hhi]
  have bh : lo ≤ hi ∧ hi ≤ 2147483647 := by omega
  have hd : m ∣ hi - lo := by
    rcases Int.le_total (lo + p) (2147483647 - v) with h | h
    · rw [hhi, Int.min_eq_left h, show lo + p - lo = p by omega]; exact d1
    · rw [hhi, Int.min_eq_right h]; exact d2
  have hs := emod_self_sub lo hi m hd
  by_cases he : lo = hi
  · have e2 : byS lo hi m k = ⟨lo, lo, 1, 0, k⟩ := by unfold byS; rw [if_pos (by omega), hs, if_pos he]
    rw [e2]
    exact ⟨⟨by simp only; omega, by simp only; omega, by simp only; omega, by simp only; omega, by simp only; omega, by simp only; omega, fun _ => ⟨rfl, rfl⟩, fun h => absurd rfl h⟩, by simp only; omega⟩
  · have e2 : byS lo hi m k = ⟨lo, hi, m, lo % m, k⟩ := by unfold byS; rw [if_pos (by omega), hs, if_neg he]
    rw [e2]
    exact ⟨⟨by simp only; omega, by simp only; omega, by simp only; omega, by simp only; omega, by simp only; omega, by simp only; omega, fun h => absurd h he, fun _ => ⟨Int.le_of_dvd (by simp only; omega) hd, Int.emod_eq_zero_of_dvd hd, rfl⟩⟩, by simp only; omega⟩

end Go.Proofs.Ytlokjiniigfaiaa
