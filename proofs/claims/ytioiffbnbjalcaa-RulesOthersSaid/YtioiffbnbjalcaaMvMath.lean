/- Sets of values in plain arithmetic (my elder texts' laws, without their walks). -/
import Derived.Test.YtioiffbnbjalcaaSpDef
import Derived.IntWalk
set_option linter.unusedVariables false
set_option linter.unusedSimpArgs false
namespace Go.Proofs.Ytioiffbnbjalcaa
open Go.RowKit

theorem by_dec (lo hi m k : Int) (hm : 0 < m) (hl : lo ≤ hi) : lo ≤ hi - (hi - lo) % m ∧ hi - (hi - lo) % m ≤ hi := by
  have h1 := Int.emod_nonneg (hi - lo) (show m ≠ 0 by omega)
  have h2 : (hi - lo) % m ≤ hi - lo := by
    have h3 := Int.mul_ediv_add_emod (hi - lo) m
    have h4 : 0 ≤ m * ((hi - lo) / m) := Int.mul_nonneg (by omega) (Int.ediv_nonneg (by omega) (by omega))
    omega
  omega

theorem gcd_step (x y : Int) (hx : 0 ≤ x) (hy : 0 < y) : (Int.gcd x y : Int) = Int.gcd y (x % y) := by
  obtain ⟨X, rfl⟩ := Int.eq_ofNat_of_zero_le hx
  obtain ⟨Y, rfl⟩ := Int.eq_ofNat_of_zero_le (show 0 ≤ y by omega)
  have h : ((X : Int) % (Y : Int)) = ((X % Y : Nat) : Int) := by simp
  rw [h, Int.gcd_natCast_natCast, Int.gcd_natCast_natCast, Nat.gcd_comm X Y, Nat.gcd_rec Y X, Nat.gcd_comm]

theorem gcdS_drop (a : Int) (l : List Int) (k : Nat) (h : k < l.length) : gcdS a (l.drop k) = gcdS (Int.gcd a l[k]) (l.drop (k + 1)) := by
  rw [List.drop_eq_getElem_cons h]; rfl

theorem like_bd (r m lo : Int) (hm : 0 < m) : lo ≤ lo + (r - lo) % m ∧ lo + (r - lo) % m < lo + m := by
  have h1 := Int.emod_nonneg (r - lo) (show m ≠ 0 by omega)
  have h2 := Int.emod_lt_of_pos (r - lo) hm
  omega

/-- What the law's own 'set' answers. -/
def setS (lo hi m : Int) : Ab := if lo = hi then ⟨lo, lo, 1, 0, 0⟩ else ⟨lo, hi, m, lo % m, 0⟩

instance : DecidableEq Ab := fun a b => by
  cases a; cases b
  simp only [Ab.mk.injEq]
  infer_instance

theorem Good.byS {a : Ab} (h : Good a) (hne : a.lo ≠ a.hi) : byS a.lo a.hi a.m a.k = a := by
  have h6 := h.h6
  obtain ⟨_, h8, h9⟩ := h.h8 hne
  unfold Go.Proofs.Ytioiffbnbjalcaa.byS
  rw [if_pos (by omega), h8, Int.sub_zero, if_neg hne, ← h9]

def boundedS (lo hi m k : Int) : Ab := if -2147483648 ≤ lo ∧ lo ≤ 2147483647 ∧ -2147483648 ≤ hi ∧ hi ≤ 2147483647 then byS lo hi m k else likeS lo (Int.gcd 4294967296 m) (-2147483648) 2147483647 k

/-- What Made answers. -/
def madeS (a b c d : Int) : Ab := byS (wrap32 a) (min (wrap32 a + (b % 2147483648) / (1 + c % 1048576) * (1 + c % 1048576)) (2147483647 - (2147483647 - wrap32 a) % (1 + c % 1048576))) (1 + c % 1048576) (d % 256)

theorem ofInt_nat (a : Nat) (ha : a < 256) : (BitVec.ofInt 64 (a : Int)).toNat = a := by
  rw [BitVec.ofInt_natCast, BitVec.toNat_ofNat]; exact Nat.mod_eq_of_lt (by omega)

theorem or_nat (a b : Nat) (ha : a < 256) (hb : b < 256) : orS (a : Int) (b : Int) = ((a ||| b : Nat) : Int) := by
  have hx : a ||| b < 2 ^ 8 := Nat.or_lt_two_pow (by omega) (by omega)
  show IntKind.i64.wrap ((BitVec.ofInt 64 (a : Int) ||| BitVec.ofInt 64 (b : Int)).toNat : Int) = _
  rw [BitVec.toNat_or, ofInt_nat a ha, ofInt_nat b hb]
  exact IntWalk.i64_in _ (by omega)

/-- A mask. -/
def Mk (k : Int) : Prop := 0 ≤ k ∧ k ≤ 255

theorem Mk.nat {k : Int} (h : Mk k) : ∃ n : Nat, n < 256 ∧ k = n := ⟨k.toNat, by have := h.1; have := h.2; omega, by have := h.1; omega⟩

theorem orS_mk {a b : Int} (ha : Mk a) (hb : Mk b) : Mk (orS a b) := by
  obtain ⟨x, hx, rfl⟩ := ha.nat
  obtain ⟨y, hy, rfl⟩ := hb.nat
  have h : x ||| y < 2 ^ 8 := Nat.or_lt_two_pow (by omega) (by omega)
  rw [or_nat x y hx hy]
  constructor <;> omega

theorem orS_comm {a b : Int} (ha : Mk a) (hb : Mk b) : orS a b = orS b a := by
  obtain ⟨x, hx, rfl⟩ := ha.nat
  obtain ⟨y, hy, rfl⟩ := hb.nat
  rw [or_nat x y hx hy, or_nat y x hy hx, Nat.or_comm]

theorem orS_self {a : Int} (ha : Mk a) : orS a a = a := by
  obtain ⟨x, hx, rfl⟩ := ha.nat
  rw [or_nat x x hx hx, Nat.or_self]

theorem orS_assoc {a b c : Int} (ha : Mk a) (hb : Mk b) (hc : Mk c) : orS (orS a b) c = orS a (orS b c) := by
  obtain ⟨x, hx, rfl⟩ := ha.nat
  obtain ⟨y, hy, rfl⟩ := hb.nat
  obtain ⟨z, hz, rfl⟩ := hc.nat
  have h1 : x ||| y < 2 ^ 8 := Nat.or_lt_two_pow (by omega) (by omega)
  have h2 : y ||| z < 2 ^ 8 := Nat.or_lt_two_pow (by omega) (by omega)
  rw [or_nat x y hx hy, or_nat y z hy hz, or_nat _ z (by omega) hz, or_nat x _ hx (by omega), Nat.or_assoc]

theorem Good.mk' {a : Ab} (h : Good a) : Mk a.k := ⟨h.h4, h.h5⟩

/-- The step of the join. -/
def joinG (x y d : Int) : Int := gcdS x [y, absS d]

theorem joinG_nonneg (x y d : Int) : 0 ≤ joinG x y d := by simp only [joinG, gcdS]; omega

theorem absS_natAbs (d : Int) : absS d = (d.natAbs : Int) := by unfold absS; omega

theorem dvd_joinG (n : Nat) (x y d : Int) : ((n : Int) ∣ joinG x y d) ↔ ((n : Int) ∣ x ∧ (n : Int) ∣ y ∧ (n : Int) ∣ d) := by
  have e : joinG x y d = ((Nat.gcd (Nat.gcd x.natAbs y.natAbs) d.natAbs : Nat) : Int) := by
    simp only [joinG, gcdS, absS_natAbs]
    rfl
  have h : ∀ z : Int, (n ∣ z.natAbs) ↔ ((n : Int) ∣ z) := fun z => by rw [← Int.natCast_dvd_natCast, Int.dvd_natAbs]
  rw [e, Int.natCast_dvd_natCast, Nat.dvd_gcd_iff, Nat.dvd_gcd_iff, h, h, h, and_assoc]

theorem eq_of_dvd {x y : Int} (hx : 0 ≤ x) (hy : 0 ≤ y) (h : ∀ n : Nat, ((n : Int) ∣ x) ↔ ((n : Int) ∣ y)) : x = y := by
  obtain ⟨X, rfl⟩ := Int.eq_ofNat_of_zero_le hx
  obtain ⟨Y, rfl⟩ := Int.eq_ofNat_of_zero_le hy
  have h1 := (h X).1 (Int.dvd_refl _)
  have h2 := (h Y).2 (Int.dvd_refl _)
  rw [Int.natCast_dvd_natCast] at h1 h2
  exact congrArg _ (Nat.dvd_antisymm h1 h2)

theorem Good.step0 {a : Ab} (h : Good a) : 0 ≤ stepS a ∧ stepS a ≤ 4294967296 := by
  have := h.h1; have := h.h2; have := h.h3; have := h.h6
  unfold stepS
  split
  · omega
  · have := (h.h8 ‹_›).1; omega

theorem Good.step_zero {a : Ab} (h : Good a) : stepS a = 0 ↔ a.lo = a.hi := by
  have := h.h6
  unfold stepS
  split <;> omega

theorem Good.step_dvd {a : Ab} (h : Good a) : stepS a ∣ a.hi - a.lo := by
  unfold stepS
  split
  · exact ⟨0, by omega⟩
  · exact Int.dvd_of_emod_eq_zero (h.h8 ‹_›).2.1

/-- A set is known by its ends, its step and its mask. -/
theorem Good.ext {a b : Ab} (ha : Good a) (hb : Good b) (h1 : a.lo = b.lo) (h2 : a.hi = b.hi) (h3 : stepS a = stepS b) (h4 : a.k = b.k) : a = b := by
  obtain ⟨l, h, m, r, k⟩ := a
  obtain ⟨l', h', m', r', k'⟩ := b
  simp only at h1 h2 h4
  subst h1 h2 h4
  by_cases e : l = h
  · have := ha.h7 e; have := hb.h7 e
    simp only at *
    simp [*]
  · have h8 := ha.h8 e
    have h8' := hb.h8 e
    simp only [stepS, if_neg e] at h3
    simp only at h3 h8 h8'
    subst h3
    rw [Ab.mk.injEq]
    exact ⟨rfl, rfl, rfl, by rw [h8.2.2, h8'.2.2], rfl⟩

theorem joinG_dvds (x y d : Int) : joinG x y d ∣ x ∧ joinG x y d ∣ y ∧ joinG x y d ∣ d := by
  obtain ⟨n, hn⟩ := Int.eq_ofNat_of_zero_le (joinG_nonneg x y d)
  have := (dvd_joinG n x y d).1 (by rw [hn]; exact Int.dvd_refl _)
  rw [hn]; exact this

theorem emod_self_sub (lo hi m : Int) (h : m ∣ hi - lo) : hi - (hi - lo) % m = hi := by rw [Int.emod_eq_zero_of_dvd h]; omega

/-- What joinS is made of. -/
theorem join_parts {a b : Ab} (ha : Good a) (hb : Good b) : Good (joinS a b) ∧ (joinS a b).lo = min a.lo b.lo ∧ (joinS a b).hi = max a.hi b.hi ∧ stepS (joinS a b) = joinG (stepS a) (stepS b) (a.lo - b.lo) ∧ (joinS a b).k = orS a.k b.k := by
  have hg0 := joinG_nonneg (stepS a) (stepS b) (a.lo - b.lo)
  obtain ⟨d1, d2, d3⟩ := joinG_dvds (stepS a) (stepS b) (a.lo - b.lo)
  have e1 : joinS a b = byS (min a.lo b.lo) (max a.hi b.hi) (joinG (stepS a) (stepS b) (a.lo - b.lo)) (orS a.k b.k) := rfl
  have z1 := ha.step_zero
  have z2 := hb.step_zero
  have f1 := Int.dvd_trans d1 ha.step_dvd
  have f2 := Int.dvd_trans d2 hb.step_dvd
  have a1 := ha.h1; have a2 := ha.h2; have a3 := ha.h3
  have b1 := hb.h1; have b2 := hb.h2; have b3 := hb.h3
  have hk := orS_mk ha.mk' hb.mk'
  have hzz : stepS a = 0 → stepS b = 0 → a.lo - b.lo = 0 → joinG (stepS a) (stepS b) (a.lo - b.lo) = 0 := fun i1 i2 i3 => by rw [i1, i2, i3]; rfl
  rw [e1]
  generalize joinG (stepS a) (stepS b) (a.lo - b.lo) = g at *
  generalize orS a.k b.k = k at *
  have hd : g ∣ max a.hi b.hi - min a.lo b.lo := by
    rcases Int.le_total a.lo b.lo with h1 | h1 <;> rcases Int.le_total a.hi b.hi with h2 | h2
    · rw [Int.max_eq_right h2, Int.min_eq_left h1, show b.hi - a.lo = (b.hi - b.lo) - (a.lo - b.lo) by omega]; exact Int.dvd_sub f2 d3
    · rw [Int.max_eq_left h2, Int.min_eq_left h1]; exact f1
    · rw [Int.max_eq_right h2, Int.min_eq_right h1]; exact f2
    · rw [Int.max_eq_left h2, Int.min_eq_right h1, show a.hi - b.lo = (a.hi - a.lo) + (a.lo - b.lo) by omega]; exact Int.dvd_add f1 d3
  have hz : g = 0 → min a.lo b.lo = max a.hi b.hi := by
    intro h
    subst h
    have i1 := Int.zero_dvd.1 f1
    have i2 := Int.zero_dvd.1 f2
    have i3 := Int.zero_dvd.1 d3
    omega
  generalize hlo : min a.lo b.lo = lo at *
  generalize hhi : max a.hi b.hi = hi at *
  have hle : lo ≤ hi := by omega
  by_cases h0 : 0 < g
  · have hs := emod_self_sub lo hi g hd
    by_cases he : lo = hi
    · have e2 : byS lo hi g k = ⟨lo, lo, 1, 0, k⟩ := by unfold byS; rw [if_pos h0, hs, if_pos he]
      have hgz : g = 0 := by
        have l1 : a.lo = a.hi := by omega
        have l2 : b.lo = b.hi := by omega
        have l3 : a.lo = b.lo := by omega
        exact hzz (z1.2 l1) (z2.2 l2) (by omega)
      omega
    · have e2 : byS lo hi g k = ⟨lo, hi, g, lo % g, k⟩ := by unfold byS; rw [if_pos h0, hs, if_neg he]
      rw [e2]
      refine ⟨⟨by simp only; omega, by simp only; omega, by simp only; omega, hk.1, hk.2, by simp only; omega, fun h => absurd h he, fun _ => ⟨Int.le_of_dvd (by simp only; omega) hd, Int.emod_eq_zero_of_dvd hd, rfl⟩⟩, rfl, rfl, ?_, rfl⟩
      simp only [stepS]; rw [if_neg he]
  · have hg : g = 0 := by omega
    have he := hz hg
    have e2 : byS lo hi g k = ⟨lo, lo, 1, 0, k⟩ := by unfold byS; rw [if_neg h0]
    rw [e2]
    refine ⟨⟨by simp only; omega, by simp only; omega, by simp only; omega, hk.1, hk.2, by simp only; omega, fun _ => ⟨rfl, rfl⟩, fun h => absurd rfl h⟩, rfl, he, ?_, rfl⟩
    show (if lo = lo then (0 : Int) else 1) = g
    rw [if_pos rfl, hg]

theorem join_good {a b : Ab} (ha : Good a) (hb : Good b) : Good (joinS a b) := (join_parts ha hb).1

theorem join_comm {a b : Ab} (ha : Good a) (hb : Good b) : joinS a b = joinS b a := by
  obtain ⟨g1, l1, h1, s1, k1⟩ := join_parts ha hb
  obtain ⟨g2, l2, h2, s2, k2⟩ := join_parts hb ha
  refine Good.ext g1 g2 (by omega) (by omega) ?_ (by rw [k1, k2]; exact orS_comm ha.mk' hb.mk')
  rw [s1, s2]
  refine eq_of_dvd (joinG_nonneg _ _ _) (joinG_nonneg _ _ _) fun n => ?_
  rw [dvd_joinG, dvd_joinG]
  have hs : b.lo - a.lo = -(a.lo - b.lo) := by omega
  rw [hs, Int.dvd_neg]
  constructor <;> (rintro ⟨x, y, z⟩; exact ⟨y, x, z⟩)

theorem join_self {a : Ab} (ha : Good a) : joinS a a = a := by
  obtain ⟨g1, l1, h1, s1, k1⟩ := join_parts ha ha
  refine Good.ext g1 ha (by omega) (by omega) ?_ (by rw [k1]; exact orS_self ha.mk')
  rw [s1]
  refine eq_of_dvd (joinG_nonneg _ _ _) ha.step0.1 fun n => ?_
  rw [dvd_joinG]
  constructor
  · exact fun h => h.1
  · exact fun h => ⟨h, h, ⟨0, by omega⟩⟩

theorem join_assoc {a b c : Ab} (ha : Good a) (hb : Good b) (hc : Good c) : joinS (joinS a b) c = joinS a (joinS b c) := by
  obtain ⟨g1, l1, h1, s1, k1⟩ := join_parts ha hb
  obtain ⟨g2, l2, h2, s2, k2⟩ := join_parts hb hc
  obtain ⟨g3, l3, h3, s3, k3⟩ := join_parts g1 hc
  obtain ⟨g4, l4, h4, s4, k4⟩ := join_parts ha g2
  refine Good.ext g3 g4 (by omega) (by omega) ?_ (by rw [k3, k4, k1, k2]; exact orS_assoc ha.mk' hb.mk' hc.mk')
  rw [s3, s4]
  refine eq_of_dvd (joinG_nonneg _ _ _) (joinG_nonneg _ _ _) fun n => ?_
  rw [dvd_joinG, dvd_joinG, s1, s2, dvd_joinG, dvd_joinG, l1, l2]
  generalize a.lo = x
  generalize b.lo = y
  generalize c.lo = z
  have key : (((n : Int) ∣ x - y) ∧ ((n : Int) ∣ min x y - z)) ↔ (((n : Int) ∣ y - z) ∧ ((n : Int) ∣ x - min y z)) := by
    have h3 : ∀ p q r : Int, (n : Int) ∣ p → (n : Int) ∣ q → r = p + q → (n : Int) ∣ r := fun p q r i j e => e ▸ Int.dvd_add i j
    have h4 : ∀ p q r : Int, (n : Int) ∣ p → (n : Int) ∣ q → r = p - q → (n : Int) ∣ r := fun p q r i j e => e ▸ Int.dvd_sub i j
    rcases Int.le_total x y with i | i <;> rcases Int.le_total y z with j | j
    · rw [Int.min_eq_left i, Int.min_eq_left j]
      exact ⟨fun ⟨p, q⟩ => ⟨h4 _ _ _ q p (by omega), p⟩, fun ⟨p, q⟩ => ⟨q, h3 _ _ _ q p (by omega)⟩⟩
    · rw [Int.min_eq_left i, Int.min_eq_right j]
      exact ⟨fun ⟨p, q⟩ => ⟨h4 _ _ _ q p (by omega), q⟩, fun ⟨p, q⟩ => ⟨h4 _ _ _ q p (by omega), q⟩⟩
    · rw [Int.min_eq_right i, Int.min_eq_left j]
      exact ⟨fun ⟨p, q⟩ => ⟨q, p⟩, fun ⟨p, q⟩ => ⟨q, p⟩⟩
    · rw [Int.min_eq_right i, Int.min_eq_right j]
      exact ⟨fun ⟨p, q⟩ => ⟨q, h3 _ _ _ p q (by omega)⟩, fun ⟨p, q⟩ => ⟨h4 _ _ _ q p (by omega), p⟩⟩
  constructor
  · rintro ⟨⟨p, q, r⟩, s, t⟩
    have := key.1 ⟨r, t⟩
    exact ⟨p, ⟨q, s, this.1⟩, this.2⟩
  · rintro ⟨p, ⟨q, s, r⟩, t⟩
    have := key.2 ⟨r, t⟩
    exact ⟨⟨p, q, this.1⟩, s, this.2⟩

theorem made_good (a b c d : Int) : Good (madeS a b c d) ∧ (madeS a b c d).m ≤ 1048576 := by
  have b1 := wrap32_bd a
  have b2 : 0 ≤ c % 1048576 ∧ c % 1048576 < 1048576 := by omega
  have b3 : 0 ≤ b % 2147483648 ∧ b % 2147483648 < 2147483648 := by omega
  have b4 : 0 ≤ d % 256 ∧ d % 256 < 256 := by omega
  unfold madeS
  generalize wrap32 a = lo at *
  generalize c % 1048576 = M at *
  generalize b % 2147483648 = n at *
  generalize d % 256 = k at *
  obtain ⟨m, hm⟩ : ∃ m, m = 1 + M := ⟨_, rfl⟩
  rw [← hm]
  have h0 : ¬ m = 0 := by omega
  have e1 := Int.mul_ediv_add_emod (2147483647 - lo) m
  have e2 := Int.mul_nonneg (show 0 ≤ m by omega) (Int.ediv_nonneg (show 0 ≤ 2147483647 - lo by omega) (show 0 ≤ m by omega))
  have e3 := Int.emod_nonneg (2147483647 - lo) h0
  have e4 := Int.mul_nonneg (Int.ediv_nonneg b3.1 (show 0 ≤ m by omega)) (show 0 ≤ m by omega)
  have d1 : m ∣ n / m * m := ⟨n / m, Int.mul_comm _ _⟩
  have d2 : m ∣ 2147483647 - (2147483647 - lo) % m - lo := ⟨(2147483647 - lo) / m, by omega⟩
  generalize n / m * m = p at *
  generalize (2147483647 - lo) % m = v at *
  obtain ⟨hi, hhi⟩ : ∃ hi, hi = min (lo + p) (2147483647 - v) := ⟨_, rfl⟩
  rw [← hhi]
  have bh : lo ≤ hi ∧ hi ≤ 2147483647 := by omega
  have hd : m ∣ hi - lo := by
    rcases Int.le_total (lo + p) (2147483647 - v) with h | h
    · rw [hhi, Int.min_eq_left h, show lo + p - lo = p by omega]; exact d1
    · rw [hhi, Int.min_eq_right h]; exact d2
  have hs := emod_self_sub lo hi m hd
  by_cases he : lo = hi
  · have e2 : byS lo hi m k = ⟨lo, lo, 1, 0, k⟩ := by unfold byS; rw [if_pos (by omega), hs, if_pos he]
    rw [e2]
    exact ⟨⟨by simp only; omega, by simp only; omega, by simp only; omega, by simp only; omega, by simp only; omega, by simp only; omega, fun _ => ⟨rfl, rfl⟩, fun h => absurd rfl h⟩, by simp only; omega⟩
  · have e2 : byS lo hi m k = ⟨lo, hi, m, lo % m, k⟩ := by unfold byS; rw [if_pos (by omega), hs, if_neg he]
    rw [e2]
    exact ⟨⟨by simp only; omega, by simp only; omega, by simp only; omega, by simp only; omega, by simp only; omega, by simp only; omega, fun h => absurd h he, fun _ => ⟨Int.le_of_dvd (by simp only; omega) hd, Int.emod_eq_zero_of_dvd hd, rfl⟩⟩, by simp only; omega⟩

instance : DecidableEq Ab := fun a b => decidable_of_iff (a.lo = b.lo ∧ a.hi = b.hi ∧ a.m = b.m ∧ a.r = b.r ∧ a.k = b.k) (by cases a; cases b; simp)

theorem ab_ext (a b : Ab) : a = b ↔ (a.lo = b.lo ∧ a.hi = b.hi ∧ a.m = b.m ∧ a.r = b.r ∧ a.k = b.k) := by cases a; cases b; simp

def leqS (a b : Ab) : Bool := decide (joinS a b = b)

theorem ofInt_wrap (n : Int) : BitVec.ofInt 64 (IntKind.i64.wrap n) = BitVec.ofInt 64 n := by
  apply BitVec.eq_of_toNat_eq
  rw [BitVec.toNat_ofInt, BitVec.toNat_ofInt]
  congr 1
  have h : IntKind.i64.wrap n = if 9223372036854775808 ≤ n % 18446744073709551616 then n % 18446744073709551616 - 18446744073709551616 else n % 18446744073709551616 := by simp [IntKind.wrap, IntKind.bits, IntKind.signed]
  rw [h]
  have h2 : ((2 ^ 64 : Nat) : Int) = 18446744073709551616 := by decide
  rw [h2]
  split <;> omega

theorem ofInt_toNat (x : BitVec 64) : BitVec.ofInt 64 (x.toNat : Int) = x := by rw [BitVec.ofInt_natCast]; simp

theorem or_bv (a b : Int) : BitVec.ofInt 64 (orS a b) = BitVec.ofInt 64 a ||| BitVec.ofInt 64 b := by
  show BitVec.ofInt 64 (IntKind.i64.wrap ((BitVec.ofInt 64 a ||| BitVec.ofInt 64 b).toNat : Int)) = _
  rw [ofInt_wrap, ofInt_toNat]

theorem and_bv (a b : Int) : BitVec.ofInt 64 (andS a b) = BitVec.ofInt 64 a &&& BitVec.ofInt 64 b := by
  show BitVec.ofInt 64 (IntKind.i64.wrap ((BitVec.ofInt 64 a &&& BitVec.ofInt 64 b).toNat : Int)) = _
  rw [ofInt_wrap, ofInt_toNat]

/-- The bits of a mask are bits of another one. -/
def Sub (a b : Int) : Prop := BitVec.ofInt 64 a &&& ~~~ BitVec.ofInt 64 b = 0#64

theorem sub_not {a b : Int} (h : Sub a b) : notS a b = 0 := by
  show IntKind.i64.wrap ((BitVec.ofInt 64 a &&& ~~~ BitVec.ofInt 64 b).toNat : Int) = 0
  rw [h]
  rfl

theorem sub_and (n k : Int) : Sub (andS n k) k := by
  unfold Sub
  rw [and_bv]
  ext i hi
  simp

theorem sub_or {a b x y : Int} (h : Sub a x) (k : Sub b y) : Sub (orS a b) (orS x y) := by
  unfold Sub at *
  rw [or_bv, or_bv]
  ext i hi
  have h1 := congrArg (fun z : BitVec 64 => z[i]) h
  have h2 := congrArg (fun z : BitVec 64 => z[i]) k
  simp at h1 h2 ⊢
  intro h3
  rcases h3 with h3 | h3 <;> simp_all

theorem sub_self (a : Int) : Sub a a := by
  unfold Sub
  ext i hi
  simp

theorem at_fits {lo hi m n : Int} (h : lo ≤ hi) (hm : 0 < m) : 0 ≤ n % ((hi - lo).tdiv m + 1) * m ∧ n % ((hi - lo).tdiv m + 1) * m ≤ hi - lo ∧ 0 ≤ n % ((hi - lo).tdiv m + 1) ∧ 0 ≤ (hi - lo).tdiv m ∧ (hi - lo).tdiv m ≤ hi - lo := by
  rw [Int.tdiv_eq_ediv_of_nonneg (show 0 ≤ hi - lo by omega)]
  have q0 : 0 ≤ (hi - lo) / m := Int.ediv_nonneg (by omega) (by omega)
  have e := Int.mul_ediv_add_emod (hi - lo) m
  have e2 := Int.emod_nonneg (hi - lo) (show m ≠ 0 by omega)
  have b1 := Int.emod_nonneg n (show (hi - lo) / m + 1 ≠ 0 by omega)
  have b2 := Int.emod_lt_of_pos n (show 0 < (hi - lo) / m + 1 by omega)
  have q1 : (hi - lo) / m ≤ hi - lo := Int.ediv_le_self _ (by omega)
  generalize (hi - lo) / m = q at *
  generalize n % (q + 1) = r at *
  have h1 := Int.mul_nonneg b1 (show 0 ≤ m by omega)
  have h2 : r * m ≤ q * m := Int.mul_le_mul_of_nonneg_right (by omega) (by omega)
  rw [Int.mul_comm m q] at e
  refine ⟨h1, by omega, b1, q0, q1⟩

def atS (a : Ab) (n : Int) : Int := a.lo + n % ((a.hi - a.lo).tdiv a.m + 1) * a.m

theorem tdiv_bd {x y : Int} (hx : -2147483648 ≤ x ∧ x ≤ 2147483647) : -2147483648 ≤ x.tdiv y ∧ x.tdiv y ≤ 2147483648 := by
  have h1 := Int.natAbs_tdiv_le_natAbs x y
  omega

def clampS (lo hi k : Int) : Ab := if (-2147483648 ≤ lo ∧ lo ≤ 2147483647) ∧ (-2147483648 ≤ hi ∧ hi ≤ 2147483647) then byS lo hi 1 k else byS (-2147483648) 2147483647 1 k

def divS' (a b : Ab) (k : Int) : Ab :=
  if stepS b = 0 ∧ b.lo ≠ 0 then clampS (min (a.lo.tdiv b.lo) (a.hi.tdiv b.lo)) (max (a.lo.tdiv b.lo) (a.hi.tdiv b.lo)) k
  else if a.lo < 0 ∨ b.lo < 0 then clampS (-(max (absS a.lo) (absS a.hi))) (max (absS a.lo) (absS a.hi)) k
  else clampS 0 a.hi k

theorem rem_fits {a b : Ab} (ha : Good a) (hs : stepS b = 0) (h4 : absS b.lo ≠ 0) (hx : ¬ (0 ≤ a.lo ∧ a.hi < absS b.lo)) :
    max (min a.lo 0) (1 - absS b.lo) + (a.lo - max (min a.lo 0) (1 - absS b.lo)) % gcdS (stepS a) [absS b.lo] ≤ min (max a.hi 0) (absS b.lo - 1) := by
  have hp : 0 ≤ absS b.lo := by unfold absS; omega
  have s0 := ha.step0
  have a2 := ha.h2
  have hg : 0 < gcdS (stepS a) [absS b.lo] := by
    show 0 < (Int.gcd (stepS a) (absS b.lo) : Int)
    have : Int.gcd (stepS a) (absS b.lo) ≠ 0 := fun h => h4 (Int.gcd_eq_zero_iff.1 h).2
    omega
  have hd : gcdS (stepS a) [absS b.lo] ∣ stepS a := by show (Int.gcd (stepS a) (absS b.lo) : Int) ∣ _; exact Int.gcd_dvd_left ..
  have hn : gcdS (stepS a) [absS b.lo] ∣ absS b.lo := by show (Int.gcd (stepS a) (absS b.lo) : Int) ∣ _; exact Int.gcd_dvd_right ..
  have hle : gcdS (stepS a) [absS b.lo] ≤ absS b.lo := Int.le_of_dvd (by omega) hn
  have hdv := Int.dvd_trans hd ha.step_dvd
  generalize gcdS (stepS a) [absS b.lo] = g at *
  generalize absS b.lo = n at *
  have e1 := Int.emod_nonneg (a.lo - max (min a.lo 0) (1 - n)) (show g ≠ 0 by omega)
  have e2 := Int.emod_lt_of_pos (a.lo - max (min a.lo 0) (1 - n)) hg
  by_cases c1 : 0 ≤ a.lo
  · have : max (min a.lo 0) (1 - n) = 0 := by omega
    rw [this] at e1 e2 ⊢
    omega
  · by_cases c2 : a.lo ≤ 1 - n
    · have : max (min a.lo 0) (1 - n) = 1 - n := by omega
      rw [this] at e1 e2 ⊢
      by_cases c3 : 0 ≤ a.hi
      · omega
      · -- the whole set is negative: the first value at least 1 - n like a.lo is at most -(n mod ..)
        have : min (max a.hi 0) (n - 1) = 0 := by omega
        rw [this]
        omega
    · have : max (min a.lo 0) (1 - n) = a.lo := by omega
      rw [this]
      simp
      omega

theorem gcd_le {x y B : Int} (hx : 0 ≤ x ∧ x ≤ B) (hy : 0 ≤ y ∧ y ≤ B) : 0 ≤ (Int.gcd x y : Int) ∧ (Int.gcd x y : Int) ≤ B := by
  refine ⟨by omega, ?_⟩
  by_cases h : x = 0
  · subst h; rw [Int.gcd_zero_left]; omega
  · have := Int.gcd_le_natAbs_left (b := y) h
    omega

def addS (a b : Ab) (k : Int) : Ab := boundedS (a.lo + b.lo) (a.hi + b.hi) (gcdS (stepS a) [stepS b]) k

def subS (a b : Ab) (k : Int) : Ab := boundedS (a.lo - b.hi) (a.hi - b.lo) (gcdS (stepS a) [stepS b]) k

def mulS (a b : Ab) (k : Int) : Ab := boundedS (min (a.lo * b.lo) (min (a.lo * b.hi) (min (a.hi * b.lo) (a.hi * b.hi)))) (max (a.lo * b.lo) (max (a.lo * b.hi) (max (a.hi * b.lo) (a.hi * b.hi))))
  (gcdS (absS a.lo * stepS b) [absS b.lo * stepS a, stepS a * stepS b]) k

def lesserS (a b : Ab) (k : Int) : Ab := byS (min a.lo b.lo) (min a.hi b.hi) (joinG (stepS a) (stepS b) (a.lo - b.lo)) k

def greaterS (a b : Ab) (k : Int) : Ab := byS (max a.lo b.lo) (max a.hi b.hi) (joinG (stepS a) (stepS b) (a.lo - b.lo)) k

def divS (a b : Ab) (k : Int) : Ab :=
  if stepS b = 0 ∧ b.lo ≠ 0 then
    (if -2147483648 ≤ min (a.lo.tdiv b.lo) (a.hi.tdiv b.lo) ∧ max (a.lo.tdiv b.lo) (a.hi.tdiv b.lo) ≤ 2147483647 then byS (min (a.lo.tdiv b.lo) (a.hi.tdiv b.lo)) (max (a.lo.tdiv b.lo) (a.hi.tdiv b.lo)) 1 k else byS (-2147483648) 2147483647 1 k)
  else if a.lo < 0 ∨ b.lo < 0 then
    (if max (absS a.lo) (absS a.hi) ≤ 2147483647 then byS (-(max (absS a.lo) (absS a.hi))) (max (absS a.lo) (absS a.hi)) 1 k else byS (-2147483648) 2147483647 1 k)
  else byS 0 a.hi 1 k

def remS (a b : Ab) (k : Int) : Ab :=
  if stepS b ≠ 0 then byS (min a.lo 0) (max a.hi 0) 1 k
  else if absS b.lo = 0 ∨ 0 ≤ a.lo ∧ a.hi < absS b.lo then ⟨a.lo, a.hi, a.m, a.r, k⟩
  else likeS a.lo (gcdS (stepS a) [absS b.lo]) (max (min a.lo 0) (1 - absS b.lo)) (min (max a.hi 0) (absS b.lo - 1)) k

theorem Good.step_hi {a : Ab} (h : Good a) : stepS a ≤ 4294967295 := by
  have := h.h1; have := h.h2; have := h.h3
  unfold stepS
  split
  · omega
  · have := (h.h8 ‹_›).1; omega

theorem mul_bd {x y : Int} (hx : -2147483648 ≤ x ∧ x ≤ 2147483647) (hy : -2147483648 ≤ y ∧ y ≤ 2147483647) : -4611686018427387904 ≤ x * y ∧ x * y ≤ 4611686018427387904 := by
  have h1 : x.natAbs * y.natAbs ≤ 2147483648 * 2147483648 := Nat.mul_le_mul (by omega) (by omega)
  have h2 := Int.natAbs_mul x y
  omega

theorem mul_bd2 {x y : Int} (hx : 0 ≤ x ∧ x ≤ 2147483648) (hy : 0 ≤ y ∧ y ≤ 4294967295) : 0 ≤ x * y ∧ x * y ≤ 9223372036854775807 := by
  have h1 := Int.mul_nonneg hx.1 hy.1
  have h2 : x * y ≤ 2147483648 * 4294967295 := Int.mul_le_mul hx.2 hy.2 hy.1 (by omega)
  omega

theorem gcd3_zero {x y z : Int} (h : gcdS x [y, z] = 0) : x = 0 ∧ y = 0 ∧ z = 0 := by
  simp only [gcdS] at h
  have h1 := Int.gcd_eq_zero_iff.1 (show Int.gcd (Int.gcd x y) z = 0 by omega)
  have h2 := Int.gcd_eq_zero_iff.1 (show Int.gcd x y = 0 by omega)
  exact ⟨h2.1, h2.2, h1.2⟩

theorem mul_zero_case {a b : Ab} (ha : Good a) (hb : Good b) : 0 < gcdS (absS a.lo * stepS b) [absS b.lo * stepS a, stepS a * stepS b] ∨ min (a.lo * b.lo) (min (a.lo * b.hi) (min (a.hi * b.lo) (a.hi * b.hi))) = max (a.lo * b.lo) (max (a.lo * b.hi) (max (a.hi * b.lo) (a.hi * b.hi))) := by
  by_cases h : gcdS (absS a.lo * stepS b) [absS b.lo * stepS a, stepS a * stepS b] = 0
  · right
    obtain ⟨h1, h2, h3⟩ := gcd3_zero h
    have za := ha.step_zero; have zb := hb.step_zero
    have hl : absS a.lo = 0 → a.lo = 0 := fun h => by unfold absS at h; omega
    have hl' : absS b.lo = 0 → b.lo = 0 := fun h => by unfold absS at h; omega
    rcases Int.mul_eq_zero.1 h3 with h4 | h4
    · have e := za.1 h4
      rcases Int.mul_eq_zero.1 h1 with h5 | h5
      · have e2 := hl h5
        rw [← e, e2]; simp
      · have e2 := zb.1 h5
        rw [← e, ← e2]; simp
    · have e := zb.1 h4
      rcases Int.mul_eq_zero.1 h2 with h5 | h5
      · have e2 := hl' h5
        rw [← e, e2]; simp
      · have e2 := za.1 h5
        rw [← e, ← e2]; simp
  · left
    have : 0 ≤ gcdS (absS a.lo * stepS b) [absS b.lo * stepS a, stepS a * stepS b] := by simp only [gcdS]; omega
    omega

theorem join_zero {a b : Ab} (ha : Good a) (hb : Good b) : 0 < joinG (stepS a) (stepS b) (a.lo - b.lo) ∨ a.lo = a.hi ∧ b.lo = b.hi ∧ a.lo = b.lo := by
  by_cases h : joinG (stepS a) (stepS b) (a.lo - b.lo) = 0
  · right
    obtain ⟨h1, h2, h3⟩ := gcd3_zero h
    have := ha.step_zero.1 h1; have := hb.step_zero.1 h2
    unfold absS at h3
    omega
  · left
    have := joinG_nonneg (stepS a) (stepS b) (a.lo - b.lo)
    omega

theorem joinG_hi {a b : Ab} (ha : Good a) (hb : Good b) : joinG (stepS a) (stepS b) (a.lo - b.lo) ≤ 4294967296 := by
  have hj := join_parts ha hb
  rw [← hj.2.2.2.1]
  exact hj.1.step0.2

theorem opV_bd (op x y : Int) : -2147483648 ≤ opV op x y ∧ opV op x y ≤ 2147483647 := by
  have h := fun z => wrap32_bd z
  have b1 := h x; have b2 := h y
  unfold opV
  repeat' split
  all_goals first | exact h _ | omega

/-- Membership by the step. -/
theorem inS_iff {a : Ab} (h : Good a) (v : Int) : InS a v ↔ a.lo ≤ v ∧ v ≤ a.hi ∧ stepS a ∣ v - a.lo := by
  have h6 := h.h6
  unfold InS stepS
  split
  · rename_i he
    have := (h.h7 he).1
    rw [this]
    constructor
    · rintro ⟨h1, h2, -⟩
      exact ⟨h1, h2, ⟨0, by omega⟩⟩
    · rintro ⟨h1, h2, h3⟩
      exact ⟨h1, h2, by omega⟩
  · constructor
    · rintro ⟨h1, h2, h3⟩
      exact ⟨h1, h2, Int.dvd_of_emod_eq_zero h3⟩
    · rintro ⟨h1, h2, h3⟩
      exact ⟨h1, h2, Int.emod_eq_zero_of_dvd h3⟩

theorem by_in {lo hi m k : Int} (hle : lo ≤ hi) (hm : 0 < m ∨ m = 0 ∧ lo = hi) (v : Int) : InS (byS lo hi m k) v ↔ lo ≤ v ∧ v ≤ hi ∧ m ∣ v - lo := by
  rcases hm with hm | ⟨rfl, rfl⟩
  · have e1 := Int.emod_nonneg (hi - lo) (show m ≠ 0 by omega)
    have e2 := Int.emod_lt_of_pos (hi - lo) hm
    have hd : m ∣ (hi - (hi - lo) % m) - lo := by
      rw [show (hi - (hi - lo) % m) - lo = (hi - lo) - (hi - lo) % m by omega]
      exact Int.dvd_self_sub_emod
    have hb := by_dec lo hi m k hm hle
    unfold byS
    rw [if_pos hm]
    have key : ∀ v, v ≤ hi → m ∣ v - lo → v ≤ hi - (hi - lo) % m := by
      intro v h1 h2
      have h3 : m ∣ v - (hi - (hi - lo) % m) := by
        rw [show v - (hi - (hi - lo) % m) = (v - lo) - ((hi - (hi - lo) % m) - lo) by omega]
        exact Int.dvd_sub h2 hd
      obtain ⟨c, hc⟩ := h3
      by_cases hcp : 0 < c
      · have : m * 1 ≤ m * c := Int.mul_le_mul_of_nonneg_left (by omega) (by omega)
        omega
      · have : m * c ≤ 0 := Int.mul_nonpos_of_nonneg_of_nonpos (by omega) (by omega)
        omega
    generalize hi - (hi - lo) % m = h' at *
    by_cases he : lo = h'
    · rw [if_pos he]
      subst he
      unfold InS
      simp only
      constructor
      · rintro ⟨h1, h2, -⟩
        have : v = lo := by omega
        subst this
        exact ⟨h1, by omega, ⟨0, by omega⟩⟩
      · rintro ⟨h1, h2, h3⟩
        exact ⟨h1, key v h2 h3, by omega⟩
    · rw [if_neg he]
      unfold InS
      simp only
      constructor
      · rintro ⟨h1, h2, h3⟩
        exact ⟨h1, by omega, Int.dvd_of_emod_eq_zero h3⟩
      · rintro ⟨h1, h2, h3⟩
        exact ⟨h1, key v h2 h3, Int.emod_eq_zero_of_dvd h3⟩
  · unfold byS
    rw [if_neg (by omega)]
    unfold InS
    simp only
    constructor
    · rintro ⟨h1, h2, -⟩
      exact ⟨h1, h2, ⟨0, by omega⟩⟩
    · rintro ⟨h1, h2, h3⟩
      exact ⟨h1, h2, by omega⟩

theorem by_good {lo hi m k : Int} (h1 : -2147483648 ≤ lo) (h2 : lo ≤ hi) (h3 : hi ≤ 2147483647) (hm : 0 ≤ m) (hk : Mk k) : Good (byS lo hi m k) := by
  by_cases h0 : 0 < m
  · have hb := by_dec lo hi m k h0 h2
    have hd : m ∣ (hi - (hi - lo) % m) - lo := by
      rw [show (hi - (hi - lo) % m) - lo = (hi - lo) - (hi - lo) % m by omega]
      exact Int.dvd_self_sub_emod
    unfold byS
    rw [if_pos h0]
    generalize hi - (hi - lo) % m = h' at *
    by_cases he : lo = h'
    · rw [if_pos he]
      exact ⟨by simp only; omega, by simp only; omega, by simp only; omega, hk.1, hk.2, by simp only; omega, fun _ => ⟨rfl, rfl⟩, fun h => absurd rfl h⟩
    · rw [if_neg he]
      exact ⟨by simp only; omega, by simp only; omega, by simp only; omega, hk.1, hk.2, by simp only; omega, fun h => absurd h he, fun _ => ⟨Int.le_of_dvd (by simp only; omega) hd, Int.emod_eq_zero_of_dvd hd, rfl⟩⟩
  · unfold byS
    rw [if_neg h0]
    exact ⟨by simp only; omega, by simp only; omega, by simp only; omega, hk.1, hk.2, by simp only; omega, fun _ => ⟨rfl, rfl⟩, fun h => absurd rfl h⟩

theorem by_k (lo hi m k : Int) : (byS lo hi m k).k = k := by
  unfold byS
  split
  · split <;> rfl
  · rfl

theorem like_in {r m lo hi k : Int} (hm : 0 < m) (hf : lo + (r - lo) % m ≤ hi) (v : Int) : InS (likeS r m lo hi k) v ↔ lo ≤ v ∧ v ≤ hi ∧ m ∣ v - r := by
  have e1 := Int.emod_nonneg (r - lo) (show m ≠ 0 by omega)
  have e2 := Int.emod_lt_of_pos (r - lo) hm
  have hd : m ∣ r - (lo + (r - lo) % m) := by
    rw [show r - (lo + (r - lo) % m) = (r - lo) - (r - lo) % m by omega]
    exact Int.dvd_self_sub_emod
  unfold likeS
  rw [by_in hf (Or.inl hm)]
  generalize hl : lo + (r - lo) % m = l at *
  constructor
  · rintro ⟨h1, h2, h3⟩
    refine ⟨by omega, h2, ?_⟩
    rw [show v - r = (v - l) - (r - l) by omega]
    exact Int.dvd_sub h3 hd
  · rintro ⟨h1, h2, h3⟩
    have h4 : m ∣ v - l := by
      rw [show v - l = (v - r) + (r - l) by omega]
      exact Int.dvd_add h3 hd
    refine ⟨?_, h2, h4⟩
    obtain ⟨c, hc⟩ := h4
    by_cases hcn : c < 0
    · have : m * c ≤ m * (-1) := Int.mul_le_mul_of_nonneg_left (by omega) (by omega)
      omega
    · have : 0 ≤ m * c := Int.mul_nonneg (by omega) (by omega)
      omega

theorem like_good {r m lo hi k : Int} (hm : 0 < m) (h1 : -2147483648 ≤ lo) (hf : lo + (r - lo) % m ≤ hi) (h3 : hi ≤ 2147483647) (hk : Mk k) : Good (likeS r m lo hi k) := by
  have e1 := Int.emod_nonneg (r - lo) (show m ≠ 0 by omega)
  unfold likeS
  exact by_good (by omega) hf h3 (by omega) hk

/-- What bounded makes. -/
theorem g32 (m : Int) : 0 < (Int.gcd 4294967296 m : Int) ∧ (Int.gcd 4294967296 m : Int) ≤ 4294967296 ∧ (Int.gcd 4294967296 m : Int) ∣ 4294967296 ∧ (Int.gcd 4294967296 m : Int) ∣ m := by
  have h1 : Int.gcd 4294967296 m ∣ 4294967296 := Int.gcd_dvd_natAbs_left 4294967296 m
  have h2 := Nat.le_of_dvd (by omega) h1
  have h3 := Nat.pos_of_dvd_of_pos h1 (by omega)
  exact ⟨by omega, by omega, Int.gcd_dvd_left .., Int.gcd_dvd_right ..⟩

theorem wrap32_cong (x : Int) : ∃ q, wrap32 x = x + 4294967296 * q := ⟨-((x + 2147483648) / 4294967296), by unfold wrap32; omega⟩

theorem bounded_good {lo hi m k : Int} (h2 : lo ≤ hi) (hm : 0 ≤ m) (hk : Mk k) : Good (boundedS lo hi m k) := by
  unfold boundedS
  split
  · exact by_good (by omega) h2 (by omega) hm hk
  · obtain ⟨g1, g2, -, -⟩ := g32 m
    refine like_good g1 (by omega) ?_ (by omega) hk
    have := Int.emod_lt_of_pos (lo - -2147483648) g1
    omega

theorem bounded_in' {lo hi m k x : Int} (h2 : lo ≤ hi) (hm : 0 < m ∨ m = 0 ∧ lo = hi) (x1 : lo ≤ x) (x2 : x ≤ hi) (x3 : m ∣ x - lo) : InS (boundedS lo hi m k) (wrap32 x) := by
  unfold boundedS
  split
  · rw [wrap32_of x (by omega), by_in h2 hm]
    exact ⟨x1, x2, x3⟩
  · obtain ⟨g1, g2, g3, g4⟩ := g32 m
    have hf : -2147483648 + (lo - -2147483648) % (Int.gcd 4294967296 m : Int) ≤ 2147483647 := by
      have := Int.emod_lt_of_pos (lo - -2147483648) g1
      omega
    rw [like_in g1 hf]
    have b := wrap32_bd x
    obtain ⟨q, hq⟩ := wrap32_cong x
    refine ⟨by omega, by omega, ?_⟩
    rw [show wrap32 x - lo = (x - lo) + 4294967296 * q by omega]
    exact Int.dvd_add (Int.dvd_trans g4 x3) (Int.dvd_mul_of_dvd_left g3)

/-- A value between products. -/
theorem mul_hull1 {p q x c : Int} (h1 : p ≤ x) (h2 : x ≤ q) : min (p * c) (q * c) ≤ x * c ∧ x * c ≤ max (p * c) (q * c) := by
  rcases Int.le_total 0 c with h | h
  · have e1 := Int.mul_le_mul_of_nonneg_right h1 h
    have e2 := Int.mul_le_mul_of_nonneg_right h2 h
    omega
  · have e1 := Int.mul_le_mul_of_nonpos_right h1 h
    have e2 := Int.mul_le_mul_of_nonpos_right h2 h
    omega

theorem mul_hull {p q r s x y : Int} (h1 : p ≤ x) (h2 : x ≤ q) (h3 : r ≤ y) (h4 : y ≤ s) :
    min (p * r) (min (p * s) (min (q * r) (q * s))) ≤ x * y ∧ x * y ≤ max (p * r) (max (p * s) (max (q * r) (q * s))) := by
  have e1 := mul_hull1 (c := y) h1 h2
  have e2 := mul_hull1 (c := p) h3 h4
  have e3 := mul_hull1 (c := q) h3 h4
  rw [Int.mul_comm r p, Int.mul_comm s p, Int.mul_comm y p] at e2
  rw [Int.mul_comm r q, Int.mul_comm s q, Int.mul_comm y q] at e3
  omega

theorem gcdS_dvd2 (x y : Int) : gcdS x [y] ∣ x ∧ gcdS x [y] ∣ y := ⟨Int.gcd_dvd_left .., Int.gcd_dvd_right ..⟩

theorem gcdS_dvd3 (x y z : Int) : gcdS x [y, z] ∣ x ∧ gcdS x [y, z] ∣ y ∧ gcdS x [y, z] ∣ z :=
  ⟨Int.dvd_trans (Int.gcd_dvd_left ..) (Int.gcd_dvd_left ..), Int.dvd_trans (Int.gcd_dvd_left ..) (Int.gcd_dvd_right ..), Int.gcd_dvd_right ..⟩

theorem gcdS2_case {a b : Ab} (ha : Good a) (hb : Good b) : 0 < gcdS (stepS a) [stepS b] ∨ gcdS (stepS a) [stepS b] = 0 ∧ a.lo = a.hi ∧ b.lo = b.hi := by
  by_cases h : gcdS (stepS a) [stepS b] = 0
  · right
    have h1 := Int.gcd_eq_zero_iff.1 (show Int.gcd (stepS a) (stepS b) = 0 by simp only [gcdS] at h; omega)
    exact ⟨h, ha.step_zero.1 h1.1, hb.step_zero.1 h1.2⟩
  · left
    have : 0 ≤ gcdS (stepS a) [stepS b] := by simp only [gcdS]; omega
    omega

theorem add_sound {a b : Ab} {k v w : Int} (ha : Good a) (hb : Good b) (hv : InS a v) (hw : InS b w) : InS (addS a b k) (wrap32 (v + w)) := by
  rw [inS_iff ha] at hv
  rw [inS_iff hb] at hw
  have a2 := ha.h2; have b2 := hb.h2
  obtain ⟨d1, d2⟩ := gcdS_dvd2 (stepS a) (stepS b)
  unfold addS
  refine bounded_in' (by omega) ?_ (by omega) (by omega) ?_
  · rcases gcdS2_case ha hb with h | ⟨h, h1, h2⟩
    · exact Or.inl h
    · exact Or.inr ⟨h, by omega⟩
  · rw [show v + w - (a.lo + b.lo) = (v - a.lo) + (w - b.lo) by omega]
    exact Int.dvd_add (Int.dvd_trans d1 hv.2.2) (Int.dvd_trans d2 hw.2.2)

theorem sub_sound {a b : Ab} {k v w : Int} (ha : Good a) (hb : Good b) (hv : InS a v) (hw : InS b w) : InS (subS a b k) (wrap32 (v - w)) := by
  rw [inS_iff ha] at hv
  rw [inS_iff hb] at hw
  have a2 := ha.h2; have b2 := hb.h2
  obtain ⟨d1, d2⟩ := gcdS_dvd2 (stepS a) (stepS b)
  unfold subS
  refine bounded_in' (by omega) ?_ (by omega) (by omega) ?_
  · rcases gcdS2_case ha hb with h | ⟨h, h1, h2⟩
    · exact Or.inl h
    · exact Or.inr ⟨h, by omega⟩
  · rw [show v - w - (a.lo - b.hi) = (v - a.lo) - (w - b.lo) + (b.hi - b.lo) by omega]
    exact Int.dvd_add (Int.dvd_sub (Int.dvd_trans d1 hv.2.2) (Int.dvd_trans d2 hw.2.2)) (Int.dvd_trans d2 hb.step_dvd)

/-- Products of values are alike modulo the step of the product. -/
theorem mul_like {a b : Ab} {v w : Int} (hv : stepS a ∣ v - a.lo) (hw : stepS b ∣ w - b.lo) :
    gcdS (absS a.lo * stepS b) [absS b.lo * stepS a, stepS a * stepS b] ∣ v * w - a.lo * b.lo := by
  obtain ⟨d1, d2, d3⟩ := gcdS_dvd3 (absS a.lo * stepS b) (absS b.lo * stepS a) (stepS a * stepS b)
  generalize gcdS (absS a.lo * stepS b) [absS b.lo * stepS a, stepS a * stepS b] = g at *
  obtain ⟨i, hi⟩ := hv
  obtain ⟨j, hj⟩ := hw
  have ab : ∀ x y : Int, g ∣ absS x * y → g ∣ x * y := by
    intro x y h
    unfold absS at h
    rcases Int.le_total 0 x with h1 | h1
    · rw [Int.max_eq_left (by omega)] at h; exact h
    · rw [Int.max_eq_right (by omega), Int.neg_mul, Int.dvd_neg] at h; exact h
  have e1 := ab _ _ d1
  have e2 := ab _ _ d2
  have ev : v = a.lo + stepS a * i := by omega
  have ew : w = b.lo + stepS b * j := by omega
  have : v * w - a.lo * b.lo = (a.lo * stepS b) * j + (b.lo * stepS a) * i + (stepS a * stepS b) * (i * j) := by
    rw [ev, ew]
    simp only [Int.mul_add, Int.add_mul, Int.mul_assoc, Int.mul_comm, Int.mul_left_comm]
    omega
  rw [this]
  exact Int.dvd_add (Int.dvd_add (Int.dvd_mul_of_dvd_left e1) (Int.dvd_mul_of_dvd_left e2)) (Int.dvd_mul_of_dvd_left d3)

theorem mul_sound {a b : Ab} {k v w : Int} (ha : Good a) (hb : Good b) (hv : InS a v) (hw : InS b w) : InS (mulS a b k) (wrap32 (v * w)) := by
  rw [inS_iff ha] at hv
  rw [inS_iff hb] at hw
  have a2 := ha.h2; have b2 := hb.h2
  have hh := mul_hull hv.1 hv.2.1 hw.1 hw.2.1
  have m0 := mul_like (a := a) (b := b) hv.2.2 hw.2.2
  have l1 : stepS a ∣ a.lo - a.lo := ⟨0, by omega⟩
  have l2 : stepS b ∣ b.lo - b.lo := ⟨0, by omega⟩
  have m1 := mul_like (a := a) (b := b) l1 l2
  have m2 := mul_like (a := a) (b := b) l1 hb.step_dvd
  have m3 := mul_like (a := a) (b := b) ha.step_dvd l2
  have m4 := mul_like (a := a) (b := b) ha.step_dvd hb.step_dvd
  have hz := mul_zero_case ha hb
  have gn : 0 ≤ gcdS (absS a.lo * stepS b) [absS b.lo * stepS a, stepS a * stepS b] := by simp only [gcdS]; omega
  unfold mulS
  have hle : min (a.lo * b.lo) (min (a.lo * b.hi) (min (a.hi * b.lo) (a.hi * b.hi))) ≤ max (a.lo * b.lo) (max (a.lo * b.hi) (max (a.hi * b.lo) (a.hi * b.hi))) := by omega
  generalize gcdS (absS a.lo * stepS b) [absS b.lo * stepS a, stepS a * stepS b] = g at *
  have hmin : g ∣ min (a.lo * b.lo) (min (a.lo * b.hi) (min (a.hi * b.lo) (a.hi * b.hi))) - a.lo * b.lo := by
    rcases (show min (a.lo * b.lo) (min (a.lo * b.hi) (min (a.hi * b.lo) (a.hi * b.hi))) = a.lo * b.lo ∨ min (a.lo * b.lo) (min (a.lo * b.hi) (min (a.hi * b.lo) (a.hi * b.hi))) = a.lo * b.hi ∨ min (a.lo * b.lo) (min (a.lo * b.hi) (min (a.hi * b.lo) (a.hi * b.hi))) = a.hi * b.lo ∨ min (a.lo * b.lo) (min (a.lo * b.hi) (min (a.hi * b.lo) (a.hi * b.hi))) = a.hi * b.hi by omega) with h | h | h | h <;> rw [h]
    · exact m1
    · exact m2
    · exact m3
    · exact m4
  refine bounded_in' hle ?_ hh.1 hh.2 ?_
  · rcases hz with h | h
    · exact Or.inl h
    · by_cases h0 : 0 < g
      · exact Or.inl h0
      · right
        exact ⟨by omega, h⟩
  · have : v * w - min (a.lo * b.lo) (min (a.lo * b.hi) (min (a.hi * b.lo) (a.hi * b.hi))) = (v * w - a.lo * b.lo) - (min (a.lo * b.lo) (min (a.lo * b.hi) (min (a.hi * b.lo) (a.hi * b.hi))) - a.lo * b.lo) := by omega
    rw [this]
    exact Int.dvd_sub m0 hmin

theorem mk0 : Mk 0 := ⟨by omega, by omega⟩

theorem clamp_good {lo hi k : Int} (h : lo ≤ hi) (hk : Mk k) : Good (clampS lo hi k) := by
  unfold clampS
  split
  · exact by_good (by omega) h (by omega) (by omega) hk
  · exact by_good (by omega) (by omega) (by omega) (by omega) hk

theorem clamp_in {lo hi k x : Int} (h1 : lo ≤ x) (h2 : x ≤ hi) : InS (clampS lo hi k) (wrap32 x) := by
  unfold clampS
  split
  · rw [wrap32_of x (by omega), by_in (by omega) (Or.inl (by omega))]
    exact ⟨h1, h2, ⟨x - lo, by omega⟩⟩
  · have b := wrap32_bd x
    rw [by_in (by omega) (Or.inl (by omega))]
    exact ⟨by omega, by omega, ⟨wrap32 x - -2147483648, by omega⟩⟩

theorem tdiv_mono_pos {x y c : Int} (hc : 0 < c) (h : x ≤ y) : x.tdiv c ≤ y.tdiv c := by
  have e1 := Int.mul_tdiv_add_tmod x c
  have e2 := Int.mul_tdiv_add_tmod y c
  have b1 := tmod_bd x c hc
  have b2 := tmod_bd y c hc
  by_cases hlt : y.tdiv c < x.tdiv c
  · exfalso
    have s1 : 0 ≤ x → 0 ≤ x.tmod c := fun h => Int.tmod_nonneg c h
    have s2 : x ≤ 0 → x.tmod c ≤ 0 := fun h => by
      have := Int.tmod_nonneg c (show 0 ≤ -x by omega)
      rw [Int.neg_tmod] at this; omega
    have t1 : 0 ≤ y → 0 ≤ y.tmod c := fun h => Int.tmod_nonneg c h
    have t2 : y ≤ 0 → y.tmod c ≤ 0 := fun h => by
      have := Int.tmod_nonneg c (show 0 ≤ -y by omega)
      rw [Int.neg_tmod] at this; omega
    have hm : c * (y.tdiv c + 1) ≤ c * x.tdiv c := Int.mul_le_mul_of_nonneg_left (by omega) (by omega)
    rw [Int.mul_add, Int.mul_one] at hm
    rcases Int.le_total 0 x with hx | hx
    · have := s1 hx; omega
    · rcases Int.le_total 0 y with hy | hy
      · have h3 : 0 ≤ y.tdiv c := Int.tdiv_nonneg hy (by omega)
        have h4 : x.tdiv c ≤ 0 := by
          have := Int.tdiv_nonneg (show 0 ≤ -x by omega) (show 0 ≤ c by omega)
          rw [Int.neg_tdiv] at this; omega
        omega
      · have := t2 hy; omega
  · omega

theorem tdiv_hull {p q x c : Int} (h1 : p ≤ x) (h2 : x ≤ q) : min (p.tdiv c) (q.tdiv c) ≤ x.tdiv c ∧ x.tdiv c ≤ max (p.tdiv c) (q.tdiv c) := by
  rcases Int.lt_trichotomy c 0 with h | h | h
  · have e1 := tdiv_mono_pos (c := -c) (by omega) h1
    have e2 := tdiv_mono_pos (c := -c) (by omega) h2
    rw [Int.tdiv_neg, Int.tdiv_neg] at e1 e2
    omega
  · subst h; simp
  · have e1 := tdiv_mono_pos h h1
    have e2 := tdiv_mono_pos h h2
    omega

theorem tmod_facts (v w : Int) : (0 ≤ v → 0 ≤ v.tmod w ∧ v.tmod w ≤ v) ∧ (v ≤ 0 → v ≤ v.tmod w ∧ v.tmod w ≤ 0) ∧ (w ≠ 0 → absS (v.tmod w) < absS w) ∧ w ∣ v - v.tmod w ∧ (absS v < absS w → v.tmod w = v) := by
  have hn := Int.natAbs_tmod v w
  have hle : v.natAbs % w.natAbs ≤ v.natAbs := Nat.mod_le _ _
  have p1 : 0 ≤ v → 0 ≤ v.tmod w := fun h => Int.tmod_nonneg w h
  have p2 : v ≤ 0 → v.tmod w ≤ 0 := fun h => by
    have := Int.tmod_nonneg w (show 0 ≤ -v by omega)
    rw [Int.neg_tmod] at this; omega
  refine ⟨fun h => ⟨p1 h, by have := p1 h; omega⟩, fun h => ⟨by have := p2 h; omega, p2 h⟩, fun h => ?_, ?_, fun h => ?_⟩
  · have := Nat.mod_lt v.natAbs (show 0 < w.natAbs by omega)
    unfold absS; omega
  · have := Int.mul_tdiv_add_tmod v w
    exact ⟨v.tdiv w, by omega⟩
  · have : v.natAbs < w.natAbs := by unfold absS at h; omega
    rw [Nat.mod_eq_of_lt this] at hn
    rcases Int.le_total 0 v with h1 | h1
    · have := p1 h1; omega
    · have := p2 h1; omega

theorem div_good {a b : Ab} {k : Int} (ha : Good a) (hk : Mk k) : Good (divS' a b k) := by
  have a2 := ha.h2
  unfold divS'
  split
  · exact clamp_good (by omega) hk
  · split
    · refine clamp_good ?_ hk
      unfold absS; omega
    · exact clamp_good (by omega) hk

theorem one_of {b : Ab} {w : Int} (hb : Good b) (hs : stepS b = 0) (hw : InS b w) : w = b.lo := by
  have := hb.step_zero.1 hs
  have h1 := hw.1; have h2 := hw.2.1
  omega

theorem div_sound {a b : Ab} {k v w : Int} (ha : Good a) (hb : Good b) (hv : InS a v) (hw : InS b w) : InS (divS' a b k) (if w = 0 then 0 else wrap32 (v.tdiv w)) := by
  have v1 := hv.1; have v2 := hv.2.1
  have hq : (if w = 0 then 0 else wrap32 (v.tdiv w)) = wrap32 (if w = 0 then 0 else v.tdiv w) := by
    split
    · exact (wrap32_of 0 (by omega)).symm
    · rfl
  rw [hq]
  have hbd : absS (v.tdiv w) ≤ absS v := by
    have := Int.natAbs_tdiv_le_natAbs v w
    unfold absS; omega
  unfold divS'
  split
  · rename_i h
    have e := one_of hb h.1 hw
    subst e
    rw [if_neg h.2]
    have := tdiv_hull (c := b.lo) v1 v2
    exact clamp_in this.1 this.2
  · split
    · refine clamp_in ?_ ?_
      · split <;> (unfold absS at *; omega)
      · split <;> (unfold absS at *; omega)
    · have h1 := hw.1
      refine clamp_in ?_ ?_
      · split
        · omega
        · exact Int.tdiv_nonneg (by omega) (by omega)
      · split
        · omega
        · unfold absS at hbd; omega

theorem rem_good {a b : Ab} {k : Int} (ha : Good a) (hb : Good b) (hk : Mk k) : Good (remS a b k) := by
  have a1 := ha.h1; have a2 := ha.h2; have a3 := ha.h3
  have n0 : 0 ≤ absS b.lo := by unfold absS; omega
  unfold remS
  split
  · exact by_good (by omega) (by omega) (by omega) (by omega) hk
  · rename_i hs
    have hs : stepS b = 0 := by omega
    split
    · exact ⟨ha.h1, ha.h2, ha.h3, hk.1, hk.2, ha.h6, ha.h7, ha.h8⟩
    · rename_i hx
      have h4 : absS b.lo ≠ 0 := fun h => hx (Or.inl h)
      have hf := rem_fits ha hs h4 (fun h => hx (Or.inr h))
      have gpos : 0 < gcdS (stepS a) [absS b.lo] := by
        show 0 < (Int.gcd (stepS a) (absS b.lo) : Int)
        have : Int.gcd (stepS a) (absS b.lo) ≠ 0 := fun h => h4 (Int.gcd_eq_zero_iff.1 h).2
        omega
      exact like_good gpos (by omega) hf (by omega) hk

theorem rem_sound {a b : Ab} {k v w : Int} (ha : Good a) (hb : Good b) (hv : InS a v) (hw : InS b w) : InS (remS a b k) (if w = 0 then v else v.tmod w) := by
  have v1 := hv.1; have v2 := hv.2.1
  obtain ⟨t1, t2, t3, t4, t5⟩ := tmod_facts v w
  have n0 : 0 ≤ absS b.lo := by unfold absS; omega
  unfold remS
  split
  · rw [by_in (by omega) (Or.inl (by omega))]
    refine ⟨?_, ?_, Int.one_dvd _⟩
    · split
      · omega
      · rcases Int.le_total 0 v with h | h
        · have := t1 h; omega
        · have := t2 h; omega
    · split
      · omega
      · rcases Int.le_total 0 v with h | h
        · have := t1 h; omega
        · have := t2 h; omega
  · rename_i hs
    have hs : stepS b = 0 := by omega
    have e := one_of hb hs hw
    subst e
    split
    · rename_i hx
      have : (if b.lo = 0 then v else v.tmod b.lo) = v := by
        split
        · rfl
        · rename_i hn
          rcases hx with hx | hx
          · unfold absS at hx; omega
          · exact t5 (by unfold absS at *; omega)
      rw [this]
      exact hv
    · rename_i hx
      have h4 : absS b.lo ≠ 0 := fun h => hx (Or.inl h)
      have hn : b.lo ≠ 0 := fun h => h4 (by rw [h]; rfl)
      have hf := rem_fits ha hs h4 (fun h => hx (Or.inr h))
      have gpos : 0 < gcdS (stepS a) [absS b.lo] := by
        show 0 < (Int.gcd (stepS a) (absS b.lo) : Int)
        have : Int.gcd (stepS a) (absS b.lo) ≠ 0 := fun h => h4 (Int.gcd_eq_zero_iff.1 h).2
        omega
      rw [if_neg hn, like_in gpos hf]
      obtain ⟨d1, d2⟩ := gcdS_dvd2 (stepS a) (absS b.lo)
      have hv3 := ((inS_iff ha v).1 hv).2.2
      have h3 := t3 hn
      have habs : absS b.lo ∣ v - v.tmod b.lo := by
        unfold absS
        rcases Int.le_total 0 b.lo with h | h
        · rw [Int.max_eq_left (by omega)]; exact t4
        · rw [Int.max_eq_right (by omega), Int.neg_dvd]; exact t4
      refine ⟨?_, ?_, ?_⟩
      · rcases Int.le_total 0 v with h | h
        · have := t1 h; unfold absS at *; omega
        · have := t2 h; unfold absS at *; omega
      · rcases Int.le_total 0 v with h | h
        · have := t1 h; unfold absS at *; omega
        · have := t2 h; unfold absS at *; omega
      · rw [show v.tmod b.lo - a.lo = (v - a.lo) - (v - v.tmod b.lo) by omega]
        exact Int.dvd_sub (Int.dvd_trans d1 hv3) (Int.dvd_trans d2 habs)

theorem ends_good (f : Int → Int → Int) {a b : Ab} {k : Int} (ha : Good a) (hb : Good b) (hk : Mk k) (h1 : f a.lo b.lo = a.lo ∨ f a.lo b.lo = b.lo) (h2 : f a.hi b.hi = a.hi ∨ f a.hi b.hi = b.hi) (h3 : f a.lo b.lo ≤ f a.hi b.hi) :
    Good (byS (f a.lo b.lo) (f a.hi b.hi) (joinG (stepS a) (stepS b) (a.lo - b.lo)) k) := by
  have := ha.h1; have := ha.h2; have := ha.h3; have := hb.h1; have := hb.h2; have := hb.h3
  exact by_good (by omega) h3 (by omega) (joinG_nonneg _ _ _) hk

theorem ends_sound (f : Int → Int → Int) {a b : Ab} {k v w : Int} (ha : Good a) (hb : Good b) (hv : InS a v) (hw : InS b w) (hf : ∀ x y, f x y = x ∨ f x y = y) (h3 : f a.lo b.lo ≤ f a.hi b.hi) (h4 : f a.lo b.lo ≤ f v w) (h5 : f v w ≤ f a.hi b.hi) :
    InS (byS (f a.lo b.lo) (f a.hi b.hi) (joinG (stepS a) (stepS b) (a.lo - b.lo)) k) (f v w) := by
  obtain ⟨d1, d2, d3⟩ := joinG_dvds (stepS a) (stepS b) (a.lo - b.lo)
  have z := join_zero ha hb
  have hv3 := Int.dvd_trans d1 ((inS_iff ha v).1 hv).2.2
  have hw3 := Int.dvd_trans d2 ((inS_iff hb w).1 hw).2.2
  have g0 := joinG_nonneg (stepS a) (stepS b) (a.lo - b.lo)
  generalize joinG (stepS a) (stepS b) (a.lo - b.lo) = g at *
  rw [by_in h3 ?_]
  · refine ⟨h4, h5, ?_⟩
    rcases hf a.lo b.lo with e1 | e1 <;> rcases hf v w with e2 | e2 <;> rw [e1, e2]
    · exact hv3
    · rw [show w - a.lo = (w - b.lo) - (a.lo - b.lo) by omega]; exact Int.dvd_sub hw3 d3
    · rw [show v - b.lo = (v - a.lo) + (a.lo - b.lo) by omega]; exact Int.dvd_add hv3 d3
    · exact hw3
  · rcases z with z | z
    · exact Or.inl z
    · by_cases h0 : 0 < g
      · exact Or.inl h0
      · right
        refine ⟨by omega, ?_⟩
        rw [z.1, z.2.1]

/-- What span.Op gives. -/
def opS (op : Int) (a b : Ab) : Ab :=
  if stepS a = 0 ∧ stepS b = 0 then byS (opV op a.lo b.lo) (opV op a.lo b.lo) 0 (orS a.k b.k)
  else if op = 4 then addS a b (orS a.k b.k) else if op = 5 then subS a b (orS a.k b.k) else if op = 6 then mulS a b (orS a.k b.k) else if op = 7 then divS' a b (orS a.k b.k)
  else if op = 8 then remS a b (orS a.k b.k) else if op = 9 then lesserS a b (orS a.k b.k) else greaterS a b (orS a.k b.k)

theorem op_good {op : Int} {a b : Ab} (h1 : 4 ≤ op) (h2 : op ≤ 10) (ha : Good a) (hb : Good b) : Good (opS op a b) := by
  have hk := orS_mk ha.mk' hb.mk'
  have a2 := ha.h2; have b2 := hb.h2
  unfold opS
  split
  · have := opV_bd op a.lo b.lo
    exact by_good (by omega) (by omega) (by omega) (by omega) hk
  split
  · exact bounded_good (by omega) (by simp only [gcdS]; omega) hk
  split
  · exact bounded_good (by omega) (by simp only [gcdS]; omega) hk
  split
  · exact bounded_good (by omega) (by simp only [gcdS]; omega) hk
  split
  · exact div_good ha hk
  split
  · exact rem_good ha hb hk
  split
  · exact ends_good min ha hb hk (by omega) (by omega) (by omega)
  · exact ends_good max ha hb hk (by omega) (by omega) (by omega)

theorem op_sound {op : Int} {a b : Ab} {v w : Int} (h1 : 4 ≤ op) (h2 : op ≤ 10) (ha : Good a) (hb : Good b) (hv : InS a v) (hw : InS b w) : InS (opS op a b) (opV op v w) := by
  have a1 := ha.h1; have a2 := ha.h2; have a3 := ha.h3; have b1 := hb.h1; have b2 := hb.h2; have b3 := hb.h3
  have v1 := hv.1; have v2 := hv.2.1; have w1 := hw.1; have w2 := hw.2.1
  have ev : wrap32 v = v := wrap32_of v (by omega)
  have ew : wrap32 w = w := wrap32_of w (by omega)
  unfold opS
  split
  · rename_i h
    have e1 := one_of ha h.1 hv
    have e2 := one_of hb h.2 hw
    subst e1 e2
    rw [by_in (by omega) (Or.inr ⟨rfl, rfl⟩)]
    exact ⟨by omega, by omega, ⟨0, by omega⟩⟩
  unfold opV
  rw [ev, ew]
  split
  · rename_i h; subst h; exact add_sound ha hb hv hw
  split
  · rename_i h; subst h; exact sub_sound ha hb hv hw
  split
  · rename_i h; subst h; exact mul_sound ha hb hv hw
  split
  · rename_i h; subst h; exact div_sound ha hb hv hw
  split
  · rename_i h; subst h
    have : (if w = 0 then v else wrap32 (v.tmod w)) = if w = 0 then v else v.tmod w := by
      split
      · rfl
      · obtain ⟨t1, t2, -⟩ := tmod_facts v w
        refine wrap32_of _ ?_
        rcases Int.le_total 0 v with h | h
        · have := t1 h; omega
        · have := t2 h; omega
    rw [this]
    exact rem_sound ha hb hv hw
  split
  · exact ends_sound min ha hb hv hw (fun x y => by omega) (by omega) (by omega) (by omega)
  · rename_i h4 h5 h6 h7 h8 h9
    rw [if_pos (by omega)]
    exact ends_sound max ha hb hv hw (fun x y => by omega) (by omega) (by omega) (by omega)

/-- Products of steps that fit. -/
structure MulOk (a b : Ab) : Prop where
  hs : stepS a * stepS b ≤ 9223372036854775807
  hg1 : absS a.lo * stepS b ≤ 9223372036854775807
  hg2 : absS b.lo * stepS a ≤ 9223372036854775807

theorem step_small {a : Ab} (h : Good a) (hm : a.m ≤ 1048576) : 0 ≤ stepS a ∧ stepS a ≤ 1048576 := by
  have := h.h6
  unfold stepS
  split <;> omega

theorem mulOk_small {a b : Ab} (ha : Good a) (hb : Good b) (ma : a.m ≤ 1048576) (mb : b.m ≤ 1048576) : MulOk a b := by
  have s1 := step_small ha ma; have s2 := step_small hb mb
  have a1 := ha.h1; have a2 := ha.h2; have a3 := ha.h3; have b1 := hb.h1; have b2 := hb.h2; have b3 := hb.h3
  have n1 : 0 ≤ absS a.lo ∧ absS a.lo ≤ 2147483648 := by unfold absS; omega
  have n2 : 0 ≤ absS b.lo ∧ absS b.lo ≤ 2147483648 := by unfold absS; omega
  have p1 : stepS a * stepS b ≤ 1048576 * 1048576 := Int.mul_le_mul s1.2 s2.2 s2.1 (by omega)
  have p2 : absS a.lo * stepS b ≤ 2147483648 * 1048576 := Int.mul_le_mul n1.2 s2.2 s2.1 (by omega)
  have p3 : absS b.lo * stepS a ≤ 2147483648 * 1048576 := Int.mul_le_mul n2.2 s1.2 s1.1 (by omega)
  exact ⟨by omega, by omega, by omega⟩

theorem at_in {a : Ab} (ha : Good a) (n : Int) : InS a (atS a n) := by
  have a6 := ha.h6
  obtain ⟨P1, P2, -⟩ := at_fits (n := n) ha.h2 (show 0 < a.m by omega)
  unfold atS
  refine ⟨by omega, by omega, ?_⟩
  rw [show a.lo + n % ((a.hi - a.lo).tdiv a.m + 1) * a.m - a.lo = n % ((a.hi - a.lo).tdiv a.m + 1) * a.m by omega]
  exact Int.mul_emod_left _ _

theorem bounded_k (lo hi m k : Int) : (boundedS lo hi m k).k = k := by
  unfold boundedS
  split
  · exact by_k ..
  · exact by_k ..

theorem op_k (op : Int) (a b : Ab) : (opS op a b).k = orS a.k b.k := by
  unfold opS
  split
  · exact by_k ..
  split
  · exact bounded_k ..
  split
  · exact bounded_k ..
  split
  · exact bounded_k ..
  split
  · unfold divS' clampS
    repeat' split
    all_goals exact by_k ..
  split
  · unfold remS
    split
    · exact by_k ..
    · split
      · rfl
      · exact by_k ..
  split
  · exact by_k ..
  · exact by_k ..

theorem notS_iff {a b : Int} : notS a b = 0 ↔ Sub a b := by
  constructor
  · intro h
    have h' : IntKind.i64.wrap ((BitVec.ofInt 64 a &&& ~~~ BitVec.ofInt 64 b).toNat : Int) = 0 := h
    have h2 := congrArg (BitVec.ofInt 64) h'
    rw [ofInt_wrap, ofInt_toNat] at h2
    exact h2
  · exact sub_not

theorem ofInt_mk {a : Int} (h : Mk a) : ((BitVec.ofInt 64 a).toNat : Int) = a := by
  obtain ⟨n, hn, rfl⟩ := h.nat
  rw [ofInt_nat n hn]

theorem sub_or_iff {a b : Int} (ha : Mk a) (hb : Mk b) : orS a b = b ↔ Sub a b := by
  constructor
  · intro h
    have h2 := congrArg (BitVec.ofInt 64) h
    rw [or_bv] at h2
    unfold Sub
    ext i hi
    have h3 := congrArg (fun z : BitVec 64 => z[i]) h2
    simp at h3 ⊢
    exact h3
  · intro h
    have h2 : BitVec.ofInt 64 (orS a b) = BitVec.ofInt 64 b := by
      rw [or_bv]
      ext i hi
      have h3 := congrArg (fun z : BitVec 64 => z[i]) h
      simp at h3 ⊢
      exact h3
    rw [← ofInt_mk (orS_mk ha hb), h2, ofInt_mk hb]

/-- What it is that one set is in another one. -/
theorem leq_iff {a b : Ab} (ha : Good a) (hb : Good b) : joinS a b = b ↔ b.lo ≤ a.lo ∧ a.hi ≤ b.hi ∧ stepS b ∣ stepS a ∧ stepS b ∣ a.lo - b.lo ∧ Sub a.k b.k := by
  obtain ⟨g, l, h, s, k⟩ := join_parts ha hb
  have hs0 := hb.step0
  constructor
  · intro e
    rw [e] at l h s k
    obtain ⟨d1, d2, d3⟩ := joinG_dvds (stepS a) (stepS b) (a.lo - b.lo)
    rw [← s] at d1 d2 d3
    exact ⟨by omega, by omega, d1, d3, (sub_or_iff ha.mk' hb.mk').1 k.symm⟩
  · rintro ⟨h1, h2, h3, h4, h5⟩
    refine Good.ext g hb (by omega) (by omega) ?_ (by rw [k]; exact (sub_or_iff ha.mk' hb.mk').2 h5)
    rw [s]
    refine eq_of_dvd (joinG_nonneg _ _ _) hs0.1 fun n => ?_
    rw [dvd_joinG]
    exact ⟨fun h => h.2.1, fun h => ⟨Int.dvd_trans h h3, h, Int.dvd_trans h h4⟩⟩

theorem lo_in {a : Ab} (h : Good a) : InS a a.lo := (inS_iff h _).2 ⟨Int.le_refl _, h.h2, ⟨0, by omega⟩⟩

theorem hi_in {a : Ab} (h : Good a) : InS a a.hi := (inS_iff h _).2 ⟨h.h2, Int.le_refl _, h.step_dvd⟩

/-- The set's second value; its only one, if it has no other. -/
def secS (a : Ab) : Int := a.lo + stepS a

theorem sec_in {a : Ab} (h : Good a) : InS a (secS a) := by
  have h6 := h.h6
  rw [inS_iff h]
  unfold secS
  refine ⟨by have := h.step0; omega, ?_, ⟨1, by omega⟩⟩
  unfold stepS
  split
  · omega
  · have := (h.h8 ‹_›).1; omega

theorem leq_three {a b : Ab} (ha : Good a) (hb : Good b) (h1 : InS b a.lo) (h2 : InS b (secS a)) (h3 : InS b a.hi) (hk : Sub a.k b.k) : joinS a b = b := by
  rw [inS_iff hb] at h1 h2 h3
  rw [leq_iff ha hb]
  refine ⟨h1.1, h3.2.1, ?_, h1.2.2, hk⟩
  have : stepS a = (secS a - b.lo) - (a.lo - b.lo) := by unfold secS; omega
  rw [this]
  exact Int.dvd_sub h2.2.2 h1.2.2

theorem leq_incl {a b : Ab} (ha : Good a) (hb : Good b) (h : ∀ v, InS a v → InS b v) (hk : Sub a.k b.k) : joinS a b = b :=
  leq_three ha hb (h _ (lo_in ha)) (h _ (sec_in ha)) (h _ (hi_in ha)) hk

theorem leq_in {a b : Ab} (ha : Good a) (hb : Good b) (h : joinS a b = b) {v : Int} (hv : InS a v) : InS b v := by
  rw [leq_iff ha hb] at h
  rw [inS_iff ha] at hv
  rw [inS_iff hb]
  refine ⟨by omega, by omega, ?_⟩
  rw [show v - b.lo = (v - a.lo) + (a.lo - b.lo) by omega]
  exact Int.dvd_add (Int.dvd_trans h.2.2.1 hv.2.2) h.2.2.2.1

theorem leq_anti {a b : Ab} (ha : Good a) (hb : Good b) (h : joinS a b = b) (k : joinS b a = a) : a = b := by
  rw [join_comm hb ha, h] at k
  exact k.symm

theorem by_mono {lo hi m k lo' hi' m' k' v : Int} (h : lo ≤ hi) (h' : lo' ≤ hi') (hm : 0 < m ∨ m = 0 ∧ lo = hi) (hm' : 0 < m' ∨ m' = 0 ∧ lo' = hi') (h1 : lo' ≤ lo) (h2 : hi ≤ hi') (d1 : m' ∣ m) (d2 : m' ∣ lo - lo')
    (hv : InS (byS lo hi m k) v) : InS (byS lo' hi' m' k') v := by
  rw [by_in h hm] at hv
  rw [by_in h' hm']
  refine ⟨by omega, by omega, ?_⟩
  rw [show v - lo' = (v - lo) + (lo - lo') by omega]
  exact Int.dvd_add (Int.dvd_trans d1 hv.2.2) d2

theorem bounded_mono {lo hi m k lo' hi' m' k' v : Int} (h : lo ≤ hi) (h' : lo' ≤ hi') (hm : 0 < m ∨ m = 0 ∧ lo = hi) (hm' : 0 < m' ∨ m' = 0 ∧ lo' = hi') (h1 : lo' ≤ lo) (h2 : hi ≤ hi') (d1 : m' ∣ m) (d2 : m' ∣ lo - lo')
    (hv : InS (boundedS lo hi m k) v) : InS (boundedS lo' hi' m' k') v := by
  obtain ⟨g1, g2, g3, g4⟩ := g32 m
  obtain ⟨e1, e2, e3, e4⟩ := g32 m'
  have hf : ∀ (g l : Int), 0 < g → g ≤ 4294967296 → -2147483648 + (l - -2147483648) % g ≤ 2147483647 := by
    intro g l q1 q2
    have := Int.emod_lt_of_pos (l - -2147483648) q1
    omega
  unfold boundedS at *
  by_cases c' : -2147483648 ≤ lo' ∧ lo' ≤ 2147483647 ∧ -2147483648 ≤ hi' ∧ hi' ≤ 2147483647
  · have c : -2147483648 ≤ lo ∧ lo ≤ 2147483647 ∧ -2147483648 ≤ hi ∧ hi ≤ 2147483647 := by omega
    rw [if_pos c] at hv
    rw [if_pos c']
    exact by_mono h h' hm hm' h1 h2 d1 d2 hv
  · rw [if_neg c', like_in e1 (hf _ _ e1 e2)]
    by_cases c : -2147483648 ≤ lo ∧ lo ≤ 2147483647 ∧ -2147483648 ≤ hi ∧ hi ≤ 2147483647
    · rw [if_pos c, by_in h hm] at hv
      refine ⟨by omega, by omega, ?_⟩
      rw [show v - lo' = (v - lo) + (lo - lo') by omega]
      exact Int.dvd_add (Int.dvd_trans e4 (Int.dvd_trans d1 hv.2.2)) (Int.dvd_trans e4 d2)
    · rw [if_neg c, like_in g1 (hf _ _ g1 g2)] at hv
      refine ⟨by omega, by omega, ?_⟩
      have hg : (Int.gcd 4294967296 m' : Int) ∣ (Int.gcd 4294967296 m : Int) := Int.dvd_coe_gcd e3 (Int.dvd_trans e4 d1)
      rw [show v - lo' = (v - lo) + (lo - lo') by omega]
      exact Int.dvd_add (Int.dvd_trans hg hv.2.2) (Int.dvd_trans e4 d2)

theorem sub_or_left {a b c : Int} (h : Sub a b) : Sub (orS a c) (orS b c) := sub_or h (sub_self c)

/-- The parts of 'a is in b'. -/
structure Le (a b : Ab) : Prop where
  l : b.lo ≤ a.lo
  h : a.hi ≤ b.hi
  s : stepS b ∣ stepS a
  d : stepS b ∣ a.lo - b.lo
  k : Sub a.k b.k

theorem le_of {a b : Ab} (ha : Good a) (hb : Good b) (h : joinS a b = b) : Le a b := by
  obtain ⟨h1, h2, h3, h4, h5⟩ := (leq_iff ha hb).1 h
  exact ⟨h1, h2, h3, h4, h5⟩

theorem Le.hd {a b : Ab} (ha : Good a) (h : Le a b) : stepS b ∣ a.hi - b.lo := by
  rw [show a.hi - b.lo = (a.hi - a.lo) + (a.lo - b.lo) by omega]
  exact Int.dvd_add (Int.dvd_trans h.s ha.step_dvd) h.d

theorem gcdS_dvd {n x y : Int} (h1 : n ∣ x) (h2 : n ∣ y) : n ∣ gcdS x [y] := Int.dvd_coe_gcd h1 h2

theorem gcdS_dvd3' {n x y z : Int} (h1 : n ∣ x) (h2 : n ∣ y) (h3 : n ∣ z) : n ∣ gcdS x [y, z] := Int.dvd_coe_gcd (Int.dvd_coe_gcd h1 h2) h3

theorem g2_case {a c : Ab} (ha : Good a) (hc : Good c) {lo hi : Int} (h : a.lo = a.hi → c.lo = c.hi → lo = hi) : 0 < gcdS (stepS a) [stepS c] ∨ gcdS (stepS a) [stepS c] = 0 ∧ lo = hi := by
  rcases gcdS2_case ha hc with q | ⟨q, q1, q2⟩
  · exact Or.inl q
  · exact Or.inr ⟨q, h q1 q2⟩

theorem add_mono {a b c : Ab} {k k' v : Int} (ha : Good a) (hb : Good b) (hc : Good c) (h : Le a b) (hv : InS (addS a c k) v) : InS (addS b c k') v := by
  have a2 := ha.h2; have b2 := hb.h2; have c2 := hc.h2
  have hl := h.l; have hh := h.h
  obtain ⟨d1, d2⟩ := gcdS_dvd2 (stepS b) (stepS c)
  refine bounded_mono (by omega) (by omega) (g2_case ha hc (by omega)) (g2_case hb hc (by omega)) (by omega) (by omega) (gcdS_dvd (Int.dvd_trans d1 h.s) d2) ?_ hv
  rw [show a.lo + c.lo - (b.lo + c.lo) = a.lo - b.lo by omega]
  exact Int.dvd_trans d1 h.d

theorem sub_mono {a b c : Ab} {k k' v : Int} (ha : Good a) (hb : Good b) (hc : Good c) (h : Le a b) (hv : InS (subS a c k) v) : InS (subS b c k') v := by
  have a2 := ha.h2; have b2 := hb.h2; have c2 := hc.h2
  have hl := h.l; have hh := h.h
  obtain ⟨d1, d2⟩ := gcdS_dvd2 (stepS b) (stepS c)
  refine bounded_mono (by omega) (by omega) (g2_case ha hc (by omega)) (g2_case hb hc (by omega)) (by omega) (by omega) (gcdS_dvd (Int.dvd_trans d1 h.s) d2) ?_ hv
  rw [show a.lo - c.hi - (b.lo - c.hi) = a.lo - b.lo by omega]
  exact Int.dvd_trans d1 h.d

theorem abs_dvd_mul {n x y : Int} (h : n ∣ absS x * y) : n ∣ x * y := by
  unfold absS at h
  rcases Int.le_total 0 x with h1 | h1
  · rw [Int.max_eq_left (by omega)] at h; exact h
  · rw [Int.max_eq_right (by omega), Int.neg_mul, Int.dvd_neg] at h; exact h

theorem dvd_abs_mul {n x y : Int} (h : n ∣ x * y) : n ∣ absS x * y := by
  unfold absS
  rcases Int.le_total 0 x with h1 | h1
  · rw [Int.max_eq_left (by omega)]; exact h
  · rw [Int.max_eq_right (by omega), Int.neg_mul, Int.dvd_neg]; exact h

theorem mul_case {a b : Ab} (ha : Good a) (hb : Good b) : 0 < gcdS (absS a.lo * stepS b) [absS b.lo * stepS a, stepS a * stepS b] ∨ gcdS (absS a.lo * stepS b) [absS b.lo * stepS a, stepS a * stepS b] = 0 ∧
    min (a.lo * b.lo) (min (a.lo * b.hi) (min (a.hi * b.lo) (a.hi * b.hi))) = max (a.lo * b.lo) (max (a.lo * b.hi) (max (a.hi * b.lo) (a.hi * b.hi))) := by
  have gn : 0 ≤ gcdS (absS a.lo * stepS b) [absS b.lo * stepS a, stepS a * stepS b] := by simp only [gcdS]; omega
  rcases mul_zero_case ha hb with h | h
  · exact Or.inl h
  · by_cases h0 : 0 < gcdS (absS a.lo * stepS b) [absS b.lo * stepS a, stepS a * stepS b]
    · exact Or.inl h0
    · exact Or.inr ⟨by omega, h⟩

theorem mul_mono {a b c : Ab} {k k' v : Int} (ha : Good a) (hb : Good b) (hc : Good c) (h : Le a b) (hv : InS (mulS a c k) v) : InS (mulS b c k') v := by
  have a2 := ha.h2; have b2 := hb.h2; have c2 := hc.h2
  have hl := h.l; have hh := h.h
  have l2 : stepS c ∣ c.lo - c.lo := ⟨0, by omega⟩
  have m1 := mul_like (a := b) (b := c) h.d l2
  have m2 := mul_like (a := b) (b := c) h.d hc.step_dvd
  have m3 := mul_like (a := b) (b := c) (h.hd ha) l2
  have m4 := mul_like (a := b) (b := c) (h.hd ha) hc.step_dvd
  have n1 := mul_like (a := b) (b := c) (v := b.lo) (w := c.lo) ⟨0, by omega⟩ l2
  have n2 := mul_like (a := b) (b := c) (v := b.lo) ⟨0, by omega⟩ hc.step_dvd
  have n3 := mul_like (a := b) (b := c) hb.step_dvd l2
  have n4 := mul_like (a := b) (b := c) hb.step_dvd hc.step_dvd
  have u1 := mul_hull (x := a.lo) (y := c.lo) hl (by omega : a.lo ≤ b.hi) (Int.le_refl c.lo) c2
  have u2 := mul_hull (x := a.lo) (y := c.hi) hl (by omega : a.lo ≤ b.hi) c2 (Int.le_refl c.hi)
  have u3 := mul_hull (x := a.hi) (y := c.lo) (by omega : b.lo ≤ a.hi) hh (Int.le_refl c.lo) c2
  have u4 := mul_hull (x := a.hi) (y := c.hi) (by omega : b.lo ≤ a.hi) hh c2 (Int.le_refl c.hi)
  obtain ⟨d1, d2, d3⟩ := gcdS_dvd3 (absS b.lo * stepS c) (absS c.lo * stepS b) (stepS b * stepS c)
  have hg : gcdS (absS b.lo * stepS c) [absS c.lo * stepS b, stepS b * stepS c] ∣ gcdS (absS a.lo * stepS c) [absS c.lo * stepS a, stepS a * stepS c] := by
    obtain ⟨t, ht⟩ := h.s
    obtain ⟨r, hr⟩ := h.d
    refine gcdS_dvd3' (dvd_abs_mul ?_) ?_ ?_
    · have : a.lo * stepS c = b.lo * stepS c + (stepS b * stepS c) * r := by
        rw [show a.lo = b.lo + stepS b * r by omega, Int.add_mul, Int.mul_assoc, Int.mul_comm r, ← Int.mul_assoc]
      rw [this]
      exact Int.dvd_add (abs_dvd_mul d1) (Int.dvd_mul_of_dvd_left d3)
    · rw [ht, ← Int.mul_assoc]; exact Int.dvd_mul_of_dvd_left d2
    · rw [ht, Int.mul_assoc, Int.mul_comm t, ← Int.mul_assoc]; exact Int.dvd_mul_of_dvd_left d3
  have ca := mul_case ha hc
  have cb := mul_case hb hc
  unfold mulS at *
  generalize gcdS (absS b.lo * stepS c) [absS c.lo * stepS b, stepS b * stepS c] = g' at *
  generalize gcdS (absS a.lo * stepS c) [absS c.lo * stepS a, stepS a * stepS c] = g at *
  generalize b.lo * c.lo = B1 at *
  generalize b.lo * c.hi = B2 at *
  generalize b.hi * c.lo = B3 at *
  generalize b.hi * c.hi = B4 at *
  generalize a.lo * c.lo = A1 at *
  generalize a.lo * c.hi = A2 at *
  generalize a.hi * c.lo = A3 at *
  generalize a.hi * c.hi = A4 at *
  have pick : ∀ (X : Int), (g' ∣ A1 - X) → (g' ∣ A2 - X) → (g' ∣ A3 - X) → (g' ∣ A4 - X) → g' ∣ min A1 (min A2 (min A3 A4)) - X := by
    intro X p1 p2 p3 p4
    rcases (show min A1 (min A2 (min A3 A4)) = A1 ∨ min A1 (min A2 (min A3 A4)) = A2 ∨ min A1 (min A2 (min A3 A4)) = A3 ∨ min A1 (min A2 (min A3 A4)) = A4 by omega) with q | q | q | q <;> rw [q]
    · exact p1
    · exact p2
    · exact p3
    · exact p4
  have pA := pick B1 m1 m2 m3 m4
  have pB : g' ∣ min B1 (min B2 (min B3 B4)) - B1 := by
    rcases (show min B1 (min B2 (min B3 B4)) = B1 ∨ min B1 (min B2 (min B3 B4)) = B2 ∨ min B1 (min B2 (min B3 B4)) = B3 ∨ min B1 (min B2 (min B3 B4)) = B4 by omega) with q | q | q | q <;> rw [q]
    · exact n1
    · exact n2
    · exact n3
    · exact n4
  refine bounded_mono (by omega) (by omega) ca cb (by omega) (by omega) hg ?_ hv
  rw [show min A1 (min A2 (min A3 A4)) - min B1 (min B2 (min B3 B4)) = (min A1 (min A2 (min A3 A4)) - B1) - (min B1 (min B2 (min B3 B4)) - B1) by omega]
  exact Int.dvd_sub pA pB

theorem joinG_dvd {n x y d : Int} (h1 : n ∣ x) (h2 : n ∣ y) (h3 : n ∣ d) : n ∣ joinG x y d := by
  refine gcdS_dvd3' h1 h2 ?_
  unfold absS
  rcases Int.le_total 0 d with h | h
  · rw [Int.max_eq_left (by omega)]; exact h3
  · rw [Int.max_eq_right (by omega), Int.dvd_neg]; exact h3

theorem joinG_case {a b : Ab} (ha : Good a) (hb : Good b) (f : Int → Int → Int) : 0 < joinG (stepS a) (stepS b) (a.lo - b.lo) ∨ joinG (stepS a) (stepS b) (a.lo - b.lo) = 0 ∧ f a.lo b.lo = f a.hi b.hi := by
  have := joinG_nonneg (stepS a) (stepS b) (a.lo - b.lo)
  rcases join_zero ha hb with h | ⟨h1, h2, h3⟩
  · exact Or.inl h
  · by_cases h0 : 0 < joinG (stepS a) (stepS b) (a.lo - b.lo)
    · exact Or.inl h0
    · exact Or.inr ⟨by omega, by rw [h1, h2]⟩

theorem min_mono {a b c : Ab} {k k' v : Int} (ha : Good a) (hb : Good b) (hc : Good c) (h : Le a b) (hv : InS (lesserS a c k) v) : InS (lesserS b c k') v := by
  have a2 := ha.h2; have b2 := hb.h2; have c2 := hc.h2
  have hl := h.l; have hh := h.h
  obtain ⟨d1, d2, d3⟩ := joinG_dvds (stepS b) (stepS c) (b.lo - c.lo)
  have ca := joinG_case ha hc min
  have cb := joinG_case hb hc min
  have hg : joinG (stepS b) (stepS c) (b.lo - c.lo) ∣ joinG (stepS a) (stepS c) (a.lo - c.lo) := by
    refine joinG_dvd (Int.dvd_trans d1 h.s) d2 ?_
    rw [show a.lo - c.lo = (a.lo - b.lo) + (b.lo - c.lo) by omega]
    exact Int.dvd_add (Int.dvd_trans d1 h.d) d3
  have e1 := Int.dvd_trans d1 h.d
  unfold lesserS at *
  generalize joinG (stepS b) (stepS c) (b.lo - c.lo) = g' at *
  generalize joinG (stepS a) (stepS c) (a.lo - c.lo) = g at *
  refine by_mono (by omega) (by omega) ca cb (by omega) (by omega) hg ?_ hv
  rcases Int.le_total a.lo c.lo with h1 | h1 <;> rcases Int.le_total b.lo c.lo with h2 | h2
  · rw [Int.min_eq_left h1, Int.min_eq_left h2]; exact e1
  · rw [Int.min_eq_left h1, Int.min_eq_right h2, show a.lo - c.lo = (a.lo - b.lo) + (b.lo - c.lo) by omega]; exact Int.dvd_add e1 d3
  · rw [Int.min_eq_right h1, Int.min_eq_left h2, show c.lo - b.lo = -(b.lo - c.lo) by omega, Int.dvd_neg]; exact d3
  · rw [Int.min_eq_right h1, Int.min_eq_right h2]; exact ⟨0, by omega⟩

theorem max_mono {a b c : Ab} {k k' v : Int} (ha : Good a) (hb : Good b) (hc : Good c) (h : Le a b) (hv : InS (greaterS c a k) v) : InS (greaterS c b k') v := by
  have a2 := ha.h2; have b2 := hb.h2; have c2 := hc.h2
  have hl := h.l; have hh := h.h
  obtain ⟨d1, d2, d3⟩ := joinG_dvds (stepS c) (stepS b) (c.lo - b.lo)
  have ca := joinG_case hc ha max
  have cb := joinG_case hc hb max
  have hg : joinG (stepS c) (stepS b) (c.lo - b.lo) ∣ joinG (stepS c) (stepS a) (c.lo - a.lo) := by
    refine joinG_dvd d1 (Int.dvd_trans d2 h.s) ?_
    rw [show c.lo - a.lo = (c.lo - b.lo) - (a.lo - b.lo) by omega]
    exact Int.dvd_sub d3 (Int.dvd_trans d2 h.d)
  have e1 := Int.dvd_trans d2 h.d
  unfold greaterS at *
  generalize joinG (stepS c) (stepS b) (c.lo - b.lo) = g' at *
  generalize joinG (stepS c) (stepS a) (c.lo - a.lo) = g at *
  refine by_mono (by omega) (by omega) ca cb (by omega) (by omega) hg ?_ hv
  rcases Int.le_total a.lo c.lo with h1 | h1 <;> rcases Int.le_total b.lo c.lo with h2 | h2
  · rw [Int.max_eq_left h1, Int.max_eq_left h2]; exact ⟨0, by omega⟩
  · rw [Int.max_eq_left h1, Int.max_eq_right h2]; exact d3
  · rw [Int.max_eq_right h1, Int.max_eq_left h2, show a.lo - c.lo = (a.lo - b.lo) - (c.lo - b.lo) by omega]; exact Int.dvd_sub e1 d3
  · rw [Int.max_eq_right h1, Int.max_eq_right h2]; exact e1

theorem op_mono {op : Int} {a b c : Ab} (ho : op = 4 ∨ op = 5 ∨ op = 6 ∨ op = 9) (ha : Good a) (hb : Good b) (hc : Good c) (h : joinS a b = b) : joinS (opS op a c) (opS op b c) = opS op b c := by
  have hle := le_of ha hb h
  refine leq_incl (op_good (by omega) (by omega) ha hc) (op_good (by omega) (by omega) hb hc) (fun v hv => ?_) (by rw [op_k, op_k]; exact sub_or_left hle.k)
  by_cases hs : stepS a = 0 ∧ stepS c = 0
  · have e : opS op a c = byS (opV op a.lo c.lo) (opV op a.lo c.lo) 0 (orS a.k c.k) := by unfold opS; rw [if_pos hs]
    rw [e, by_in (Int.le_refl _) (Or.inr ⟨rfl, rfl⟩)] at hv
    obtain rfl : v = opV op a.lo c.lo := by omega
    exact op_sound (by omega) (by omega) hb hc (leq_in ha hb h (lo_in ha)) (lo_in hc)
  · have hs' : ¬ (stepS b = 0 ∧ stepS c = 0) := fun q => hs ⟨by have := hle.s; rw [q.1] at this; exact Int.zero_dvd.1 this, q.2⟩
    unfold opS at *
    rw [if_neg hs] at hv
    rw [if_neg hs']
    rcases ho with rfl | rfl | rfl | rfl
    · exact add_mono ha hb hc hle hv
    · exact sub_mono ha hb hc hle hv
    · exact mul_mono ha hb hc hle hv
    · exact min_mono ha hb hc hle hv

theorem op10_mono {a b c : Ab} (ha : Good a) (hb : Good b) (hc : Good c) (h : joinS a b = b) : joinS (opS 10 c a) (opS 10 c b) = opS 10 c b := by
  have hle := le_of ha hb h
  refine leq_incl (op_good (by omega) (by omega) hc ha) (op_good (by omega) (by omega) hc hb) (fun v hv => ?_) (by rw [op_k, op_k]; exact sub_or (sub_self _) hle.k)
  by_cases hs : stepS c = 0 ∧ stepS a = 0
  · have e : opS 10 c a = byS (opV 10 c.lo a.lo) (opV 10 c.lo a.lo) 0 (orS c.k a.k) := by unfold opS; rw [if_pos hs]
    rw [e, by_in (Int.le_refl _) (Or.inr ⟨rfl, rfl⟩)] at hv
    obtain rfl : v = opV 10 c.lo a.lo := by omega
    exact op_sound (by omega) (by omega) hc hb (lo_in hc) (leq_in ha hb h (lo_in ha))
  · have hs' : ¬ (stepS c = 0 ∧ stepS b = 0) := fun q => hs ⟨q.1, by have := hle.s; rw [q.2] at this; exact Int.zero_dvd.1 this⟩
    unfold opS at *
    rw [if_neg hs] at hv
    rw [if_neg hs']
    exact max_mono ha hb hc hle hv

/-- The words by which the law tests it. -/
theorem at_zero {a : Ab} (ha : Good a) : atS a 0 = a.lo := by
  have a6 := ha.h6
  obtain ⟨P1, P2, P3, P4, P5⟩ := at_fits (n := 0) ha.h2 (show 0 < a.m by omega)
  unfold atS
  rw [Int.zero_emod]; omega

theorem at_one {a : Ab} (ha : Good a) : atS a 1 = secS a := by
  have a6 := ha.h6
  have a2 := ha.h2
  unfold atS secS stepS
  rw [Int.tdiv_eq_ediv_of_nonneg (show 0 ≤ a.hi - a.lo by omega)]
  by_cases he : a.lo = a.hi
  · rw [if_pos he, show a.hi - a.lo = 0 by omega, Int.zero_ediv]
    simp
  · rw [if_neg he]
    have h8 := ha.h8 he
    have : 1 ≤ (a.hi - a.lo) / a.m := (Int.le_ediv_iff_mul_le (by omega)).2 (by omega)
    rw [Int.emod_eq_of_lt (by omega) (by omega)]
    omega

theorem at_last {a : Ab} (ha : Good a) : atS a (-1) = a.hi := by
  have a6 := ha.h6
  have a2 := ha.h2
  unfold atS
  rw [Int.tdiv_eq_ediv_of_nonneg (show 0 ≤ a.hi - a.lo by omega)]
  have q0 : 0 ≤ (a.hi - a.lo) / a.m := Int.ediv_nonneg (by omega) (by omega)
  have e := Int.mul_ediv_add_emod (a.hi - a.lo) a.m
  have hz : (a.hi - a.lo) % a.m = 0 := by
    by_cases he : a.lo = a.hi
    · rw [show a.hi - a.lo = 0 by omega]; simp
    · exact (ha.h8 he).2.1
  generalize (a.hi - a.lo) / a.m = q at *
  have : (-1 : Int) % (q + 1) = q := by
    rw [show (-1 : Int) = q + (q + 1) * (-1) by omega, Int.add_mul_emod_self_left]
    exact Int.emod_eq_of_lt q0 (by omega)
  rw [this, Int.mul_comm]
  omega

theorem and255 {k : Int} (hk : Mk k) : andS 255 k = k := by
  obtain ⟨n, hn, rfl⟩ := hk.nat
  show IntKind.i64.wrap ((BitVec.ofInt 64 255 &&& BitVec.ofInt 64 (n : Int)).toNat : Int) = _
  rw [BitVec.toNat_and, ofInt_nat n hn, show (BitVec.ofInt 64 255).toNat = 2 ^ 8 - 1 from by decide, Nat.and_comm, Nat.and_two_pow_sub_one_eq_mod, Nat.mod_eq_of_lt (by omega)]
  exact IntWalk.i64_in _ (by omega)

theorem order_tests {a b : Ab} (ha : Good a) (hb : Good b) : leqS a b = (((decide (InS b a.lo ∧ notS a.k b.k = 0) && decide (InS b (secS a) ∧ notS a.k b.k = 0)) && decide (InS b a.hi ∧ notS a.k b.k = 0)) && decide (notS a.k b.k = 0)) := by
  unfold leqS
  rw [Bool.eq_iff_iff]
  simp only [decide_eq_true_eq, Bool.and_eq_true, notS_iff]
  constructor
  · intro h
    have k := (le_of ha hb h).k
    exact ⟨⟨⟨⟨leq_in ha hb h (lo_in ha), k⟩, leq_in ha hb h (sec_in ha), k⟩, leq_in ha hb h (hi_in ha), k⟩, k⟩
  · rintro ⟨⟨⟨⟨h1, k⟩, h2, -⟩, h3, -⟩, -⟩
    exact leq_three ha hb h1 h2 h3 k

end Go.Proofs.Ytioiffbnbjalcaa
