/- Words of 64 bits: masks, shifts, lengths, dividing 128 bits by 64. For every program. Low bits of signed numbers. For every program. -/
import Derived.Test.YtglfbdicclepcaaEvU
import Derived.Lib.Mul64
set_option linter.unusedVariables false
set_option linter.unusedSimpArgs false
namespace Go.Proofs.Ytglfbdicclepcaa
set_option maxRecDepth 100000
section
open Go.RowKit

theorem wrapU (x : Int) : IntKind.u64.wrap x = x % 18446744073709551616 := by simp [IntKind.wrap, IntKind.bits, IntKind.signed]
theorem ofInt_u {x : Int} (h : 0 ≤ x) (h2 : x ≤ 18446744073709551615) : (BitVec.ofInt 64 x).toNat = x.toNat := by
  rw [BitVec.toNat_ofInt]
  congr 1
  exact Int.emod_eq_of_lt h (by omega)
theorem and32 {x : Int} (h : 0 ≤ x) (h2 : x ≤ 18446744073709551615) : bits .and .u64 x 4294967295 = x % 4294967296 := by
  show IntKind.u64.wrap ((BitVec.ofInt 64 x &&& BitVec.ofInt 64 4294967295).toNat : Int) = _
  rw [BitVec.toNat_and, ofInt_u h h2, show (BitVec.ofInt 64 4294967295).toNat = 2 ^ 32 - 1 from by decide, Nat.and_two_pow_sub_one_eq_mod, wrapU]
  omega
theorem or_add {q b : Int} {s : Nat} (hq : 0 ≤ q) (hb : 0 ≤ b) (hs : b < 2 ^ s) (h : q * 2 ^ s + b ≤ 18446744073709551615) : bits .or .u64 (q * 2 ^ s) b = q * 2 ^ s + b := by
  have hp : (0 : Int) < 2 ^ s := Int.pow_pos (by omega)
  have hqs : 0 ≤ q * 2 ^ s := Int.mul_nonneg hq (by omega)
  show IntKind.u64.wrap ((BitVec.ofInt 64 (q * 2 ^ s) ||| BitVec.ofInt 64 b).toNat : Int) = _
  rw [BitVec.toNat_or, ofInt_u hqs (by omega), ofInt_u hb (by omega), wrapU]
  have e1 : (q * 2 ^ s).toNat = 2 ^ s * q.toNat := by
    rw [Int.toNat_mul hq (by omega), Nat.mul_comm]
    congr 1
  have hb' : b.toNat < 2 ^ s := by
    have : ((2 ^ s : Nat) : Int) = 2 ^ s := by simp
    omega
  rw [e1, ← Nat.two_pow_add_eq_or_of_lt hb' q.toNat, ← e1]
  omega
/-- How many bits a number has. -/
def lenI (x : Int) : Int := if x ≤ 0 then 0 else (x.toNat.log2 : Int) + 1
theorem lenI_spec {x : Int} (h : 0 < x) : 1 ≤ lenI x ∧ (2 : Int) ^ (lenI x - 1).toNat ≤ x ∧ x < 2 ^ (lenI x).toNat := by
  unfold lenI
  rw [if_neg (by omega)]
  have h1 := Nat.log2_self_le (n := x.toNat) (by omega)
  have h2 := Nat.lt_log2_self (n := x.toNat)
  have e1 : ((2 ^ x.toNat.log2 : Nat) : Int) = 2 ^ x.toNat.log2 := by simp
  have e2 : ((2 ^ (x.toNat.log2 + 1) : Nat) : Int) = 2 ^ (x.toNat.log2 + 1) := by simp
  refine ⟨by omega, ?_, ?_⟩
  · rw [show ((x.toNat.log2 : Int) + 1 - 1).toNat = x.toNat.log2 by omega, ← e1]; omega
  · rw [show ((x.toNat.log2 : Int) + 1).toNat = x.toNat.log2 + 1 by omega, ← e2]; omega
theorem lenI_uniq {x : Int} {n : Nat} (h1 : (2 : Int) ^ n ≤ x) (h2 : x < 2 ^ (n + 1)) : lenI x = (n : Int) + 1 := by
  have hp : (0 : Int) < 2 ^ n := Int.pow_pos (by omega)
  unfold lenI
  rw [if_neg (by omega)]
  have e1 : ((2 ^ n : Nat) : Int) = 2 ^ n := by simp
  have e2 : ((2 ^ (n + 1) : Nat) : Int) = 2 ^ (n + 1) := by simp
  have : x.toNat.log2 = n := (Nat.log2_eq_iff (by omega)).2 ⟨by omega, by omega⟩
  rw [this]
theorem lenI_shift {x m : Int} {k : Nat} (hm : (2 : Int) ^ k = m) (h : m ≤ x) : lenI x = k + lenI (x / m) := by
  subst hm
  have hp : (0 : Int) < 2 ^ k := Int.pow_pos (by omega)
  have hq : 0 < x / 2 ^ k := (Int.le_ediv_iff_mul_le hp).2 (by omega)
  obtain ⟨l1, l2, l3⟩ := lenI_spec hq
  have a1 := (Int.le_ediv_iff_mul_le hp).1 l2
  have a2 := (Int.ediv_lt_iff_lt_mul hp).1 l3
  rw [← Int.pow_add] at a1 a2
  have := lenI_uniq (x := x) (n := (lenI (x / 2 ^ k) - 1).toNat + k) a1 (by rw [show (lenI (x / 2 ^ k) - 1).toNat + k + 1 = (lenI (x / 2 ^ k)).toNat + k by omega]; exact a2)
  rw [this]; omega
theorem lenI_bd {x : Int} (h : x ≤ 18446744073709551615) : 0 ≤ lenI x ∧ lenI x ≤ 64 := by
  by_cases h0 : x ≤ 0
  · unfold lenI; rw [if_pos h0]; omega
  · obtain ⟨l1, l2, l3⟩ := lenI_spec (x := x) (by omega)
    refine ⟨by omega, ?_⟩
    by_cases h64 : lenI x ≤ 64
    · exact h64
    · exfalso
      have e1 : ((2 ^ (lenI x - 1).toNat : Nat) : Int) = 2 ^ (lenI x - 1).toNat := by simp
      have e2 : (2 : Nat) ^ 64 ≤ 2 ^ (lenI x - 1).toNat := Nat.pow_le_pow_right (by omega) (by omega)
      omega
/-- The products of halves. -/
theorem mul64_i {x y : Int} (hx : 0 ≤ x ∧ x ≤ 18446744073709551615) (hy : 0 ≤ y ∧ y ≤ 18446744073709551615) :
    (0 ≤ x % 4294967296 * (y % 4294967296) ∧ x % 4294967296 * (y % 4294967296) ≤ 18446744073709551615) ∧
    (0 ≤ x / 4294967296 * (y % 4294967296) ∧ x / 4294967296 * (y % 4294967296) + x % 4294967296 * (y % 4294967296) / 4294967296 ≤ 18446744073709551615) ∧
    (0 ≤ x % 4294967296 * (y / 4294967296) ∧ (x / 4294967296 * (y % 4294967296) + x % 4294967296 * (y % 4294967296) / 4294967296) % 4294967296 + x % 4294967296 * (y / 4294967296) ≤ 18446744073709551615) ∧
    (0 ≤ x / 4294967296 * (y / 4294967296) ∧ 0 ≤ x * y ∧ x * y / 18446744073709551616 ≤ 18446744073709551615) ∧
    x / 4294967296 * (y / 4294967296) + (x / 4294967296 * (y % 4294967296) + x % 4294967296 * (y % 4294967296) / 4294967296) / 4294967296 +
      ((x / 4294967296 * (y % 4294967296) + x % 4294967296 * (y % 4294967296) / 4294967296) % 4294967296 + x % 4294967296 * (y / 4294967296)) / 4294967296 = x * y / 18446744073709551616 := by
  obtain ⟨n, rfl⟩ := Int.eq_ofNat_of_zero_le hx.1
  obtain ⟨m, rfl⟩ := Int.eq_ofNat_of_zero_le hy.1
  obtain ⟨a, b, c, d⟩ := Go.Lib.mul64_hi n m (by omega) (by omega)
  have hb : n * m ≤ 18446744073709551615 * 18446744073709551615 := Nat.mul_le_mul (by omega) (by omega)
  have e00 : (n : Int) % 4294967296 * ((m : Int) % 4294967296) = ((n % 4294967296 * (m % 4294967296) : Nat) : Int) := by simp
  have e10 : (n : Int) / 4294967296 * ((m : Int) % 4294967296) = ((n / 4294967296 * (m % 4294967296) : Nat) : Int) := by simp
  have e01 : (n : Int) % 4294967296 * ((m : Int) / 4294967296) = ((n % 4294967296 * (m / 4294967296) : Nat) : Int) := by simp
  have e11 : (n : Int) / 4294967296 * ((m : Int) / 4294967296) = ((n / 4294967296 * (m / 4294967296) : Nat) : Int) := by simp
  have exy : (n : Int) * (m : Int) = ((n * m : Nat) : Int) := by simp
  rw [e00, e10, e01, e11, exy]
  generalize n % 4294967296 * (m % 4294967296) = p00 at *
  generalize n / 4294967296 * (m % 4294967296) = p10 at *
  generalize n % 4294967296 * (m / 4294967296) = p01 at *
  generalize n / 4294967296 * (m / 4294967296) = p11 at *
  generalize n * m = p at *
  clear e00 e10 e01 e11 exy
  refine ⟨⟨by omega, by omega⟩, ⟨by omega, by omega⟩, ⟨by omega, by omega⟩, ⟨by omega, by omega, by omega⟩, by omega⟩

/-! ### A number of two and a half words by one of one -/

/-- What the loop of a digit keeps: u and c the number, Y the divisor, q what it tries, r what is left of u. -/
structure DJ (u c Y q r : Int) : Prop where
  le : (u * 4294967296 + c) / Y ≤ q
  sum : q * (Y / 4294967296) + r = u
  q1 : 0 ≤ q ∧ q ≤ 4294967297
  r1 : 0 ≤ r ∧ r < 4294967296
/-- A divisor whose first bit is set, and a number whose first word is less. -/
structure DN (u c Y : Int) : Prop where
  y1 : 9223372036854775808 ≤ Y
  y2 : Y ≤ 18446744073709551615
  u0 : 0 ≤ u
  u1 : u < Y
  c1 : 0 ≤ c ∧ c ≤ 4294967295
theorem DN.parts {u c Y : Int} (h : DN u c Y) : 2147483648 ≤ Y / 4294967296 ∧ Y / 4294967296 ≤ 4294967295 ∧ 0 ≤ Y % 4294967296 ∧ Y % 4294967296 ≤ 4294967295 ∧ Y = Y / 4294967296 * 4294967296 + Y % 4294967296 := by
  have := h.y1; have := h.y2; omega
theorem DN.q {u c Y : Int} (h : DN u c Y) : 0 ≤ (u * 4294967296 + c) / Y ∧ (u * 4294967296 + c) / Y ≤ 4294967295 := by
  have := h.y1; have := h.u0; have := h.u1; have := h.c1
  refine ⟨Int.ediv_nonneg (by omega) (by omega), ?_⟩
  have : (u * 4294967296 + c) / Y < 4294967296 := (Int.ediv_lt_iff_lt_mul (by omega)).2 (by rw [Int.mul_comm]; omega)
  omega
theorem dj_zero {u c Y : Int} (h : DN u c Y) : DJ u c Y (u / (Y / 4294967296)) (u - u / (Y / 4294967296) * (Y / 4294967296)) := by
  obtain ⟨p1, p2, p3, p4, p5⟩ := h.parts
  have hy := h.y1; have hu0 := h.u0; have hu1 := h.u1; have hc := h.c1
  generalize hz : Y / 4294967296 = z at *
  generalize hw : Y % 4294967296 = w at *
  have e := Int.mul_ediv_add_emod u z
  have m0 := Int.emod_nonneg u (show z ≠ 0 by omega)
  have m1 := Int.emod_lt_of_pos u (show 0 < z by omega)
  rw [Int.mul_comm] at e
  have q0 := Int.ediv_nonneg hu0 (show 0 ≤ z by omega)
  refine ⟨?_, by rw [hz]; omega, ⟨q0, ?_⟩, by omega, by omega⟩
  · have : (u * 4294967296 + c) / Y < u / z + 1 := by
      refine (Int.ediv_lt_iff_lt_mul (by omega)).2 ?_
      rw [p5, Int.mul_add, Int.add_mul, Int.add_mul, Int.one_mul, Int.one_mul, ← Int.mul_assoc]
      have := Int.mul_nonneg q0 p3
      have : (u / z * z + z) * 4294967296 = u / z * z * 4294967296 + z * 4294967296 := by omega
      omega
    omega
  · have : u / z < 4294967298 := (Int.ediv_lt_iff_lt_mul (by omega)).2 (by omega)
    omega
theorem dj_test {u c Y q r : Int} (h : DN u c Y) (j : DJ u c Y q r) (hq : q ≤ 4294967296) : (4294967296 * r + c < q * (Y % 4294967296) ↔ (u * 4294967296 + c) / Y < q) := by
  obtain ⟨p1, p2, p3, p4, p5⟩ := h.parts
  have hy := h.y1
  rw [Int.ediv_lt_iff_lt_mul (by omega)]
  have s := j.sum
  generalize Y / 4294967296 = z at *
  generalize Y % 4294967296 = w at *
  rw [p5, ← s, Int.mul_add, ← Int.mul_assoc]
  constructor <;> intro <;> omega
theorem dj_mul {u c Y q r : Int} (h : DN u c Y) (j : DJ u c Y q r) (hq : q ≤ 4294967296) : 0 ≤ q * (Y % 4294967296) ∧ q * (Y % 4294967296) ≤ 18446744069414584320 := by
  obtain ⟨p1, p2, p3, p4, p5⟩ := h.parts
  have := Int.mul_le_mul (a := q) (b := Y % 4294967296) (c := 4294967296) (d := 4294967295) hq p4 p3 (by omega)
  exact ⟨Int.mul_nonneg j.q1.1 p3, by omega⟩
theorem dj_done {u c Y q r : Int} (h : DN u c Y) (j : DJ u c Y q r) (hq : q < 4294967296) (ht : ¬ (4294967296 * r + c < q * (Y % 4294967296))) : q = (u * 4294967296 + c) / Y := by
  have := j.le
  have := mt (dj_test h j (by omega)).2 ht
  omega
theorem dj_more {u c Y q r : Int} (h : DN u c Y) (j : DJ u c Y q r) (ht : 4294967296 ≤ q ∨ 4294967296 * r + c < q * (Y % 4294967296)) : (u * 4294967296 + c) / Y ≤ q - 1 := by
  have := h.q
  rcases ht with ht | ht
  · omega
  · by_cases hq : q ≤ 4294967296
    · have := (dj_test h j hq).1 ht; omega
    · omega
theorem dj_next {u c Y q r : Int} (h : DN u c Y) (j : DJ u c Y q r) (ht : 4294967296 ≤ q ∨ 4294967296 * r + c < q * (Y % 4294967296)) (hr : r + Y / 4294967296 < 4294967296) : DJ u c Y (q - 1) (r + Y / 4294967296) := by
  obtain ⟨p1, p2, p3, p4, p5⟩ := h.parts
  have := h.q
  have l := dj_more h j ht
  have := j.q1; have := j.r1
  refine ⟨l, ?_, by omega, by omega, hr⟩
  rw [Int.sub_mul, Int.one_mul]
  have := j.sum
  omega
theorem dj_break {u c Y q r : Int} (h : DN u c Y) (j : DJ u c Y q r) (ht : 4294967296 ≤ q ∨ 4294967296 * r + c < q * (Y % 4294967296)) (hr : 4294967296 ≤ r + Y / 4294967296) : q - 1 = (u * 4294967296 + c) / Y := by
  obtain ⟨p1, p2, p3, p4, p5⟩ := h.parts
  have hy := h.y1
  have l := dj_more h j ht
  have q1 := j.q1
  have s := j.sum
  have hc := h.c1
  have hq0 := h.q
  have : q - 1 ≤ (u * 4294967296 + c) / Y := by
    refine (Int.le_ediv_iff_mul_le (by omega)).2 ?_
    have m := Int.mul_le_mul (a := q - 1) (b := Y % 4294967296) (c := 4294967296) (d := 4294967295) (by omega) p4 p3 (by omega)
    generalize Y / 4294967296 = z at *
    generalize Y % 4294967296 = w at *
    rw [p5, Int.mul_add, ← Int.mul_assoc]
    have : (q - 1) * z + (r + z) = u := by rw [Int.sub_mul, Int.one_mul]; omega
    omega
  omega
/-- Two digits. -/
theorem two_digits {u a b Y : Int} (hY : 0 < Y) : ((u * 4294967296 + a) * 4294967296 + b) / Y = (u * 4294967296 + a) / Y * 4294967296 + ((u * 4294967296 + a) % Y * 4294967296 + b) / Y ∧
    ((u * 4294967296 + a) * 4294967296 + b) % Y = ((u * 4294967296 + a) % Y * 4294967296 + b) % Y := by
  generalize u * 4294967296 + a = A
  have e := Int.mul_ediv_add_emod A Y
  have : A * 4294967296 + b = (A % Y * 4294967296 + b) + Y * (A / Y * 4294967296) := by
    conv => lhs; rw [← e]
    rw [Int.add_mul, Int.mul_assoc]; omega
  constructor
  · rw [this, Int.add_mul_ediv_left _ _ (by omega)]; omega
  · rw [this, Int.add_mul_emod_self_left]
end
section
open Go.RowKit

theorem wrapI {x : Int} (h : -9223372036854775808 ≤ x) (h2 : x ≤ 9223372036854775807) : IntKind.i64.wrap x = x := w64 h h2
theorem ofInt_low {k : Nat} (hk : k ≤ 62) : (BitVec.ofInt 64 ((2 : Int) ^ k - 1)).toNat = 2 ^ k - 1 := by
  rw [BitVec.toNat_ofInt]
  have h1 : (1 : Nat) ≤ 2 ^ k := Nat.one_le_two_pow
  have h2 : (2 : Nat) ^ k ≤ 2 ^ 62 := Nat.pow_le_pow_right (by decide) hk
  have e : ((2 : Int) ^ k) = ((2 ^ k : Nat) : Int) := by simp
  rw [e]
  generalize 2 ^ k = m at *
  have e2 : (2 : Nat) ^ 62 = 4611686018427387904 := by decide
  rw [e2] at h2
  show ((((m : Nat) : Int) - 1) % ((18446744073709551616 : Nat) : Int)).toNat = m - 1
  omega
/-- The lowest k bits of a number. -/
theorem and_low {x m n : Int} {k : Nat} (hk : k ≤ 62) (hm : m = 2 ^ k - 1) (hn : n = 2 ^ k) : bits .and .i64 x m = x % n := by
  subst hm; subst hn
  show IntKind.i64.wrap ((BitVec.ofInt 64 x &&& BitVec.ofInt 64 (2 ^ k - 1)).toNat : Int) = _
  rw [BitVec.toNat_and, ofInt_low hk, Nat.and_two_pow_sub_one_eq_mod, BitVec.toNat_ofInt]
  have h1 : (1 : Nat) ≤ 2 ^ k := Nat.one_le_two_pow
  have h2 : (2 : Nat) ^ k ≤ 2 ^ 62 := Nat.pow_le_pow_right (by decide) hk
  have e : ((2 : Int) ^ k) = ((2 ^ k : Nat) : Int) := by simp
  have e2 : (2 : Nat) ^ 62 = 4611686018427387904 := by decide
  have d : ((2 : Int) ^ k) ∣ 18446744073709551616 := ⟨2 ^ (64 - k), by rw [← Int.pow_add, show k + (64 - k) = 64 by omega]; rfl⟩
  have v : (((x % ((2 ^ 64 : Nat) : Int)).toNat % 2 ^ k : Nat) : Int) = x % 2 ^ k := by
    rw [Int.natCast_emod, Int.toNat_of_nonneg (Int.emod_nonneg _ (by decide)), ← e]
    exact Int.emod_emod_of_dvd x d
  have b0 := Int.emod_nonneg x (show (2 : Int) ^ k ≠ 0 by rw [e]; omega)
  have b1 := Int.emod_lt_of_pos x (show (0 : Int) < 2 ^ k by rw [e]; omega)
  rw [v, wrapI (by omega) (by rw [e] at b1 ⊢; omega)]
end
end Go.Proofs.Ytglfbdicclepcaa
