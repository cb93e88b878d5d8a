/- Lengths by a table, and dividing 128 bits by 64: numbers. No program. -/
import Derived.Test.YtglfbdicclepcaaEvW
set_option linter.unusedVariables false
set_option linter.unusedSimpArgs false
namespace Go.Proofs.Ytglfbdicclepcaa
open Go.RowKit
set_option maxRecDepth 100000

/-- The table of lengths. -/
def len8 : ByteArray := { data := (([0, 1, 2, 2, 3, 3, 3, 3, 4, 4, 4, 4, 4, 4, 4, 4, 5, 5, 5, 5, 5, 5, 5, 5, 5, 5, 5, 5, 5, 5, 5, 5, 6, 6, 6, 6, 6, 6, 6, 6, 6, 6, 6, 6, 6, 6, 6, 6, 6, 6, 6, 6, 6, 6, 6, 6, 6, 6, 6, 6, 6, 6, 6, 6].append [7, 7, 7, 7, 7, 7, 7, 7, 7, 7, 7, 7, 7, 7, 7, 7, 7, 7, 7, 7, 7, 7, 7, 7, 7, 7, 7, 7, 7, 7, 7, 7, 7, 7, 7, 7, 7, 7, 7, 7, 7, 7, 7, 7, 7, 7, 7, 7, 7, 7, 7, 7, 7, 7, 7, 7, 7, 7, 7, 7, 7, 7, 7, 7]).append ([8, 8, 8, 8, 8, 8, 8, 8, 8, 8, 8, 8, 8, 8, 8, 8, 8, 8, 8, 8, 8, 8, 8, 8, 8, 8, 8, 8, 8, 8, 8, 8, 8, 8, 8, 8, 8, 8, 8, 8, 8, 8, 8, 8, 8, 8, 8, 8, 8, 8, 8, 8, 8, 8, 8, 8, 8, 8, 8, 8, 8, 8, 8, 8].append [8, 8, 8, 8, 8, 8, 8, 8, 8, 8, 8, 8, 8, 8, 8, 8, 8, 8, 8, 8, 8, 8, 8, 8, 8, 8, 8, 8, 8, 8, 8, 8, 8, 8, 8, 8, 8, 8, 8, 8, 8, 8, 8, 8, 8, 8, 8, 8, 8, 8, 8, 8, 8, 8, 8, 8, 8, 8, 8, 8, 8, 8, 8, 8])).toArray }
theorem len8_all : ∀ n : Nat, n < 256 → len8[n]?.map (fun u => (u.toNat : Int)) = some (lenI (n : Int)) := by decide +kernel
theorem len8_at {i : Int} (h0 : 0 ≤ i) (h1 : i < 256) : 0 ≤ i ∧ (len8 : ByteArray)[i.toNat]?.map (fun u => (u.toNat : Int)) = some (lenI i) := by
  have := len8_all i.toNat (by omega)
  rw [this, show ((i.toNat : Nat) : Int) = i by omega]
  exact ⟨h0, rfl⟩
theorem len_by {x m : Int} {k : Nat} (hm : (2 : Int) ^ k = m) (h : m ≤ x) : lenI x = k + lenI (x / m) := lenI_shift hm h

section
variable {x : Int}
theorem len_32 (h : 4294967296 ≤ x) : lenI x = 32 + lenI (x / 4294967296) := len_by (k := 32) (by decide) h
theorem len_16 (h : 65536 ≤ x) : lenI x = 16 + lenI (x / 65536) := len_by (k := 16) (by decide) h
theorem len_8 (h : 256 ≤ x) : lenI x = 8 + lenI (x / 256) := len_by (k := 8) (by decide) h
end
/-- What Div64 is given. -/
structure DH (hi lo y : Int) : Prop where
  h0 : 0 ≤ hi
  h1 : hi < y
  l0 : 0 ≤ lo
  l1 : lo ≤ 18446744073709551615
  y1 : y ≤ 18446744073709551615
def dS (y : Int) : Nat := (64 - lenI y).toNat
def dP (y : Int) : Int := 2 ^ dS y
def dQ (y : Int) : Int := 2 ^ (64 - dS y)
def dY (y : Int) : Int := y * dP y
def dU (hi lo y : Int) : Int := hi * dP y + lo / dQ y
def dL (lo y : Int) : Int := lo * dP y % 18446744073709551616
def dq1 (hi lo y : Int) : Int := (dU hi lo y * 4294967296 + dL lo y / 4294967296) / dY y
def dr1 (hi lo y : Int) : Int := (dU hi lo y * 4294967296 + dL lo y / 4294967296) % dY y
def dq0 (hi lo y : Int) : Int := (dr1 hi lo y * 4294967296 + dL lo y % 4294967296) / dY y
def dr0 (hi lo y : Int) : Int := (dr1 hi lo y * 4294967296 + dL lo y % 4294967296) % dY y
section
variable {hi lo y : Int}
theorem div_sh (h : DH hi lo y) : 0 ≤ 64 - lenI y ∧ 64 - lenI y ≤ 63 := by
  have := lenI_bd h.y1
  have := (lenI_spec (x := y) (by have := h.h0; have := h.h1; omega)).1
  omega
theorem dS_is (h : DH hi lo y) : dS y ≤ 63 ∧ (64 - lenI y).toNat = dS y ∧ (lenI y).toNat = 64 - dS y ∧ (lenI y - 1).toNat = 63 - dS y := by
  have := div_sh h
  unfold dS; omega
theorem dPQ (h : DH hi lo y) : dP y * dQ y = 18446744073709551616 ∧ 0 < dP y ∧ 0 < dQ y := by
  have := (dS_is h).1
  refine ⟨?_, Int.pow_pos (by omega), Int.pow_pos (by omega)⟩
  unfold dP dQ
  rw [← Int.pow_add, show dS y + (64 - dS y) = 64 by omega]; rfl
theorem dY_bd (h : DH hi lo y) : 9223372036854775808 ≤ dY y ∧ dY y ≤ 18446744073709551615 := by
  obtain ⟨s1, s2, s3, s4⟩ := dS_is h
  obtain ⟨l1, l2, l3⟩ := lenI_spec (x := y) (by have := h.h0; have := h.h1; omega)
  obtain ⟨p, p1, q1⟩ := dPQ h
  rw [s4] at l2
  rw [s3] at l3
  have a1 := Int.mul_le_mul_of_nonneg_right l2 (show 0 ≤ dP y by omega)
  have a2 := Int.mul_lt_mul_of_pos_right l3 p1
  have e1 : (2 : Int) ^ (63 - dS y) * dP y = 9223372036854775808 := by
    unfold dP; rw [← Int.pow_add, show 63 - dS y + dS y = 63 by omega]; rfl
  have e2 : (2 : Int) ^ (64 - dS y) * dP y = 18446744073709551616 := by
    unfold dP; rw [← Int.pow_add, show 64 - dS y + dS y = 64 by omega]; rfl
  rw [e1] at a1
  rw [e2] at a2
  unfold dY; omega
theorem dlo (h : DH hi lo y) : lo * dP y = lo / dQ y * 18446744073709551616 + dL lo y ∧ 0 ≤ lo / dQ y ∧ lo / dQ y < dP y := by
  obtain ⟨p, p1, q1⟩ := dPQ h
  have e : lo * dP y / 18446744073709551616 = lo / dQ y := by
    rw [← p, Int.mul_comm (dP y) (dQ y)]
    exact Int.mul_ediv_mul_of_pos_left lo (dQ y) p1
  have e2 := Int.mul_ediv_add_emod (lo * dP y) 18446744073709551616
  rw [e] at e2
  refine ⟨by unfold dL; omega, Int.ediv_nonneg h.l0 (by omega), (Int.ediv_lt_iff_lt_mul q1).2 (by rw [p]; have := h.l1; omega)⟩
theorem div_p (h : DH hi lo y) : 0 ≤ hi * dP y ∧ 0 ≤ lo / dQ y ∧ hi * dP y ≤ 18446744073709551615 ∧ lo / dQ y ≤ 18446744073709551615 := by
  obtain ⟨p, p1, q1⟩ := dPQ h
  obtain ⟨d1, d2, d3⟩ := dlo h
  have y2 := (dY_bd h).2
  have a := Int.mul_le_mul_of_nonneg_right (show hi ≤ y by have := h.h1; omega) (show 0 ≤ dP y by omega)
  have : dP y ≤ dY y := by
    unfold dY
    have := Int.mul_le_mul_of_nonneg_right (show (1 : Int) ≤ y by have := h.h0; have := h.h1; omega) (show 0 ≤ dP y by omega)
    omega
  unfold dY at y2
  exact ⟨Int.mul_nonneg h.h0 (by omega), d2, by omega, by unfold dY at this; omega⟩
theorem dU_bd (h : DH hi lo y) : 0 ≤ dU hi lo y ∧ dU hi lo y < dY y := by
  obtain ⟨d1, d2, d3⟩ := dlo h
  obtain ⟨p, p1, q1⟩ := dPQ h
  have := div_p h
  have a := Int.mul_le_mul_of_nonneg_right (show hi + 1 ≤ y by have := h.h1; omega) (show 0 ≤ dP y by omega)
  rw [Int.add_mul] at a
  unfold dU dY
  omega
theorem div_l (h : DH hi lo y) : 0 ≤ dL lo y ∧ dL lo y ≤ 18446744073709551615 := by unfold dL; omega
theorem div_n1 (h : DH hi lo y) : DN (dU hi lo y) (dL lo y / 4294967296) (dY y) := by
  have := dY_bd h
  have := dU_bd h
  have := div_l h
  exact ⟨by omega, by omega, by omega, by omega, by omega⟩
theorem div_n0 (h : DH hi lo y) : DN (dr1 hi lo y) (dL lo y % 4294967296) (dY y) := by
  have := dY_bd h
  have := div_l h
  exact ⟨by omega, by omega, Int.emod_nonneg _ (by omega), Int.emod_lt_of_pos _ (by omega), by omega⟩
theorem div_r0 (h : DH hi lo y) : 0 ≤ dr0 hi lo y ∧ dr0 hi lo y ≤ 18446744073709551615 := by
  have := dY_bd h
  have a := Int.emod_nonneg (dr1 hi lo y * 4294967296 + dL lo y % 4294967296) (show dY y ≠ 0 by omega)
  have b := Int.emod_lt_of_pos (dr1 hi lo y * 4294967296 + dL lo y % 4294967296) (show 0 < dY y by omega)
  unfold dr0; omega
theorem div_all (h : DH hi lo y) : (dU hi lo y * 4294967296 + dL lo y / 4294967296) * 4294967296 + dL lo y % 4294967296 = (hi * 18446744073709551616 + lo) * dP y := by
  obtain ⟨d1, d2, d3⟩ := dlo h
  rw [Int.add_mul (hi * 18446744073709551616), d1, Int.mul_right_comm hi]
  unfold dU
  omega
theorem div_fin (h : DH hi lo y) : dq1 hi lo y * 4294967296 + dq0 hi lo y = (hi * 18446744073709551616 + lo) / y ∧ dr0 hi lo y / dP y = (hi * 18446744073709551616 + lo) % y := by
  obtain ⟨p, p1, q1⟩ := dPQ h
  have hy := dY_bd h
  obtain ⟨t1, t2⟩ := two_digits (u := dU hi lo y) (a := dL lo y / 4294967296) (b := dL lo y % 4294967296) (Y := dY y) (by omega)
  rw [div_all h] at t1 t2
  constructor
  · rw [show dq1 hi lo y * 4294967296 + dq0 hi lo y = _ from t1.symm]
    exact Int.mul_ediv_mul_of_pos_left _ _ p1
  · rw [show dr0 hi lo y = _ from t2.symm]
    unfold dY
    rw [Int.mul_comm _ (dP y), Int.mul_comm y, Int.mul_emod_mul_of_pos _ _ p1, Int.mul_ediv_cancel_left _ (by omega)]
theorem dj_ini {u c Y : Int} (h : DN u c Y) : 0 ≤ u / (Y / 4294967296) * (Y / 4294967296) ∧ u / (Y / 4294967296) * (Y / 4294967296) ≤ u ∧ 0 ≤ u / (Y / 4294967296) ∧ u / (Y / 4294967296) ≤ u := by
  obtain ⟨p1, p2, p3, p4, p5⟩ := h.parts
  have u0 := h.u0
  generalize Y / 4294967296 = z at *
  have a := Int.ediv_mul_le u (show z ≠ 0 by omega)
  have b := Int.ediv_nonneg u0 (show 0 ≤ z by omega)
  exact ⟨Int.mul_nonneg b (by omega), a, b, Int.ediv_le_self _ u0⟩
theorem sh_min (h : DH hi lo y) : min (64 - lenI y).toNat (IntKind.bits .u64) = dS y := by
  have := (dS_is h).1
  show min (64 - lenI y).toNat 64 = dS y
  unfold dS at *; omega
theorem sh_y (h : DH hi lo y) : IntKind.u64.wrap (y * 2 ^ (min (64 - lenI y).toNat (IntKind.bits .u64))) = dY y := by
  have := dY_bd h
  rw [sh_min h]
  exact wu64 (by unfold dY dP at this; omega) (by unfold dY dP at this; omega)
theorem sh_hi (h : DH hi lo y) : IntKind.u64.wrap (hi * 2 ^ (min (64 - lenI y).toNat (IntKind.bits .u64))) = hi * dP y := by
  have := div_p h
  rw [sh_min h]
  exact wu64 (by unfold dP at this; omega) (by unfold dP at this; omega)
theorem sh_l (h : DH hi lo y) : IntKind.u64.wrap (lo * 2 ^ (min (64 - lenI y).toNat (IntKind.bits .u64))) = dL lo y := by
  rw [sh_min h, wrapU]; rfl
theorem sh_lo (h : DH hi lo y) : Int.fdiv lo (2 ^ (min (64 - (64 - lenI y)).toNat (IntKind.bits .u64))) = lo / dQ y := by
  have e : min (64 - (64 - lenI y)).toNat (IntKind.bits .u64) = 64 - dS y := by
    have := div_sh h
    show min (64 - (64 - lenI y)).toNat 64 = 64 - dS y
    unfold dS; omega
  rw [e]
  exact Int.fdiv_eq_ediv_of_nonneg _ (by have := (dPQ h).2.2; unfold dQ at this; omega)
theorem sh_or (h : DH hi lo y) : bits .or .u64 (hi * dP y) (lo / dQ y) = dU hi lo y := by
  obtain ⟨d1, d2, d3⟩ := dlo h
  have hu := dU_bd h
  have hy := dY_bd h
  exact or_add h.h0 d2 d3 (by unfold dU dP at hu; omega)
theorem sh_r (h : DH hi lo y) : Int.fdiv (dr0 hi lo y) (2 ^ (min (64 - lenI y).toNat (IntKind.bits .u64))) = dr0 hi lo y / dP y := by
  rw [sh_min h]
  exact Int.fdiv_eq_ediv_of_nonneg _ (by have := (dPQ h).2.1; unfold dP at this; omega)
theorem w_rem {u c Y r : Int} (h : DN u c Y) (hr : r = (u * 4294967296 + c) % Y) : IntKind.u64.wrap (IntKind.u64.wrap (IntKind.u64.wrap (u * 4294967296) + c) - IntKind.u64.wrap ((u * 4294967296 + c) / Y * Y)) = r := by
  have e := Int.mul_ediv_add_emod (u * 4294967296 + c) Y
  have a := Int.emod_nonneg (u * 4294967296 + c) (show Y ≠ 0 by have := h.y1; omega)
  have b := Int.emod_lt_of_pos (u * 4294967296 + c) (show 0 < Y by have := h.y1; omega)
  have := h.y2
  rw [wrapU, wrapU, wrapU, wrapU, hr]
  rw [Int.mul_comm Y] at e
  generalize (u * 4294967296 + c) / Y * Y = p at *
  generalize (u * 4294967296 + c) % Y = t at *
  omega
theorem pos_of_mul {q w : Int} (h0 : 0 ≤ q) (h : 0 < q * w) : 1 ≤ q := by
  by_cases hq : q = 0
  · subst hq; simp at h
  · omega
theorem rem_hi (hi lo y : Int) (hy : 0 < y) : (hi % y * 18446744073709551616 + lo) % y = (hi * 18446744073709551616 + lo) % y := by
  have e := Int.mul_ediv_add_emod hi y
  have : hi * 18446744073709551616 + lo = (hi % y * 18446744073709551616 + lo) + y * (hi / y * 18446744073709551616) := by
    conv => lhs; rw [← e]
    rw [Int.add_mul, Int.mul_assoc]; omega
  rw [this, Int.add_mul_emod_self_left]
end
end Go.Proofs.Ytglfbdicclepcaa
