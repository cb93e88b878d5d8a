/- Inverses, and what two wide sets have in common. No program. -/
import Derived.Test.YtioiffbnbjalcaaMvMeetM
set_option linter.unusedVariables false
set_option linter.unusedSimpArgs false
namespace Go.Proofs.Ytioiffbnbjalcaa
open Go.RowKit

theorem dvdL {a b : Int} (h : a ∣ b) (c : Int) : a ∣ c * b := Int.dvd_trans h (Int.dvd_mul_left ..)
theorem dvdR {a b : Int} (h : a ∣ b) (c : Int) : a ∣ b * c := Int.dvd_trans h (Int.dvd_mul_right ..)
def InvsP (a m x : Int) : Prop := 0 ≤ x ∧ x < m ∧ m ∣ x * a - 1
open Classical in
noncomputable def invS (a m : Int) : Int := if h : ∃ x, InvsP a m x then Classical.choose h else 0
theorem inv_uniq {a m x y : Int} (h : InvsP a m x) (k : InvsP a m y) : x = y := by
  obtain ⟨h1, h2, h3⟩ := h
  obtain ⟨k1, k2, k3⟩ := k
  have e1 : m ∣ (x - y) * a := by
    have := Int.dvd_sub h3 k3
    rwa [show x * a - 1 - (y * a - 1) = (x - y) * a by rw [Int.sub_mul]; omega] at this
  have e2 : m ∣ (x - y) * a * x := dvdR e1 x
  have e3 : m ∣ (x - y) * (x * a - 1) := dvdL h3 (x - y)
  have e4 := Int.dvd_sub e2 e3
  rw [show (x - y) * a * x - (x - y) * (x * a - 1) = x - y by rw [Int.mul_sub, Int.mul_one, Int.mul_assoc, Int.mul_comm a x]; omega] at e4
  by_cases h0 : x - y = 0
  · omega
  · rcases Int.lt_or_gt_of_ne h0 with h | h
    · have := Int.le_of_dvd (show 0 < y - x by omega) (by rw [show y - x = -(x - y) by omega]; exact Int.dvd_neg.2 e4); omega
    · have := Int.le_of_dvd (show 0 < x - y by omega) e4; omega
open Classical in
theorem inv_is {a m x : Int} (h : InvsP a m x) : invS a m = x := by
  have hx : ∃ x, InvsP a m x := ⟨x, h⟩
  unfold invS
  rw [dif_pos hx]
  exact inv_uniq (Classical.choose_spec hx) h
theorem inv_mod {a m x : Int} (hm : 0 < m) (h : m ∣ x * a - 1) : invS a m = x % m := by
  refine inv_is ⟨Int.emod_nonneg _ (by omega), Int.emod_lt_of_pos _ hm, ?_⟩
  have e := Int.mul_ediv_add_emod x m
  have : x % m * a - 1 = (x * a - 1) - m * (x / m * a) := by
    conv => rhs; rw [← e]
    rw [Int.add_mul, Int.mul_assoc, Int.mul_ediv_add_emod]
    generalize m * (x / m * a) = p
    omega
  rw [this]
  exact Int.dvd_sub h (Int.dvd_mul_right ..)
theorem inv_one (a : Int) : invS a 1 = 0 := inv_is ⟨by omega, by omega, Int.one_dvd _⟩
/-- Euclid's algorithm, extended: a and r are what is left of a0 and m, x and y how often a0 is in them. -/
structure Euc (a0 m a r x y : Int) : Prop where
  r0 : 0 ≤ r
  a1 : 1 ≤ a
  am : a ≤ m
  rm : r ≤ m
  dx : m ∣ x * a0 - a
  dy : m ∣ y * a0 - r
  g : Int.gcd a r = 1
  s : (0 ≤ x ∧ y ≤ 0 ∧ x * r - y * a = m) ∨ (x ≤ 0 ∧ 0 ≤ y ∧ y * a - x * r = m)
theorem gcdE_step' (x y : Int) : Int.gcd y (x % y) = Int.gcd x y := by
  rw [Int.gcd_comm x y]
  have : x = y * (x / y) + x % y := (Int.mul_ediv_add_emod x y).symm
  conv => rhs; rw [this]
  rw [Int.add_comm, Int.gcd_add_mul_left_right]
theorem euc_zero {a m : Int} (hm : 1 < m) (hg : Int.gcd a m = 1) : Euc a m (a % m) m 1 0 := by
  have h0 := emod_bd a m (by omega)
  have hne : a % m ≠ 0 := fun h => by
    have : (Int.gcd a m : Int) = m := by
      rw [Int.gcd_comm, Int.gcd_eq_left (by omega) (Int.dvd_of_emod_eq_zero h)]
    omega
  refine ⟨by omega, by omega, by omega, by omega, ?_, by simp, ?_, .inl ⟨by omega, by omega, by omega⟩⟩
  · rw [Int.one_mul]
    exact ⟨a / m, by have := Int.mul_ediv_add_emod a m; omega⟩
  · have : (Int.gcd m a : Int) = Int.gcd a m := by rw [Int.gcd_comm]
    rw [Int.gcd_comm, gcdE_step']; exact hg
theorem Euc.bd {a0 m a r x y : Int} (h : Euc a0 m a r x y) : (-m ≤ y ∧ y ≤ m) ∧ (0 < r → -m ≤ x ∧ x ≤ m) := by
  have h1 := h.a1
  have h2 := h.r0
  have ya : ∀ y : Int, 0 ≤ y → y ≤ y * a := fun y hy => by
    have := Int.mul_le_mul_of_nonneg_left (show (1 : Int) ≤ a by omega) hy; omega
  have xr : ∀ x : Int, 0 < r → 0 ≤ x → x ≤ x * r := fun x hr hx => by
    have := Int.mul_le_mul_of_nonneg_left (show (1 : Int) ≤ r by omega) hx; omega
  rcases h.s with ⟨s1, s2, s3⟩ | ⟨s1, s2, s3⟩
  · have e1 := ya (-y) (by omega)
    rw [Int.neg_mul] at e1
    have e2 := Int.mul_nonneg s1 h2
    have e3 : 0 ≤ -y * a := Int.mul_nonneg (by omega) (by omega)
    rw [Int.neg_mul] at e3
    exact ⟨by omega, fun hr => by have := xr x hr s1; omega⟩
  · have e1 := ya y (by omega)
    have e2 : 0 ≤ -x * r := Int.mul_nonneg (by omega) h2
    rw [Int.neg_mul] at e2
    have e3 := Int.mul_nonneg s2 (show 0 ≤ a by omega)
    exact ⟨by omega, fun hr => by have := xr (-x) hr (by omega); rw [Int.neg_mul] at this; omega⟩
theorem Euc.q {a0 m a r x y : Int} (h : Euc a0 m a r x y) (hm : m ≤ 134217728) (hr : 0 < r) : 0 ≤ a / r ∧ a / r ≤ m ∧ 0 ≤ a / r * r ∧ a / r * r ≤ a ∧ a - a / r * r < r ∧ -18014398509481984 ≤ a / r * y ∧ a / r * y ≤ 18014398509481984 := by
  have h1 := h.a1
  have h2 := h.am
  have q0 := Int.ediv_nonneg (show 0 ≤ a by omega) (show 0 ≤ r by omega)
  have q1 := Int.ediv_le_self r (show 0 ≤ a by omega)
  have q2 := Int.ediv_mul_le a (show r ≠ 0 by omega)
  have q3 := Int.lt_ediv_add_one_mul_self a hr
  rw [Int.add_mul] at q3
  have b := h.bd.1
  have q4 := Int.mul_nonneg q0 (show 0 ≤ r by omega)
  have u1 := Int.mul_le_mul_of_nonneg_left b.1 q0
  have u2 := Int.mul_le_mul_of_nonneg_left b.2 q0
  rw [Int.mul_neg] at u1
  have u3 := Int.mul_nonneg q0 (show 0 ≤ m by omega)
  have u4 := Int.mul_le_mul (a := a / r) (b := m) (c := 134217728) (d := 134217728) (by omega) (by omega) (by omega) (by omega)
  refine ⟨q0, by omega, q4, q2, by omega, ?_, ?_⟩
  · omega
  · omega
theorem Euc.next {a0 m a r x y : Int} (h : Euc a0 m a r x y) (hr : 0 < r) : Euc a0 m r (a - a / r * r) y (x - a / r * y) := by
  have h1 := h.a1
  have q0 := Int.ediv_nonneg (show 0 ≤ a by omega) (show 0 ≤ r by omega)
  have e : a - a / r * r = a % r := by have := Int.mul_ediv_add_emod a r; rw [Int.mul_comm] at this; omega
  have hb := emod_bd a r hr
  refine ⟨by omega, by omega, h.rm, by have := h.rm; omega, h.dy, ?_, ?_, ?_⟩
  · have := Int.dvd_sub h.dx (dvdL h.dy (a / r))
    rwa [show x * a0 - a - a / r * (y * a0 - r) = (x - a / r * y) * a0 - (a - a / r * r) by
      rw [Int.mul_sub, Int.sub_mul, Int.mul_assoc]; omega] at this
  · rw [e]
    rw [gcdE_step']; exact h.g
  · have key : (x - a / r * y) * r - y * (a - a / r * r) = x * r - y * a := by
      rw [Int.sub_mul, Int.mul_sub, Int.mul_assoc, Int.mul_comm y (a / r * r), Int.mul_assoc, Int.mul_comm r y]; omega
    rcases h.s with ⟨s1, s2, s3⟩ | ⟨s1, s2, s3⟩
    · right
      have : 0 ≤ a / r * -y := Int.mul_nonneg q0 (by omega)
      rw [Int.mul_neg] at this
      exact ⟨s2, by omega, by omega⟩
    · left
      have : 0 ≤ a / r * y := Int.mul_nonneg q0 s2
      exact ⟨s2, by omega, by omega⟩
theorem Euc.fin {a0 m a r x y : Int} (h : Euc a0 m a r x y) (hr : r = 0) (hm : 1 < m) : x % m = invS a0 m := by
  have hg := h.g
  subst hr
  rw [Int.gcd_zero_right] at hg
  have := h.a1
  have ha : a = 1 := by omega
  have := h.dx
  rw [ha] at this
  exact (inv_mod (by omega) this).symm

/-! ### Two wide sets -/

/-- A value that is in both rows: s, t the steps, from a and b on. -/
structure Crt (s t g a b f : Int) : Prop where
  ds : s ∣ f - a
  dt : t ∣ f - b
theorem gcd_parts {s t : Int} (hs : 0 < s) (ht : 0 < t) : 0 < (Int.gcd s t : Int) ∧ s = (Int.gcd s t : Int) * (s / (Int.gcd s t : Int)) ∧ t = (Int.gcd s t : Int) * (t / (Int.gcd s t : Int)) ∧ 0 < s / (Int.gcd s t : Int) ∧ 0 < t / (Int.gcd s t : Int) ∧ Int.gcd (s / (Int.gcd s t : Int)) (t / (Int.gcd s t : Int)) = 1 := by
  have g0 : 0 < Int.gcd s t := Int.gcd_pos_of_ne_zero_left _ (by omega)
  have e1 := (Int.mul_ediv_cancel' (Int.gcd_dvd_left (a := s) (b := t))).symm
  have e2 := (Int.mul_ediv_cancel' (Int.gcd_dvd_right (a := s) (b := t))).symm
  refine ⟨by omega, e1, e2, Int.ediv_pos_of_pos_of_dvd hs (by omega) (Int.gcd_dvd_left ..), Int.ediv_pos_of_pos_of_dvd ht (by omega) (Int.gcd_dvd_right ..), ?_⟩
  exact Int.gcd_ediv_gcd_ediv_gcd g0
theorem crt_ok {s t a b x d z : Int} (hs : 0 < s) (ht : 0 < t) (hd : b - a = (Int.gcd s t : Int) * d) (hx : (t / (Int.gcd s t : Int)) ∣ x * (s / (Int.gcd s t : Int)) - 1)
    (hz : z = (d % (t / (Int.gcd s t : Int)) * x) % (t / (Int.gcd s t : Int))) : s ∣ a + s * z - a ∧ t ∣ a + s * z - b := by
  obtain ⟨g0, e1, e2, p1, p2, _⟩ := gcd_parts hs ht
  generalize (Int.gcd s t : Int) = g at *
  generalize hs' : s / g = s' at *
  generalize ht' : t / g = n at *
  refine ⟨by rw [show a + s * z - a = s * z by omega]; exact Int.dvd_mul_right .., ?_⟩
  have k1 : n ∣ d % n * x - z := by
    rw [hz]; exact ⟨d % n * x / n, by have := Int.mul_ediv_add_emod (d % n * x) n; omega⟩
  have k2 : n ∣ d - d % n := ⟨d / n, by have := Int.mul_ediv_add_emod d n; omega⟩
  have k3 : n ∣ s' * z - d := by
    have a1 := dvdL k1 s'
    have a2 := dvdL hx (d % n)
    have := Int.dvd_sub (Int.dvd_sub a2 a1) k2
    rwa [show d % n * (x * s' - 1) - s' * (d % n * x - z) - (d - d % n) = s' * z - d by
      rw [Int.mul_sub, Int.mul_sub, Int.mul_one, ← Int.mul_assoc, Int.mul_comm s' (d % n * x)]; omega] at this
  have : a + s * z - b = g * (s' * z - d) := by
    rw [Int.mul_sub, ← hd, ← Int.mul_assoc, ← e1]; omega
  rw [this, e2]
  exact Int.mul_dvd_mul (Int.dvd_refl _) k3
theorem lcm_is {s t : Int} (hs : 0 < s) (ht : 0 < t) : ((Int.lcm s t : Nat) : Int) = s * (t / (Int.gcd s t : Int)) := by
  obtain ⟨g0, e1, e2, p1, p2, _⟩ := gcd_parts hs ht
  have h : Int.gcd s t * Int.lcm s t = s.natAbs * t.natAbs := Int.gcd_mul_lcm ..
  have h' : (Int.gcd s t : Int) * (Int.lcm s t : Int) = s * t := by
    have : ((Int.gcd s t * Int.lcm s t : Nat) : Int) = ((s.natAbs * t.natAbs : Nat) : Int) := by rw [h]
    rw [Int.natCast_mul, Int.natCast_mul] at this
    rw [this]
    congr 1 <;> omega
  have h2 : (Int.gcd s t : Int) * (s * (t / (Int.gcd s t : Int))) = s * t := by
    rw [Int.mul_left_comm, ← e2]
  exact Int.eq_of_mul_eq_mul_left (show (Int.gcd s t : Int) ≠ 0 by omega) (h'.trans h2.symm)
/-- More than 64 values. -/
def Wide (a : Ab) : Prop := a.lo ≠ a.hi ∧ a.m ≤ 67108864
theorem wide_of {a : Ab} (ha : Good a) (h : 64 ≤ (a.hi - a.lo).tdiv a.m) : Wide a := by
  have h1 := ha.h1
  have h2 := ha.h2
  have h3 := ha.h3
  have h6 := ha.h6
  rw [Int.tdiv_eq_ediv_of_nonneg (by omega)] at h
  have := (Int.le_ediv_iff_mul_le (show 0 < a.m by omega)).1 h
  constructor
  · intro he; rw [he, Int.sub_self] at this; omega
  · omega
theorem Wide.step {a : Ab} (h : Wide a) : stepS a = a.m := by rw [stepS, if_neg h.1]
theorem wide_none {a b : Ab} (ha : Good a) (hb : Good b) (wa : Wide a) (wb : Wide b) (h : ¬ ((Int.gcd a.m b.m : Int) ∣ b.lo - a.lo)) : ∀ v, ¬ Both a b v := fun v hv => by
  obtain ⟨h1, h2⟩ := hv
  rw [inS_iff ha, wa.step] at h1
  rw [inS_iff hb, wb.step] at h2
  have d1 := Int.dvd_trans (Int.gcd_dvd_left (a := a.m) (b := b.m)) h1.2.2
  have d2 := Int.dvd_trans (Int.gcd_dvd_right (a := a.m) (b := b.m)) h2.2.2
  have := Int.dvd_sub d1 d2
  rw [show v - a.lo - (v - b.lo) = b.lo - a.lo by omega] at this
  exact h this
/-- The first value that is like f by L, from lo on. -/
theorem wide_meet {a b : Ab} {f L k : Int} (ha : Good a) (hb : Good b) (wa : Wide a) (wb : Wide b) (hk : Mk k) (h1 : a.m ∣ f - a.lo) (h2 : b.m ∣ f - b.lo) (hL : L = a.m * (b.m / (Int.gcd a.m b.m : Int))) :
    (max a.lo b.lo + (f - max a.lo b.lo) % L ≤ min a.hi b.hi → IsMeet a b k (byS (max a.lo b.lo + (f - max a.lo b.lo) % L) (min a.hi b.hi) L k)) ∧ (¬ max a.lo b.lo + (f - max a.lo b.lo) % L ≤ min a.hi b.hi → ∀ v, ¬ Both a b v) := by
  have a1 := ha.h1
  have a3 := ha.h3
  have pa := ha.h6
  have pb := hb.h6
  obtain ⟨g0, e1, e2, p1, p2, _⟩ := gcd_parts (s := a.m) (t := b.m) (by omega) (by omega)
  have hl : ((Int.lcm a.m b.m : Nat) : Int) = L := by rw [hL]; exact lcm_is (by omega) (by omega)
  have hLp : 0 < L := by rw [hL]; exact Int.mul_pos (by omega) p2
  have hboth : ∀ v, Both a b v ↔ max a.lo b.lo ≤ v ∧ v ≤ min a.hi b.hi ∧ L ∣ v - f := fun v => by
    unfold Both
    rw [inS_iff ha, inS_iff hb, wa.step, wb.step, ← hl, lcm_dvd, dvd_shift h1, dvd_shift h2]
    constructor
    · rintro ⟨⟨x1, x2, x3⟩, y1, y2, y3⟩; exact ⟨by omega, by omega, x3, y3⟩
    · rintro ⟨x1, x2, x3, y3⟩; exact ⟨⟨by omega, by omega, x3⟩, by omega, by omega, y3⟩
  constructor
  · intro hf
    have e : byS (max a.lo b.lo + (f - max a.lo b.lo) % L) (min a.hi b.hi) L k = likeS f L (max a.lo b.lo) (min a.hi b.hi) k := rfl
    rw [e]
    exact ⟨like_good hLp (by omega) hf (by omega) hk, fun v => (like_in hLp hf v).trans (hboth v).symm, by unfold likeS; exact by_k ..⟩
  · intro hf v hv
    obtain ⟨x1, x2, x3⟩ := (hboth v).1 hv
    obtain ⟨q, hq⟩ := x3
    have hm := emod_bd (f - max a.lo b.lo) L hLp
    have he : (f - max a.lo b.lo) % L = (v - max a.lo b.lo) % L := by
      rw [show f - max a.lo b.lo = v - max a.lo b.lo - L * q by omega, Int.sub_mul_emod_self_left]
    rw [he] at hf
    have := emod_le (v - max a.lo b.lo) L (by omega)
    omega
theorem wide_of' {a : Ab} (ha : Good a) (h : 64 ≤ (a.hi - a.lo) / a.m) : Wide a := wide_of ha (by rw [Int.tdiv_eq_ediv_of_nonneg (by have := ha.h2; omega)]; exact h)
theorem and_nat (a b : Nat) (ha : a < 256) (hb : b < 256) : andS (a : Int) (b : Int) = ((a &&& b : Nat) : Int) := by
  have hx : a &&& b ≤ a := Nat.and_le_left
  show IntKind.i64.wrap ((BitVec.ofInt 64 (a : Int) &&& BitVec.ofInt 64 (b : Int)).toNat : Int) = _
  rw [BitVec.toNat_and, ofInt_nat a ha, ofInt_nat b hb]
  exact IntWalk.i64_in _ (by omega)
theorem andS_mk {a b : Int} (ha : Mk a) (hb : Mk b) : Mk (andS a b) := by
  obtain ⟨n, hn, rfl⟩ := ha.nat
  obtain ⟨m, hm, rfl⟩ := hb.nat
  have hle : n &&& m ≤ n := Nat.and_le_left
  rw [and_nat n m hn hm]; exact ⟨by omega, by omega⟩
theorem andS_comm (a b : Int) : andS a b = andS b a := by
  show IntKind.i64.wrap ((BitVec.ofInt 64 a &&& BitVec.ofInt 64 b).toNat : Int) = IntKind.i64.wrap ((BitVec.ofInt 64 b &&& BitVec.ofInt 64 a).toNat : Int)
  rw [BitVec.and_comm]
theorem sub_and_iff {x a b : Int} (h : Sub x a) : Sub x (andS a b) ↔ Sub x b := by
  unfold Sub at *
  rw [and_bv]
  constructor
  · intro k
    ext i hi
    have e1 := congrArg (fun v => v[i]) k
    have e2 := congrArg (fun v => v[i]) h
    simp at e1 e2 ⊢
    intro hx
    exact (e1 hx).2
  · intro k
    ext i hi
    have e1 := congrArg (fun v => v[i]) k
    have e2 := congrArg (fun v => v[i]) h
    simp at e1 e2 ⊢
    intro hx
    exact ⟨e2 hx, e1 hx⟩
theorem tdiv_le (x y : Int) : -(max x (-x)) ≤ x.tdiv y ∧ x.tdiv y ≤ max x (-x) := by
  have h : (x.tdiv y).natAbs ≤ x.natAbs := by rw [Int.natAbs_tdiv]; exact Nat.div_le_self ..
  omega
theorem invS_bd {m : Int} (a : Int) (hm : 0 < m) : 0 ≤ invS a m ∧ invS a m < m := by
  unfold invS
  split
  · rename_i h
    exact ⟨(Classical.choose_spec h).1, (Classical.choose_spec h).2.1⟩
  · omega
theorem euc_ex : ∀ (n : Nat) {a0 m a r x y : Int}, Euc a0 m a r x y → r.toNat ≤ n → ∃ z, m ∣ z * a0 - 1
  | n, a0, m, a, r, x, y, h, hn => by
    by_cases hr : r = 0
    · subst hr
      have hg := h.g
      rw [Int.gcd_zero_right] at hg
      have := h.a1
      have ha : a = 1 := by omega
      exact ⟨x, ha ▸ h.dx⟩
    · have h0 := h.r0
      have e : a - a / r * r = a % r := by have := Int.mul_ediv_add_emod a r; rw [Int.mul_comm] at this; omega
      have hb := emod_bd a r (by omega)
      cases n with
      | zero => omega
      | succ n => exact euc_ex n (h.next (by omega)) (by omega)
theorem invS_ok {a m : Int} (hm : 0 < m) (hg : Int.gcd a m = 1) : m ∣ invS a m * a - 1 := by
  have hx : ∃ x, InvsP a m x := by
    by_cases h1 : m = 1
    · subst h1; exact ⟨0, by omega, by omega, Int.one_dvd _⟩
    · obtain ⟨z, hz⟩ := euc_ex _ (euc_zero (by omega) hg) (Nat.le_refl _)
      exact ⟨invS a m, by rw [inv_mod hm hz]; exact Int.emod_nonneg _ (by omega), by rw [inv_mod hm hz]; exact Int.emod_lt_of_pos _ hm, by
        have hw : InvsP a m (z % m) := ⟨Int.emod_nonneg _ (by omega), Int.emod_lt_of_pos _ hm, by
          have e := Int.mul_ediv_add_emod z m
          have : z % m * a - 1 = (z * a - 1) - m * (z / m * a) := by
            conv => rhs; rw [← e]
            rw [Int.add_mul, Int.mul_assoc, Int.mul_ediv_add_emod]
            generalize m * (z / m * a) = p
            omega
          rw [this]
          exact Int.dvd_sub hz (Int.dvd_mul_right ..)⟩
        rw [inv_is hw]; exact hw.2.2⟩
  unfold invS
  rw [dif_pos hx]
  exact (Classical.choose_spec hx).2.2

/-! ### Numbers in Meet -/

abbrev gM (a b : Ab) : Int := (Int.gcd a.m b.m : Int)
/-- How far the common row begins behind a's. -/
noncomputable def zM (a b : Ab) : Int := ((b.lo - a.lo).tdiv (gM a b) % (b.m / gM a b) * invS (a.m / gM a b) (b.m / gM a b)) % (b.m / gM a b)
theorem div_self_le {s g : Int} (hs : 0 < s) (hg : 0 < g) : s / g ≤ s := Int.ediv_le_self _ (by omega)
theorem meet_g {a b : Ab} (ha : Good a) (hb : Good b) : (0 < gM a b ∧ gM a b ≤ a.m ∧ gM a b ≤ b.m) ∧ (0 < b.m / gM a b ∧ b.m / gM a b ≤ b.m) ∧ 0 < a.m / gM a b ∧ a.m / gM a b ≤ a.m := by
  have pa := ha.h6
  have pb := hb.h6
  obtain ⟨g0, e1, e2, p1, p2, _⟩ := gcd_parts (s := a.m) (t := b.m) (by omega) (by omega)
  exact ⟨⟨g0, Int.le_of_dvd (by omega) (Int.gcd_dvd_left ..), Int.le_of_dvd (by omega) (Int.gcd_dvd_right ..)⟩, ⟨p2, div_self_le (by omega) g0⟩, p1, div_self_le (by omega) g0⟩
theorem meet_d {a b : Ab} (ha : Good a) (hb : Good b) : -8589934592 ≤ (b.lo - a.lo).tdiv (gM a b) ∧ (b.lo - a.lo).tdiv (gM a b) ≤ 8589934592 := by
  have := tdiv_le (b.lo - a.lo) (gM a b)
  have := ha.h1; have := ha.h2; have := ha.h3; have := hb.h1; have := hb.h2; have := hb.h3
  omega
theorem meet_w {a b : Ab} (ha : Good a) (hb : Good b) (h : 64 ≤ (a.hi - a.lo) / a.m ∧ 64 ≤ (b.hi - b.lo) / b.m) :
    (a.m ≤ 67108864 ∧ b.m ≤ 67108864) ∧ (0 ≤ (b.lo - a.lo).tdiv (gM a b) % (b.m / gM a b) * invS (a.m / gM a b) (b.m / gM a b) ∧ (b.lo - a.lo).tdiv (gM a b) % (b.m / gM a b) * invS (a.m / gM a b) (b.m / gM a b) ≤ 4503599627370496) ∧
    (0 ≤ a.m * zM a b ∧ a.m * zM a b ≤ 4503599627370496) ∧ 0 < a.m * (b.m / gM a b) ∧ a.m * (b.m / gM a b) ≤ 4503599627370496 := by
  obtain ⟨⟨g1, g2, g3⟩, ⟨n1, n2⟩, s1, s2⟩ := meet_g ha hb
  have wa := (wide_of' ha h.1).2
  have wb := (wide_of' hb h.2).2
  have pa := ha.h6
  have d := emod_bd ((b.lo - a.lo).tdiv (gM a b)) _ n1
  have iv := invS_bd (a.m / gM a b) n1
  have z : 0 ≤ zM a b ∧ zM a b < b.m / gM a b := emod_bd _ _ n1
  have m1 := Int.mul_le_mul (a := (b.lo - a.lo).tdiv (gM a b) % (b.m / gM a b)) (b := invS (a.m / gM a b) (b.m / gM a b)) (c := 67108864) (d := 67108864) (by omega) (by omega) (by omega) (by omega)
  have m2 := Int.mul_le_mul (a := a.m) (b := zM a b) (c := 67108864) (d := 67108864) (by omega) (by omega) (by omega) (by omega)
  have m3 := Int.mul_le_mul (a := a.m) (b := b.m / gM a b) (c := 67108864) (d := 67108864) (by omega) (by omega) (by omega) (by omega)
  exact ⟨⟨wa, wb⟩, ⟨Int.mul_nonneg d.1 iv.1, by omega⟩, ⟨Int.mul_nonneg (by omega) z.1, by omega⟩, Int.mul_pos (by omega) n1, by omega⟩
theorem meet_inv {a b : Ab} (ha : Good a) (hb : Good b) : Int.gcd (a.m / gM a b) (b.m / gM a b) = 1 := (gcd_parts (s := a.m) (t := b.m) (by have := ha.h6; omega) (by have := hb.h6; omega)).2.2.2.2.2
theorem meet_lcm {a b : Ab} (ha : Good a) (hb : Good b) : a.m / gM a b * b.m = a.m * (b.m / gM a b) := by
  obtain ⟨g0, e1, e2, p1, p2, _⟩ := gcd_parts (s := a.m) (t := b.m) (by have := ha.h6; omega) (by have := hb.h6; omega)
  change a.m = gM a b * (a.m / gM a b) at e1
  change b.m = gM a b * (b.m / gM a b) at e2
  generalize hg : gM a b = g at *
  generalize hx : a.m / g = x at *
  generalize hy : b.m / g = y at *
  rw [e1, e2]
  rw [← Int.mul_assoc, Int.mul_comm x g]
/-- Where the common row of two wide sets begins. -/
noncomputable abbrev fM (a b : Ab) : Int := a.lo + a.m * zM a b
abbrev lM (a b : Ab) : Int := a.m * (b.m / gM a b)
theorem meet_crt {a b : Ab} (ha : Good a) (hb : Good b) (h : (b.lo - a.lo).tmod (gM a b) = 0) : a.m ∣ fM a b - a.lo ∧ b.m ∣ fM a b - b.lo := by
  obtain ⟨⟨g1, g2, g3⟩, ⟨n1, n2⟩, s1, s2⟩ := meet_g ha hb
  have he : b.lo - a.lo = gM a b * (b.lo - a.lo).tdiv (gM a b) := by have := Int.mul_tdiv_add_tmod (b.lo - a.lo) (gM a b); omega
  exact crt_ok (x := invS (a.m / gM a b) (b.m / gM a b)) (by have := ha.h6; omega) (by have := hb.h6; omega) he (invS_ok n1 (meet_inv ha hb)) rfl
theorem meet_end {a b : Ab} (ha : Good a) (hb : Good b) (hw : 64 ≤ (a.hi - a.lo) / a.m ∧ 64 ≤ (b.hi - b.lo) / b.m) (h : (b.lo - a.lo).tmod (gM a b) = 0) {k : Int} (hk : Mk k) :
    (max a.lo b.lo + (fM a b - max a.lo b.lo) % lM a b ≤ min a.hi b.hi → IsMeet a b k (byS (max a.lo b.lo + (fM a b - max a.lo b.lo) % lM a b) (min a.hi b.hi) (lM a b) k)) ∧ (¬ max a.lo b.lo + (fM a b - max a.lo b.lo) % lM a b ≤ min a.hi b.hi → ∀ v, ¬ Both a b v) :=
  wide_meet ha hb (wide_of' ha hw.1) (wide_of' hb hw.2) hk (meet_crt ha hb h).1 (meet_crt ha hb h).2 rfl
theorem meet_apart {a b : Ab} (ha : Good a) (hb : Good b) (hw : 64 ≤ (a.hi - a.lo) / a.m ∧ 64 ≤ (b.hi - b.lo) / b.m) (h : ¬ (b.lo - a.lo).tmod (gM a b) = 0) : ∀ v, ¬ Both a b v :=
  wide_none ha hb (wide_of' ha hw.1) (wide_of' hb hw.2) fun hd => h (Int.tmod_eq_zero_of_dvd hd)
theorem tmod_emod {x y g : Int} (hg : 0 < g) (h : x = -y) : x.tmod g = 0 ↔ y % g = 0 := by
  constructor
  · intro k
    have := Int.dvd_of_tmod_eq_zero k
    rw [h] at this
    exact Int.emod_eq_zero_of_dvd (Int.dvd_neg.1 this)
  · intro k
    have := Int.dvd_of_emod_eq_zero k
    rw [h]
    exact Int.tmod_eq_zero_of_dvd (Int.dvd_neg.2 this)
theorem listed_bd {a b : Ab} {v : Int} {l : List Int} (ha : Good a) (h : Listed a b v l) (hl : 0 < l.length) : (-2147483648 ≤ l.getD 0 0 ∧ l.getD 0 0 ≤ l.getD (l.length - 1) 0 ∧ l.getD (l.length - 1) 0 ≤ 2147483647) ∧ (1 < l.length → l.getD 0 0 < l.getD 1 0 ∧ l.getD 1 0 ≤ 2147483647) := by
  have h0 := ((h.mem _).1 (getD_memI (l := l) (i := 0) hl)).1.1
  have hn := ((h.mem _).1 (getD_memI (l := l) (i := l.length - 1) (by omega))).1.1
  have a1 := ha.h1
  have a3 := ha.h3
  refine ⟨⟨by have := h0.1; omega, ?_, by have := hn.2.1; omega⟩, fun h1 => ?_⟩
  · by_cases e : l.length - 1 = 0
    · rw [e]; exact Int.le_refl _
    · have := sorted_lt h.sorted (i := 0) (j := l.length - 1) (by omega) (by omega); omega
  · have := sorted_lt h.sorted (i := 0) (j := 1) (by omega) h1
    have h1' := ((h.mem _).1 (getD_memI (l := l) (i := 1) h1)).1.1
    exact ⟨this, by have := h1'.2.1; omega⟩
theorem listed_meet' {a b : Ab} {k v d : Int} {l : List Int} (ha : Good a) (hb : Good b) (hk : Mk k) (h : Listed a b v l) (hp : Place a v) (hv : ¬ v ≤ a.hi) (hn : 0 < l.length) (hd : (l.length = 1 ∧ d = 0) ∨ (1 < l.length ∧ d = l.getD 1 0 - l.getD 0 0)) :
    IsMeet a b k (byS (l.getD 0 0) (l.getD (l.length - 1) 0) d k) := by
  refine (listed_meet (n := l.length - 1) ha hb hk h hp hv (by omega) ?_).1
  rcases hd with ⟨e1, e2⟩ | ⟨e1, e2⟩
  · rw [if_pos (by omega), e2]
  · rw [if_neg (by omega), e2]
end Go.Proofs.Ytioiffbnbjalcaa
