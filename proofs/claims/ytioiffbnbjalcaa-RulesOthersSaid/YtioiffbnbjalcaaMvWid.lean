/- Widening, in plain arithmetic: it is over both sets, and makes a measure smaller whenever it changes a set. -/
import Derived.Test.YtioiffbnbjalcaaMvMath
set_option linter.unusedVariables false
set_option linter.unusedSimpArgs false
namespace Go.Proofs.Ytioiffbnbjalcaa
open Go.RowKit

def widenS (a b : Ab) : Ab := if joinS a b = a ∨ stepS (joinS a b) = 0 then joinS a b else likeS (joinS a b).lo (joinS a b).m (if (joinS a b).lo = a.lo then a.lo else -2147483648) (if (joinS a b).hi = a.hi then a.hi else 2147483647) (joinS a b).k

theorem emod_bd (x m : Int) : 0 < m → 0 ≤ x % m ∧ x % m < m := fun h => ⟨Int.emod_nonneg _ (by omega), Int.emod_lt_of_pos _ h⟩
theorem emod_le (x m : Int) (hx : 0 ≤ x) : x % m ≤ x := by
  rcases Int.lt_trichotomy m 0 with h | h | h
  · rw [← Int.emod_neg]; have := Int.emod_lt_of_pos x (show 0 < -m by omega)
    have h2 := Int.mul_ediv_add_emod x (-m)
    have h3 := Int.mul_nonneg (show 0 ≤ -m by omega) (Int.ediv_nonneg hx (show 0 ≤ -m by omega))
    omega
  · subst h; simp
  · have h2 := Int.mul_ediv_add_emod x m
    have h3 := Int.mul_nonneg (show 0 ≤ m by omega) (Int.ediv_nonneg hx (show 0 ≤ m by omega))
    omega

/-- Bits that are not in a mask. -/
def bz (k : Int) (i : Nat) : Nat := if k.toNat.testBit i then 0 else 1
def pcz (k : Int) : Nat := bz k 0 + bz k 1 + bz k 2 + bz k 3 + bz k 4 + bz k 5 + bz k 6 + bz k 7
theorem bz_le (k : Int) (i : Nat) : bz k i ≤ 1 := by unfold bz; split <;> omega
theorem bz_or {a b : Int} (ha : Mk a) (hb : Mk b) (i : Nat) : bz (orS a b) i ≤ bz a i := by
  obtain ⟨x, hx, rfl⟩ := ha.nat
  obtain ⟨y, hy, rfl⟩ := hb.nat
  rw [or_nat x y hx hy]
  simp only [bz, Int.toNat_natCast, Nat.testBit_or]
  split <;> split <;> simp_all
theorem pcz_or {a b : Int} (ha : Mk a) (hb : Mk b) : pcz (orS a b) ≤ pcz a := by
  have h := bz_or ha hb
  have h0 := h 0; have h1 := h 1; have h2 := h 2; have h3 := h 3; have h4 := h 4; have h5 := h 5; have h6 := h 6; have h7 := h 7
  unfold pcz; omega
theorem pcz_lt {a b : Int} (ha : Mk a) (hb : Mk b) (hne : orS a b ≠ a) : pcz (orS a b) < pcz a := by
  rcases Nat.lt_or_ge (pcz (orS a b)) (pcz a) with h | hge
  · exact h
  · exfalso
    apply hne
    have h := bz_or ha hb
    have h0 := h 0; have h1 := h 1; have h2 := h 2; have h3 := h 3; have h4 := h 4; have h5 := h 5; have h6 := h 6; have h7 := h 7
    unfold pcz at hge
    have e : ∀ i, i < 8 → bz (orS a b) i = bz a i := fun i hi => by
      have : i = 0 ∨ i = 1 ∨ i = 2 ∨ i = 3 ∨ i = 4 ∨ i = 5 ∨ i = 6 ∨ i = 7 := by omega
      rcases this with rfl | rfl | rfl | rfl | rfl | rfl | rfl | rfl <;> omega
    obtain ⟨x, hx, rfl⟩ := ha.nat
    obtain ⟨y, hy, rfl⟩ := hb.nat
    rw [or_nat x y hx hy] at e ⊢
    congr 1
    apply Nat.eq_of_testBit_eq
    intro i
    by_cases hi : i < 8
    · have := e i hi
      simp only [bz, Int.toNat_natCast] at this
      cases h1 : (x ||| y).testBit i <;> cases h2 : x.testBit i <;> simp_all
    · have hxy : x ||| y < 2 ^ 8 := Nat.or_lt_two_pow (by omega) (by omega)
      have hp : 2 ^ 8 ≤ 2 ^ i := Nat.pow_le_pow_right (by omega) (by omega)
      rw [Nat.testBit_lt_two_pow (by omega), Nat.testBit_lt_two_pow (by omega)]
theorem pcz_le (k : Int) : pcz k ≤ 8 := by
  have h := bz_le k
  have h0 := h 0; have h1 := h 1; have h2 := h 2; have h3 := h 3; have h4 := h 4; have h5 := h 5; have h6 := h 6; have h7 := h 7
  unfold pcz; omega

def lev (s : Int) : Nat := if s = 0 then 33 else s.toNat.log2
def flo (a : Ab) : Nat := if a.lo + 2147483648 < a.m then 0 else 1
def fhi (a : Ab) : Nat := if 2147483647 - a.hi < a.m then 0 else 1
/-- What widening makes smaller. -/
def widM (a : Ab) : Nat := pcz a.k + 3 * lev (stepS a) + flo a + fhi a

theorem flo_le (a : Ab) : flo a ≤ 1 := by unfold flo; split <;> omega
theorem fhi_le (a : Ab) : fhi a ≤ 1 := by unfold fhi; split <;> omega
theorem lev_le {a : Ab} (h : Good a) : lev (stepS a) ≤ 33 ∧ (stepS a ≠ 0 → lev (stepS a) ≤ 31) := by
  have h2 : stepS a ≠ 0 → lev (stepS a) ≤ 31 := fun hs => by
    have h1 := h.h1; have h3 := h.h3; have h6 := h.h6
    unfold lev
    rw [if_neg hs]
    have hne : ¬ a.lo = a.hi := fun e => hs (h.step_zero.2 e)
    have h8 := (h.h8 hne).1
    have : stepS a = a.m := by unfold stepS; rw [if_neg hne]
    rw [this]
    have : a.m.toNat < 2 ^ 32 := by omega
    have := (Nat.log2_lt (n := a.m.toNat) (k := 32) (by omega)).2 this
    omega
  refine ⟨?_, h2⟩
  by_cases hs : stepS a = 0
  · rw [hs]; decide
  · have := h2 hs; omega
theorem widM_le {a : Ab} (h : Good a) : widM a ≤ 110 := by
  have h1 := pcz_le a.k
  have h2 := (lev_le h).1
  have h3 := flo_le a
  have h4 := fhi_le a
  unfold widM; omega

structure WidP (j a w : Ab) : Prop where
  good : Good w
  lo : w.lo ≤ j.lo
  hi : j.hi ≤ w.hi
  m : w.m = j.m
  st : stepS w = stepS j
  k : w.k = j.k
  l1 : j.lo = a.lo → w.lo = a.lo
  l2 : j.lo ≠ a.lo → w.lo + 2147483648 < w.m
  h1 : j.hi = a.hi → w.hi = a.hi
  h2 : j.hi ≠ a.hi → 2147483647 - w.hi < w.m
  d : w.m ∣ j.lo - w.lo

theorem wid_parts {a b : Ab} (ga : Good a) (gb : Good b) (hs : ¬ stepS (joinS a b) = 0) (hne : ¬ joinS a b = a) : WidP (joinS a b) a (widenS a b) := by
  have gj := join_good ga gb
  have hlh : ¬ (joinS a b).lo = (joinS a b).hi := fun e => hs (gj.step_zero.2 e)
  obtain ⟨_, hjl, hjh, _, _⟩ := join_parts ga gb
  have hjs : stepS (joinS a b) = (joinS a b).m := by unfold stepS; rw [if_neg hlh]
  have hsd := gj.step_dvd
  rw [hjs] at hsd
  have e : widenS a b = likeS (joinS a b).lo (joinS a b).m (if (joinS a b).lo = a.lo then a.lo else -2147483648) (if (joinS a b).hi = a.hi then a.hi else 2147483647) (joinS a b).k := by
    unfold widenS; rw [if_neg (by rintro (h | h); exact hne h; exact hs h)]
  have a1 := ga.h1; have a2 := ga.h2; have a3 := ga.h3
  obtain ⟨lo, hlo⟩ : ∃ lo, lo = (if (joinS a b).lo = a.lo then a.lo else -2147483648) := ⟨_, rfl⟩
  obtain ⟨hi, hhi⟩ : ∃ hi, hi = (if (joinS a b).hi = a.hi then a.hi else 2147483647) := ⟨_, rfl⟩
  rw [← hlo, ← hhi] at e
  generalize joinS a b = j at *
  have j1 := gj.h1; have j2 := gj.h2; have j3 := gj.h3; have j6 := gj.h6; have jk := gj.mk'
  have hm : 0 < j.m := by omega
  have blo : -2147483648 ≤ lo ∧ lo ≤ j.lo := by rw [hlo]; split <;> omega
  have bhi : j.hi ≤ hi ∧ hi ≤ 2147483647 := by rw [hhi]; split <;> omega
  have q1 := emod_bd (j.lo - lo) j.m hm
  have q2 := emod_le (j.lo - lo) j.m (by omega)
  obtain ⟨L, hL⟩ : ∃ L, L = lo + (j.lo - lo) % j.m := ⟨_, rfl⟩
  have dL : j.m ∣ j.lo - L := by rw [hL, show j.lo - (lo + (j.lo - lo) % j.m) = (j.lo - lo) - (j.lo - lo) % j.m by omega]; exact Int.dvd_self_sub_emod
  have q3 := emod_bd (hi - L) j.m hm
  have q4 : (hi - L) % j.m ≤ hi - j.hi := by
    have h5 : (hi - L) % j.m = (hi - j.hi) % j.m := by
      rw [Int.emod_eq_emod_iff_emod_sub_eq_zero]; exact Int.emod_eq_zero_of_dvd (by rw [show hi - L - (hi - j.hi) = (j.hi - j.lo) + (j.lo - L) by omega]; exact Int.dvd_add hsd dL)
    rw [h5]; exact emod_le _ _ (by omega)
  have ew : widenS a b = ⟨L, hi - (hi - L) % j.m, j.m, L % j.m, j.k⟩ := by
    rw [e]; unfold likeS byS; rw [if_pos hm, ← hL, if_neg (by omega)]
  have gw : Good (widenS a b) := by rw [e]; exact like_good hm blo.1 (by omega) bhi.2 jk
  refine ⟨gw, ?_, ?_, ?_, ?_, ?_, fun h => ?_, fun h => ?_, fun h => ?_, fun h => ?_, ?_⟩
  · rw [ew]; show L ≤ j.lo; omega
  · rw [ew]; show j.hi ≤ hi - (hi - L) % j.m; omega
  · rw [ew]
  · rw [hjs, ew]; unfold stepS; rw [if_neg]; show ¬ L = hi - (hi - L) % j.m; omega
  · rw [ew]
  · rw [ew]; show L = a.lo
    rw [if_pos h] at hlo
    have : (j.lo - lo) % j.m = 0 := by rw [hlo, h]; simp
    omega
  · rw [ew]; show L + 2147483648 < j.m
    rw [if_neg h] at hlo
    omega
  · rw [ew]; show hi - (hi - L) % j.m = a.hi
    rw [if_pos h] at hhi
    omega
  · rw [ew]; show 2147483647 - (hi - (hi - L) % j.m) < j.m
    rw [if_neg h] at hhi
    omega
  · rw [ew]; exact dL

theorem widen_good {a b : Ab} (ga : Good a) (gb : Good b) : Good (widenS a b) := by
  by_cases h : joinS a b = a ∨ stepS (joinS a b) = 0
  · unfold widenS; rw [if_pos h]; exact join_good ga gb
  · exact (wid_parts ga gb (fun e => h (.inr e)) (fun e => h (.inl e))).good

theorem join_le1 {a b : Ab} (ga : Good a) (gb : Good b) : joinS a (joinS a b) = joinS a b := by rw [← join_assoc ga ga gb, join_self ga]
theorem join_le2 {a b : Ab} (ga : Good a) (gb : Good b) : joinS b (joinS a b) = joinS a b := by rw [join_comm ga gb, ← join_assoc gb gb ga, join_self gb]

theorem join_le_wid {a b : Ab} (ga : Good a) (gb : Good b) : joinS (joinS a b) (widenS a b) = widenS a b := by
  have gj := join_good ga gb
  by_cases h : joinS a b = a ∨ stepS (joinS a b) = 0
  · unfold widenS; rw [if_pos h]; exact join_self gj
  · have p := wid_parts ga gb (fun e => h (.inr e)) (fun e => h (.inl e))
    rw [leq_iff gj p.good]
    have hms : stepS (widenS a b) = (widenS a b).m := by
      rw [p.st, p.m]; unfold stepS; rw [if_neg (fun e => h (.inr (gj.step_zero.2 e)))]
    exact ⟨p.lo, p.hi, by rw [p.st]; exact Int.dvd_refl _, by rw [hms]; exact p.d, by rw [p.k]; exact sub_self _⟩

theorem wid_le1 {a b : Ab} (ga : Good a) (gb : Good b) : leqS a (widenS a b) = true := by
  unfold leqS
  have gj := join_good ga gb
  have gw := widen_good ga gb
  rw [decide_eq_true_eq]
  have h := join_le_wid ga gb
  rw [← h, ← join_assoc ga gj gw, join_le1 ga gb]
theorem wid_le2 {a b : Ab} (ga : Good a) (gb : Good b) : leqS b (widenS a b) = true := by
  unfold leqS
  have gj := join_good ga gb
  have gw := widen_good ga gb
  rw [decide_eq_true_eq]
  have h := join_le_wid ga gb
  rw [← h, ← join_assoc gb gj gw, join_le2 ga gb]
theorem wid_eq {a b : Ab} (ga : Good a) (gb : Good b) : widenS a b = a ↔ leqS b a = true := by
  unfold leqS
  rw [decide_eq_true_eq]
  constructor
  · intro h
    have := wid_le2 ga gb
    unfold leqS at this
    rw [decide_eq_true_eq, h] at this
    exact this
  · intro h
    have : joinS a b = a := by rw [join_comm ga gb]; exact h
    unfold widenS
    rw [if_pos (.inl this)]; exact this

theorem wid_less {a b : Ab} (ga : Good a) (gb : Good b) (h : widenS a b ≠ a) : widM (widenS a b) < widM a := by
  have gj := join_good ga gb
  obtain ⟨_, hl, hh, hs, hk⟩ := join_parts ga gb
  have hja : ¬ joinS a b = a := fun e => h (by unfold widenS; rw [if_pos (.inl e)]; exact e)
  have ka := ga.mk'; have kb := gb.mk'
  have a2 := ga.h2; have b2 := gb.h2
  by_cases h0 : stepS (joinS a b) = 0
  · have e : widenS a b = joinS a b := by unfold widenS; rw [if_pos (.inr h0)]
    rw [e]
    have hz := gj.step_zero.1 h0
    have e1 : (joinS a b).lo = a.lo := by omega
    have e2 : (joinS a b).hi = a.hi := by omega
    have e3 : stepS a = 0 := ga.step_zero.2 (by omega)
    have hkne : orS a.k b.k ≠ a.k := fun e => hja (gj.ext ga e1 e2 (by omega) (by rw [hk, e]))
    have hp := pcz_lt ka kb hkne
    have m1 := (gj.h7 hz).1
    have m2 := (ga.h7 (by omega)).1
    have f1 : flo (joinS a b) = flo a := by unfold flo; rw [e1, m1, m2]
    have f2 : fhi (joinS a b) = fhi a := by unfold fhi; rw [e2, m1, m2]
    unfold widM
    rw [f1, f2, h0, e3, hk]; omega
  · have p := wid_parts ga gb h0 hja
    have hpk : pcz (widenS a b).k ≤ pcz a.k := by rw [p.k, hk]; exact pcz_or ka kb
    have l1 := (lev_le p.good).2 (by rw [p.st]; exact h0)
    have f1 := flo_le (widenS a b); have f2 := fhi_le (widenS a b)
    obtain ⟨d1, d2, d3⟩ := joinG_dvds (stepS a) (stepS b) (a.lo - b.lo)
    rw [← hs] at d1 d2 d3
    by_cases hsa : stepS a = 0
    · have : lev (stepS a) = 33 := by rw [hsa]; rfl
      unfold widM; omega
    · by_cases hse : stepS (joinS a b) = stepS a
      · have hms : (joinS a b).m = stepS (joinS a b) := by unfold stepS; rw [if_neg (fun e => h0 (gj.step_zero.2 e))]
        have hma : a.m = stepS a := by unfold stepS; rw [if_neg (fun e => hsa (ga.step_zero.2 e))]
        have hm : (widenS a b).m = a.m := by rw [p.m, hms, hse, hma]
        have hlv : lev (stepS (widenS a b)) = lev (stepS a) := by rw [p.st, hse]
        have g1 := gj.h1; have g3 := gj.h3
        have hd : stepS a ∣ a.lo - b.lo := by rw [← hse]; exact d3
        have hda := ga.step_dvd
        have hdb : stepS a ∣ b.hi - b.lo := Int.dvd_trans (by rw [← hse]; exact d2) gb.step_dvd
        have F1 : flo (widenS a b) ≤ flo a ∧ ((joinS a b).lo ≠ a.lo → flo (widenS a b) < flo a) := by
          by_cases hlo : (joinS a b).lo = a.lo
          · refine ⟨?_, fun h => absurd hlo h⟩
            unfold flo; rw [p.l1 hlo, hm]; exact Nat.le_refl _
          · have e1 : flo (widenS a b) = 0 := by unfold flo; rw [if_pos (p.l2 hlo)]
            have e2 : flo a = 1 := by
              unfold flo
              rw [if_neg]
              have : (joinS a b).lo = b.lo := by omega
              have hle := Int.le_of_dvd (show 0 < a.lo - b.lo by omega) hd
              have gb1 := gb.h1
              omega
            omega
        have F2 : fhi (widenS a b) ≤ fhi a ∧ ((joinS a b).hi ≠ a.hi → fhi (widenS a b) < fhi a) := by
          by_cases hhi : (joinS a b).hi = a.hi
          · refine ⟨?_, fun h => absurd hhi h⟩
            unfold fhi; rw [p.h1 hhi, hm]; exact Nat.le_refl _
          · have e1 : fhi (widenS a b) = 0 := by unfold fhi; rw [if_pos (p.h2 hhi)]
            have e2 : fhi a = 1 := by
              unfold fhi
              rw [if_neg]
              have hd2 : stepS a ∣ b.hi - a.hi := by
                have := Int.dvd_sub (Int.dvd_sub hdb hda) hd
                rw [show b.hi - a.hi = b.hi - b.lo - (a.hi - a.lo) - (a.lo - b.lo) by omega]; exact this
              have hle := Int.le_of_dvd (show 0 < b.hi - a.hi by omega) hd2
              have gb3 := gb.h3
              omega
            omega
        by_cases hlo : (joinS a b).lo = a.lo
        · by_cases hhi : (joinS a b).hi = a.hi
          · have hkne : orS a.k b.k ≠ a.k := fun e => hja (gj.ext ga hlo hhi hse (by rw [hk, e]))
            have hp := pcz_lt ka kb hkne
            have : pcz (widenS a b).k < pcz a.k := by rw [p.k, hk]; exact hp
            unfold widM; omega
          · have := F2.2 hhi
            unfold widM; omega
        · have := F1.2 hlo
          unfold widM; omega
      · have hpos := gj.step0.1
        have hpa := ga.step0.1
        obtain ⟨q, hq⟩ := d1
        have hq0 : 0 < q := by
          rcases Int.lt_trichotomy q 0 with h1 | h1 | h1
          · have := Int.mul_nonneg (show 0 ≤ stepS (joinS a b) by omega) (show 0 ≤ -q by omega)
            rw [Int.mul_neg] at this
            omega
          · rw [h1] at hq; omega
          · exact h1
        have hq1 : q ≠ 1 := fun e => hse (by rw [hq, e]; omega)
        have h2 : 2 * stepS (joinS a b) ≤ stepS a := by
          have := Int.mul_le_mul_of_nonneg_left (show 2 ≤ q by omega) hpos
          rw [← hq] at this; omega
        have hlev : lev (stepS (widenS a b)) + 1 ≤ lev (stepS a) := by
          rw [p.st]
          unfold lev
          rw [if_neg h0, if_neg hsa]
          rw [Nat.le_log2 (by omega), Nat.pow_succ]
          have := Nat.log2_self_le (n := (stepS (joinS a b)).toNat) (by omega)
          omega
        unfold widM; omega

end Go.Proofs.Ytioiffbnbjalcaa
