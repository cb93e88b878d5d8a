/- A rule that is not sound has a pair whose result is outside: plain mathematics. -/
import Derived.Test.YtioiffbnbjalcaaRuDef
set_option linter.unusedVariables false
set_option linter.unusedSimpArgs false
namespace Go.Proofs.Ytioiffbnbjalcaa
/-- How many of the first k results are outside. -/
def BadR (r : Ru) (k : Nat) (bad : Int) : Prop := (0 ≤ bad ∧ bad ≤ (k : Int)) ∧ (bad = 0 ↔ ∀ q, q < k → r.lo ≤ resQat r q ∧ resQat r q ≤ r.hi)
theorem bad_start (r : Ru) : BadR r 0 0 := ⟨by omega, fun _ q hq => by omega, fun _ => rfl⟩
theorem bad_eq {r : Ru} {i j k : Nat} {a b : Int} (ha : a = r.alo + (i : Int)) (hb : b = r.blo + (j : Int)) (hk : k = i * nbR r + j) (hj : j < nbR r) : resQat r k = opV r.op a b := by rw [hk, res_at hj, ha, hb]
theorem bad_ok {r : Ru} {k : Nat} {bad v : Int} (h : BadR r k bad) (e : resQat r k = v) (h1 : r.lo ≤ v) (h2 : v ≤ r.hi) : BadR r (k + 1) bad := by
  obtain ⟨h0, h3⟩ := h
  refine ⟨by omega, fun hb q hq => ?_, fun ha => h3.2 fun q hq => ha q (by omega)⟩
  by_cases c : q = k
  · subst c; rw [e]; exact ⟨h1, h2⟩
  · exact h3.1 hb q (by omega)
theorem bad_no {r : Ru} {k : Nat} {bad v : Int} (h : BadR r k bad) (e : resQat r k = v) (h1 : v < r.lo ∨ r.hi < v) : BadR r (k + 1) (bad + 1) := by
  obtain ⟨h0, h3⟩ := h
  refine ⟨by omega, fun hb => by omega, fun ha => ?_⟩
  have := ha k (by omega)
  rw [e] at this; omega
theorem bad_sound {r : Ru} {k : Nat} {bad : Int} (h : BadR r k bad) (hk : k = naR r * nbR r) : okB r = (bad == 0) := by
  subst hk
  rw [Bool.eq_iff_iff, okB_iff, beq_iff_eq]
  exact h.2.symm
def oneR (r : Ru) (a b : Int) : Ru := ⟨r.id, r.ver, r.firm, r.op, a, a, b, b, r.lo, r.hi⟩
theorem one_right {x : Rv} (hx : BV x) {a b : Int} (ha : -20 ≤ a ∧ a ≤ 300) (hb : -20 ≤ b ∧ b ≤ 300) : rightR (oneR (madeR x) a b) = 0 := by
  have h := made_bd hx
  unfold rightR oneR
  dsimp only
  rw [if_pos ⟨by omega, by omega⟩, show a - a + 1 = 1 by omega, show b - b + 1 = 1 by omega, if_neg (by omega)]
theorem one_ok {r : Ru} {a b v : Int} (e : opV r.op a b = v) (h : v < r.lo ∨ r.hi < v) : okB (oneR r a b) = false := by
  have hn : naR (oneR r a b) = 1 := by show (a + 1 - a).toNat = 1; omega
  have hm : nbR (oneR r a b) = 1 := by show (b + 1 - b).toNat = 1; omega
  refine okB_no (k := 0) (v := v) ?_ h
  rw [resQ_get (by rw [hn, hm]; decide)]
  have := res_at (r := oneR r a b) (i := 0) (j := 0) (by rw [hm]; decide)
  rw [hm] at this
  have e2 : (oneR r a b).alo + ((0 : Nat) : Int) = a := by show a + ((0 : Nat) : Int) = a; omega
  have e3 : (oneR r a b).blo + ((0 : Nat) : Int) = b := by show b + ((0 : Nat) : Int) = b; omega
  rw [e2, e3] at this
  rw [this]; exact congrArg some e
theorem made_b32 {x : Rv} (hx : BV x) : B32R (madeR x) := by have h := made_bd hx; unfold B32R; omega
theorem made_i64 {x : Rv} (hx : BV x) : I64R (madeR x) := by have h := made_bd hx; unfold I64R; omega
theorem one_b32 {x : Rv} (hx : BV x) {a b : Int} (ha : -20 ≤ a ∧ a ≤ 300) (hb : -20 ≤ b ∧ b ≤ 300) : B32R (oneR (madeR x) a b) := by unfold B32R oneR; dsimp only; omega
theorem one_i64 {x : Rv} (hx : BV x) {a b : Int} (ha : -20 ≤ a ∧ a ≤ 300) (hb : -20 ≤ b ∧ b ≤ 300) : I64R (oneR (madeR x) a b) := by have h := made_bd hx; unfold I64R oneR; dsimp only; omega
def lessR (r : Ru) (p q s t : Int) : Ru := ⟨r.id, r.ver, r.firm, r.op, r.alo + p, r.ahi, r.blo, r.bhi - q, r.lo - s, r.hi + t⟩
theorem less_b32 {x : Rv} (hx : BV x) {p q s t : Int} (hp : 0 ≤ p ∧ p ≤ (madeR x).ahi - (madeR x).alo) (hq : 0 ≤ q ∧ q ≤ (madeR x).bhi - (madeR x).blo) : B32R (lessR (madeR x) p q s t) := by have h := made_bd hx; unfold B32R lessR; dsimp only; omega
theorem less_i64 {x : Rv} (hx : BV x) {p q s t : Int} (hp : 0 ≤ p ∧ p ≤ (madeR x).ahi - (madeR x).alo) (hq : 0 ≤ q ∧ q ≤ (madeR x).bhi - (madeR x).blo) (hs : 0 ≤ s ∧ s ≤ 255) (ht : 0 ≤ t ∧ t ≤ 255) : I64R (lessR (madeR x) p q s t) := by have h := made_bd hx; unfold I64R lessR; dsimp only; omega
theorem less_right {x : Rv} (hx : BV x) {p q s t : Int} (hp : 0 ≤ p ∧ p ≤ (madeR x).ahi - (madeR x).alo) (hq : 0 ≤ q ∧ q ≤ (madeR x).bhi - (madeR x).blo) (hs : 0 ≤ s ∧ s ≤ 255) (ht : 0 ≤ t ∧ t ≤ 255) (h1 : -2147483648 ≤ (madeR x).lo - s) (h2 : (madeR x).hi + t ≤ 2147483647) : rightR (lessR (madeR x) p q s t) = 0 := by
  have h := made_bd hx
  unfold rightR lessR
  dsimp only
  have hm : ((madeR x).ahi - ((madeR x).alo + p) + 1) * ((madeR x).bhi - q - (madeR x).blo + 1) ≤ 1600 := by
    have := Int.mul_le_mul (show (madeR x).ahi - ((madeR x).alo + p) + 1 ≤ 40 by omega) (show (madeR x).bhi - q - (madeR x).blo + 1 ≤ 40 by omega) (by omega) (by decide)
    omega
  rw [if_pos ⟨by omega, by omega⟩, if_neg (by omega)]
theorem less_ok {r : Ru} {k : Nat} {bad p q s t : Int} (h : BadR r k bad) (hk : k = naR r * nbR r) (h0 : bad = 0) (hp : 0 ≤ p ∧ p ≤ r.ahi - r.alo) (hq : 0 ≤ q ∧ q ≤ r.bhi - r.blo) (hs : 0 ≤ s) (ht : 0 ≤ t) : okB (lessR r p q s t) = true := by
  subst hk
  have hall := h.2.1 h0
  refine okB_iff.2 fun z hz => ?_
  have hnb : 0 < nbR (lessR r p q s t) := by
    rcases Nat.eq_zero_or_pos (nbR (lessR r p q s t)) with e | e
    · rw [e] at hz; omega
    · exact e
  have hi : z / nbR (lessR r p q s t) < naR (lessR r p q s t) := (Nat.div_lt_iff_lt_mul hnb).2 hz
  have hj : z % nbR (lessR r p q s t) < nbR (lessR r p q s t) := Nat.mod_lt _ hnb
  have e : resQat (lessR r p q s t) z = opV r.op (r.alo + p + ((z / nbR (lessR r p q s t) : Nat) : Int)) (r.blo + ((z % nbR (lessR r p q s t) : Nat) : Int)) := rfl
  have n1 : naR (lessR r p q s t) = (r.ahi + 1 - (r.alo + p)).toNat := rfl
  have n2 : nbR (lessR r p q s t) = (r.bhi - q + 1 - r.blo).toNat := rfl
  have n3 : naR r = (r.ahi + 1 - r.alo).toNat := rfl
  have n4 : nbR r = (r.bhi + 1 - r.blo).toNat := rfl
  rw [e]
  generalize z / nbR (lessR r p q s t) = i at hi ⊢
  generalize z % nbR (lessR r p q s t) = j at hj ⊢
  have hj2 : j < nbR r := by omega
  have hk2 := idx_in (r := r) (i := p.toNat + i) (j := j) (by omega) hj2
  have h2 := hall _ hk2
  rw [res_at hj2] at h2
  rw [show r.alo + p + (i : Int) = r.alo + ((p.toNat + i : Nat) : Int) by omega]
  show r.lo - s ≤ _ ∧ _ ≤ r.hi + t
  omega
end Go.Proofs.Ytioiffbnbjalcaa
