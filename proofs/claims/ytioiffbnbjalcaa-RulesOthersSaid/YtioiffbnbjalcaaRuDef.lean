/- Rules: what they are, and their results. Plain mathematics. -/
import Derived.Test.YtioiffbnbjalcaaNumDef
import Derived.Test.YtioiffbnbjalcaaEvD
set_option linter.unusedVariables false
set_option linter.unusedSimpArgs false
namespace Go.Proofs.Ytioiffbnbjalcaa
structure Ru where
  id : Int
  ver : Int
  firm : Int
  op : Int
  alo : Int
  ahi : Int
  blo : Int
  bhi : Int
  lo : Int
  hi : Int
  deriving DecidableEq
def ru0 : Ru := ⟨0, 0, 0, 0, 0, 0, 0, 0, 0, 0⟩
def encQ (r : Ru) : AV := .agg [.int .i64 r.id, .int .i64 r.ver, .int .i64 r.firm, .int .i64 r.op, .int .i64 r.alo, .int .i64 r.ahi, .int .i64 r.blo, .int .i64 r.bhi, .int .i64 r.lo, .int .i64 r.hi]
/-- How many first and second operands. -/
def naR (r : Ru) : Nat := (r.ahi + 1 - r.alo).toNat
def nbR (r : Ru) : Nat := (r.bhi + 1 - r.blo).toNat
/-- The k-th result. -/
def resQat (r : Ru) (k : Nat) : Int := opV r.op (r.alo + ((k / nbR r : Nat) : Int)) (r.blo + ((k % nbR r : Nat) : Int))
def resQ (r : Ru) : List Int := (List.range (naR r * nbR r)).map (resQat r)
theorem resQ_len (r : Ru) : (resQ r).length = naR r * nbR r := by simp [resQ]
theorem resQ_get {r : Ru} {k : Nat} (h : k < naR r * nbR r) : (resQ r)[k]? = some (resQat r k) := by
  unfold resQ; rw [List.getElem?_map, List.getElem?_range h]; rfl
theorem res_at {r : Ru} {i j : Nat} (hj : j < nbR r) : resQat r (i * nbR r + j) = opV r.op (r.alo + (i : Int)) (r.blo + (j : Int)) := by
  have h0 : 0 < nbR r := by omega
  unfold resQat
  rw [show (i * nbR r + j) / nbR r = i from by rw [Nat.mul_comm, Nat.mul_add_div h0, Nat.div_eq_of_lt hj]; omega, show (i * nbR r + j) % nbR r = j from by rw [Nat.mul_comm, Nat.mul_add_mod]; exact Nat.mod_eq_of_lt hj]
theorem idx_in {r : Ru} {i j : Nat} (hi : i < naR r) (hj : j < nbR r) : i * nbR r + j < naR r * nbR r := by
  have : (i + 1) * nbR r ≤ naR r * nbR r := Nat.mul_le_mul_right _ hi
  rw [Nat.add_mul, Nat.one_mul] at this
  omega
/-- All fields are whole numbers of 64 bits. -/
def I64R (r : Ru) : Prop := (-9223372036854775808 ≤ r.id ∧ r.id ≤ 9223372036854775807) ∧ (-9223372036854775808 ≤ r.ver ∧ r.ver ≤ 9223372036854775807) ∧ (-9223372036854775808 ≤ r.firm ∧ r.firm ≤ 9223372036854775807) ∧ (-9223372036854775808 ≤ r.op ∧ r.op ≤ 9223372036854775807) ∧ (-9223372036854775808 ≤ r.alo ∧ r.alo ≤ 9223372036854775807) ∧ (-9223372036854775808 ≤ r.ahi ∧ r.ahi ≤ 9223372036854775807) ∧ (-9223372036854775808 ≤ r.blo ∧ r.blo ≤ 9223372036854775807) ∧ (-9223372036854775808 ≤ r.bhi ∧ r.bhi ≤ 9223372036854775807) ∧ (-9223372036854775808 ≤ r.lo ∧ r.lo ≤ 9223372036854775807) ∧ (-9223372036854775808 ≤ r.hi ∧ r.hi ≤ 9223372036854775807)
/-- The operands are values. -/
def B32R (r : Ru) : Prop := (-2147483648 ≤ r.alo ∧ r.alo ≤ 2147483647) ∧ (-2147483648 ≤ r.ahi ∧ r.ahi ≤ 2147483647) ∧ (-2147483648 ≤ r.blo ∧ r.blo ≤ 2147483647) ∧ -2147483648 ≤ r.bhi ∧ r.bhi ≤ 2147483647
def okB (r : Ru) : Bool := (resQ r).all fun v => decide (r.lo ≤ v ∧ v ≤ r.hi)
theorem okB_no {r : Ru} {k : Nat} {v : Int} (h : (resQ r)[k]? = some v) (hv : v < r.lo ∨ r.hi < v) : okB r = false := by
  unfold okB
  rw [Bool.eq_false_iff]
  intro hc
  have := List.all_eq_true.1 hc v (List.mem_of_getElem? h)
  have := of_decide_eq_true this
  omega
theorem okB_yes {r : Ru} (h : ∀ (k : Nat) (v : Int), (resQ r)[k]? = some v → r.lo ≤ v ∧ v ≤ r.hi) : okB r = true := by
  unfold okB
  refine List.all_eq_true.2 fun v hv => ?_
  obtain ⟨k, hk⟩ := List.mem_iff_getElem?.1 hv
  exact decide_eq_true (h k v hk)
theorem okB_iff {r : Ru} : okB r = true ↔ ∀ k, k < naR r * nbR r → r.lo ≤ resQat r k ∧ resQat r k ≤ r.hi := by
  constructor
  · intro h k hk
    exact of_decide_eq_true (List.all_eq_true.1 h _ (List.mem_of_getElem? (resQ_get hk)))
  · intro h
    refine okB_yes fun k v hk => ?_
    have hlt := (List.getElem?_eq_some_iff.1 hk).1
    rw [resQ_len] at hlt
    rw [resQ_get hlt] at hk
    cases hk
    exact h k hlt
/-- What Right answers. -/
def rightR (r : Ru) : Int :=
  if ((-2147483648 ≤ r.alo ∧ r.alo ≤ 2147483647) ∧ (-2147483648 ≤ r.ahi ∧ r.ahi ≤ 2147483647) ∧ (-2147483648 ≤ r.blo ∧ r.blo ≤ 2147483647) ∧ (-2147483648 ≤ r.bhi ∧ r.bhi ≤ 2147483647) ∧ (-2147483648 ≤ r.lo ∧ r.lo ≤ 2147483647) ∧ -2147483648 ≤ r.hi ∧ r.hi ≤ 2147483647) ∧
    (1 ≤ r.id ∧ r.id ≤ 1073741824 ∧ 1 ≤ r.ver ∧ r.ver ≤ 1073741824 ∧ 0 ≤ r.firm ∧ r.firm < 8 ∧ 4 ≤ r.op ∧ r.op ≤ 10 ∧ r.alo ≤ r.ahi ∧ r.blo ≤ r.bhi ∧ r.lo ≤ r.hi)
  then if (r.ahi - r.alo + 1) * (r.bhi - r.blo + 1) > 4096 ∨ r.ahi - r.alo ≥ 4096 ∨ r.bhi - r.blo ≥ 4096 then 2 else 0
  else 130
theorem mul_small {x y : Int} (h1 : 0 ≤ x) (h2 : x ≤ 4096) (h3 : 0 ≤ y) (h4 : y ≤ 4096) : 0 ≤ x * y ∧ x * y ≤ 16777216 := by
  have := Int.mul_le_mul h2 h4 h3 (by omega)
  exact ⟨Int.mul_nonneg h1 h3, by omega⟩
theorem opV_b32 (op x y : Int) : -2147483648 ≤ opV op x y ∧ opV op x y ≤ 2147483647 := by
  have w := fun a => wrap32_bd a
  unfold opV
  have w1 := w x
  have w2 := w y
  split
  · exact w _
  · split
    · exact w _
    · split
      · exact w _
      · split
        · split
          · decide
          · exact w _
        · split
          · split
            · exact w1
            · exact w _
          · split
            · omega
            · split
              · omega
              · decide
theorem res_b32 (r : Ru) (k : Nat) : -2147483648 ≤ resQat r k ∧ resQat r k ≤ 2147483647 := opV_b32 _ _ _
/-! ### Made -/
structure Rv where
  op : Int
  a : Int
  b : Int
  n : Int
  m : Int
  lo : Int
  hi : Int
  id : Int
  sharp : Int
def rv0 : Rv := ⟨0, 0, 0, 0, 0, 0, 0, 0, 0⟩
def encV (x : Rv) : AV := .agg [.int .u8 x.op, .int .u8 x.a, .int .u8 x.b, .int .u8 x.n, .int .u8 x.m, .int .i16 x.lo, .int .i16 x.hi, .int .u8 x.id, .int .u8 x.sharp]
def BV (x : Rv) : Prop := (0 ≤ x.op ∧ x.op ≤ 255) ∧ (0 ≤ x.a ∧ x.a ≤ 255) ∧ (0 ≤ x.b ∧ x.b ≤ 255) ∧ (0 ≤ x.n ∧ x.n ≤ 255) ∧ (0 ≤ x.m ∧ x.m ≤ 255) ∧ (-32768 ≤ x.lo ∧ x.lo ≤ 32767) ∧ (-32768 ≤ x.hi ∧ x.hi ≤ 32767) ∧ (0 ≤ x.id ∧ x.id ≤ 255) ∧ 0 ≤ x.sharp ∧ x.sharp ≤ 255
def basR (x : Rv) : Ru := ⟨1 + x.id % 20, 1 + x.sharp % 4, x.id % 3, 4 + x.op % 7, x.a - 20, x.a - 20 + x.n % 40, x.b - 20, x.b - 20 + x.m % 40, min x.lo x.hi, max x.lo x.hi⟩
def loN (r : Ru) : Nat → Int
  | 0 => opV r.op r.alo r.blo
  | k + 1 => min (loN r k) (resQat r k)
def hiN (r : Ru) : Nat → Int
  | 0 => opV r.op r.alo r.blo
  | k + 1 => max (hiN r k) (resQat r k)
def madeR (x : Rv) : Ru := if x.sharp % 2 = 1 then basR x else ⟨(basR x).id, (basR x).ver, (basR x).firm, (basR x).op, (basR x).alo, (basR x).ahi, (basR x).blo, (basR x).bhi, loN (basR x) (naR (basR x) * nbR (basR x)), hiN (basR x) (naR (basR x) * nbR (basR x))⟩
theorem made_id (x : Rv) : (basR x).id = (madeR x).id := by unfold madeR; split <;> rfl
theorem made_ver (x : Rv) : (basR x).ver = (madeR x).ver := by unfold madeR; split <;> rfl
theorem made_firm (x : Rv) : (basR x).firm = (madeR x).firm := by unfold madeR; split <;> rfl
theorem made_op (x : Rv) : (basR x).op = (madeR x).op := by unfold madeR; split <;> rfl
theorem made_alo (x : Rv) : (basR x).alo = (madeR x).alo := by unfold madeR; split <;> rfl
theorem made_ahi (x : Rv) : (basR x).ahi = (madeR x).ahi := by unfold madeR; split <;> rfl
theorem made_blo (x : Rv) : (basR x).blo = (madeR x).blo := by unfold madeR; split <;> rfl
theorem made_bhi (x : Rv) : (basR x).bhi = (madeR x).bhi := by unfold madeR; split <;> rfl
theorem made_lo1 {x : Rv} (h : x.sharp % 2 = 1) : (basR x).lo = (madeR x).lo := by unfold madeR; rw [if_pos h]
theorem made_hi1 {x : Rv} (h : x.sharp % 2 = 1) : (basR x).hi = (madeR x).hi := by unfold madeR; rw [if_pos h]
theorem made_lo0 {x : Rv} (h : ¬ x.sharp % 2 = 1) {k : Nat} {v : Int} (hk : k = naR (basR x) * nbR (basR x)) (hv : v = loN (basR x) k) : v = (madeR x).lo := by unfold madeR; rw [if_neg h, hv, hk]
theorem made_hi0 {x : Rv} (h : ¬ x.sharp % 2 = 1) {k : Nat} {v : Int} (hk : k = naR (basR x) * nbR (basR x)) (hv : v = hiN (basR x) k) : v = (madeR x).hi := by unfold madeR; rw [if_neg h, hv, hk]
theorem lo_step {r : Ru} {i j k : Nat} {a b u : Int} (ha : a = r.alo + (i : Int)) (hb : b = r.blo + (j : Int)) (hk : k = i * nbR r + j) (hj : j < nbR r) (hu : u = loN r k) : min u (opV r.op a b) = loN r (k + 1) := by
  rw [loN, hu, hk, res_at hj, ha, hb]
theorem hi_step {r : Ru} {i j k : Nat} {a b u : Int} (ha : a = r.alo + (i : Int)) (hb : b = r.blo + (j : Int)) (hk : k = i * nbR r + j) (hj : j < nbR r) (hu : u = hiN r k) : max u (opV r.op a b) = hiN r (k + 1) := by
  rw [hiN, hu, hk, res_at hj, ha, hb]
theorem lohi (r : Ru) : ∀ k, -2147483648 ≤ loN r k ∧ loN r k ≤ hiN r k ∧ hiN r k ≤ 2147483647
  | 0 => by have := opV_b32 r.op r.alo r.blo; unfold loN hiN; omega
  | k + 1 => by have := lohi r k; have := res_b32 r k; rw [loN, hiN]; omega
/-- What a made rule is like. -/
theorem made_bd {x : Rv} (h : BV x) : (1 ≤ (madeR x).id ∧ (madeR x).id ≤ 20) ∧ (1 ≤ (madeR x).ver ∧ (madeR x).ver ≤ 4) ∧ (0 ≤ (madeR x).firm ∧ (madeR x).firm ≤ 2) ∧ (4 ≤ (madeR x).op ∧ (madeR x).op ≤ 10) ∧ (-20 ≤ (madeR x).alo ∧ (madeR x).alo ≤ 235) ∧ ((madeR x).alo ≤ (madeR x).ahi ∧ (madeR x).ahi ≤ (madeR x).alo + 39) ∧ (-20 ≤ (madeR x).blo ∧ (madeR x).blo ≤ 235) ∧ ((madeR x).blo ≤ (madeR x).bhi ∧ (madeR x).bhi ≤ (madeR x).blo + 39) ∧ (-2147483648 ≤ (madeR x).lo ∧ (madeR x).lo ≤ (madeR x).hi) ∧ (madeR x).hi ≤ 2147483647 := by
  obtain ⟨h1, h2, h3, h4, h5, h6, h7, h8, h9⟩ := h
  rw [← made_id, ← made_ver, ← made_firm, ← made_op, ← made_alo, ← made_ahi, ← made_blo, ← made_bhi]
  have hlh : (-2147483648 ≤ (madeR x).lo ∧ (madeR x).lo ≤ (madeR x).hi) ∧ (madeR x).hi ≤ 2147483647 := by
    by_cases c : x.sharp % 2 = 1
    · rw [← made_lo1 c, ← made_hi1 c]
      show (-2147483648 ≤ min x.lo x.hi ∧ min x.lo x.hi ≤ max x.lo x.hi) ∧ max x.lo x.hi ≤ 2147483647
      omega
    · rw [← made_lo0 c rfl rfl, ← made_hi0 c rfl rfl]
      have := lohi (basR x) (naR (basR x) * nbR (basR x))
      omega
  refine ⟨?_, ?_, ?_, ?_, ?_, ?_, ?_, ?_, hlh⟩
  · show 1 ≤ 1 + x.id % 20 ∧ 1 + x.id % 20 ≤ 20; omega
  · show 1 ≤ 1 + x.sharp % 4 ∧ 1 + x.sharp % 4 ≤ 4; omega
  · show 0 ≤ x.id % 3 ∧ x.id % 3 ≤ 2; omega
  · show 4 ≤ 4 + x.op % 7 ∧ 4 + x.op % 7 ≤ 10; omega
  · show -20 ≤ x.a - 20 ∧ x.a - 20 ≤ 235; omega
  · show x.a - 20 ≤ x.a - 20 + x.n % 40 ∧ x.a - 20 + x.n % 40 ≤ x.a - 20 + 39; omega
  · show -20 ≤ x.b - 20 ∧ x.b - 20 ≤ 235; omega
  · show x.b - 20 ≤ x.b - 20 + x.m % 40 ∧ x.b - 20 + x.m % 40 ≤ x.b - 20 + 39; omega
/-! ### Right -/
def valsQ (r : Ru) : List Int := [r.alo, r.ahi, r.blo, r.bhi, r.lo, r.hi]
theorem vals_all {r : Ru} (h : ∀ j : Nat, j < 6 → -2147483648 ≤ (valsQ r).getD j 0 ∧ (valsQ r).getD j 0 ≤ 2147483647) :
    (-2147483648 ≤ r.alo ∧ r.alo ≤ 2147483647) ∧ (-2147483648 ≤ r.ahi ∧ r.ahi ≤ 2147483647) ∧ (-2147483648 ≤ r.blo ∧ r.blo ≤ 2147483647) ∧ (-2147483648 ≤ r.bhi ∧ r.bhi ≤ 2147483647) ∧ (-2147483648 ≤ r.lo ∧ r.lo ≤ 2147483647) ∧ -2147483648 ≤ r.hi ∧ r.hi ≤ 2147483647 :=
  ⟨h 0 (by decide), h 1 (by decide), h 2 (by decide), h 3 (by decide), h 4 (by decide), h 5 (by decide)⟩
theorem vals_get {r : Ru} (h : (-2147483648 ≤ r.alo ∧ r.alo ≤ 2147483647) ∧ (-2147483648 ≤ r.ahi ∧ r.ahi ≤ 2147483647) ∧ (-2147483648 ≤ r.blo ∧ r.blo ≤ 2147483647) ∧ (-2147483648 ≤ r.bhi ∧ r.bhi ≤ 2147483647) ∧ (-2147483648 ≤ r.lo ∧ r.lo ≤ 2147483647) ∧ -2147483648 ≤ r.hi ∧ r.hi ≤ 2147483647) {j : Nat} (hj : j < 6) : -2147483648 ≤ (valsQ r).getD j 0 ∧ (valsQ r).getD j 0 ≤ 2147483647 := by
  obtain ⟨h0, h1, h2, h3, h4, h5⟩ := h
  match j, hj with
  | 0, _ => exact h0
  | 1, _ => exact h1
  | 2, _ => exact h2
  | 3, _ => exact h3
  | 4, _ => exact h4
  | 5, _ => exact h5
theorem right_val {r : Ru} {j : Nat} (hj : j < 6) (h : ¬ (-2147483648 ≤ (valsQ r).getD j 0 ∧ (valsQ r).getD j 0 ≤ 2147483647)) : (130 : Int) = rightR r := by
  unfold rightR
  rw [if_neg fun k => h (vals_get k.1 hj)]
theorem vals_step {r : Ru} {n : Nat} (h : ∀ j : Nat, j < n → -2147483648 ≤ (valsQ r).getD j 0 ∧ (valsQ r).getD j 0 ≤ 2147483647) (h2 : -2147483648 ≤ (valsQ r).getD n 0 ∧ (valsQ r).getD n 0 ≤ 2147483647) : ∀ j : Nat, j < n + 1 → -2147483648 ≤ (valsQ r).getD j 0 ∧ (valsQ r).getD j 0 ≤ 2147483647 := fun j hj => by
  by_cases e : j = n
  · subst e; exact h2
  · exact h j (by omega)
theorem wrap_small {x y : Int} (h1 : 0 ≤ x) (h2 : x ≤ 4096) (h3 : 0 ≤ y) (h4 : y ≤ 4096) : IntKind.wrap .i64 (x * y) = x * y := by
  have := mul_small h1 h2 h3 h4
  simp [IntKind.wrap, IntKind.bits, IntKind.signed]; split <;> omega
end Go.Proofs.Ytioiffbnbjalcaa
