/- Sets of values as plain data: what the functions of package span compute, in plain arithmetic. -/
import Derived.Test.YtioiffbnbjalcaaRows
import Derived.Test.YtioiffbnbjalcaaNumDef
import Derived.Laws.Bits64
import Derived.Below
import Derived.Lib.Hide
set_option linter.unusedVariables false
set_option linter.unusedSimpArgs false
namespace Go.Proofs.Ytioiffbnbjalcaa
open Go.RowKit

/-- A set. -/
structure Ab where
  lo : Int
  hi : Int
  m : Int
  r : Int
  k : Int

def abVal (a : Ab) : Value := .agg #[.int .i64 a.lo, .int .i64 a.hi, .int .i64 a.m, .int .i64 a.r, .int .i64 a.k]

def stepS (a : Ab) : Int := if a.lo = a.hi then 0 else a.m

/-- The values from lo to hi by m. -/
def byS (lo hi m k : Int) : Ab :=
  if 0 < m then (if lo = hi - (hi - lo) % m then ⟨lo, lo, 1, 0, k⟩ else ⟨lo, hi - (hi - lo) % m, m, lo % m, k⟩) else ⟨lo, lo, 1, 0, k⟩

def likeS (r m lo hi k : Int) : Ab := byS (lo + (r - lo) % m) hi m k

/-- The greatest divisor of numbers that are not negative. -/
def gcdS : Int → List Int → Int
  | a, [] => a
  | a, b :: l => gcdS (Int.gcd a b) l

theorem gcdS_nonneg (a : Int) (h : 0 ≤ a) : ∀ (l : List Int), 0 ≤ gcdS a l := by
  intro l
  induction l generalizing a with
  | nil => exact h
  | cons b l ih => exact ih _ (by omega)

def absS (a : Int) : Int := max a (-a)

def orS (a b : Int) : Int := bits .or .i64 a b
def andS (a b : Int) : Int := bits .and .i64 a b
def notS (a b : Int) : Int := bits .andNot .i64 a b

def joinS (a b : Ab) : Ab := byS (min a.lo b.lo) (max a.hi b.hi) (gcdS (stepS a) [stepS b, absS (a.lo - b.lo)]) (orS a.k b.k)

/-- A set that is right. -/
structure Good (a : Ab) : Prop where
  h1 : -2147483648 ≤ a.lo
  h2 : a.lo ≤ a.hi
  h3 : a.hi ≤ 2147483647
  h4 : 0 ≤ a.k
  h5 : a.k ≤ 255
  h6 : 1 ≤ a.m
  h7 : a.lo = a.hi → a.m = 1 ∧ a.r = 0
  h8 : a.lo ≠ a.hi → a.m ≤ a.hi - a.lo ∧ (a.hi - a.lo) % a.m = 0 ∧ a.r = a.lo % a.m

/-- A number is a value of a set. -/
def InS (a : Ab) (v : Int) : Prop := a.lo ≤ v ∧ v ≤ a.hi ∧ (v - a.lo) % a.m = 0

instance (a : Ab) (v : Int) : Decidable (InS a v) := inferInstanceAs (Decidable (_ ∧ _ ∧ _))

theorem goodIff (a : Ab) : Good a ↔ (-2147483648 ≤ a.lo ∧ a.lo ≤ a.hi ∧ a.hi ≤ 2147483647 ∧ 0 ≤ a.k ∧ a.k ≤ 255 ∧ 1 ≤ a.m ∧ (a.lo = a.hi → a.m = 1 ∧ a.r = 0) ∧ (a.lo ≠ a.hi → a.m ≤ a.hi - a.lo ∧ (a.hi - a.lo) % a.m = 0 ∧ a.r = a.lo % a.m)) :=
  ⟨fun ⟨a, b, c, d, e, f, g, h⟩ => ⟨a, b, c, d, e, f, g, h⟩, fun ⟨a, b, c, d, e, f, g, h⟩ => ⟨a, b, c, d, e, f, g, h⟩⟩

instance (a : Ab) : Decidable (Good a) := decidable_of_iff' _ (goodIff a)

/-! ### Masks -/

theorem emod_of_tmod (a m : Int) (hm : 0 < m) : (a.tmod m + m).tmod m = a % m := by
  have h1 : 0 ≤ a.tmod m + m := by
    rcases Int.le_total 0 a with h | h
    · have := Int.tmod_nonneg m h; omega
    · have h2 : (-a).tmod m = -(a.tmod m) := Int.neg_tmod ..
      have h3 := Int.tmod_lt_of_pos (-a) hm
      omega
  rw [Int.tmod_eq_emod_of_nonneg h1, Int.add_emod_right]
  have h4 : a = m * (a.tdiv m) + a.tmod m := (Int.mul_tdiv_add_tmod a m).symm
  conv => rhs; rw [h4]
  rw [Int.mul_add_emod_self_left]

theorem tmod_bd (a m : Int) (hm : 0 < m) : -m < a.tmod m ∧ a.tmod m < m := by
  have h1 := Int.tmod_lt_of_pos a hm
  have h2 : (-a).tmod m = -(a.tmod m) := Int.neg_tmod ..
  have h3 := Int.tmod_lt_of_pos (-a) hm
  omega

end Go.Proofs.Ytioiffbnbjalcaa
