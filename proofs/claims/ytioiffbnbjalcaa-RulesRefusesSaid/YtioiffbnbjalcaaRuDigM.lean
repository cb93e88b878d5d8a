/- The digest of a list tells lists apart that differ in one place: plain mathematics. -/
import Derived.Test.YtioiffbnbjalcaaRuDef
import Derived.Test.YtioiffbnbjalcaaEvW
set_option linter.unusedVariables false
set_option linter.unusedSimpArgs false
namespace Go.Proofs.Ytioiffbnbjalcaa
open Go.RowKit
set_option maxRecDepth 100000
def stepI (h w : Int) : Int :=
  bits .xor .u64 (IntKind.wrap .u64 (bits .xor .u64 (IntKind.wrap .u64 (bits .xor .u64 h w * 11400714819323198485)) ((IntKind.wrap .u64 (bits .xor .u64 h w * 11400714819323198485)) / 536870912) * 13787848793156543929))
    ((IntKind.wrap .u64 (bits .xor .u64 (IntKind.wrap .u64 (bits .xor .u64 h w * 11400714819323198485)) ((IntKind.wrap .u64 (bits .xor .u64 h w * 11400714819323198485)) / 536870912) * 13787848793156543929)) / 4294967296)
def wfold (l : List Int) (n : Nat) : Int := l.foldl (fun h w => stepI h (w % 18446744073709551616)) (stepI 2611923443488327891 (n : Int))
def fldsR (r : Ru) : List Int := [r.id, r.ver, r.firm, r.op, r.alo, r.ahi, r.blo, r.bhi, r.lo, r.hi]
def digR (r : Ru) : Int := wfold (fldsR r) 10
def stepB (v : BitVec 64) : BitVec 64 :=
  ((v * 11400714819323198485#64 ^^^ (v * 11400714819323198485#64) >>> 29) * 13787848793156543929#64) ^^^ ((v * 11400714819323198485#64 ^^^ (v * 11400714819323198485#64) >>> 29) * 13787848793156543929#64) >>> 32
theorem ofInt_nat (b : BitVec 64) : BitVec.ofInt 64 (b.toNat : Int) = b := by
  apply BitVec.eq_of_toNat_eq
  rw [BitVec.toNat_ofInt]
  have := b.isLt
  omega
theorem xorB (a b : BitVec 64) : bits .xor .u64 (a.toNat : Int) (b.toNat : Int) = ((a ^^^ b).toNat : Int) := by
  have e : bits .xor .u64 (a.toNat : Int) (b.toNat : Int) = IntKind.u64.wrap ((BitVec.ofInt 64 (a.toNat : Int) ^^^ BitVec.ofInt 64 (b.toNat : Int)).toNat : Int) := rfl
  rw [e, ofInt_nat, ofInt_nat]
  have w : ∀ c : BitVec 64, IntKind.u64.wrap (c.toNat : Int) = (c.toNat : Int) := fun c => by
    have := c.isLt
    simp [IntKind.wrap, IntKind.bits, IntKind.signed]
    omega
  exact w _
theorem mulB (a : BitVec 64) (c : Nat) : IntKind.wrap .u64 ((a.toNat : Int) * (c : Int)) = ((a * BitVec.ofNat 64 c).toNat : Int) := by
  rw [BitVec.toNat_mul, BitVec.toNat_ofNat, Nat.mul_mod_mod]
  simp [IntKind.wrap, IntKind.bits, IntKind.signed]
theorem shrB (a : BitVec 64) (k n : Nat) (h : n = 2 ^ k) : (a.toNat : Int) / (n : Int) = ((a >>> k).toNat : Int) := by
  rw [BitVec.toNat_ushiftRight, Nat.shiftRight_eq_div_pow, h]
  simp
theorem stepI_eq (a b : BitVec 64) : stepI (a.toNat : Int) (b.toNat : Int) = ((stepB (a ^^^ b)).toNat : Int) := by
  unfold stepI
  rw [xorB, show (11400714819323198485 : Int) = ((11400714819323198485 : Nat) : Int) from rfl, show (13787848793156543929 : Int) = ((13787848793156543929 : Nat) : Int) from rfl, show (536870912 : Int) = ((536870912 : Nat) : Int) from rfl, show (4294967296 : Int) = ((4294967296 : Nat) : Int) from rfl, mulB, shrB _ 29 _ (by decide), xorB, mulB, shrB _ 32 _ (by decide), xorB]
  rfl
theorem xsh_inj {x y : BitVec 64} {s : Nat} (hs : 0 < s) (h : x ^^^ x >>> s = y ^^^ y >>> s) : x = y := by
  have hz : (x ^^^ y) = (x ^^^ y) >>> s := by
    apply BitVec.eq_of_getLsbD_eq
    intro i hi
    have := congrArg (fun z => z.getLsbD i) h
    simp only [BitVec.getLsbD_xor, BitVec.getLsbD_ushiftRight] at this ⊢
    revert this
    cases x.getLsbD i <;> cases y.getLsbD i <;> cases x.getLsbD (s + i) <;> cases y.getLsbD (s + i) <;> simp
  have h0 : (x ^^^ y).toNat = 0 := by
    have e := congrArg BitVec.toNat hz
    rw [BitVec.toNat_ushiftRight, Nat.shiftRight_eq_div_pow] at e
    rcases Nat.eq_zero_or_pos (x ^^^ y).toNat with c | c
    · exact c
    · have h2 : 2 ≤ 2 ^ s := by
        calc 2 = 2 ^ 1 := rfl
          _ ≤ 2 ^ s := Nat.pow_le_pow_right (by decide) hs
      have := Nat.div_lt_self c (show 1 < 2 ^ s by omega)
      omega
  have hxy : x ^^^ y = 0#64 := BitVec.eq_of_toNat_eq (by rw [h0]; rfl)
  have : x ^^^ y ^^^ y = 0#64 ^^^ y := by rw [hxy]
  rwa [BitVec.xor_assoc, BitVec.xor_self, BitVec.xor_zero, BitVec.zero_xor] at this
theorem mul_inj {x y a b : BitVec 64} (hab : a * b = 1#64) (h : x * a = y * a) : x = y := by
  have : x * a * b = y * a * b := by rw [h]
  rwa [BitVec.mul_assoc, BitVec.mul_assoc, hab, BitVec.mul_one, BitVec.mul_one] at this
theorem stepB_inj {v u : BitVec 64} (h : stepB v = stepB u) : v = u := by
  unfold stepB at h
  have h1 := xsh_inj (by decide) h
  have h2 := mul_inj (a := 13787848793156543929#64) (b := 10871156337175269513#64) (by decide) h1
  have h3 := xsh_inj (by decide) h2
  exact mul_inj (a := 11400714819323198485#64) (b := 17428512612931826493#64) (by decide) h3
theorem xor_inj {h k w : BitVec 64} (e : h ^^^ w = k ^^^ w) : h = k := by
  have : h ^^^ w ^^^ w = k ^^^ w ^^^ w := by rw [e]
  rwa [BitVec.xor_assoc, BitVec.xor_assoc, BitVec.xor_self, BitVec.xor_zero, BitVec.xor_zero] at this
/-- A list folded by any one-to-one step. -/
def foldS (S : BitVec 64 → BitVec 64) : List Int → BitVec 64 → BitVec 64
  | [], h => h
  | w :: l, h => foldS S l (S (h ^^^ BitVec.ofInt 64 w))
section
variable {S : BitVec 64 → BitVec 64} (hS : ∀ {v u : BitVec 64}, S v = S u → v = u)
include hS
theorem foldS_inj (l : List Int) : ∀ {h k : BitVec 64}, foldS S l h = foldS S l k → h = k := by
  induction l with
  | nil => intro h k e; exact e
  | cons w l ih => intro h k e; exact xor_inj (hS (ih e))
theorem foldS_set (l : List Int) : ∀ {i : Nat} {x : Int} {h : BitVec 64}, i < l.length → foldS S (l.set i x) h = foldS S l h → BitVec.ofInt 64 x = BitVec.ofInt 64 (l.getD i 0) := by
  induction l with
  | nil => intro i x h hi; simp at hi
  | cons w l ih =>
    intro i x h hi e
    cases i with
    | zero =>
      have e2 := hS (foldS_inj hS l e)
      rw [BitVec.xor_comm h, BitVec.xor_comm h] at e2
      exact xor_inj e2
    | succ i =>
      have := ih (i := i) (x := x) (h := S (h ^^^ BitVec.ofInt 64 w)) (by simpa using hi) e
      simpa using this
end
def foldB (l : List Int) (h : BitVec 64) : BitVec 64 := foldS stepB l h
theorem foldB_set {l : List Int} {i : Nat} {x : Int} {h : BitVec 64} (hi : i < l.length) (e : foldB (l.set i x) h = foldB l h) : BitVec.ofInt 64 x = BitVec.ofInt 64 (l.getD i 0) := foldS_set (fun h => stepB_inj h) l hi e
theorem ofInt_mod (w : Int) : (w % 18446744073709551616) = ((BitVec.ofInt 64 w).toNat : Int) := by
  rw [BitVec.toNat_ofInt]
  omega
theorem fold_eq (l : List Int) : ∀ (h : BitVec 64), l.foldl (fun h w => stepI h (w % 18446744073709551616)) (h.toNat : Int) = ((foldB l h).toNat : Int) := by
  unfold foldB
  induction l with
  | nil => intro h; rfl
  | cons w l ih =>
    intro h
    rw [List.foldl_cons, ofInt_mod, stepI_eq, ih, foldS]
theorem dig_eq (r : Ru) : digR r = ((foldB (fldsR r) (stepB (2611923443488327891#64 ^^^ 10#64))).toNat : Int) := by
  unfold digR wfold
  have := stepI_eq 2611923443488327891#64 10#64
  rw [show (2611923443488327891 : Int) = ((2611923443488327891#64 : BitVec 64).toNat : Int) from by decide, show ((10 : Nat) : Int) = ((10#64 : BitVec 64).toNat : Int) from by decide, this, fold_eq]
/-! ### One field set -/
def setR (r : Ru) (f n : Int) : Ru :=
  if f = 0 then ⟨n, r.ver, r.firm, r.op, r.alo, r.ahi, r.blo, r.bhi, r.lo, r.hi⟩ else if f = 1 then ⟨r.id, n, r.firm, r.op, r.alo, r.ahi, r.blo, r.bhi, r.lo, r.hi⟩
  else if f = 2 then ⟨r.id, r.ver, n, r.op, r.alo, r.ahi, r.blo, r.bhi, r.lo, r.hi⟩ else if f = 3 then ⟨r.id, r.ver, r.firm, n, r.alo, r.ahi, r.blo, r.bhi, r.lo, r.hi⟩
  else if f = 4 then ⟨r.id, r.ver, r.firm, r.op, n, r.ahi, r.blo, r.bhi, r.lo, r.hi⟩ else if f = 5 then ⟨r.id, r.ver, r.firm, r.op, r.alo, n, r.blo, r.bhi, r.lo, r.hi⟩
  else if f = 6 then ⟨r.id, r.ver, r.firm, r.op, r.alo, r.ahi, n, r.bhi, r.lo, r.hi⟩ else if f = 7 then ⟨r.id, r.ver, r.firm, r.op, r.alo, r.ahi, r.blo, n, r.lo, r.hi⟩
  else if f = 8 then ⟨r.id, r.ver, r.firm, r.op, r.alo, r.ahi, r.blo, r.bhi, n, r.hi⟩ else ⟨r.id, r.ver, r.firm, r.op, r.alo, r.ahi, r.blo, r.bhi, r.lo, n⟩
theorem ten {f : Int} (h : 0 ≤ f ∧ f < 10) : f = 0 ∨ f = 1 ∨ f = 2 ∨ f = 3 ∨ f = 4 ∨ f = 5 ∨ f = 6 ∨ f = 7 ∨ f = 8 ∨ f = 9 := by omega
theorem set_flds {r : Ru} {f n : Int} (h : 0 ≤ f ∧ f < 10) : fldsR (setR r f n) = (fldsR r).set f.toNat n := by
  rcases ten h with rfl | rfl | rfl | rfl | rfl | rfl | rfl | rfl | rfl | rfl <;> rfl
theorem flds_inj {r o : Ru} (h : fldsR r = fldsR o) : r = o := by
  cases r; cases o
  simp only [fldsR, List.cons.injEq, and_true] at h
  obtain ⟨rfl, rfl, rfl, rfl, rfl, rfl, rfl, rfl, rfl, rfl⟩ := h
  rfl
theorem ofInt_inj {x y : Int} (hx : -9223372036854775808 ≤ x ∧ x ≤ 9223372036854775807) (hy : -9223372036854775808 ≤ y ∧ y ≤ 9223372036854775807) (h : BitVec.ofInt 64 x = BitVec.ofInt 64 y) : x = y := by
  have := congrArg BitVec.toNat h
  rw [BitVec.toNat_ofInt, BitVec.toNat_ofInt] at this
  omega
theorem flds_64 {r : Ru} (h : I64R r) (i : Nat) : -9223372036854775808 ≤ (fldsR r).getD i 0 ∧ (fldsR r).getD i 0 ≤ 9223372036854775807 := by
  obtain ⟨h0, h1, h2, h3, h4, h5, h6, h7, h8, h9⟩ := h
  match i with
  | 0 => exact h0
  | 1 => exact h1
  | 2 => exact h2
  | 3 => exact h3
  | 4 => exact h4
  | 5 => exact h5
  | 6 => exact h6
  | 7 => exact h7
  | 8 => exact h8
  | 9 => exact h9
  | i + 10 => exact ⟨by simp [fldsR], by simp [fldsR]⟩
/-- The digests are equal exactly if the rules are. -/
theorem dig_set {r : Ru} {f n : Int} (hr : I64R r) (hf : 0 ≤ f ∧ f < 10) (hn : -9223372036854775808 ≤ n ∧ n ≤ 9223372036854775807) (h : digR r = digR (setR r f n)) : r = setR r f n := by
  rw [dig_eq, dig_eq, set_flds hf] at h
  have h1 : foldB ((fldsR r).set f.toNat n) _ = foldB (fldsR r) _ := BitVec.eq_of_toNat_eq (Int.ofNat.inj h.symm)
  have h2 := foldB_set (by show f.toNat < 10; omega) h1
  have h3 := ofInt_inj hn (flds_64 hr _) h2
  apply flds_inj
  rw [set_flds hf, h3]
  apply List.ext_getElem
  · simp
  · intro i a b
    rw [List.getElem_set]
    split
    · rename_i e
      subst e
      rw [List.getD_eq_getElem?_getD, List.getElem?_eq_getElem a]; rfl
    · rfl
theorem dig_dec {r : Ru} {f n : Int} (hr : I64R r) (hf : 0 ≤ f ∧ f < 10) (hn : -9223372036854775808 ≤ n ∧ n ≤ 9223372036854775807) : (digR r == digR (setR r f n)) = decide (r = setR r f n) := by
  rw [Bool.eq_iff_iff, beq_iff_eq, decide_eq_true_iff]
  exact ⟨dig_set hr hf hn, fun h => by rw [← h]⟩
theorem ru_dec (r o : Ru) : ((r.id == o.id) && ((r.ver == o.ver) && ((r.firm == o.firm) && ((r.op == o.op) && ((r.alo == o.alo) && ((r.ahi == o.ahi) && ((r.blo == o.blo) && ((r.bhi == o.bhi) && ((r.lo == o.lo) && ((r.hi == o.hi) && true)))))))))) = decide (r = o) := by
  rw [Bool.eq_iff_iff, decide_eq_true_iff]
  constructor
  · intro h
    simp only [Bool.and_eq_true, beq_iff_eq] at h
    obtain ⟨h0, h1, h2, h3, h4, h5, h6, h7, h8, h9, _⟩ := h
    cases r; cases o
    simp_all
  · rintro rfl
    simp
theorem set_64 {r : Ru} {f n : Int} (hr : I64R r) (hf : 0 ≤ f ∧ f < 10) (hn : -9223372036854775808 ≤ n ∧ n ≤ 9223372036854775807) : I64R (setR r f n) := by
  unfold I64R at *
  rcases ten hf with rfl | rfl | rfl | rfl | rfl | rfl | rfl | rfl | rfl | rfl <;> (simp [setR]; omega)
/-- What is known of the rule that was changed. -/
theorem set_facts {x : Rv} {f n : Int} (hx : BV x) (hf : 0 ≤ f ∧ f < 10) :
    ((f < 2 ∧ n < 1) ∨ (f = 2 ∧ (n < 0 ∨ 7 < n)) ∨ (f = 3 ∧ (n < 4 ∨ 10 < n)) ∨ n < -2147483648 ∨ 2147483647 < n → rightR (setR (madeR x) f n) = 130) ∧
    ((setR (madeR x) f n).alo > (setR (madeR x) f n).ahi → rightR (setR (madeR x) f n) = 130) ∧
    ((setR (madeR x) f n).ahi - (setR (madeR x) f n).alo ≥ 4096 → rightR (setR (madeR x) f n) ≠ 0) ∧
    (-2147483648 ≤ n ∧ n ≤ 2147483647 → (-2147483648 ≤ (setR (madeR x) f n).alo ∧ (setR (madeR x) f n).alo ≤ 2147483647) ∧ -2147483648 ≤ (setR (madeR x) f n).ahi ∧ (setR (madeR x) f n).ahi ≤ 2147483647) := by
  have h := made_bd hx
  refine ⟨fun hw => ?_, fun hw => ?_, fun hw => ?_, fun hw => ?_⟩
  · unfold rightR
    rw [if_neg]
    rcases ten hf with rfl | rfl | rfl | rfl | rfl | rfl | rfl | rfl | rfl | rfl <;> (simp [setR]; omega)
  · unfold rightR
    rw [if_neg (by omega)]
  · unfold rightR
    split
    · rw [if_pos (.inr (.inl hw))]; decide
    · decide
  · rcases ten hf with rfl | rfl | rfl | rfl | rfl | rfl | rfl | rfl | rfl | rfl <;> (simp [setR]; omega)
end Go.Proofs.Ytioiffbnbjalcaa
