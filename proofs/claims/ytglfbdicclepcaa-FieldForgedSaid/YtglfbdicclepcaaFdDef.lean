/- Reports of machines: what they are, their tags, and what they say together. Plain mathematics. -/
import Derived.Test.YtglfbdicclepcaaEvW
set_option linter.unusedVariables false
set_option linter.unusedSimpArgs false
namespace Go.Proofs.Ytglfbdicclepcaa
open Go.RowKit
set_option maxRecDepth 100000
abbrev encI (x : Int) : AV := .int .i64 x
abbrev encU (x : Int) : AV := .int .u64 x
def stepI (h w : Int) : Int :=
  bits .xor .u64 (IntKind.wrap .u64 (bits .xor .u64 (IntKind.wrap .u64 (bits .xor .u64 h w * 11400714819323198485)) ((IntKind.wrap .u64 (bits .xor .u64 h w * 11400714819323198485)) / 536870912) * 13787848793156543929))
    ((IntKind.wrap .u64 (bits .xor .u64 (IntKind.wrap .u64 (bits .xor .u64 h w * 11400714819323198485)) ((IntKind.wrap .u64 (bits .xor .u64 h w * 11400714819323198485)) / 536870912) * 13787848793156543929)) / 4294967296)
def wfold (l : List Int) (n : Nat) : Int := l.foldl (fun h w => stepI h (w % 18446744073709551616)) (stepI 2611923443488327891 (n : Int))
theorem wrap_u64 (x : Int) : IntKind.wrap .u64 x = x % 18446744073709551616 := by simp [IntKind.wrap, IntKind.bits, IntKind.signed]
theorem iU64 {x y : Int} (h : x = y) : AV.int .u64 x = AV.int .u64 y := by rw [h]
theorem wfold_at {l : List Int} {k n : Nat} (h : k < l.length) : wfold (l.take (k + 1)) n = stepI (wfold (l.take k) n) (l.getD k 0 % 18446744073709551616) := by
  unfold wfold
  have e : l.take (k + 1) = l.take k ++ [l[k]] := by rw [List.take_add_one, List.getElem?_eq_getElem h]; rfl
  rw [e, List.foldl_append, List.getD_eq_getElem?_getD, List.getElem?_eq_getElem h]; rfl
def joinI (a b : Int) : Int := stepI (stepI 11820040416388919760 a) b
structure Ct where
  machine : Int
  seq : Int
  promise : Int
  seen : Int
  looked : Int
  broken : Int
  tag : Int
  deriving DecidableEq
def ct0 : Ct := ⟨0, 0, 0, 0, 0, 0, 0⟩
def encK (c : Ct) : AV := .agg [.int .i64 c.machine, .int .i64 c.seq, .int .i64 c.promise, .int .i64 c.seen, .int .i64 c.looked, .int .i64 c.broken, .int .u64 c.tag]
def fldsC (c : Ct) : List Int := [c.machine, c.seq, c.promise, c.seen, c.looked, c.broken]
def tagI (key : Int) (c : Ct) : Int := joinI key (wfold (fldsC c) 6)
def signC (key : Int) (c : Ct) : Ct := ⟨c.machine, c.seq, c.promise, c.seen, c.looked, c.broken, tagI key c⟩
/-- A report that counts. -/
def RightC (keys : List Int) (c : Ct) : Prop := 0 ≤ c.machine ∧ c.machine < keys.length ∧ 1 ≤ c.seq ∧ c.seq ≤ 1073741824 ∧ 0 ≤ c.broken ∧ c.broken ≤ c.looked ∧ c.looked ≤ c.seen ∧ c.seen ≤ 1099511627776 ∧ c.tag = tagI (keys.getD c.machine.toNat 0) c
instance (keys : List Int) (c : Ct) : Decidable (RightC keys c) := inferInstanceAs (Decidable (_ ∧ _))
def rightE (keys : List Int) (c : Ct) : Int := if RightC keys c then 0 else 320
theorem rt_yes {keys : List Int} {c : Ct} (h1 : 0 ≤ c.machine ∧ c.machine < keys.length) (h2 : 1 ≤ c.seq ∧ c.seq ≤ 1073741824) (h3 : 0 ≤ c.broken ∧ c.broken ≤ c.looked ∧ c.looked ≤ c.seen ∧ c.seen ≤ 1099511627776) (h4 : c.tag = tagI (keys.getD c.machine.toNat 0) c) : 0 = rightE keys c := by
  unfold rightE; rw [if_pos ⟨h1.1, h1.2, h2.1, h2.2, h3.1, h3.2.1, h3.2.2.1, h3.2.2.2, h4⟩]
theorem rt_no {keys : List Int} {c : Ct} (h : c.machine < 0 ∨ keys.length ≤ c.machine ∨ c.seq < 1 ∨ 1073741824 < c.seq ∨ c.broken < 0 ∨ c.looked < c.broken ∨ c.seen < c.looked ∨ 1099511627776 < c.seen ∨ ¬ c.tag = tagI (keys.getD c.machine.toNat 0) c) : 320 = rightE keys c := by
  unfold rightE; rw [if_neg]
  intro k; unfold RightC at k; omega
end Go.Proofs.Ytglfbdicclepcaa
