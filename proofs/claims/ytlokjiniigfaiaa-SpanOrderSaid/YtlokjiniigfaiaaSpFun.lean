/- Contracts of the small functions of package span: remainders, sizes, steps, greatest divisors, and sets by ends and step. -/
import Derived.Test.YtlokjiniigfaiaaRows
import Derived.Test.YtlokjiniigfaiaaBase
import Derived.Test.YtlokjiniigfaiaaTree
import Derived.Test.YtlokjiniigfaiaaSpDef
import Derived.Outline
import Derived.ProofKit
import Derived.Deep.QuietTactic
import Derived.BigQuiet
import Derived.Deep.RegionHeld3
import Derived.Lib.Hide
set_option linter.unusedVariables false
set_option linter.unusedSimpArgs false
namespace Go.Proofs.Ytlokjiniigfaiaa
open Go.ChangeShapes Go.WideShapes Go.ChangeAt Go.RowKit

/-- A block of a world is a block of a later one. -/
theorem block_kept {B n : Nat} {w w' : World} (hb : Below B w w') (hn : n < B) {o : Obj} (h : w.heap[n]? = some o) : w'.heap[n]? = some o := (hb.block n hn).trans h
theorem block_alloc (w : World) (cs : Array Value) (t : TypeId) : (w.alloc (.cells cs t)).heap[w.heap.size]? = some (.cells cs t (0, 0)) := by
  show (w.heap.push _)[w.heap.size]? = _
  simp
theorem block_over {w : World} {n : Nat} (o : Obj) {p : Obj} (h : w.heap[n]? = some p) : (w.alloc o).heap[n]? = some p := by
  have hn : n < w.heap.size := by
    rcases Nat.lt_or_ge n w.heap.size with h1 | h1
    · exact h1
    · rw [Array.getElem?_eq_none (by omega)] at h; cases h
  rw [Below.heap_alloc _ _ _ hn]; exact h
theorem cell_of {w : World} {g : Nat} {cs : Array Value} {t : TypeId} {fr : Nat × Nat} (h : w.heap[g]? = some (.cells cs t fr)) (i : Nat) : w.cell? ⟨g, i, none⟩ = cs[i]? := by simp [World.cell?, h]
theorem unfrozen_of {w : World} {g : Nat} {cs : Array Value} {t : TypeId} (h : w.heap[g]? = some (.cells cs t (0, 0))) (i : Nat) : w.frozen? ⟨g, i, none⟩ = false := by simp [World.frozen?, h]

theorem below_set5 {B : Nat} {a w : World} (h : Below B a w) {n : Nat} (hn : B ≤ n) (v0 v1 v2 v3 v4 : Value) :
    Below B a (((((w.setCell ⟨n, 0, none⟩ v0).setCell ⟨n, 1, none⟩ v1).setCell ⟨n, 2, none⟩ v2).setCell ⟨n, 3, none⟩ v3).setCell ⟨n, 4, none⟩ v4) :=
  ((((h.setCell hn v0).setCell hn v1).setCell hn v2).setCell hn v3).setCell hn v4
theorem below_set2 {B : Nat} {a w : World} (h : Below B a w) {n : Nat} (hn : B ≤ n) (v0 v1 : Value) :
    Below B a ((w.setCell ⟨n, 0, none⟩ v0).setCell ⟨n, 1, none⟩ v1) := (h.setCell hn v0).setCell hn v1
theorem below_al (w : World) (o : Obj) {w' : World} (hb : Below (w.alloc o).heap.size (w.alloc o) w') : Below w.heap.size w w' := ((Below.refl _ _).alloc (Nat.le_refl _) o).trans (hb.mono (by simp))
theorem below_then {B : Nat} {a w w' : World} (h : Below B a w) (hB : B ≤ w.heap.size) (hb : Below w.heap.size w w') : Below B a w' := h.trans (hb.mono hB)

set_option maxHeartbeats 400000 in
theorem mod_is (a m : Int) (hm : 0 < m) (hm2 : m ≤ 4611686018427387904) (w : World) :
    Calls Try.prog 81 #[.int .i64 a, .int .i64 m] w fun e w' => e = .returned (.int .i64 (a % m)) ∧ w = w' := by
  have h0 : ¬ m = 0 := by omega
  have h1 := tmod_bd a m hm
  have H := Lib.hid (show (a.tmod m + m) % m = a % m by rw [← Int.tmod_eq_emod_of_nonneg (by omega)]; exact emod_of_tmod a m hm)
  go_enter Try.func81, Try.ntmps81
  go_wp2
  go_ret
  exact ⟨ret_int H.out, rfl⟩

set_option maxHeartbeats 400000 in
theorem rmod_is (a m : Int) (hm : 0 < m) (hm2 : m ≤ 4611686018427387904) (w : World) :
    Calls Try.prog 42 #[.int .i64 a, .int .i64 m] w fun e w' => e = .returned (.int .i64 (a % m)) ∧ w = w' := by
  have h0 : ¬ m = 0 := by omega
  have h1 := tmod_bd a m hm
  have H := Lib.hid (show (a.tmod m + m) % m = a % m by rw [← Int.tmod_eq_emod_of_nonneg (by omega)]; exact emod_of_tmod a m hm)
  go_enter Try.func42, Try.ntmps42
  go_wp2
  go_ret
  exact ⟨ret_int H.out, rfl⟩

set_option maxHeartbeats 400000 in
theorem abs_is (a : Int) (h : -9223372036854775807 ≤ a ∧ a ≤ 9223372036854775807) (w : World) :
    Calls Try.prog 50 #[.int .i64 a] w fun e w' => e = .returned (.int .i64 (absS a)) ∧ w = w' := by
  go_enter Try.func50, Try.ntmps50
  go_wp2
  all_goals
    go_ret
    exact ⟨ret_int (by unfold absS; omega), rfl⟩

set_option maxHeartbeats 400000 in
theorem value_is (a : Int) (w : World) :
    Calls Try.prog 101 #[.int .i64 a] w fun e w' => e = .returned (.bool (decide (-2147483648 ≤ a ∧ a ≤ 2147483647))) ∧ w = w' := by
  go_enter Try.func101, Try.ntmps101
  go_wp2
  all_goals
    go_ret
    exact ⟨by simp; omega, rfl⟩

set_option maxHeartbeats 400000 in
theorem step_is (lo hi m r k : Int) (w : World) :
    Calls Try.prog 44 #[.agg #[.int .i64 lo, .int .i64 hi, .int .i64 m, .int .i64 r, .int .i64 k]] w fun e w' => e = .returned (.int .i64 (if lo = hi then 0 else m)) ∧ Below w.heap.size w w' := by
  by_cases h : lo = hi
  · subst h
    go_enter Try.func44, Try.ntmps44
    go_wp2
    go_ret
    exact ⟨ret_int (by simp), (Below.refl _ _).alloc (Nat.le_refl _) _⟩
  · have h2 : (lo == hi) = false := by simpa using h
    have H := Lib.hid h
    clear h
    go_enter Try.func44, Try.ntmps44
    go_wp2
    go_ret
    exact ⟨by first | rfl | exact ret_int (if_neg H.out).symm, (Below.refl _ _).alloc (Nat.le_refl _) _⟩

theorem by_dec (lo hi m k : Int) (hm : 0 < m) (hl : lo ≤ hi) : lo ≤ hi - (hi - lo) % m ∧ hi - (hi - lo) % m ≤ hi := by
  have h1 := Int.emod_nonneg (hi - lo) (show m ≠ 0 by omega)
  have h2 : (hi - lo) % m ≤ hi - lo := by
    have h3 := Int.mul_ediv_add_emod (hi - lo) m
    have h4 : 0 ≤ m * ((hi - lo) / m) := Int.mul_nonneg (by omega) (Int.ediv_nonneg (by omega) (by omega))
    omega
  omega

set_option maxHeartbeats 400000 in
theorem by_is (lo hi m k : Int) (h1 : -4611686018427387904 ≤ lo) (h2 : lo ≤ hi) (h3 : hi ≤ 4611686018427387904) (hm : 0 < m ∨ lo = hi) (hm2 : m ≤ 9223372036854775807) (hd : hi - lo ≤ 4611686018427387904) (w : World) :
    Calls Try.prog 46 #[.int .i64 lo, .int .i64 hi, .int .i64 m, .int .i64 k] w fun e w' => e = .returned (abVal (byS lo hi m k)) ∧ Below w.heap.size w w' := by
  by_cases hp : 0 < m
  · have hb := by_dec lo hi m k hp h2
    have h5 : ¬ m = 0 := by omega
    have h7 : 0 ≤ (hi - lo) % m ∧ (hi - lo) % m < m := ⟨Int.emod_nonneg _ h5, Int.emod_lt_of_pos _ hp⟩
    by_cases he : lo = hi - (hi - lo) % m
    · have ht : (lo == hi - (hi - lo) % m) = true := by simpa using he
      have E := Lib.hid (show byS lo hi m k = ⟨lo, lo, 1, 0, k⟩ by unfold byS; rw [if_pos hp, if_pos he])
      rw [E.out]
      clear E he
      go_enter Try.func46, Try.ntmps46
      go_wp2_with fail
      exact bodyPost_ret (v := abVal ⟨lo, lo, 1, 0, k⟩) (by simp [results, Try.results46, go_sem, abVal]) rfl ⟨rfl, (Below.refl _ _).alloc (Nat.le_refl _) _⟩
    · have ht : (lo == hi - (hi - lo) % m) = false := by simpa using he
      have E := Lib.hid (show byS lo hi m k = ⟨lo, hi - (hi - lo) % m, m, lo % m, k⟩ by unfold byS; rw [if_pos hp, if_neg he])
      rw [E.out]
      have hm3 : m ≤ 4611686018427387904 := by
        by_cases hx : m ≤ hi - lo
        · omega
        · exact absurd (by rw [Int.emod_eq_of_lt (by omega) (by omega)]; omega) he
      clear E he
      go_enter Try.func46, Try.ntmps46
      go_wp2_with (go_at_call 81; refine (mod_is _ _ hp hm3 _).mono ?_; rintro e w' ⟨rfl, rfl⟩)
      exact bodyPost_ret (v := abVal ⟨lo, hi - (hi - lo) % m, m, lo % m, k⟩) (by simp [results, Try.results46, go_sem, abVal]) rfl ⟨rfl, (Below.refl _ _).alloc (Nat.le_refl _) _⟩
  · obtain rfl : lo = hi := by omega
    have E := Lib.hid (show byS lo lo m k = ⟨lo, lo, 1, 0, k⟩ by unfold byS; rw [if_neg hp])
    rw [E.out]
    clear E
    go_enter Try.func46, Try.ntmps46
    go_wp2_with fail
    exact bodyPost_ret (v := abVal ⟨lo, lo, 1, 0, k⟩) (by simp [results, Try.results46, go_sem, abVal]) rfl ⟨rfl, (Below.refl _ _).alloc (Nat.le_refl _) _⟩

end Go.Proofs.Ytlokjiniigfaiaa
