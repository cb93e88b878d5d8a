/- The fixed calls with which each law of chapter 10 begins answer as the law asks. -/
import Derived.Test.YtlokjiniigfaiaaSpOp
import Derived.Test.YtlokjiniigfaiaaSpRem
import Derived.Test.YtlokjiniigfaiaaSpMade
set_option linter.unusedVariables false
set_option linter.unusedSimpArgs false
namespace Go.Proofs.Ytlokjiniigfaiaa
open Go.ChangeShapes Go.WideShapes Go.ChangeAt Go.RowKit

theorem cv {f : Nat} {args : Array Value} {z z' : Ab} (h : z = z') (H : ∀ w, Calls Try.prog f args w fun e w' => e = .returned (abVal z) ∧ Below w.heap.size w w') :
    ∀ w, Calls Try.prog f args w fun e w' => e = .returned (abVal z') ∧ Below w.heap.size w w' := h ▸ H

theorem ex_O0 : ∀ w, Calls Try.prog 39 #[.int .i64 4] w fun e w' => e = .returned (abVal ⟨4, 4, 1, 0, 0⟩) ∧ Below w.heap.size w w' :=
  cv (z := setS 4 4 1) (by kernel_rfl) (one_is 4)
theorem ex_O1 : ∀ w, Calls Try.prog 39 #[.int .i64 10] w fun e w' => e = .returned (abVal ⟨10, 10, 1, 0, 0⟩) ∧ Below w.heap.size w w' :=
  cv (z := setS 10 10 1) (by kernel_rfl) (one_is 10)
theorem ex_O2 : ∀ w, Calls Try.prog 40 #[.int .i64 4, .int .i64 10, .int .i64 6] w fun e w' => e = .returned (abVal ⟨4, 10, 6, 4, 0⟩) ∧ Below w.heap.size w w' :=
  cv (z := setS 4 10 6) (by kernel_rfl) (set_is 4 10 6 (by omega) (by omega))
theorem ex_O3 : ∀ w, Calls Try.prog 39 #[.int .i64 7] w fun e w' => e = .returned (abVal ⟨7, 7, 1, 0, 0⟩) ∧ Below w.heap.size w w' :=
  cv (z := setS 7 7 1) (by kernel_rfl) (one_is 7)
theorem ex_O4 : ∀ w, Calls Try.prog 40 #[.int .i64 4, .int .i64 10, .int .i64 3] w fun e w' => e = .returned (abVal ⟨4, 10, 3, 1, 0⟩) ∧ Below w.heap.size w w' :=
  cv (z := setS 4 10 3) (by kernel_rfl) (set_is 4 10 3 (by omega) (by omega))
theorem ex_O5 : ∀ w, Calls Try.prog 40 #[.int .i64 0, .int .i64 8, .int .i64 4] w fun e w' => e = .returned (abVal ⟨0, 8, 4, 0, 0⟩) ∧ Below w.heap.size w w' :=
  cv (z := setS 0 8 4) (by kernel_rfl) (set_is 0 8 4 (by omega) (by omega))
theorem ex_O6 : ∀ w, Calls Try.prog 40 #[.int .i64 1, .int .i64 5, .int .i64 2] w fun e w' => e = .returned (abVal ⟨1, 5, 2, 1, 0⟩) ∧ Below w.heap.size w w' :=
  cv (z := setS 1 5 2) (by kernel_rfl) (set_is 1 5 2 (by omega) (by omega))
theorem ex_O7 : ∀ w, Calls Try.prog 40 #[.int .i64 1, .int .i64 13, .int .i64 2] w fun e w' => e = .returned (abVal ⟨1, 13, 2, 1, 0⟩) ∧ Below w.heap.size w w' :=
  cv (z := setS 1 13 2) (by kernel_rfl) (set_is 1 13 2 (by omega) (by omega))
theorem ex_O8 : ∀ w, Calls Try.prog 40 #[.int .i64 0, .int .i64 9, .int .i64 1] w fun e w' => e = .returned (abVal ⟨0, 9, 1, 0, 0⟩) ∧ Below w.heap.size w w' :=
  cv (z := setS 0 9 1) (by kernel_rfl) (set_is 0 9 1 (by omega) (by omega))
theorem ex_O9 : ∀ w, Calls Try.prog 40 #[.int .i64 0, .int .i64 3, .int .i64 1] w fun e w' => e = .returned (abVal ⟨0, 3, 1, 0, 0⟩) ∧ Below w.heap.size w w' :=
  cv (z := setS 0 3 1) (by kernel_rfl) (set_is 0 3 1 (by omega) (by omega))
theorem ex_O10 : ∀ w, Calls Try.prog 39 #[.int .i64 0] w fun e w' => e = .returned (abVal ⟨0, 0, 1, 0, 0⟩) ∧ Below w.heap.size w w' :=
  cv (z := setS 0 0 1) (by kernel_rfl) (one_is 0)
theorem ex_O11 : ∀ w, Calls Try.prog 39 #[.int .i64 2147483647] w fun e w' => e = .returned (abVal ⟨2147483647, 2147483647, 1, 0, 0⟩) ∧ Below w.heap.size w w' :=
  cv (z := setS 2147483647 2147483647 1) (by kernel_rfl) (one_is 2147483647)
theorem ex_O12 : ∀ w, Calls Try.prog 40 #[.int .i64 1, .int .i64 3, .int .i64 2] w fun e w' => e = .returned (abVal ⟨1, 3, 2, 1, 0⟩) ∧ Below w.heap.size w w' :=
  cv (z := setS 1 3 2) (by kernel_rfl) (set_is 1 3 2 (by omega) (by omega))
theorem ex_O13 : ∀ w, Calls Try.prog 40 #[.int .i64 (-2147483648), .int .i64 2147483646, .int .i64 2] w fun e w' => e = .returned (abVal ⟨-2147483648, 2147483646, 2, 0, 0⟩) ∧ Below w.heap.size w w' :=
  cv (z := setS (-2147483648) 2147483646 2) (by kernel_rfl) (set_is (-2147483648) 2147483646 2 (by omega) (by omega))
theorem ex_O14 : ∀ w, Calls Try.prog 39 #[.int .i64 3] w fun e w' => e = .returned (abVal ⟨3, 3, 1, 0, 0⟩) ∧ Below w.heap.size w w' :=
  cv (z := setS 3 3 1) (by kernel_rfl) (one_is 3)
theorem ex_O15 : ∀ w, Calls Try.prog 40 #[.int .i64 1, .int .i64 7, .int .i64 3] w fun e w' => e = .returned (abVal ⟨1, 7, 3, 1, 0⟩) ∧ Below w.heap.size w w' :=
  cv (z := setS 1 7 3) (by kernel_rfl) (set_is 1 7 3 (by omega) (by omega))
theorem ex_J1 : ∀ w, Calls Try.prog 17 #[.agg #[.int .i64 4, .int .i64 4, .int .i64 1, .int .i64 0, .int .i64 0], .agg #[.int .i64 10, .int .i64 10, .int .i64 1, .int .i64 0, .int .i64 0]] w fun e w' => e = .returned (abVal ⟨4, 10, 6, 4, 0⟩) ∧ Below w.heap.size w w' :=
  cv (z := byS 4 10 6 (orS 0 0)) (by kernel_rfl) (join_raw 4 4 1 0 0 10 10 1 0 0 4 10 6 (by decide +kernel) (by decide +kernel) (by decide +kernel) (by decide +kernel) (by decide +kernel) (by decide +kernel) (by decide +kernel) (by decide +kernel) (by decide +kernel))
theorem ex_J2 : ∀ w, Calls Try.prog 17 #[.agg #[.int .i64 4, .int .i64 10, .int .i64 6, .int .i64 4, .int .i64 0], .agg #[.int .i64 7, .int .i64 7, .int .i64 1, .int .i64 0, .int .i64 0]] w fun e w' => e = .returned (abVal ⟨4, 10, 3, 1, 0⟩) ∧ Below w.heap.size w w' :=
  cv (z := byS 4 10 3 (orS 0 0)) (by kernel_rfl) (join_raw 4 10 6 4 0 7 7 1 0 0 4 10 3 (by decide +kernel) (by decide +kernel) (by decide +kernel) (by decide +kernel) (by decide +kernel) (by decide +kernel) (by decide +kernel) (by decide +kernel) (by decide +kernel))
theorem ex_A1 : ∀ w, Calls Try.prog 14 #[.int .i64 4, .agg #[.int .i64 0, .int .i64 8, .int .i64 4, .int .i64 0, .int .i64 0], .agg #[.int .i64 1, .int .i64 5, .int .i64 2, .int .i64 1, .int .i64 0]] w fun e w' => e = .returned (abVal ⟨1, 13, 2, 1, 0⟩) ∧ Below w.heap.size w w' :=
  cv (z := boundedS (0 + 1) (8 + 5) 2 (bits .or .i64 0 0)) (by kernel_rfl) (op4_is 0 8 4 0 0 1 5 2 1 0 _ (by decide +kernel) (add_is 0 8 4 0 0 1 5 2 1 0 (bits .or .i64 0 0) 2 (by decide +kernel) (by decide +kernel) (by decide +kernel) (by decide +kernel) (by decide +kernel) (by decide +kernel) (by decide +kernel)))
theorem ex_A2 : ∀ w, Calls Try.prog 14 #[.int .i64 4, .agg #[.int .i64 2147483647, .int .i64 2147483647, .int .i64 1, .int .i64 0, .int .i64 0], .agg #[.int .i64 1, .int .i64 3, .int .i64 2, .int .i64 1, .int .i64 0]] w fun e w' => e = .returned (abVal ⟨-2147483648, 2147483646, 2, 0, 0⟩) ∧ Below w.heap.size w w' :=
  cv (z := boundedS (2147483647 + 1) (2147483647 + 3) 2 (bits .or .i64 0 0)) (by kernel_rfl) (op4_is 2147483647 2147483647 1 0 0 1 3 2 1 0 _ (by decide +kernel) (add_is 2147483647 2147483647 1 0 0 1 3 2 1 0 (bits .or .i64 0 0) 2 (by decide +kernel) (by decide +kernel) (by decide +kernel) (by decide +kernel) (by decide +kernel) (by decide +kernel) (by decide +kernel)))
theorem ex_R1 : ∀ w, Calls Try.prog 14 #[.int .i64 8, .agg #[.int .i64 0, .int .i64 9, .int .i64 1, .int .i64 0, .int .i64 0], .agg #[.int .i64 4, .int .i64 4, .int .i64 1, .int .i64 0, .int .i64 0]] w fun e w' => e = .returned (abVal ⟨0, 3, 1, 0, 0⟩) ∧ Below w.heap.size w w' :=
  cv (z := likeS 0 1 0 3 (bits .or .i64 0 0)) (by kernel_rfl) (op8_is 0 9 1 0 0 4 4 1 0 0 _ (by decide +kernel) (rem_like 0 9 1 0 0 4 1 0 0 (bits .or .i64 0 0) 4 1 0 3 (by decide +kernel) (by decide +kernel) (by decide +kernel) (by decide +kernel) (by decide +kernel) (by decide +kernel) (by decide +kernel) (by decide +kernel) (by decide +kernel) (by decide +kernel)))
theorem ex_R2 : ∀ w, Calls Try.prog 14 #[.int .i64 8, .agg #[.int .i64 0, .int .i64 8, .int .i64 4, .int .i64 0, .int .i64 0], .agg #[.int .i64 4, .int .i64 4, .int .i64 1, .int .i64 0, .int .i64 0]] w fun e w' => e = .returned (abVal ⟨0, 0, 1, 0, 0⟩) ∧ Below w.heap.size w w' :=
  cv (z := likeS 0 4 0 3 (bits .or .i64 0 0)) (by kernel_rfl) (op8_is 0 8 4 0 0 4 4 1 0 0 _ (by decide +kernel) (rem_like 0 8 4 0 0 4 1 0 0 (bits .or .i64 0 0) 4 4 0 3 (by decide +kernel) (by decide +kernel) (by decide +kernel) (by decide +kernel) (by decide +kernel) (by decide +kernel) (by decide +kernel) (by decide +kernel) (by decide +kernel) (by decide +kernel)))
theorem ex_V : ∀ w, Calls Try.prog 32 #[.int .i64 5] w fun e w' => e = .returned (abVal ⟨-2147483648, 2147483647, 1, 0, 5⟩) ∧ Below w.heap.size w w' :=
  cv (z := byS (-2147483648) 2147483647 1 5) (by kernel_rfl) (all_is 5)
theorem ex_T : ∀ w, Calls Try.prog 15 #[.agg #[.int .i64 3, .int .i64 3, .int .i64 1, .int .i64 0, .int .i64 0]] w fun e w' => e = .returned (.bool true) ∧ Below w.heap.size w w' :=
  fun w => valid_one 3 0 (by omega) (by omega) (by omega) w
theorem ex_H1 : ∀ w, Calls Try.prog 13 #[.agg #[.int .i64 1, .int .i64 7, .int .i64 3, .int .i64 1, .int .i64 0], .agg #[.int .i64 4, .int .i64 0]] w fun e w' => e = .returned (.bool true) ∧ Below w.heap.size w w' :=
  fun w => by
    have h := has_is ⟨1, 7, 3, 1, 0⟩ 4 0 (by decide) (by decide) (by omega) w
    rw [show decide (InS ⟨1, 7, 3, 1, 0⟩ 4 ∧ notS 0 0 = 0) = true by decide +kernel] at h
    exact h
theorem ex_H2 : ∀ w, Calls Try.prog 13 #[.agg #[.int .i64 1, .int .i64 7, .int .i64 3, .int .i64 1, .int .i64 0], .agg #[.int .i64 4, .int .i64 1]] w fun e w' => e = .returned (.bool false) ∧ Below w.heap.size w w' :=
  fun w => by
    have h := has_is ⟨1, 7, 3, 1, 0⟩ 4 1 (by decide) (by decide) (by omega) w
    rw [show decide (InS ⟨1, 7, 3, 1, 0⟩ 4 ∧ notS 1 0 = 0) = false by decide +kernel] at h
    exact h

set_option maxRecDepth 100000 in
set_option maxHeartbeats 8000000 in
theorem spexamples (w : World) : Calls Try.prog 10 #[] w fun e w' => e = .returned (.bool true) ∧ Below w.heap.size w w' := by
  have KO0 := Lib.hid ex_O0
  have KO1 := Lib.hid ex_O1
  have KO2 := Lib.hid ex_O2
  have KO3 := Lib.hid ex_O3
  have KO4 := Lib.hid ex_O4
  have KO5 := Lib.hid ex_O5
  have KO6 := Lib.hid ex_O6
  have KO7 := Lib.hid ex_O7
  have KO8 := Lib.hid ex_O8
  have KO9 := Lib.hid ex_O9
  have KO10 := Lib.hid ex_O10
  have KO11 := Lib.hid ex_O11
  have KO12 := Lib.hid ex_O12
  have KO13 := Lib.hid ex_O13
  have KO14 := Lib.hid ex_O14
  have KO15 := Lib.hid ex_O15
  have KJ1 := Lib.hid ex_J1
  have KJ2 := Lib.hid ex_J2
  have KA1 := Lib.hid ex_A1
  have KA2 := Lib.hid ex_A2
  have KR1 := Lib.hid ex_R1
  have KR2 := Lib.hid ex_R2
  have KV := Lib.hid ex_V
  have KT := Lib.hid ex_T
  have KH1 := Lib.hid ex_H1
  have KH2 := Lib.hid ex_H2
  have KZ := Lib.hid valid_zero
  have hb1 := Below.refl w.heap.size w
  go_enter Try.func10, Try.ntmps10
  go_wp2_with (first | (go_at_call 39; (with_reducible_and_instances refine (KO0.out _).mono ?_); rintro e w1 ⟨rfl, hb⟩; have hb1 := hb1.trans (hb.mono hb1.size); clear hb; unfold abVal) | (go_at_call 39; (with_reducible_and_instances refine (KO1.out _).mono ?_); rintro e w1 ⟨rfl, hb⟩; have hb1 := hb1.trans (hb.mono hb1.size); clear hb; unfold abVal) | (go_at_call 40; (with_reducible_and_instances refine (KO2.out _).mono ?_); rintro e w1 ⟨rfl, hb⟩; have hb1 := hb1.trans (hb.mono hb1.size); clear hb; unfold abVal) | (go_at_call 39; (with_reducible_and_instances refine (KO3.out _).mono ?_); rintro e w1 ⟨rfl, hb⟩; have hb1 := hb1.trans (hb.mono hb1.size); clear hb; unfold abVal) | (go_at_call 40; (with_reducible_and_instances refine (KO4.out _).mono ?_); rintro e w1 ⟨rfl, hb⟩; have hb1 := hb1.trans (hb.mono hb1.size); clear hb; unfold abVal) | (go_at_call 40; (with_reducible_and_instances refine (KO5.out _).mono ?_); rintro e w1 ⟨rfl, hb⟩; have hb1 := hb1.trans (hb.mono hb1.size); clear hb; unfold abVal) | (go_at_call 40; (with_reducible_and_instances refine (KO6.out _).mono ?_); rintro e w1 ⟨rfl, hb⟩; have hb1 := hb1.trans (hb.mono hb1.size); clear hb; unfold abVal) | (go_at_call 40; (with_reducible_and_instances refine (KO7.out _).mono ?_); rintro e w1 ⟨rfl, hb⟩; have hb1 := hb1.trans (hb.mono hb1.size); clear hb; unfold abVal) | (go_at_call 40; (with_reducible_and_instances refine (KO8.out _).mono ?_); rintro e w1 ⟨rfl, hb⟩; have hb1 := hb1.trans (hb.mono hb1.size); clear hb; unfold abVal) | (go_at_call 40; (with_reducible_and_instances refine (KO9.out _).mono ?_); rintro e w1 ⟨rfl, hb⟩; have hb1 := hb1.trans (hb.mono hb1.size); clear hb; unfold abVal) | (go_at_call 39; (with_reducible_and_instances refine (KO10.out _).mono ?_); rintro e w1 ⟨rfl, hb⟩; have hb1 := hb1.trans (hb.mono hb1.size); clear hb; unfold abVal) | (go_at_call 39; (with_reducible_and_instances refine (KO11.out _).mono ?_); rintro e w1 ⟨rfl, hb⟩; have hb1 := hb1.trans (hb.mono hb1.size); clear hb; unfold abVal) | (go_at_call 40; (with_reducible_and_instances refine (KO12.out _).mono ?_); rintro e w1 ⟨rfl, hb⟩; have hb1 := hb1.trans (hb.mono hb1.size); clear hb; unfold abVal) | (go_at_call 40; (with_reducible_and_instances refine (KO13.out _).mono ?_); rintro e w1 ⟨rfl, hb⟩; have hb1 := hb1.trans (hb.mono hb1.size); clear hb; unfold abVal) | (go_at_call 39; (with_reducible_and_instances refine (KO14.out _).mono ?_); rintro e w1 ⟨rfl, hb⟩; have hb1 := hb1.trans (hb.mono hb1.size); clear hb; unfold abVal) | (go_at_call 40; (with_reducible_and_instances refine (KO15.out _).mono ?_); rintro e w1 ⟨rfl, hb⟩; have hb1 := hb1.trans (hb.mono hb1.size); clear hb; unfold abVal) | (go_at_call 17; (with_reducible_and_instances refine (KJ1.out _).mono ?_); rintro e w1 ⟨rfl, hb⟩; have hb1 := hb1.trans (hb.mono hb1.size); clear hb; unfold abVal) | (go_at_call 17; (with_reducible_and_instances refine (KJ2.out _).mono ?_); rintro e w1 ⟨rfl, hb⟩; have hb1 := hb1.trans (hb.mono hb1.size); clear hb; unfold abVal) | (go_at_call 14; (with_reducible_and_instances refine (KA1.out _).mono ?_); rintro e w1 ⟨rfl, hb⟩; have hb1 := hb1.trans (hb.mono hb1.size); clear hb; unfold abVal) | (go_at_call 14; (with_reducible_and_instances refine (KA2.out _).mono ?_); rintro e w1 ⟨rfl, hb⟩; have hb1 := hb1.trans (hb.mono hb1.size); clear hb; unfold abVal) | (go_at_call 14; (with_reducible_and_instances refine (KR1.out _).mono ?_); rintro e w1 ⟨rfl, hb⟩; have hb1 := hb1.trans (hb.mono hb1.size); clear hb; unfold abVal) | (go_at_call 14; (with_reducible_and_instances refine (KR2.out _).mono ?_); rintro e w1 ⟨rfl, hb⟩; have hb1 := hb1.trans (hb.mono hb1.size); clear hb; unfold abVal) | (go_at_call 32; (with_reducible_and_instances refine (KV.out _).mono ?_); rintro e w1 ⟨rfl, hb⟩; have hb1 := hb1.trans (hb.mono hb1.size); clear hb; unfold abVal) | (go_at_call 15; (with_reducible_and_instances refine (KT.out _).mono ?_); rintro e w1 ⟨rfl, hb⟩; have hb1 := hb1.trans (hb.mono hb1.size); clear hb) | (go_at_call 13; (with_reducible_and_instances refine (KH1.out _).mono ?_); rintro e w1 ⟨rfl, hb⟩; have hb1 := hb1.trans (hb.mono hb1.size); clear hb) | (go_at_call 13; (with_reducible_and_instances refine (KH2.out _).mono ?_); rintro e w1 ⟨rfl, hb⟩; have hb1 := hb1.trans (hb.mono hb1.size); clear hb) | (go_at_call 15; (with_reducible_and_instances refine (KZ.out _).mono ?_); rintro e w1 ⟨rfl, hb⟩; have hb1 := hb1.trans (hb.mono hb1.size); clear hb))
  go_ret
  exact ⟨rfl, hb1⟩

end Go.Proofs.Ytlokjiniigfaiaa
